/- Lemmas for the proof of a given statement; no conditions. -/
import Derived.Test.YticplnaplklpnaaM4
set_option maxHeartbeats 1000000

namespace Go.AS.C
open Go Go.Proofs
set_option linter.unusedVariables false
set_option linter.unusedSimpArgs false
set_option maxRecDepth 10000

/-! How counts and words compare; whether a list rises. -/
/-- fv, called with two things, tells how they compare. -/
def CmpA {α : Type} (fv : Value) (enc : α → List Value) (lt eq : α → α → Prop) : Prop :=
  ∀ (A : AH) (x y : α) (Q : Value → AH → Prop), (∀ A' n, Le A A' → (n < 0 ↔ lt x y) → (n = 0 ↔ eq x y) → -2 < n → n < 2 → Q (ii n) A') → callD fv 0 Try.prog [.agg (enc x).toArray, .agg (enc y).toArray] Q A
def ltC (a b : CountV) : Prop := bl a.name < bl b.name
def eqCn (a b : CountV) : Prop := a.name = b.name
def ltN (a b : WordV) : Prop := bl a.name < bl b.name
def eqN (a b : WordV) : Prop := a.name = b.name
def ltWd (a b : WordV) : Prop := bl a.name < bl b.name ∨ (a.name = b.name ∧ bl a.text < bl b.text)
abbrev fvC : Value := .func (.func diff_byCount) #[] #[]
abbrev fvN : Value := .func (.func diff_byName) #[] #[]
abbrev fvW : Value := .func (.func diff_byWord) #[] #[]
theorem cmp3_spec {A : AH} {a b : ByteArray} {Q : Value → AH → Prop} (hq : ∀ n, (n < 0 ↔ bl a < bl b) → (n = 0 ↔ a = b) → (0 < n ↔ bl b < bl a) → -2 < n → n < 2 → Q (ii n) A) : ACalls 0 Try.prog cmp_Compare_string [.string a, .string b] Q A := by
  refine ACalls.of_fits mixed fits_cmp_Compare_string rfl ?_
  unfold ic_cmp_Compare_string
  have i0 : initA [.string a, .string b] 0 = .string a := rfl
  have i1 : initA [.string a, .string b] 1 = .string b := rfl
  generalize initA [.string a, .string b] = r at i0 i1
  simp (maxSteps := 1000000) (disch := omega) only [stepS, reduceIte, Nat.reduceBEq, Nat.reduceEqDiff, tupleOf, stepT, i0, i1]
  refine cmp_isNaN_spec ?_
  simp (maxSteps := 1000000) (disch := omega) only [stepS, reduceIte, Nat.reduceBEq, Nat.reduceEqDiff, tupleOf, stepT, i0, i1]
  refine cmp_isNaN_spec ?_
  by_cases h1 : bl a < bl b
  · have d1 : decide (bl a < bl b) = true := decide_eq_true h1
    simp (maxSteps := 1000000) (disch := omega) only [stepS, reduceIte, Nat.reduceBEq, Nat.reduceEqDiff, tupleOf, stepT, i0, i1, ltS, d1]
    exact hq (-1) ⟨fun _ => h1, (fun _ => by decide)⟩ ⟨(fun h => by cases h), fun h => by subst h; exact absurd h1 (kl_irr _)⟩ ⟨fun h => absurd h (by decide), fun h => absurd h (kl_asym h1)⟩ (by decide) (by decide)
  · have d1 : decide (bl a < bl b) = false := decide_eq_false h1
    by_cases h2 : bl b < bl a
    · have d2 : decide (bl b < bl a) = true := decide_eq_true h2
      simp (maxSteps := 1000000) (disch := omega) only [stepS, reduceIte, Nat.reduceBEq, Nat.reduceEqDiff, tupleOf, stepT, i0, i1, ltS, gtS, d1, d2]
      exact hq 1 ⟨fun h => absurd h (by decide), fun h => absurd h h1⟩ ⟨(fun h => by cases h), fun h => by subst h; exact absurd h2 (kl_irr _)⟩ ⟨fun _ => h2, fun _ => by decide⟩ (by decide) (by decide)
    · have d2 : decide (bl b < bl a) = false := decide_eq_false h2
      have he : a = b := by
        rcases kl_tri (bl a) (bl b) with h | h | h
        · exact absurd h h1
        · exact bl_inj.1 h
        · exact absurd h h2
      simp (maxSteps := 1000000) (disch := omega) only [stepS, reduceIte, Nat.reduceBEq, Nat.reduceEqDiff, tupleOf, stepT, i0, i1, ltS, gtS, d1, d2]
      exact hq 0 ⟨fun h => absurd h (by decide), fun h => absurd h h1⟩ ⟨fun _ => he, fun _ => rfl⟩ ⟨fun h => absurd h (by decide), fun h => absurd h h2⟩ (by decide) (by decide)
theorem diff_byName_spec {A : AH} {a b : WordV} {Q : Value → AH → Prop} (hq : ∀ A' n, Le A A' → (n < 0 ↔ ltN a b) → (n = 0 ↔ eqN a b) → -2 < n → n < 2 → Q (ii n) A') : ACalls 0 Try.prog diff_byName [.agg (wordE a).toArray, .agg (wordE b).toArray] Q A := by
  refine ACalls.of_fits mixed fits_diff_byName rfl ?_
  unfold ic_diff_byName wordE
  have i0 : initA [.agg [.string a.name, .string a.text].toArray, .agg [.string b.name, .string b.text].toArray] 0 = .agg [.string a.name, .string a.text].toArray := rfl
  have i1 : initA [.agg [.string a.name, .string a.text].toArray, .agg [.string b.name, .string b.text].toArray] 1 = .agg [.string b.name, .string b.text].toArray := rfl
  generalize initA [.agg [.string a.name, .string a.text].toArray, .agg [.string b.name, .string b.text].toArray] = r at i0 i1
  have k0 : Le A (A ++ [.row [.string a.name, .string a.text] .own 0 true] ++ [.row [.string b.name, .string b.text] .own 0 true]) := (Le.push _ _).trans (.push _ _)
  simp (maxSteps := 1000000) (disch := omega) only [stepS, reduceIte, Nat.reduceBEq, Nat.reduceEqDiff, tupleOf, stepT, stepX, heapR, lensR, Nat.reduceAdd, Nat.reduceLeDiff, i0, i1]
  refine cmp3_spec fun n h1 h2 h3 h4 h5 => ?_
  simp (maxSteps := 1000000) (disch := omega) only [stepS, reduceIte, Nat.reduceBEq, Nat.reduceEqDiff, tupleOf, stepT, stepX, heapR, lensR, Nat.reduceAdd, Nat.reduceLeDiff]
  exact hq _ n k0 h1 h2 h4 h5
theorem cmpN : CmpA fvN wordE ltN eqN := by
  intro A x y Q hq
  rw [callD_func]
  refine ⟨by decide +kernel, ?_⟩
  exact diff_byName_spec hq
theorem cmpC : CmpA fvC countE ltC eqCn := by
  intro A a b Q hq
  rw [callD_func]
  refine ⟨by decide +kernel, ?_⟩
  simp only [List.nil_append, List.append_nil]
  refine ACalls.of_fits mixed fits_diff_byCount rfl ?_
  unfold ic_diff_byCount countE
  have i0 : initA [.agg [.string a.name, ii a.n].toArray, .agg [.string b.name, ii b.n].toArray] 0 = .agg [.string a.name, ii a.n].toArray := rfl
  have i1 : initA [.agg [.string a.name, ii a.n].toArray, .agg [.string b.name, ii b.n].toArray] 1 = .agg [.string b.name, ii b.n].toArray := rfl
  generalize initA [.agg [.string a.name, ii a.n].toArray, .agg [.string b.name, ii b.n].toArray] = r at i0 i1
  have k0 : Le A (A ++ [.row [.string a.name, ii a.n] .own 0 true] ++ [.row [.string b.name, ii b.n] .own 0 true]) := (Le.push _ _).trans (.push _ _)
  simp (maxSteps := 1000000) (disch := omega) only [stepS, reduceIte, Nat.reduceBEq, Nat.reduceEqDiff, tupleOf, stepT, stepX, heapR, lensR, Nat.reduceAdd, Nat.reduceLeDiff, i0, i1]
  refine cmp3_spec fun n h1 h2 h3 h4 h5 => ?_
  simp (maxSteps := 1000000) (disch := omega) only [stepS, reduceIte, Nat.reduceBEq, Nat.reduceEqDiff, tupleOf, stepT, stepX, heapR, lensR, Nat.reduceAdd, Nat.reduceLeDiff]
  exact hq _ n k0 h1 h2 h4 h5
/-- cmp.Or of two numbers. -/
theorem cmp_Or_spec {A : AH} {v : Value} {m n : Int} {Q : Value → AH → Prop} (h : SlI A .i64 v [m, n]) (hq : Q (ii (if m = 0 then n else m)) A) : ACalls 0 Try.prog cmp_Or_int [v] Q A := by
  refine ACalls.of_fits mixed fits_cmp_Or_int rfl ?_
  unfold ic_cmp_Or_int
  have i0 : initA [v] 0 = v := rfl
  generalize initA [v] = a at i0
  have hvl : ∀ B, sLens B false v = some (ii 2, B) := Sl.lenB h
  obtain ⟨p, p1, p2⟩ := Sl.at1L (A := A) h (j := 0) (x := .int .i64 m) rfl
  have p3 := p2 A (.refl _)
  obtain ⟨q, q1, q2⟩ := Sl.at1L (A := A) h (j := 1) (x := .int .i64 n) rfl
  have q3 := q2 A (.refl _)
  simp (maxSteps := 1000000) (disch := omega) only [stepS, reduceIte, Nat.reduceBEq, Nat.reduceEqDiff, tupleOf, stepT, i0, hvl]
  refine W_loop (fun a' B => B = A ∧ ∃ k : Nat, k ≤ 2 ∧ (0 < k → m = 0) ∧ (1 < k → n = 0) ∧ a' 3 = ii 0 ∧ a' 6 = v ∧ a' 7 = ii 2 ∧ a' 8 = ii k) (fun a' _ => 2 - (iv (a' 8)).toNat) ?_ ?_
  · refine ⟨rfl, 0, by omega, by omega, by omega, ?_⟩
    simp (maxSteps := 1000000) (disch := omega) only [stepS, reduceIte, Nat.reduceBEq, Nat.reduceEqDiff, tupleOf, stepT, i0]
    (all_goals (and_intros <;> first | rfl | assumption | (push_cast; rfl) | (congr 1; omega) | omega | (simp; done)))
  · rintro a2 B ⟨rfl, k, hk, hk1, hk2, g3, g6, g7, g8⟩
    match k, hk with
    | 0, _ =>
      by_cases hm : m = 0
      · simp (maxSteps := 1000000) (disch := omega) only [stepS, reduceIte, Nat.reduceBEq, Nat.reduceEqDiff, tupleOf, stepT, g3, g6, g7, g8, p1, p3]
        exact ⟨⟨1, by omega, fun _ => hm, by omega, rfl⟩, by omega⟩
      · rw [if_neg hm] at hq
        simp (maxSteps := 1000000) (disch := omega) only [stepS, reduceIte, Nat.reduceBEq, Nat.reduceEqDiff, tupleOf, stepT, g3, g6, g7, g8, p1, p3]
        exact hq
    | 1, _ =>
      rw [if_pos (hk1 (by omega))] at hq
      by_cases hn : n = 0
      · simp (maxSteps := 1000000) (disch := omega) only [stepS, reduceIte, Nat.reduceBEq, Nat.reduceEqDiff, tupleOf, stepT, g3, g6, g7, g8, q1, q3]
        exact ⟨⟨2, by omega, fun _ => hk1 (by omega), fun _ => hn, rfl⟩, by omega⟩
      · simp (maxSteps := 1000000) (disch := omega) only [stepS, reduceIte, Nat.reduceBEq, Nat.reduceEqDiff, tupleOf, stepT, g3, g6, g7, g8, q1, q3]
        exact hq
    | 2, _ =>
      rw [if_pos (hk1 (by omega)), hk2 (by omega)] at hq
      simp (maxSteps := 1000000) (disch := omega) only [stepS, reduceIte, Nat.reduceBEq, Nat.reduceEqDiff, tupleOf, stepT, g3, g6, g7, g8]
      exact hq
theorem ltW_ends {a b : WordV} : (if (a.name = b.name) then bl a.text < bl b.text else bl a.name < bl b.name) ↔ ltWd a b := by
  unfold ltWd
  by_cases h : a.name = b.name
  · rw [if_pos h]
    constructor
    · exact fun k => .inr ⟨h, k⟩
    · rintro (k | k)
      · rw [h] at k; exact absurd k (kl_irr _)
      · exact k.2
  · rw [if_neg h]
    constructor
    · exact .inl
    · rintro (k | k)
      · exact k
      · exact absurd k.1 h
theorem cmpW : CmpA fvW wordE ltWd (fun a b => a = b) := by
  intro A a b Q hq
  rw [callD_func]
  refine ⟨by decide +kernel, ?_⟩
  simp only [List.nil_append, List.append_nil]
  refine ACalls.of_fits mixed fits_diff_byWord rfl ?_
  unfold ic_diff_byWord
  have i0 : initA [.agg (wordE a).toArray, .agg (wordE b).toArray] 0 = .agg [.string a.name, .string a.text].toArray := rfl
  have i1 : initA [.agg (wordE a).toArray, .agg (wordE b).toArray] 1 = .agg [.string b.name, .string b.text].toArray := rfl
  generalize initA [.agg (wordE a).toArray, .agg (wordE b).toArray] = r at i0 i1
  have k0 : Le A (A ++ [.row [.string a.name, .string a.text] .own 0 true] ++ [.row [.string b.name, .string b.text] .own 0 true]) := (Le.push _ _).trans (.push _ _)
  have r1 : rowAt (A ++ [.row [.string a.name, .string a.text] .own 0 true] ++ [.row [.string b.name, .string b.text] .own 0 true]) A.length = some ([.string a.name, .string a.text], .own, 0, true) := (Le.push _ _).row (rowAt_own (get_last _ _))
  have r2 : rowAt (A ++ [.row [.string a.name, .string a.text] .own 0 true] ++ [.row [.string b.name, .string b.text] .own 0 true]) (A.length + 1) = some ([.string b.name, .string b.text], .own, 0, true) := by
    have := rowAt_own (get_last (A ++ [Blk.row [.string a.name, .string a.text] .own 0 true]) (.row [.string b.name, .string b.text] .own 0 true))
    simpa using this
  have hbl : (A ++ [Blk.row [.string a.name, .string a.text] .own 0 true] ++ [Blk.row [.string b.name, .string b.text] .own 0 true]).length = A.length + 2 := by simp
  refine W_mid (fun r B => B = A ++ [.row [.string a.name, .string a.text] .own 0 true] ++ [.row [.string b.name, .string b.text] .own 0 true] ∧ r 2 = ptr A.length ∧ r 3 = ptr (A.length + 1)) ?_ ?_
  · simp (maxSteps := 1000000) (disch := omega) only [stepS, reduceIte, Nat.reduceBEq, Nat.reduceEqDiff, tupleOf, stepT, stepX, heapR, lensR, Nat.reduceAdd, Nat.reduceLeDiff, i0, i1]
  clear i0 i1
  rintro r B ⟨hB, g2, g3⟩
  rw [← hB] at k0 r1 r2 hbl
  clear hB
  simp (maxSteps := 1000000) (disch := omega) only [stepS, reduceIte, Nat.reduceBEq, Nat.reduceEqDiff, tupleOf, stepT, stepX, heapR, lensR, Nat.reduceAdd, Nat.reduceLeDiff, g2, g3, r1, r2]
  refine diff_byName_spec (a := a) (b := b) fun A' m k1 m1 m2 m3 m4 => ?_
  simp (maxSteps := 1000000) (disch := omega) only [stepS, reduceIte, Nat.reduceBEq, Nat.reduceEqDiff, tupleOf, stepT, stepX, heapR, lensR, Nat.reduceAdd, Nat.reduceLeDiff, g2, g3, k1.rd]
  refine cmp3_spec fun n n1 n2 n3 n4 n5 => ?_
  have l2 : sLit A' [.int .i64 0] 1 2 [(0, 1, ii m), (1, 1, ii n)] = some (.slice (some ⟨A'.length, 0, none⟩) 2 2, A' ++ [.row [ii m, ii n] .own 1 true]) := lit1 [ii m, ii n] rfl rfl (fun z hz => by
    simp only [List.mem_cons, List.not_mem_nil, or_false] at hz
    rcases hz with rfl | rfl <;> exact ⟨rfl, rfl⟩)
  have s2 : SlI (A' ++ [.row [ii m, ii n] .own 1 true]) .i64 (.slice (some ⟨A'.length, 0, none⟩) 2 2) [m, n] := sl_last A' (by decide) (Nat.le_refl _)
  have k2 : Le A' (A' ++ [.row [ii m, ii n] .own 1 true]) := .push _ _
  simp (maxSteps := 1000000) (disch := omega) only [stepS, reduceIte, Nat.reduceBEq, Nat.reduceEqDiff, tupleOf, stepT, stepX, heapR, lensR, Nat.reduceAdd, Nat.reduceLeDiff, g2, g3, l2]
  refine cmp_Or_spec s2 ?_
  simp (maxSteps := 1000000) (disch := omega) only [stepS, reduceIte, Nat.reduceBEq, Nat.reduceEqDiff, tupleOf, stepT, stepX, heapR, lensR, Nat.reduceAdd, Nat.reduceLeDiff]
  refine hq _ _ ((k0.trans k1).trans k2) ?_ ?_ ?_ ?_
  · rw [← ltW_ends]
    by_cases h : a.name = b.name
    · rw [if_pos h, if_pos (m2.2 h)]
      exact n1
    · rw [if_neg h, if_neg (fun e => h (m2.1 e))]
      exact m1
  · by_cases h : a.name = b.name
    · rw [if_pos (m2.2 h), n2]
      constructor
      · intro e; cases a; cases b; simp only at h e; rw [h, e]
      · rintro rfl; rfl
    · rw [if_neg (fun e => h (m2.1 e))]
      constructor
      · intro e; exact absurd (m2.1 e) h
      · rintro rfl; exact absurd rfl h
  · split <;> omega
  · split <;> omega
end Go.AS.C


namespace Go.AS.C
open Go Go.Proofs
set_option linter.unusedVariables false
set_option linter.unusedSimpArgs false
set_option maxRecDepth 10000

/-! Whether a state is tidy. -/
def Adj {α : Type} (lt : α → α → Prop) (l : List α) : Prop := ∀ (i : Nat) x y, l[i]? = some x → l[i + 1]? = some y → lt x y
def TidyS (s : StateV) : Prop := Adj ltC s.counts ∧ Adj ltWd s.members ∧ Adj ltWd s.values ∧ Adj ltN s.lines
theorem enc_at {α : Type} {A : AH} {v : Value} {enc : α → List Value} {l : List α} (he : ∀ x, (enc x).length = 2 ∧ ones (enc x) = true) (h : Sl A 2 v (l.map enc).length (l.map enc).flatten) {j : Nat} {x : α} (hj : l[j]? = some x) :
    ∃ p, (∀ (B : AH) (n : Int), n = (j : Int) → sIaddr B v (.int .i64 n) 2 = some (p, B)) ∧ ∀ B, Le A B → sLoadn B p 2 = some (.agg (enc x).toArray, B) := by
  obtain ⟨p, _, p1, _, p3⟩ := Sl.el h (fun e h => by rw [List.mem_map] at h; obtain ⟨y, _, rfl⟩ := h; exact he y) (j := j) (e := enc x) (by rw [List.getElem?_map, hj]; rfl)
  exact ⟨p, p1, fun B hB => p3 B (fun k b hb _ => hB.get hb)⟩
theorem rises_spec {α : Type} {f : FuncId} {fv v : Value} {enc : α → List Value} {lt eq : α → α → Prop} {A : AH} {l : List α} {Q : Value → AH → Prop} (hf : Fits Try.prog 0 f ic_api_Count_30 [.tmp 4] 2) (he : ∀ x, (enc x).length = 2 ∧ ones (enc x) = true) (hc : CmpA fv enc lt eq) (hv : Sl A 2 v (l.map enc).length (l.map enc).flatten) (hl : l.length < 2 ^ 50)
    (hq : ∀ b : Bool, (b = true ↔ Adj lt l) → Q (.bool b) A) : ACalls 0 Try.prog f [v, fv] Q A := by
  refine ACalls.pure (S := fun v => ∃ b : Bool, v = .bool b ∧ (b = true ↔ Adj lt l)) (fun v ⟨b, e, h⟩ => by rw [e]; exact hq b h) ?_
  refine ACalls.of_fits mixed hf rfl ?_
  unfold ic_api_Count_30
  have i0 : initA [v, fv] 0 = v := rfl
  have i1 : initA [v, fv] 1 = fv := rfl
  generalize initA [v, fv] = a at i0 i1
  have hvl : ∀ B, sLens B false v = some (ii l.length, B) := fun B => by have := Sl.lenB hv B; rwa [List.length_map] at this
  simp (maxSteps := 1000000) (disch := omega) only [stepS, reduceIte, Nat.reduceBEq, Nat.reduceEqDiff, tupleOf, stepT, i0, i1]
  refine W_loop (fun a' B => ∃ k : Nat, 1 ≤ k ∧ (k ≤ l.length ∨ k = 1) ∧ Le A B ∧ a' 0 = v ∧ a' 1 = fv ∧ a' 5 = ii k ∧ ∀ (i : Nat) x y, i + 1 < k → l[i]? = some x → l[i + 1]? = some y → lt x y) (fun a' _ => l.length - (iv (a' 5)).toNat) ?_ ?_
  · refine ⟨1, Nat.le_refl _, .inr rfl, .refl _, ?_⟩
    simp (maxSteps := 1000000) (disch := omega) only [stepS, reduceIte, Nat.reduceBEq, Nat.reduceEqDiff, tupleOf, stepT, i0, i1]
    refine ⟨rfl, fun i x y h => by omega⟩
  · rintro a2 B ⟨k, hk1, hk2, hle, g0, g1, g5, hs⟩
    rcases Nat.lt_or_ge k l.length with hlt | hge
    · obtain ⟨x, hx⟩ := get_some (l := l) (k := k - 1) (by omega)
      obtain ⟨y, hy⟩ := get_some hlt
      obtain ⟨p, p1, p2⟩ := enc_at he hv hx
      obtain ⟨q, q1, q2⟩ := enc_at he hv hy
      have p3 := p2 B hle
      have q3 := q2 B hle
      have e1 : (k : Int) - 1 = ((k - 1 : Nat) : Int) := by omega
      simp (maxSteps := 1000000) (disch := omega) only [stepS, reduceIte, Nat.reduceBEq, Nat.reduceEqDiff, tupleOf, stepT, g0, g1, g5, hvl, e1, p1, p3, q1, q3]
      refine hc B x y _ fun A' n k3 n1 n2 n3 n4 => ?_
      by_cases hn : n < 0
      · simp (maxSteps := 1000000) (disch := omega) only [stepS, reduceIte, Nat.reduceBEq, Nat.reduceEqDiff, tupleOf, stepT, g0, g1, g5]
        refine ⟨⟨k + 1, by omega, by omega, hle.trans k3, rfl, fun i x' y' hi hx' hy' => ?_⟩, by omega⟩
        rcases Nat.lt_or_ge (i + 1) k with h | h
        · exact hs i x' y' h hx' hy'
        · have : i = k - 1 := by omega
          subst this
          rw [show k - 1 + 1 = k by omega] at hy'
          rw [hx] at hx'
          rw [hy] at hy'
          obtain rfl := Option.some.inj hx'
          obtain rfl := Option.some.inj hy'
          exact n1.1 hn
      · simp (maxSteps := 1000000) (disch := omega) only [stepS, reduceIte, Nat.reduceBEq, Nat.reduceEqDiff, tupleOf, stepT, g0, g1, g5]
        refine ⟨hle.trans k3, rfl, false, rfl, (fun h => by cases h), fun h => ?_⟩
        exact absurd (n1.2 (h (k - 1) x y hx (by rw [show k - 1 + 1 = k by omega]; exact hy))) hn
    · simp (maxSteps := 1000000) (disch := omega) only [stepS, reduceIte, Nat.reduceBEq, Nat.reduceEqDiff, tupleOf, stepT, g0, g1, g5, hvl]
      refine ⟨hle, rfl, true, rfl, fun _ i x y hx hy => hs i x y (by have := lt_of_get hy; omega) hx hy, fun _ => rfl⟩
theorem countE_enc (x : CountV) : (countE x).length = 2 ∧ ones (countE x) = true := ⟨rfl, rfl⟩
theorem wordE_enc (x : WordV) : (wordE x).length = 2 ∧ ones (wordE x) = true := ⟨rfl, rfl⟩
theorem finS_len {s : StateV} (h : FinS s) : s.counts.length < 2 ^ 50 ∧ s.members.length < 2 ^ 50 ∧ s.values.length < 2 ^ 50 ∧ s.lines.length < 2 ^ 50 := by
  obtain ⟨⟨h1, _⟩, ⟨h2, _⟩, ⟨h3, _⟩, ⟨h4, _⟩⟩ := h
  exact ⟨by omega, by omega, by omega, by omega⟩
theorem diff_Tidy_spec {A : AH} {x : Value} {s : StateV} {Q : Value → AH → Prop} (hx : StateA A x s) (hs : FinS s) (hq : ∀ b : Bool, (b = true ↔ TidyS s) → Q (.bool b) A) : ACalls 0 Try.prog diff_Tidy [x] Q A := by
  refine ACalls.pure (S := fun v => ∃ b : Bool, v = .bool b ∧ (b = true ↔ TidyS s)) (fun v ⟨b, e, h⟩ => by rw [e]; exact hq b h) ?_
  obtain ⟨c, m, v, l, rfl, hc, hm, hv, hl⟩ := hx
  obtain ⟨n1, n2, n3, n4⟩ := finS_len hs
  refine ACalls.of_fits mixed fits_diff_Tidy rfl ?_
  unfold ic_diff_Tidy
  have i0 : initA [.agg #[c, m, v, l]] 0 = .agg #[c, m, v, l] := rfl
  generalize initA [.agg #[c, m, v, l]] = a at i0
  have oc := (Sl.one1 hc).2
  have om := (Sl.one1 hm).2
  have ov := (Sl.one1 hv).2
  have ol := (Sl.one1 hl).2
  refine W_mid (fun a B => B = A ++ [.row [c, m, v, l] .own 0 true] ∧ a 1 = ptr A.length) ?_ ?_
  · simp (maxSteps := 1000000) (disch := omega) only [stepS, reduceIte, Nat.reduceBEq, Nat.reduceEqDiff, tupleOf, stepT, stepX, heapR, lensR, Nat.reduceAdd, Nat.reduceLeDiff, i0, oc, om, ov, ol]
  rintro a B0 ⟨hB, g1⟩
  have k0 : Le A B0 := by rw [hB]; exact .push _ _
  have r1 : rowAt B0 A.length = some ([c, m, v, l], .own, 0, true) := by rw [hB]; exact rowAt_own (get_last _ _)
  clear i0 hB
  have no : ∀ {p : Prop}, (TidyS s → p) → ¬ p → ∃ b : Bool, Value.bool false = .bool b ∧ (b = true ↔ TidyS s) := fun h k => ⟨false, rfl, (fun h => by cases h), fun t => absurd (h t) k⟩
  have nf : ∀ {p : Prop}, (false = true ↔ p) → ¬ p := fun h k => by have := h.2 k; cases this
  simp (maxSteps := 1000000) (disch := omega) only [stepS, reduceIte, Nat.reduceBEq, Nat.reduceEqDiff, tupleOf, stepT, stepX, heapR, lensR, Nat.reduceAdd, Nat.reduceLeDiff, g1, r1]
  refine rises_spec fits_api_Count_30 countE_enc cmpC (hc.le k0) n1 fun b1 h1 => ?_
  cases b1 with
  | false =>
    simp (maxSteps := 1000000) (disch := omega) only [stepS, reduceIte, Nat.reduceBEq, Nat.reduceEqDiff, tupleOf, stepT, stepX, heapR, lensR, Nat.reduceAdd, Nat.reduceLeDiff, g1, r1]
    exact ⟨k0, rfl, no (fun t => t.1) (nf h1)⟩
  | true =>
  simp (maxSteps := 1000000) (disch := omega) only [stepS, reduceIte, Nat.reduceBEq, Nat.reduceEqDiff, tupleOf, stepT, stepX, heapR, lensR, Nat.reduceAdd, Nat.reduceLeDiff, g1, r1]
  refine rises_spec fits_api_Word_31 wordE_enc cmpW (hm.le k0) n2 fun b2 h2 => ?_
  cases b2 with
  | false =>
    simp (maxSteps := 1000000) (disch := omega) only [stepS, reduceIte, Nat.reduceBEq, Nat.reduceEqDiff, tupleOf, stepT, stepX, heapR, lensR, Nat.reduceAdd, Nat.reduceLeDiff, g1, r1]
    exact ⟨k0, rfl, no (fun t => t.2.1) (nf h2)⟩
  | true =>
  simp (maxSteps := 1000000) (disch := omega) only [stepS, reduceIte, Nat.reduceBEq, Nat.reduceEqDiff, tupleOf, stepT, stepX, heapR, lensR, Nat.reduceAdd, Nat.reduceLeDiff, g1, r1]
  refine rises_spec fits_api_Word_31 wordE_enc cmpW (hv.le k0) n3 fun b3 h3 => ?_
  cases b3 with
  | false =>
    simp (maxSteps := 1000000) (disch := omega) only [stepS, reduceIte, Nat.reduceBEq, Nat.reduceEqDiff, tupleOf, stepT, stepX, heapR, lensR, Nat.reduceAdd, Nat.reduceLeDiff, g1, r1]
    exact ⟨k0, rfl, no (fun t => t.2.2.1) (nf h3)⟩
  | true =>
  simp (maxSteps := 1000000) (disch := omega) only [stepS, reduceIte, Nat.reduceBEq, Nat.reduceEqDiff, tupleOf, stepT, stepX, heapR, lensR, Nat.reduceAdd, Nat.reduceLeDiff, g1, r1]
  refine rises_spec fits_api_Word_31 wordE_enc cmpN (hl.le k0) n4 fun b4 h4 => ?_
  cases b4 with
  | false =>
    simp (maxSteps := 1000000) (disch := omega) only [stepS, reduceIte, Nat.reduceBEq, Nat.reduceEqDiff, tupleOf, stepT, stepX, heapR, lensR, Nat.reduceAdd, Nat.reduceLeDiff, g1, r1]
    exact ⟨k0, rfl, no (fun t => t.2.2.2) (nf h4)⟩
  | true =>
    simp (maxSteps := 1000000) (disch := omega) only [stepS, reduceIte, Nat.reduceBEq, Nat.reduceEqDiff, tupleOf, stepT, stepX, heapR, lensR, Nat.reduceAdd, Nat.reduceLeDiff, g1, r1]
    exact ⟨k0, rfl, true, rfl, fun _ => ⟨h1.1 rfl, h2.1 rfl, h3.1 rfl, h4.1 rfl⟩, fun _ => rfl⟩
theorem ref41_less_spec {A : AH} {a b : WordV} {Q : Value → AH → Prop} (hq : ∀ c : Bool, (c = true ↔ ltWd a b) → Q (.bool c) A) : ACalls 0 Try.prog chantryref41_less [.agg (wordE a).toArray, .agg (wordE b).toArray] Q A := by
  refine ACalls.pure (S := fun v => ∃ c : Bool, v = .bool c ∧ (c = true ↔ ltWd a b)) (fun v ⟨b, e, h⟩ => by rw [e]; exact hq b h) ?_
  refine ACalls.of_fits mixed fits_chantryref41_less rfl ?_
  unfold ic_chantryref41_less
  have i0 : initA [.agg (wordE a).toArray, .agg (wordE b).toArray] 0 = .agg [.string a.name, .string a.text].toArray := rfl
  have i1 : initA [.agg (wordE a).toArray, .agg (wordE b).toArray] 1 = .agg [.string b.name, .string b.text].toArray := rfl
  generalize initA [.agg (wordE a).toArray, .agg (wordE b).toArray] = r at i0 i1
  have k0 : Le A (A ++ [.row [.string a.name, .string a.text] .own 0 true] ++ [.row [.string b.name, .string b.text] .own 0 true]) := (Le.push _ _).trans (.push _ _)
  by_cases h1 : bl a.name < bl b.name
  · have d1 : decide (bl a.name < bl b.name) = true := decide_eq_true h1
    simp (maxSteps := 1000000) (disch := omega) only [stepS, reduceIte, Nat.reduceBEq, Nat.reduceEqDiff, tupleOf, stepT, stepX, heapR, lensR, Nat.reduceAdd, Nat.reduceLeDiff, i0, i1, ltS, d1]
    exact ⟨k0, rfl, true, rfl, fun _ => .inl h1, fun _ => rfl⟩
  · have d1 : decide (bl a.name < bl b.name) = false := decide_eq_false h1
    by_cases h2 : a.name = b.name
    · have d2 : decide (a.name = b.name) = true := decide_eq_true h2
      simp (maxSteps := 1000000) (disch := omega) only [stepS, reduceIte, Nat.reduceBEq, Nat.reduceEqDiff, tupleOf, stepT, stepX, heapR, lensR, Nat.reduceAdd, Nat.reduceLeDiff, i0, i1, ltS, d1, d2]
      refine ⟨k0, rfl, _, rfl, ?_⟩
      rw [decide_eq_true_iff]
      exact ⟨fun h => .inr ⟨h2, h⟩, fun h => h.resolve_left h1 |>.2⟩
    · have d2 : decide (a.name = b.name) = false := decide_eq_false h2
      simp (maxSteps := 1000000) (disch := omega) only [stepS, reduceIte, Nat.reduceBEq, Nat.reduceEqDiff, tupleOf, stepT, stepX, heapR, lensR, Nat.reduceAdd, Nat.reduceLeDiff, i0, i1, ltS, d1, d2]
      exact ⟨k0, rfl, false, rfl, (fun h => by cases h), fun h => absurd (h.resolve_left h1).1 h2⟩
theorem ltN_of {a b : WordV} : ltN a b ↔ ltWd a b ∧ a.name ≠ b.name := by
  unfold ltN ltWd
  constructor
  · intro h
    exact ⟨.inl h, fun e => by rw [e] at h; exact kl_irr _ h⟩
  · rintro ⟨h | h, hn⟩
    · exact h
    · exact absurd h.1 hn
end Go.AS.C


namespace Go.AS.C
open Go Go.Proofs
set_option linter.unusedVariables false
set_option linter.unusedSimpArgs false
set_option maxRecDepth 10000

theorem words_at {A : AH} {v : Value} {l : List WordV} (h : WordsA A v l) {j : Nat} {w : WordV} (hj : l[j]? = some w) : ∃ p, ∃ q : Value × Value, (∀ (B : AH) (n : Int), n = (j : Int) → sIaddr B v (.int .i64 n) 2 = some (p, B)) ∧ (∀ B, Le A B → sLoadn B p 2 = some (.agg (wordE w).toArray, B)) ∧
    ((∀ B, sFaddr B p 0 = some (q.1, B)) ∧ ∀ B, Le A B → sLoad1 B q.1 = some (.string w.name, B)) ∧ ((∀ B, sFaddr B p 1 = some (q.2, B)) ∧ ∀ B, Le A B → sLoad1 B q.2 = some (.string w.text, B)) := by
  obtain ⟨p, p1, p2⟩ := SlR.elfs (Sl.r h) (wordE_ok l) (j := j) (e := wordE w) (by rw [List.getElem?_map, hj]; rfl) rfl
  obtain ⟨p', p1', p2'⟩ := enc_at wordE_enc h hj
  have e : p' = p := by
    have h1 := p1 A j rfl
    rw [p1' A j rfl] at h1
    injection h1 with h1
    injection h1 with h1 _
  subst e
  obtain ⟨q0, c0⟩ := p2 0 _ rfl
  obtain ⟨q1, c1⟩ := p2 1 _ rfl
  exact ⟨p', (q0, q1), p1, p2', c0, c1⟩
theorem counts_at {A : AH} {v : Value} {l : List CountV} (h : CountsA A v l) {j : Nat} {w : CountV} (hj : l[j]? = some w) : ∃ p, ∃ q : Value × Value, (∀ (B : AH) (n : Int), n = (j : Int) → sIaddr B v (.int .i64 n) 2 = some (p, B)) ∧ (∀ B, Le A B → sLoadn B p 2 = some (.agg (countE w).toArray, B)) ∧
    ((∀ B, sFaddr B p 0 = some (q.1, B)) ∧ ∀ B, Le A B → sLoad1 B q.1 = some (.string w.name, B)) ∧ ((∀ B, sFaddr B p 1 = some (q.2, B)) ∧ ∀ B, Le A B → sLoad1 B q.2 = some (ii w.n, B)) := by
  obtain ⟨p, p1, p2⟩ := SlR.elfs (Sl.r h) (countE_ok l) (j := j) (e := countE w) (by rw [List.getElem?_map, hj]; rfl) rfl
  obtain ⟨p', p1', p2'⟩ := enc_at countE_enc h hj
  have e : p' = p := by
    have h1 := p1 A j rfl
    rw [p1' A j rfl] at h1
    injection h1 with h1
    injection h1 with h1 _
  subst e
  obtain ⟨q0, c0⟩ := p2 0 _ rfl
  obtain ⟨q1, c1⟩ := p2 1 _ rfl
  exact ⟨p', (q0, q1), p1, p2', c0, c1⟩
theorem ref41_rising_spec {A : AH} {v : Value} {names : Bool} {l : List WordV} {Q : Value → AH → Prop} (hv : WordsA A v l) (hl : l.length < 2 ^ 50) (hq : ∀ b : Bool, (b = true ↔ Adj (fun a b => ltWd a b ∧ (names = true → a.name ≠ b.name)) l) → Q (.bool b) A) : ACalls 0 Try.prog chantryref41_rising [v, .bool names] Q A := by
  refine ACalls.of_fits mixed fits_chantryref41_rising rfl ?_
  unfold ic_chantryref41_rising
  have i0 : initA [v, .bool names] 0 = v := rfl
  have i1 : initA [v, .bool names] 1 = .bool names := rfl
  generalize initA [v, .bool names] = a at i0 i1
  have hvl := hv.len
  obtain ⟨Pk, hPk⟩ : ∃ P : Nat → Prop, P = fun k => ∀ (i : Nat) x y, i + 1 < k → l[i]? = some x → l[i + 1]? = some y → ltWd x y ∧ (names = true → x.name ≠ y.name) := ⟨_, rfl⟩
  simp (maxSteps := 1000000) (disch := omega) only [stepS, reduceIte, Nat.reduceBEq, Nat.reduceEqDiff, tupleOf, stepT, i0, i1]
  refine W_loop (fun a' B => ∃ k : Nat, 1 ≤ k ∧ (k ≤ l.length ∨ k = 1) ∧ B = A ∧ a' 0 = v ∧ a' 1 = .bool names ∧ a' 5 = ii k ∧ Pk k) (fun a' _ => l.length - (iv (a' 5)).toNat) ?_ ?_
  · refine ⟨1, Nat.le_refl _, .inr rfl, rfl, ?_⟩
    simp (maxSteps := 1000000) (disch := omega) only [stepS, reduceIte, Nat.reduceBEq, Nat.reduceEqDiff, tupleOf, stepT, i0, i1]
    refine ⟨rfl, ?_⟩
    rw [hPk]
    exact fun i x y h => by omega
  · rintro a2 B ⟨k, hk1, hk2, hB, g0, g1, g5, hs⟩
    have hs : ∀ (i : Nat) x y, i + 1 < k → l[i]? = some x → l[i + 1]? = some y → ltWd x y ∧ (names = true → x.name ≠ y.name) := by rw [hPk] at hs; exact hs
    obtain rfl : A = B := hB.symm
    clear hB
    rcases Nat.lt_or_ge k l.length with hlt | hge
    · obtain ⟨x, hx⟩ := get_some (l := l) (k := k - 1) (by omega)
      obtain ⟨y, hy⟩ := get_some hlt
      obtain ⟨p, pq, p1, p2, ⟨p3, p4⟩, _⟩ := words_at hv hx
      obtain ⟨q, qq, q1, q2, ⟨q3, q4⟩, _⟩ := words_at hv hy
      have p2 := p2 A (.refl _)
      have q2 := q2 A (.refl _)
      have p4 := p4 A (.refl _)
      have q4 := q4 A (.refl _)
      have e1 : (k : Int) - 1 = ((k - 1 : Nat) : Int) := by omega
      have hy' : l[k - 1 + 1]? = some y := by rw [show k - 1 + 1 = k by omega]; exact hy
      have step : (ltWd x y ∧ (names = true → x.name ≠ y.name)) → Pk (k + 1) := by
        rw [hPk]
        intro hxy i x2 y2 hi hx2 hy2
        rcases Nat.lt_or_ge (i + 1) k with h | h
        · exact hs i x2 y2 h hx2 hy2
        · have : i = k - 1 := by omega
          subst this
          rw [hx] at hx2
          rw [hy'] at hy2
          obtain rfl := Option.some.inj hx2
          obtain rfl := Option.some.inj hy2
          exact hxy
      simp (maxSteps := 1000000) (disch := omega) only [stepS, reduceIte, Nat.reduceBEq, Nat.reduceEqDiff, tupleOf, stepT, g0, g1, g5, hvl, e1, p1, p2, q1, q2]
      refine ref41_less_spec fun c hc => ?_
      cases c with
      | false =>
        simp (maxSteps := 1000000) (disch := omega) only [stepS, reduceIte, Nat.reduceBEq, Nat.reduceEqDiff, tupleOf, stepT, g0, g1, g5]
        exact hq false ⟨(fun h => by cases h), fun h => absurd (hc.2 (h (k - 1) x y hx hy').1) (by decide)⟩
      | true =>
        have hlt2 := hc.1 rfl
        cases names with
        | false =>
          simp (maxSteps := 1000000) (disch := omega) only [stepS, reduceIte, Nat.reduceBEq, Nat.reduceEqDiff, tupleOf, stepT, g0, g1, g5]
          exact ⟨⟨k + 1, by omega, by omega, rfl, step ⟨hlt2, fun h => by cases h⟩⟩, by omega⟩
        | true =>
          by_cases h2 : x.name = y.name
          · have d2 : decide (x.name = y.name) = true := decide_eq_true h2
            simp (maxSteps := 1000000) (disch := omega) only [stepS, reduceIte, Nat.reduceBEq, Nat.reduceEqDiff, tupleOf, stepT, g0, g1, g5, hvl, e1, p1, p3, p4, q1, q3, q4, d2]
            exact hq false ⟨(fun h => by cases h), fun h => absurd h2 ((h (k - 1) x y hx hy').2 rfl)⟩
          · have d2 : decide (x.name = y.name) = false := decide_eq_false h2
            simp (maxSteps := 1000000) (disch := omega) only [stepS, reduceIte, Nat.reduceBEq, Nat.reduceEqDiff, tupleOf, stepT, g0, g1, g5, hvl, e1, p1, p3, p4, q1, q3, q4, d2]
            exact ⟨⟨k + 1, by omega, by omega, rfl, step ⟨hlt2, fun _ => h2⟩⟩, by omega⟩
    · simp (maxSteps := 1000000) (disch := omega) only [stepS, reduceIte, Nat.reduceBEq, Nat.reduceEqDiff, tupleOf, stepT, g0, g1, g5, hvl]
      exact hq true ⟨fun _ i x y hx hy => hs i x y (by have := lt_of_get hy; omega) hx hy, fun _ => rfl⟩
theorem ref41_Tidy_spec {A : AH} {x : Value} {s : StateV} {Q : Value → AH → Prop} (hx : StateA A x s) (hs : FinS s) (hq : ∀ b : Bool, (b = true ↔ TidyS s) → Q (.bool b) A) : ACalls 0 Try.prog chantryref41_Tidy [x] Q A := by
  refine ACalls.pure (S := fun v => ∃ b : Bool, v = .bool b ∧ (b = true ↔ TidyS s)) (fun v ⟨b, e, h⟩ => by rw [e]; exact hq b h) ?_
  obtain ⟨c, m, v, l, rfl, hc, hm, hv, hl⟩ := hx
  obtain ⟨n1, n2, n3, n4⟩ := finS_len hs
  refine ACalls.of_fits mixed fits_chantryref41_Tidy rfl ?_
  unfold ic_chantryref41_Tidy
  have i0 : initA [.agg #[c, m, v, l]] 0 = .agg #[c, m, v, l] := rfl
  generalize initA [.agg #[c, m, v, l]] = a at i0
  have oc := (Sl.one1 hc).2
  have om := (Sl.one1 hm).2
  have ov := (Sl.one1 hv).2
  have ol := (Sl.one1 hl).2
  refine W_mid (fun a B => B = A ++ [.row [c, m, v, l] .own 0 true] ∧ a 1 = ptr A.length) ?_ ?_
  · simp (maxSteps := 1000000) (disch := omega) only [stepS, reduceIte, Nat.reduceBEq, Nat.reduceEqDiff, tupleOf, stepT, stepX, heapR, lensR, Nat.reduceAdd, Nat.reduceLeDiff, i0, oc, om, ov, ol]
  rintro a B0 ⟨hB, g1⟩
  have k0 : Le A B0 := by rw [hB]; exact .push _ _
  have r1 : rowAt B0 A.length = some ([c, m, v, l], .own, 0, true) := by rw [hB]; exact rowAt_own (get_last _ _)
  clear i0 hB
  have no : ∀ {p : Prop}, (TidyS s → p) → ¬ p → ∃ b : Bool, Value.bool false = .bool b ∧ (b = true ↔ TidyS s) := fun h k => ⟨false, rfl, (fun h => by cases h), fun t => absurd (h t) k⟩
  have nf : ∀ {p : Prop}, (false = true ↔ p) → ¬ p := fun h k => by have := h.2 k; cases this
  have hcl := hc.len
  refine W_midR (fun a B => Adj ltC s.counts ∧ B = B0 ∧ a 1 = ptr A.length) ?_ ?_
  · simp (maxSteps := 1000000) (disch := omega) only [stepS, reduceIte, Nat.reduceBEq, Nat.reduceEqDiff, tupleOf, stepT, stepX, heapR, lensR, Nat.reduceAdd, Nat.reduceLeDiff, g1]
    refine W_loop (fun a' B => ∃ k : Nat, 1 ≤ k ∧ (k ≤ s.counts.length ∨ k = 1) ∧ B = B0 ∧ a' 1 = ptr A.length ∧ a' 3 = ii k ∧ ∀ (i : Nat) x y, i + 1 < k → s.counts[i]? = some x → s.counts[i + 1]? = some y → ltC x y) (fun a' _ => s.counts.length - (iv (a' 3)).toNat) ?_ ?_
    · refine ⟨1, Nat.le_refl _, .inr rfl, rfl, ?_⟩
      simp (maxSteps := 1000000) (disch := omega) only [stepS, reduceIte, Nat.reduceBEq, Nat.reduceEqDiff, tupleOf, stepT, stepX, heapR, lensR, Nat.reduceAdd, Nat.reduceLeDiff, g1]
      refine ⟨rfl, fun i x y h => by omega⟩
    · clear g1
      rintro a2 B ⟨k, hk1, hk2, hB, g1, g3, hs⟩
      obtain rfl : B0 = B := hB.symm
      clear hB
      rcases Nat.lt_or_ge k s.counts.length with hlt | hge
      · obtain ⟨x, hx⟩ := get_some (l := s.counts) (k := k - 1) (by omega)
        obtain ⟨y, hy⟩ := get_some hlt
        obtain ⟨p, pq, p1, p2, ⟨p3, p4⟩, _⟩ := counts_at hc hx
        obtain ⟨q, qq, q1, q2, ⟨q3, q4⟩, _⟩ := counts_at hc hy
        have p4 := p4 B0 k0
        have q4 := q4 B0 k0
        have e1 : (k : Int) - 1 = ((k - 1 : Nat) : Int) := by omega
        have hy' : s.counts[k - 1 + 1]? = some y := by rw [show k - 1 + 1 = k by omega]; exact hy
        by_cases h1 : bl x.name < bl y.name
        · have d1 : decide (¬ bl x.name < bl y.name) = false := decide_eq_false (fun h => h h1)
          simp (maxSteps := 1000000) (disch := omega) only [stepS, reduceIte, Nat.reduceBEq, Nat.reduceEqDiff, tupleOf, stepT, stepX, heapR, lensR, Nat.reduceAdd, Nat.reduceLeDiff, g1, g3, r1, hcl, e1, p1, p3, p4, q1, q3, q4, geS, d1]
          refine ⟨⟨k + 1, by omega, by omega, rfl, fun i x2 y2 hi hx2 hy2 => ?_⟩, by omega⟩
          rcases Nat.lt_or_ge (i + 1) k with h | h
          · exact hs i x2 y2 h hx2 hy2
          · have : i = k - 1 := by omega
            subst this
            rw [hx] at hx2
            rw [hy'] at hy2
            obtain rfl := Option.some.inj hx2
            obtain rfl := Option.some.inj hy2
            exact h1
        · have d1 : decide (¬ bl x.name < bl y.name) = true := decide_eq_true h1
          simp (maxSteps := 1000000) (disch := omega) only [stepS, reduceIte, Nat.reduceBEq, Nat.reduceEqDiff, tupleOf, stepT, stepX, heapR, lensR, Nat.reduceAdd, Nat.reduceLeDiff, g1, g3, r1, hcl, e1, p1, p3, p4, q1, q3, q4, geS, d1]
          exact .inr ⟨k0, rfl, no (fun t => t.1 (k - 1) x y hx hy') h1⟩
      · simp (maxSteps := 1000000) (disch := omega) only [stepS, reduceIte, Nat.reduceBEq, Nat.reduceEqDiff, tupleOf, stepT, stepX, heapR, lensR, Nat.reduceAdd, Nat.reduceLeDiff, g1, g3, r1, hcl]
        exact .inl fun i x y hx hy => hs i x y (by have := lt_of_get hy; omega) hx hy
  clear g1
  rintro a B ⟨h0, hB, g1⟩
  obtain rfl : B0 = B := hB.symm
  clear hB
  have wd : ∀ {l : List WordV}, Adj (fun a b => ltWd a b ∧ (false = true → a.name ≠ b.name)) l ↔ Adj ltWd l := fun {l} => ⟨fun h i x y hx hy => (h i x y hx hy).1, fun h i x y hx hy => ⟨h i x y hx hy, fun h => by cases h⟩⟩
  have wn : ∀ {l : List WordV}, Adj (fun a b => ltWd a b ∧ (true = true → a.name ≠ b.name)) l ↔ Adj ltN l := fun {l} => ⟨fun h i x y hx hy => ltN_of.2 ⟨(h i x y hx hy).1, (h i x y hx hy).2 rfl⟩, fun h i x y hx hy => ⟨(ltN_of.1 (h i x y hx hy)).1, fun _ => (ltN_of.1 (h i x y hx hy)).2⟩⟩
  simp (maxSteps := 1000000) (disch := omega) only [stepS, reduceIte, Nat.reduceBEq, Nat.reduceEqDiff, tupleOf, stepT, stepX, heapR, lensR, Nat.reduceAdd, Nat.reduceLeDiff, g1, r1]
  refine ref41_rising_spec (hm.le k0) n2 fun b2 h2 => ?_
  rw [wd] at h2
  cases b2 with
  | false =>
    simp (maxSteps := 1000000) (disch := omega) only [stepS, reduceIte, Nat.reduceBEq, Nat.reduceEqDiff, tupleOf, stepT, stepX, heapR, lensR, Nat.reduceAdd, Nat.reduceLeDiff, g1, r1]
    exact ⟨k0, rfl, no (fun t => t.2.1) (nf h2)⟩
  | true =>
  simp (maxSteps := 1000000) (disch := omega) only [stepS, reduceIte, Nat.reduceBEq, Nat.reduceEqDiff, tupleOf, stepT, stepX, heapR, lensR, Nat.reduceAdd, Nat.reduceLeDiff, g1, r1]
  refine ref41_rising_spec (hv.le k0) n3 fun b3 h3 => ?_
  rw [wd] at h3
  cases b3 with
  | false =>
    simp (maxSteps := 1000000) (disch := omega) only [stepS, reduceIte, Nat.reduceBEq, Nat.reduceEqDiff, tupleOf, stepT, stepX, heapR, lensR, Nat.reduceAdd, Nat.reduceLeDiff, g1, r1]
    exact ⟨k0, rfl, no (fun t => t.2.2.1) (nf h3)⟩
  | true =>
  simp (maxSteps := 1000000) (disch := omega) only [stepS, reduceIte, Nat.reduceBEq, Nat.reduceEqDiff, tupleOf, stepT, stepX, heapR, lensR, Nat.reduceAdd, Nat.reduceLeDiff, g1, r1]
  refine ref41_rising_spec (hl.le k0) n4 fun b4 h4 => ?_
  rw [wn] at h4
  cases b4 with
  | false =>
    simp (maxSteps := 1000000) (disch := omega) only [stepS, reduceIte, Nat.reduceBEq, Nat.reduceEqDiff, tupleOf, stepT, stepX, heapR, lensR, Nat.reduceAdd, Nat.reduceLeDiff, g1, r1]
    exact ⟨k0, rfl, no (fun t => t.2.2.2) (nf h4)⟩
  | true =>
    simp (maxSteps := 1000000) (disch := omega) only [stepS, reduceIte, Nat.reduceBEq, Nat.reduceEqDiff, tupleOf, stepT, stepX, heapR, lensR, Nat.reduceAdd, Nat.reduceLeDiff, g1, r1]
    exact ⟨k0, rfl, true, rfl, fun _ => ⟨h0, h2.1 rfl, h3.1 rfl, h4.1 rfl⟩, fun _ => rfl⟩
end Go.AS.C


namespace Go.AS
open Go
set_option maxRecDepth 100000
/-! slices.Insert (printed). -/
noncomputable def icG_insert (sz bytes : Nat) (z : List Value) (fo fr : FuncId) : IC :=
  (.seq (.ops [
    ⟨(some 6), none, false, .mov (.const (.slice none 0 0))⟩]) (.seq (.ops [
    ⟨(some 10), none, false, .mov (.tmp 0)⟩,
    ⟨(some 11), none, false, .mov (.tmp 1)⟩,
    ⟨(some 12), none, false, .sll (.tmp 10) (some (.tmp 11)) none none sz⟩]) (.seq (.ops [
    ⟨(some 13), none, false, .mov (.tmp 2)⟩,
    ⟨(some 14), none, false, .lens false (.tmp 13)⟩,
    ⟨(some 7), none, false, .mov (.tmp 14)⟩]) (.seq (.seq (.ops [
    ⟨(some 15), none, false, .mov (.tmp 7)⟩,
    ⟨(some 16), none, false, .bin .eql (.tmp 15) (.const (.int .i64 0))⟩]) (.cond (.tmp 16) (.seq (.ops [
    ⟨(some 17), none, false, .mov (.tmp 0)⟩,
    ⟨(some 6), none, false, .mov (.tmp 17)⟩]) .ret) .skip)) (.seq (.ops [
    ⟨(some 18), none, false, .mov (.tmp 0)⟩,
    ⟨(some 19), none, false, .lens false (.tmp 18)⟩,
    ⟨(some 8), none, false, .mov (.tmp 19)⟩]) (.seq (.seq (.ops [
    ⟨(some 20), none, false, .mov (.tmp 1)⟩,
    ⟨(some 21), none, false, .mov (.tmp 8)⟩,
    ⟨(some 22), none, false, .bin .eql (.tmp 20) (.tmp 21)⟩]) (.cond (.tmp 22) (.seq (.ops [
    ⟨(some 23), none, false, .mov (.tmp 0)⟩,
    ⟨(some 24), none, false, .mov (.tmp 2)⟩,
    ⟨(some 25), none, false, .app (.tmp 23) (.tmp 24) sz bytes⟩,
    ⟨(some 6), none, false, .mov (.tmp 25)⟩]) .ret) .skip)) (.seq (.seq (.ops [
    ⟨(some 26), none, false, .mov (.tmp 8)⟩,
    ⟨(some 27), none, false, .mov (.tmp 7)⟩,
    ⟨(some 28), none, false, .bin .add (.tmp 26) (.tmp 27)⟩,
    ⟨(some 29), none, false, .mov (.tmp 0)⟩,
    ⟨(some 30), none, false, .capn (.tmp 29)⟩,
    ⟨(some 31), none, false, .bin .gtr (.tmp 28) (.tmp 30)⟩]) (.cond (.tmp 31) (.seq (.ops [
    ⟨(some 32), none, false, .mov (.tmp 0)⟩,
    ⟨(some 33), none, false, .mov (.tmp 1)⟩,
    ⟨(some 34), none, false, .sll (.tmp 32) none (some (.tmp 33)) none sz⟩,
    ⟨(some 35), none, false, .mov (.tmp 8)⟩,
    ⟨(some 36), none, false, .mov (.tmp 7)⟩,
    ⟨(some 37), none, false, .bin .add (.tmp 35) (.tmp 36)⟩,
    ⟨(some 38), none, false, .mov (.tmp 1)⟩,
    ⟨(some 39), none, false, .bin .sub (.tmp 37) (.tmp 38)⟩,
    ⟨(some 40), none, false, .appz (.tmp 34) (.tmp 39) z bytes⟩,
    ⟨(some 9), none, false, .mov (.tmp 40)⟩]) (.seq (.ops [
    ⟨(some 41), none, false, .mov (.tmp 9)⟩,
    ⟨(some 42), none, false, .mov (.tmp 1)⟩,
    ⟨(some 43), none, false, .sll (.tmp 41) (some (.tmp 42)) none none sz⟩,
    ⟨(some 44), none, false, .mov (.tmp 2)⟩,
    ⟨(some 45), none, false, .copy (.tmp 43) (.tmp 44) sz⟩]) (.seq (.draw [
    ⟨(some 46), none, false, .mov (.tmp 9)⟩,
    ⟨(some 47), none, false, .mov (.tmp 1)⟩,
    ⟨(some 48), none, false, .mov (.tmp 7)⟩,
    ⟨(some 49), none, false, .bin .add (.tmp 47) (.tmp 48)⟩,
    ⟨(some 50), none, false, .sll (.tmp 46) (some (.tmp 49)) none none sz⟩,
    ⟨(some 51), none, false, .mov (.tmp 0)⟩,
    ⟨(some 52), none, false, .mov (.tmp 1)⟩,
    ⟨(some 53), none, false, .sll (.tmp 51) (some (.tmp 52)) none none sz⟩,
    ⟨(some 54), none, false, .copy (.tmp 50) (.tmp 53) sz⟩]) (.seq (.ops [
    ⟨(some 55), none, false, .mov (.tmp 9)⟩,
    ⟨(some 6), none, false, .mov (.tmp 55)⟩]) .ret)))) .skip)) (.seq (.ops [
    ⟨(some 56), none, false, .mov (.tmp 0)⟩,
    ⟨(some 57), none, false, .mov (.tmp 8)⟩,
    ⟨(some 58), none, false, .mov (.tmp 7)⟩,
    ⟨(some 59), none, false, .bin .add (.tmp 57) (.tmp 58)⟩,
    ⟨(some 60), none, false, .sll (.tmp 56) none (some (.tmp 59)) none sz⟩,
    ⟨(some 0), none, false, .mov (.tmp 60)⟩]) (.seq (.seq (.ops [
    ⟨(some 61), none, false, .mov (.tmp 2)⟩,
    ⟨(some 62), none, false, .mov (.tmp 0)⟩,
    ⟨(some 63), none, false, .mov (.tmp 1)⟩,
    ⟨(some 64), none, false, .mov (.tmp 7)⟩,
    ⟨(some 65), none, false, .bin .add (.tmp 63) (.tmp 64)⟩,
    ⟨(some 66), none, false, .sll (.tmp 62) (some (.tmp 65)) none none sz⟩,
    ⟨(some 67), none, false, .callx fo [(.tmp 61), (.tmp 66)]⟩,
    ⟨(some 68), none, false, .un .not (.tmp 67)⟩]) (.cond (.tmp 68) (.seq (.draw [
    ⟨(some 69), none, false, .mov (.tmp 0)⟩,
    ⟨(some 70), none, false, .mov (.tmp 1)⟩,
    ⟨(some 71), none, false, .mov (.tmp 7)⟩,
    ⟨(some 72), none, false, .bin .add (.tmp 70) (.tmp 71)⟩,
    ⟨(some 73), none, false, .sll (.tmp 69) (some (.tmp 72)) none none sz⟩,
    ⟨(some 74), none, false, .mov (.tmp 0)⟩,
    ⟨(some 75), none, false, .mov (.tmp 1)⟩,
    ⟨(some 76), none, false, .sll (.tmp 74) (some (.tmp 75)) none none sz⟩,
    ⟨(some 77), none, false, .copy (.tmp 73) (.tmp 76) sz⟩]) (.seq (.ops [
    ⟨(some 78), none, false, .mov (.tmp 0)⟩,
    ⟨(some 79), none, false, .mov (.tmp 1)⟩,
    ⟨(some 80), none, false, .sll (.tmp 78) (some (.tmp 79)) none none sz⟩,
    ⟨(some 81), none, false, .mov (.tmp 2)⟩,
    ⟨(some 82), none, false, .copy (.tmp 80) (.tmp 81) sz⟩]) (.seq (.ops [
    ⟨(some 83), none, false, .mov (.tmp 0)⟩,
    ⟨(some 6), none, false, .mov (.tmp 83)⟩]) .ret))) .skip)) (.seq (.ops [
    ⟨(some 84), none, false, .mov (.tmp 0)⟩,
    ⟨(some 85), none, false, .mov (.tmp 8)⟩,
    ⟨(some 86), none, false, .sll (.tmp 84) (some (.tmp 85)) none none sz⟩,
    ⟨(some 87), none, false, .mov (.tmp 2)⟩,
    ⟨(some 88), none, false, .copy (.tmp 86) (.tmp 87) sz⟩]) (.seq (.ops [
    ⟨(some 89), none, false, .mov (.tmp 0)⟩,
    ⟨(some 90), none, false, .mov (.tmp 1)⟩,
    ⟨(some 91), none, false, .sll (.tmp 89) (some (.tmp 90)) none none sz⟩,
    ⟨(some 92), none, false, .mov (.tmp 7)⟩,
    ⟨(some 93), none, false, .call fr [(.tmp 91), (.tmp 92)]⟩]) (.seq (.ops [
    ⟨(some 94), none, false, .mov (.tmp 0)⟩,
    ⟨(some 6), none, false, .mov (.tmp 94)⟩]) .ret))))))))))))
end Go.AS


namespace Go.AS
open Go
set_option linter.unusedVariables false
set_option linter.unusedSimpArgs false
set_option maxRecDepth 10000

/-! slices.Insert of one element into a slice of the call's own. -/
section
variable {A A0 : AH} {v : Value} {sz : Nat} {es : List (List Value)} {e : List Value}
theorem flatL (he : ∀ e ∈ es, e.length = sz ∧ ones e = true) : es.flatten.length = es.length * sz := by
  induction es with
  | nil => simp
  | cons x l ih =>
    rw [List.flatten_cons, List.length_append, ih (fun e h => he e (by simp [h])), (he x (by simp)).1, List.length_cons, Nat.succ_mul, Nat.add_comm]
theorem flat_take (he : ∀ e ∈ es, e.length = sz ∧ ones e = true) (i : Nat) : (es.take i).flatten = es.flatten.take (i * sz) := by
  induction es generalizing i with
  | nil => simp
  | cons x l ih =>
    cases i with
    | zero => simp
    | succ i =>
      have hx := (he x (by simp)).1
      rw [List.take_succ_cons, List.flatten_cons, List.flatten_cons, ih (fun e h => he e (by simp [h])), Nat.succ_mul, List.take_append]
      rw [List.take_of_length_le (l := x) (by omega)]
      congr 2; omega
theorem flat_drop (he : ∀ e ∈ es, e.length = sz ∧ ones e = true) (i : Nat) : (es.drop i).flatten = es.flatten.drop (i * sz) := by
  induction es generalizing i with
  | nil => simp
  | cons x l ih =>
    cases i with
    | zero => simp
    | succ i =>
      have hx := (he x (by simp)).1
      rw [List.drop_succ_cons, List.flatten_cons, ih (fun e h => he e (by simp [h])), Nat.succ_mul, List.drop_append]
      rw [List.drop_of_length_le (l := x) (by omega), List.nil_append]
      congr 1; omega
/-- What an element put in makes of the cells. -/
theorem flat_ins (he : ∀ e ∈ es, e.length = sz ∧ ones e = true) (hl : e.length = sz) {i p q : Nat} (hi : i ≤ es.length) (hp : p = i * sz) (hq : q = es.length * sz) (j : Nat) (hj : j < q + sz) :
    (es.take i ++ e :: es.drop i).flatten[j]? = if j < p then es.flatten[j]? else if j < p + sz then e[j - p]? else es.flatten[j - sz]? := by
  have hL := flatL he
  have hpq : p ≤ q := by rw [hp, hq]; exact Nat.mul_le_mul_right _ hi
  rw [List.flatten_append, List.flatten_cons, flat_take he, flat_drop he, ← hp, List.getElem?_append]
  rw [List.length_take, hL, ← hq, Nat.min_eq_left hpq]
  by_cases h1 : j < p
  · rw [if_pos h1, if_pos h1, List.getElem?_take_of_lt h1]
  · rw [if_neg h1, if_neg h1, List.getElem?_append, hl]
    by_cases h2 : j < p + sz
    · rw [if_pos (by omega), if_pos h2]
    · rw [if_neg (by omega), if_neg h2, List.getElem?_drop]
      congr 1; omega
theorem ins_ok (he : ∀ e ∈ es, e.length = sz ∧ ones e = true) (hl : e.length = sz) (ho : ones e = true) {i : Nat} : ∀ x ∈ es.take i ++ e :: es.drop i, x.length = sz ∧ ones x = true := by
  intro x hx
  rw [List.mem_append, List.mem_cons] at hx
  rcases hx with hx | rfl | hx
  · exact he x (List.mem_of_mem_take hx)
  · exact ⟨hl, ho⟩
  · exact he x (List.mem_of_mem_drop hx)
theorem sll_lo {b o n c l : Nat} {cs : List Value} {st : St} {ex : Bool} (h : A[b]? = some (.row cs st sz ex)) (hl : l ≤ n) (hn : n ≤ c) {x : Int} (hx : x = (l : Int)) : sSll A (.slice (some ⟨b, o, none⟩) n c) (some (.int .i64 x)) none none sz = some (.slice (some ⟨b, o + l * sz, none⟩) (n - l) (c - l), A) := by
  subst hx
  unfold sSll
  have hb : boundsA n c (some (.int .i64 (l : Int))) none none = some (l, n, c) := by
    unfold boundsA
    simp only [Option.bind_some, asI]
    rw [if_pos ⟨by omega, by omega⟩]
    simp
  simp only [hb, Option.bind_some, rowSz, h]
  simp
theorem sll_hi {b o n c k : Nat} {cs : List Value} {st : St} {ex : Bool} (h : A[b]? = some (.row cs st sz ex)) (hk : k ≤ c) {x : Int} (hx : x = (k : Int)) : sSll A (.slice (some ⟨b, o, none⟩) n c) none (some (.int .i64 x)) none sz = some (.slice (some ⟨b, o, none⟩) k c, A) := by
  subst hx
  unfold sSll
  have hb : boundsA n c none (some (.int .i64 (k : Int))) none = some (0, k, c) := by
    unfold boundsA
    simp only [Option.bind_some, asI]
    rw [if_pos ⟨by omega, by omega⟩]
    simp
  simp only [hb, Option.bind_some, rowSz, h]
  simp
theorem rd_row {b o k c : Nat} {cs : List Value} {st : St} {s2 : Nat} {ex : Bool} (h : A[b]? = some (.row cs st s2 ex)) (hs : st ≠ .dead) (hk : 0 < k) (hl : o + k * sz ≤ cs.length) : rdSl A sz (.slice (some ⟨b, o, none⟩) k c) = some ((cs.drop o).take (k * sz)) := by
  unfold rdSl
  simp only
  rw [if_neg (by omega)]
  unfold getRow
  simp only [h, if_neg hs, Option.bind_some]
  unfold cut
  rw [if_pos hl]
/-- What is copied between rows. -/
theorem copy_val {b o n c j o' m c2 k : Nat} {cs vs rs : List Value} {ex ex2 : Bool} {st : St} {s2 : Nat} (hb : A[b]? = some (.row cs .own sz ex)) (hj : A[j]? = some (.row rs st s2 ex2)) (hst : st ≠ .dead) (hsz : 0 < sz) (hk : min m n = k) (hk0 : 0 < k) (hr : o' + k * sz ≤ rs.length)
    (hv : vs = (rs.drop o').take (k * sz)) (h1 : ones vs = true) (ho : o ≤ cs.length) : sCopy A (.slice (some ⟨b, o, none⟩) n c) (.slice (some ⟨j, o', none⟩) m c2) sz = some (.int .i64 k, A.set b (.row (setAll cs o vs) .own sz ex)) := by
  have hvl : vs.length = k * sz := by rw [hv, List.length_take, List.length_drop]; omega
  have hX : sCopyX A (.slice (some ⟨b, o, none⟩) n c) (.slice (some ⟨j, o', none⟩) m c2) sz = some (.int .i64 k, A.set b (.row (setAll cs o vs) .own sz ex)) := by
    unfold sCopyX
    simp only [hk]
    rw [rd_row hj hst hk0 hr, Option.bind_some, ← hv]
    unfold copyX
    simp only
    rw [if_pos ⟨hk0, by omega, hvl⟩]
    unfold wrX
    simp only [hb]
    rw [if_pos ⟨trivial, hsz, ho, h1⟩]
    rfl
  cases hO : sCopyO A (.slice (some ⟨b, o, none⟩) n c) (.slice (some ⟨j, o', none⟩) m c2) sz with
  | none => exact sCopy_x hO hX
  | some r =>
    rw [sCopy_o hO]
    unfold sCopyO at hO
    simp only [Option.bind_eq_some_iff] at hO
    obtain ⟨src, hs, hO⟩ := hO
    have hm0 : m ≠ 0 := by omega
    unfold rdSl at hs
    simp only at hs
    rw [if_neg hm0] at hs
    unfold getRow at hs
    simp only [hj, if_neg hst, Option.bind_some] at hs
    unfold cut at hs
    split at hs
    · rename_i hc
      obtain rfl := Option.some.inj hs
      have hle : k * sz ≤ m * sz := Nat.mul_le_mul_right _ (by omega)
      rw [hk, List.take_take, Nat.min_eq_left hle, ← hv] at hO
      unfold copyTo at hO
      rw [if_neg (by omega)] at hO
      simp only at hO
      unfold wr at hO
      simp only [hb] at hO
      split at hO
      · simp only [Option.map_some] at hO
        exact hO.symm
      · simp at hO
    · cases hs
theorem capW_slice {i o n c : Nat} {K : Value → Prop} : capW (.slice (some ⟨i, o, none⟩) n c) K = ∀ c' : Nat, c ≤ c' → K (.int .i64 c') := id rfl
theorem ones_sub {l : List Value} (h : ones l = true) (o k : Nat) : ones ((l.drop o).take k) = true := by
  unfold ones at *
  rw [List.all_eq_true] at *
  exact fun x hx => h x (List.mem_of_mem_drop (List.mem_of_mem_take hx))
theorem insert1_spec {G : Nat} {P : Program} {f fo fr : FuncId} {z : List Value} {bytes i : Nat} {x : Value} {Q : Value → AH → Prop} (hm : P.follows .mixedOrders = true) (hfit : Fits P G f (icG_insert sz bytes z fo fr) [.tmp 6] 3) (hov : OvlOk P fo sz) (hsz : 1 < sz) (hz : z.length = sz) (hz1 : ones z = true) (hb0 : 0 < bytes)
    (hl : Le A0 A) (h : OwnE A0.length A sz v es) (hx : OwnE A0.length A sz x [e]) (hd : ∀ k ∈ blkOf x, k ∉ blkOf v) (hi : i ≤ es.length) (hbb : 2 * ((es.length + 1) * bytes) ≤ 2 ^ 48)
    (hq : ∀ u B, Le A0 B → OwnE A0.length B sz u (es.take i ++ e :: es.drop i) → KeepV A v B → (∀ j ∈ blkOf u, j ∈ blkOf v ∨ A.length ≤ j) → Q u B) : ACalls G P f [v, .int .i64 (i : Int), x] Q A := by
  have hsz0 : 0 < sz := by omega
  obtain ⟨he, h0⟩ := h
  obtain ⟨hex, hx0⟩ := hx
  obtain ⟨hel, heo⟩ := hex e (by simp)
  have hll : es.length < 2 ^ 48 := by
    have : (es.length + 1) * 1 ≤ (es.length + 1) * bytes := Nat.mul_le_mul_left _ hb0
    omega
  have hxlen : sLens A false x = some (.int .i64 1, A) := by have := hx0.sl.lenB A; simpa using this
  by_cases hin : i = es.length
  · -- at the end: an append
    have hvl : sLens A false v = some (.int .i64 es.length, A) := h0.sl.lenB A
    obtain ⟨u, B, p1, p2, p3, p4⟩ := OwnE.app (bytes := bytes) hl ⟨he, h0⟩ hx0.sl hex hsz0 (by simpa using hbb) hb0
    have hes : es.take i ++ e :: es.drop i = es ++ [e] := by rw [hin, List.take_length, List.drop_length]
    rw [hes] at hq
    have hu := hq u B p2 p3 p4 (sApp_blk p1)
    obtain ⟨v2, hv2⟩ : ∃ w, sSll A v (some (.int .i64 (i : Int))) none none sz = some (w, A) := by
      obtain ⟨w, _, _, hw⟩ := OwnE.cut (lo := some (.int .i64 (i : Int))) (hi := none) ⟨he, h0⟩ (l := i) (k := es.length) hi (Nat.le_refl _) (fun c hc => by
        unfold boundsA
        simp only [Option.bind_some, asI]
        rw [if_pos ⟨by omega, by omega⟩]
        simp)
      exact ⟨w, (hw A es ⟨he, h0⟩ rfl).1⟩
    refine ACalls.of_fits hm hfit rfl ?_
    unfold icG_insert
    have i0 : initA [v, .int .i64 (i : Int), x] 0 = v := rfl
    have i1 : initA [v, .int .i64 (i : Int), x] 1 = .int .i64 (i : Int) := rfl
    have i2 : initA [v, .int .i64 (i : Int), x] 2 = x := rfl
    generalize initA [v, .int .i64 (i : Int), x] = a at i0 i1 i2
    simp (maxSteps := 1000000) (disch := omega) only [stepS, reduceIte, Nat.reduceBEq, Nat.reduceEqDiff, tupleOf, stepT, i0, i1, i2, hv2, hxlen, hvl, p1]
    exact hu
  · -- before an element
    have hin : i < es.length := by omega
    obtain ⟨h00, h0⟩ := h0
    obtain ⟨b, o, c, rc, ex, rfl, k1, k2, k3, k4, k5⟩ : ∃ i o c rc ex, v = .slice (some ⟨i, o, none⟩) es.length c ∧ es.length ≤ c ∧ A0.length ≤ i ∧ A[i]? = some (.row rc .own sz ex) ∧ o + es.length * sz ≤ rc.length ∧ ∀ j, j < es.length * sz → rc[o + j]? = es.flatten[j]? := by
      rcases h0 with ⟨_, hz⟩ | ⟨_, hz⟩ | h0
      · omega
      · omega
      · exact h0
    obtain ⟨hx00, hx0⟩ := hx0
    obtain ⟨bx, ox, cx, rx, exx, rfl, x1, x2, x3, x4, x5⟩ : ∃ i o c rc ex, x = .slice (some ⟨i, o, none⟩) 1 c ∧ 1 ≤ c ∧ A0.length ≤ i ∧ A[i]? = some (.row rc .own sz ex) ∧ o + 1 * sz ≤ rc.length ∧ ∀ j, j < 1 * sz → rc[o + j]? = [e].flatten[j]? := by
      rcases hx0 with ⟨_, hz⟩ | ⟨_, hz⟩ | hx0
      · simp at hz
      · simp at hz
      · simpa using hx0
    have hne : bx ≠ b := by
      have := hd bx (by simp [blkOf])
      simp [blkOf] at this
      exact this
    clear h0 hx0 hd hxlen
    obtain ⟨n, hn⟩ : ∃ n, n = es.length := ⟨_, rfl⟩
    obtain ⟨p, hp⟩ : ∃ p, p = i * sz := ⟨_, rfl⟩
    obtain ⟨q, hqq⟩ : ∃ q, q = n * sz := ⟨_, rfl⟩
    rw [← hn] at hin k1 k4 k5 hbb hll hi h00 ⊢
    rw [← hqq] at k4 k5 h00
    have hpq : p + sz ≤ q := by
      rw [hp, hqq]
      have := Nat.mul_le_mul_right sz (show i + 1 ≤ n by omega)
      rw [Nat.succ_mul] at this
      exact this
    have hxe : (rx.drop ox).take (1 * sz) = e := by
      apply List.ext_getElem?
      intro j
      rcases Nat.lt_or_ge j sz with hj | hj
      · rw [Nat.one_mul, List.getElem?_take_of_lt hj, List.getElem?_drop, x5 j (by omega)]
        simp
      · rw [List.getElem?_eq_none (by simp; omega), List.getElem?_eq_none (by omega)]
    have hR : (rc.take (o + q)).length = o + q := by rw [List.length_take]; omega
    have hRj : ∀ j, j < q → (rc.take (o + q))[o + j]? = es.flatten[j]? := fun j hj => by
      rw [List.getElem?_take_of_lt (by omega), k5 j hj]
    have hRo : ones ((rc.take (o + q)).drop o) = true := by
      have e1 : (rc.take (o + q)).drop o = es.flatten := by
        apply List.ext_getElem?
        intro j
        rw [List.getElem?_drop]
        rcases Nat.lt_or_ge j q with hj | hj
        · exact hRj j hj
        · rw [List.getElem?_eq_none (by omega), List.getElem?_eq_none (by omega)]
      rw [e1]
      exact ones_flatten he
    generalize hRR : rc.take (o + q) = R at hR hRj hRo
    have hvs : ones ((R.drop (o + p)).take ((n - i) * sz)) = true := by
      have := ones_sub hRo p ((n - i) * sz)
      rw [List.drop_drop] at this
      exact this
    have hnp : (n - i) * sz = q - p := by rw [Nat.sub_mul, ← hqq, ← hp]
    have hvsl : ((R.drop (o + p)).take ((n - i) * sz)).length = q - p := by rw [hnp, List.length_take, List.length_drop]; omega
    have hvsj : ∀ j, j < q - p → ((R.drop (o + p)).take ((n - i) * sz))[j]? = es.flatten[p + j]? := fun j hj => by
      rw [hnp, List.getElem?_take_of_lt hj, List.getElem?_drop, Nat.add_assoc, hRj _ (by omega)]
    obtain ⟨vs, hvsD⟩ : ∃ vs, vs = (R.drop (o + p)).take ((n - i) * sz) := ⟨_, rfl⟩
    rw [← hvsD] at hvs hvsl hvsj
    have hbl := lt_of_get k3
    have hxl := lt_of_get x3
    have i1p : (i + 1) * sz = p + sz := by rw [Nat.succ_mul, hp]
    refine ACalls.cap1 k3 hsz0 (by omega) (by omega) ?_ ?_
    · -- there is room
      rw [← hqq, hRR]
      have a1 : (A.set b (.row R .own sz false))[b]? = some (.row R .own sz false) := List.getElem?_set_self hbl
      have a2 : (A.set b (.row R .own sz false))[bx]? = some (.row rx .own sz exx) := by rw [List.getElem?_set_ne (Ne.symm hne)]; exact x3
      have al : (A.set b (.row R .own sz false)).length = A.length := by simp
      have ag : ∀ k bl, A[k]? = some bl → k ≠ b → (A.set b (.row R .own sz false))[k]? = some bl := fun k bl hk hkb => by rw [List.getElem?_set_ne (Ne.symm hkb)]; exact hk
      generalize A.set b (.row R .own sz false) = A1 at a1 a2 al ag
      have hcn : sCapn A1 (.slice (some ⟨b, o, none⟩) n (n + 1)) = none := by unfold sCapn; simp only [a1]
      have s1 := sll_lo (l := i) (c := n + 1) (n := n) (o := o) a1 (by omega) (by omega) (x := (i : Int)) rfl
      have s2 := sll_hi (k := n + 1) (c := n + 1) (n := n) (o := o) a1 (Nat.le_refl _) (x := (n : Int) + ((1 : Nat) : Int)) (by omega)
      have s3 := sll_lo (l := i + 1) (c := n + 1) (n := n + 1) (o := o) a1 (by omega) (by omega) (x := (i : Int) + ((1 : Nat) : Int)) (by omega)
      have s4 := sll_lo (l := i) (c := n + 1) (n := n + 1) (o := o) a1 (by omega) (by omega) (x := (i : Int)) rfl
      rw [← hp] at s1 s4
      rw [i1p] at s3
      have cp1 := copy_val (n := n + 1 - (i + 1)) (c := n + 1 - (i + 1)) (m := n + 1 - i) (c2 := n + 1 - i) (o := o + (p + sz)) (o' := o + p) (k := n - i) (vs := vs) a1 a1 (by decide) hsz0 (by omega) (by omega) (by rw [hnp]; omega) hvsD hvs (by omega)
      have ll : (setAll R (o + (p + sz)) vs).length = o + q + sz := by rw [setAll_lengthX _ _ _ (by omega), hvsl]; omega
      have a3 : (A1.set b (.row (setAll R (o + (p + sz)) vs) .own sz false))[b]? = some (.row (setAll R (o + (p + sz)) vs) .own sz false) := List.getElem?_set_self (by omega)
      have a4 : (A1.set b (.row (setAll R (o + (p + sz)) vs) .own sz false))[bx]? = some (.row rx .own sz exx) := by rw [List.getElem?_set_ne (Ne.symm hne)]; exact a2
      have s5 := sll_lo (l := i) (c := n + 1) (n := n + 1) (o := o) a3 (by omega) (by omega) (x := (i : Int)) rfl
      rw [← hp] at s5
      have cp2 := copy_val (n := n + 1 - i) (c := n + 1 - i) (m := 1) (c2 := cx) (o := o + p) (o' := ox) (k := 1) (vs := e) a3 a4 (by decide) hsz0 (by omega) (by omega) x4 hxe.symm heo (by omega)
      have hss : (A1.set b (.row (setAll R (o + (p + sz)) vs) .own sz false)).set b (.row (setAll (setAll R (o + (p + sz)) vs) (o + p) e) .own sz false) = A1.set b (.row (setAll (setAll R (o + (p + sz)) vs) (o + p) e) .own sz false) := List.set_set ..
      rw [hss] at cp2
      have hfin := hq (.slice (some ⟨b, o, none⟩) (n + 1) (n + 1)) (A1.set b (.row (setAll (setAll R (o + (p + sz)) vs) (o + p) e) .own sz false)) ?_ ⟨ins_ok he hel heo, ?_⟩ ⟨by simp; omega, ?_⟩ ?_
      rotate_left
      · refine Le.of_get (fun k hk => ?_) (by simp; have := hl.len; omega)
        have hk2 : A0[k]? = some A0[k] := List.getElem?_eq_getElem hk
        rw [List.getElem?_set_ne (by omega), hk2]
        exact ag k _ (hl.get hk2) (by omega)
      · refine ⟨by rw [flatL (ins_ok he hel heo)], .inr (.inr ⟨b, o, n + 1, setAll (setAll R (o + (p + sz)) vs) (o + p) e, false, by rw [List.length_append, List.length_cons, List.length_take, List.length_drop]; congr 1; omega, by rw [List.length_append, List.length_cons, List.length_take, List.length_drop]; omega, k2, List.getElem?_set_self (by omega), ?_, ?_⟩)⟩
        · have e1 : (es.take i ++ e :: es.drop i).length * sz = q + sz := by
            rw [List.length_append, List.length_cons, List.length_take, List.length_drop, Nat.min_eq_left (by omega), show i + (es.length - i + 1) = n + 1 by omega, Nat.succ_mul, ← hqq]
          rw [e1, setAll_lengthX _ _ _ (by omega), ll]
          omega
        · intro j hj
          have e1 : (es.take i ++ e :: es.drop i).length * sz = q + sz := by
            rw [List.length_append, List.length_cons, List.length_take, List.length_drop, Nat.min_eq_left (by omega), show i + (es.length - i + 1) = n + 1 by omega, Nat.succ_mul, ← hqq]
          rw [e1] at hj
          rw [flat_ins he hel (by omega) hp (by rw [hqq, hn]) j hj, setAll_getX _ _ _ (by omega), hel]
          by_cases j1 : j < p
          · rw [if_neg (by omega), if_pos j1, setAll_getX _ _ _ (by omega), if_neg (by omega)]
            exact hRj j (by omega)
          · rw [if_neg j1]
            by_cases j2 : j < p + sz
            · rw [if_pos (by omega), if_pos j2]
              congr 1; omega
            · rw [if_neg (by omega), if_neg j2, setAll_getX _ _ _ (by omega), if_pos (by omega), hvsj _ (by omega)]
              congr 1; omega
      · intro k bl hk hkv
        have hkb : k ≠ b := fun h => hkv (by rw [h]; simp [blkOf])
        rw [List.getElem?_set_ne (Ne.symm hkb)]
        exact ag k bl hk hkb
      · intro j hj
        exact .inl hj
      refine ACalls.of_fits hm hfit rfl ?_
      unfold icG_insert
      have i0 : initA [.slice (some ⟨b, o, none⟩) n (n + 1), .int .i64 (i : Int), .slice (some ⟨bx, ox, none⟩) 1 cx] 0 = .slice (some ⟨b, o, none⟩) n (n + 1) := rfl
      have i1 : initA [.slice (some ⟨b, o, none⟩) n (n + 1), .int .i64 (i : Int), .slice (some ⟨bx, ox, none⟩) 1 cx] 1 = .int .i64 (i : Int) := rfl
      have i2 : initA [.slice (some ⟨b, o, none⟩) n (n + 1), .int .i64 (i : Int), .slice (some ⟨bx, ox, none⟩) 1 cx] 2 = .slice (some ⟨bx, ox, none⟩) 1 cx := rfl
      generalize initA [.slice (some ⟨b, o, none⟩) n (n + 1), .int .i64 (i : Int), .slice (some ⟨bx, ox, none⟩) 1 cx] = a at i0 i1 i2
      have ll1 : ∀ (p : Option Addr) (n c : Nat), sLens A1 false (.slice p n c) = some (.int .i64 n, A1) := fun _ _ _ => rfl
      simp (maxSteps := 1000000) (disch := omega) only [stepS, reduceIte, Nat.reduceBEq, Nat.reduceEqDiff, tupleOf, stepT, i0, i1, i2, s1, ll1, capQ_none hcn]
      rw [capW_slice]
      intro c' hc'
      simp (maxSteps := 1000000) (disch := omega) only [stepS, reduceIte, Nat.reduceBEq, Nat.reduceEqDiff, tupleOf, stepT, i0, i1, i2, s2, s3, ll1]
      refine ovl_spec hov a2 (by omega) a1 hne (by omega) (by omega) (by omega) ?_
      simp (maxSteps := 1000000) (disch := omega) only [stepS, reduceIte, Nat.reduceBEq, Nat.reduceEqDiff, tupleOf, stepT, i0, i1, i2, s3, s4, cp1, s5, cp2, ll1]
      exact hfin
    · -- there is no room
      rw [← hqq, hRR]
      have a1 : (A.set b (.row R .own sz true))[b]? = some (.row R .own sz true) := List.getElem?_set_self hbl
      have a2 : (A.set b (.row R .own sz true))[bx]? = some (.row rx .own sz exx) := by rw [List.getElem?_set_ne (Ne.symm hne)]; exact x3
      have al : (A.set b (.row R .own sz true)).length = A.length := by simp
      have ag : ∀ k bl, A[k]? = some bl → k ≠ b → (A.set b (.row R .own sz true))[k]? = some bl := fun k bl hk hkb => by rw [List.getElem?_set_ne (Ne.symm hkb)]; exact hk
      generalize A.set b (.row R .own sz true) = A1 at a1 a2 al ag
      have hcn : sCapn A1 (.slice (some ⟨b, o, none⟩) n n) = some (.int .i64 n, A1) := by
        unfold sCapn
        simp only [a1]
        rw [if_pos ⟨hsz0, by rw [← hqq]; exact hR.symm⟩]
      have s1 := sll_lo (l := i) (c := n) (n := n) (o := o) a1 (by omega) (by omega) (x := (i : Int)) rfl
      have s2 := sll_hi (k := i) (c := n) (n := n) (o := o) a1 (by omega) (x := (i : Int)) rfl
      rw [← hp] at s1
      have hap : sAppz A1 (.slice (some ⟨b, o, none⟩) i n) (.int .i64 ((n : Int) + ((1 : Nat) : Int) - (i : Int))) z bytes = some (.slice (some ⟨A1.length, 0, none⟩) (n + 1) (n + 1), A1 ++ [.row ((R.drop o).take p ++ (List.replicate (n + 1 - i) z).flatten) .own sz false]) := by
        have e1 : ((n : Int) + ((1 : Nat) : Int) - (i : Int)).toNat = n + 1 - i := by omega
        have hzl : (List.replicate (n + 1 - i) z).flatten.length = (n + 1 - i) * sz := by simp [hz]
        have hzo : ones (List.replicate (n + 1 - i) z).flatten = true := by
          unfold ones at hz1 ⊢
          rw [List.all_eq_true] at hz1 ⊢
          intro w hw
          rw [List.mem_flatten] at hw
          obtain ⟨l, hl, hw⟩ := hw
          rw [List.mem_replicate] at hl
          rw [hl.2] at hw
          exact hz1 w hw
        have hA : appA A1 (.slice (some ⟨b, o, none⟩) i n) (List.replicate (n + 1 - i) z).flatten (n + 1 - i) sz bytes = some (.slice (some ⟨A1.length, 0, none⟩) (i + (n + 1 - i)) (i + (n + 1 - i)), A1 ++ [.row ((R.drop o).take p ++ (List.replicate (n + 1 - i) z).flatten) .own sz false]) := by
          refine appA_none (r := ((R.drop o).take p, A1, i)) (by omega) ?_ (by rw [show i + (n + 1 - i) = n + 1 by omega]; exact hbb) hb0 hzl hzo (appF_own a1) ?_
          · unfold appBase
            simp only [a1]
            have hlt : R.length < o + (i + (n + 1 - i)) * sz := by
              rw [show i + (n + 1 - i) = n + 1 by omega, Nat.succ_mul, ← hqq, hR]
              omega
            rw [if_pos ⟨trivial, hsz0, by rw [← hp]; omega⟩, if_pos ⟨trivial, hlt⟩, ← hp]
          · unfold appI
            simp only [a1]
            rw [if_neg (fun h => by omega)]
        unfold sAppz
        simp only [asI, Option.bind_some]
        rw [if_pos ⟨by omega, by omega⟩, e1, hz, hA, show i + (n + 1 - i) = n + 1 by omega]
      obtain ⟨Z, hZ⟩ : ∃ Z, Z = (R.drop o).take p ++ (List.replicate (n + 1 - i) z).flatten := ⟨_, rfl⟩
      have hZl : Z.length = q + sz := by
        rw [hZ, List.length_append, List.length_take, List.length_drop, hR]
        have : (List.replicate (n + 1 - i) z).flatten.length = (n + 1 - i) * sz := by simp [hz]
        rw [this, Nat.sub_mul, Nat.succ_mul, ← hqq, ← hp]
        omega
      have hZj : ∀ j, j < p → Z[j]? = es.flatten[j]? := fun j hj => by
        rw [hZ, List.getElem?_append_left (by rw [List.length_take, List.length_drop]; omega), List.getElem?_take_of_lt hj, List.getElem?_drop, hRj _ (by omega)]
      rw [← hZ] at hap
      clear hZ
      have b1 : (A1 ++ [Blk.row Z .own sz false])[A1.length]? = some (.row Z .own sz false) := get_last _ _
      have b2 : (A1 ++ [Blk.row Z .own sz false])[bx]? = some (.row rx .own sz exx) := (Le.push _ _).get a2
      have b3 : (A1 ++ [Blk.row Z .own sz false])[b]? = some (.row R .own sz true) := (Le.push _ _).get a1
      have bl : (A1 ++ [Blk.row Z .own sz false]).length = A1.length + 1 := by simp
      have bg : ∀ k bl, A1[k]? = some bl → (A1 ++ [Blk.row Z .own sz false])[k]? = some bl := fun k bl h => (Le.push _ _).get h
      generalize A1 ++ [Blk.row Z .own sz false] = B1 at b1 b2 b3 bl bg hap
      have s3 := sll_lo (l := i) (c := n + 1) (n := n + 1) (o := 0) b1 (by omega) (by omega) (x := (i : Int)) rfl
      rw [← hp] at s3
      have cp1 := copy_val (n := n + 1 - i) (c := n + 1 - i) (m := 1) (c2 := cx) (o := 0 + p) (o' := ox) (k := 1) (vs := e) b1 b2 (by decide) hsz0 (by omega) (by omega) x4 hxe.symm heo (by omega)
      have c1 : (B1.set A1.length (.row (setAll Z (0 + p) e) .own sz false))[A1.length]? = some (.row (setAll Z (0 + p) e) .own sz false) := List.getElem?_set_self (by omega)
      have c3 : (B1.set A1.length (.row (setAll Z (0 + p) e) .own sz false))[b]? = some (.row R .own sz true) := by rw [List.getElem?_set_ne (by omega)]; exact b3
      have l1 : (setAll Z (0 + p) e).length = q + sz := by rw [setAll_lengthX _ _ _ (by omega), hel]; omega
      have s4 := sll_lo (l := i + 1) (c := n + 1) (n := n + 1) (o := 0) c1 (by omega) (by omega) (x := (i : Int) + ((1 : Nat) : Int)) (by omega)
      rw [i1p] at s4
      have s5 := sll_lo (l := i) (c := n) (n := n) (o := o) c3 (by omega) (by omega) (x := (i : Int)) rfl
      rw [← hp] at s5
      have cp2 := copy_val (n := n + 1 - (i + 1)) (c := n + 1 - (i + 1)) (m := n - i) (c2 := n - i) (o := 0 + (p + sz)) (o' := o + p) (k := n - i) (vs := vs) c1 c3 (by decide) hsz0 (by omega) (by omega) (by rw [hnp]; omega) hvsD hvs (by omega)
      have hss : (B1.set A1.length (.row (setAll Z (0 + p) e) .own sz false)).set A1.length (.row (setAll (setAll Z (0 + p) e) (0 + (p + sz)) vs) .own sz false) = B1.set A1.length (.row (setAll (setAll Z (0 + p) e) (0 + (p + sz)) vs) .own sz false) := List.set_set ..
      rw [hss] at cp2
      have hfin := hq (.slice (some ⟨A1.length, 0, none⟩) (n + 1) (n + 1)) (B1.set A1.length (.row (setAll (setAll Z (0 + p) e) (0 + (p + sz)) vs) .own sz false)) ?_ ⟨ins_ok he hel heo, ?_⟩ ⟨by simp; omega, ?_⟩ ?_
      rotate_left
      · have hlen := hl.len
        refine Le.of_get (fun k hk => ?_) (by simp; omega)
        have hk2 : A0[k]? = some A0[k] := List.getElem?_eq_getElem hk
        rw [List.getElem?_set_ne (by omega), hk2]
        exact bg k _ (ag k _ (hl.get hk2) (by omega))
      · have e1 : (es.take i ++ e :: es.drop i).length * sz = q + sz := by
          rw [List.length_append, List.length_cons, List.length_take, List.length_drop, Nat.min_eq_left (by omega), show i + (es.length - i + 1) = n + 1 by omega, Nat.succ_mul, ← hqq]
        have hlen := hl.len
        refine ⟨by rw [flatL (ins_ok he hel heo)], .inr (.inr ⟨A1.length, 0, n + 1, setAll (setAll Z (0 + p) e) (0 + (p + sz)) vs, false, by rw [List.length_append, List.length_cons, List.length_take, List.length_drop]; congr 1; omega, by rw [List.length_append, List.length_cons, List.length_take, List.length_drop]; omega, by omega, List.getElem?_set_self (by omega), ?_, ?_⟩)⟩
        · rw [e1, setAll_lengthX _ _ _ (by omega), l1]
          omega
        · intro j hj
          rw [e1] at hj
          rw [flat_ins he hel (by omega) hp (by rw [hqq, hn]) j hj, setAll_getX _ _ _ (by omega), hvsl, Nat.zero_add]
          by_cases j1 : j < p
          · rw [if_neg (by omega), if_pos j1, setAll_getX _ _ _ (by omega), if_neg (by omega)]
            rw [Nat.zero_add]
            exact hZj j (by omega)
          · rw [if_neg j1]
            by_cases j2 : j < p + sz
            · rw [if_neg (by omega), if_pos j2, setAll_getX _ _ _ (by omega), if_pos (by omega)]
              congr 1; omega
            · rw [if_pos (by omega), if_neg j2, hvsj _ (by omega)]
              congr 1; omega
      · intro k bl2 hk hkv
        have hkb : k ≠ b := fun h => hkv (by rw [h]; simp [blkOf])
        have hkl := lt_of_get hk
        rw [List.getElem?_set_ne (by omega)]
        exact bg k _ (ag k bl2 hk hkb)
      · intro j hj
        simp [blkOf] at hj
        exact .inr (by omega)
      refine ACalls.of_fits hm hfit rfl ?_
      unfold icG_insert
      have i0 : initA [.slice (some ⟨b, o, none⟩) n n, .int .i64 (i : Int), .slice (some ⟨bx, ox, none⟩) 1 cx] 0 = .slice (some ⟨b, o, none⟩) n n := rfl
      have i1 : initA [.slice (some ⟨b, o, none⟩) n n, .int .i64 (i : Int), .slice (some ⟨bx, ox, none⟩) 1 cx] 1 = .int .i64 (i : Int) := rfl
      have i2 : initA [.slice (some ⟨b, o, none⟩) n n, .int .i64 (i : Int), .slice (some ⟨bx, ox, none⟩) 1 cx] 2 = .slice (some ⟨bx, ox, none⟩) 1 cx := rfl
      generalize initA [.slice (some ⟨b, o, none⟩) n n, .int .i64 (i : Int), .slice (some ⟨bx, ox, none⟩) 1 cx] = a at i0 i1 i2
      have ll1 : ∀ (B : AH) (p : Option Addr) (n c : Nat), sLens B false (.slice p n c) = some (.int .i64 n, B) := fun _ _ _ _ => rfl
      simp (maxSteps := 1000000) (disch := omega) only [stepS, reduceIte, Nat.reduceBEq, Nat.reduceEqDiff, tupleOf, stepT, i0, i1, i2, s1, ll1, capQ_some hcn, s2, hap, s3, cp1, s4, s5, cp2]
      exact hfin
end
end Go.AS


namespace Go.AS
open Go
set_option linter.unusedVariables false
set_option linter.unusedSimpArgs false
set_option maxRecDepth 100000
/-! slices.Delete of one element of a slice of the call's own. -/
noncomputable def icG_delete (sz bytes : Nat) (z : List Value) : IC :=
  (.seq (.ops [
    ⟨(some 6), none, false, .mov (.const (.slice none 0 0))⟩]) (.seq (.ops [
    ⟨(some 8), none, false, .mov (.tmp 0)⟩,
    ⟨(some 9), none, false, .mov (.tmp 1)⟩,
    ⟨(some 10), none, false, .mov (.tmp 2)⟩,
    ⟨(some 11), none, false, .mov (.tmp 0)⟩,
    ⟨(some 12), none, false, .lens false (.tmp 11)⟩,
    ⟨(some 13), none, false, .sll (.tmp 8) (some (.tmp 9)) (some (.tmp 10)) (some (.tmp 12)) sz⟩]) (.seq (.seq (.ops [
    ⟨(some 14), none, false, .mov (.tmp 1)⟩,
    ⟨(some 15), none, false, .mov (.tmp 2)⟩,
    ⟨(some 16), none, false, .bin .eql (.tmp 14) (.tmp 15)⟩]) (.cond (.tmp 16) (.seq (.ops [
    ⟨(some 17), none, false, .mov (.tmp 0)⟩,
    ⟨(some 6), none, false, .mov (.tmp 17)⟩]) .ret) .skip)) (.seq (.ops [
    ⟨(some 18), none, false, .mov (.tmp 0)⟩,
    ⟨(some 19), none, false, .lens false (.tmp 18)⟩,
    ⟨(some 7), none, false, .mov (.tmp 19)⟩]) (.seq (.draw [
    ⟨(some 20), none, false, .mov (.tmp 0)⟩,
    ⟨(some 21), none, false, .mov (.tmp 1)⟩,
    ⟨(some 22), none, false, .sll (.tmp 20) none (some (.tmp 21)) none sz⟩,
    ⟨(some 23), none, false, .mov (.tmp 0)⟩,
    ⟨(some 24), none, false, .mov (.tmp 2)⟩,
    ⟨(some 25), none, false, .sll (.tmp 23) (some (.tmp 24)) none none sz⟩,
    ⟨(some 26), none, false, .app (.tmp 22) (.tmp 25) sz bytes⟩,
    ⟨(some 0), none, false, .mov (.tmp 26)⟩]) (.seq (.ops [
    ⟨(some 27), none, false, .mov (.tmp 0)⟩,
    ⟨(some 28), none, false, .mov (.tmp 0)⟩,
    ⟨(some 29), none, false, .lens false (.tmp 28)⟩,
    ⟨(some 30), none, false, .mov (.tmp 7)⟩,
    ⟨(some 31), none, false, .sll (.tmp 27) (some (.tmp 29)) (some (.tmp 30)) none sz⟩,
    ⟨none, none, false, .clr (.tmp 31) z⟩]) (.seq (.ops [
    ⟨(some 32), none, false, .mov (.tmp 0)⟩,
    ⟨(some 6), none, false, .mov (.tmp 32)⟩]) .ret)))))))
section
variable {A A0 : AH} {v : Value} {sz : Nat} {es : List (List Value)}
theorem flat_del (he : ∀ e ∈ es, e.length = sz ∧ ones e = true) {i p q : Nat} (hi : i < es.length) (hp : p = i * sz) (hq : q = es.length * sz) (j : Nat) (hj : j < q - sz) :
    (es.take i ++ es.drop (i + 1)).flatten[j]? = if j < p then es.flatten[j]? else es.flatten[j + sz]? := by
  have hL := flatL he
  have hpq : p + sz ≤ q := by
    rw [hp, hq]
    have := Nat.mul_le_mul_right sz (show i + 1 ≤ es.length by omega)
    rw [Nat.succ_mul] at this
    exact this
  rw [List.flatten_append, flat_take he, flat_drop he, Nat.succ_mul, ← hp, List.getElem?_append]
  rw [List.length_take, hL, ← hq, Nat.min_eq_left (by omega)]
  by_cases h1 : j < p
  · rw [if_pos h1, if_pos h1, List.getElem?_take_of_lt h1]
  · rw [if_neg h1, if_neg h1, List.getElem?_drop]
    congr 1; omega
theorem delete1_spec {G : Nat} {P : Program} {f : FuncId} {z : List Value} {bytes i : Nat} {x : Int} {Q : Value → AH → Prop} (hm : P.follows .mixedOrders = true) (hfit : Fits P G f (icG_delete sz bytes z) [.tmp 6] 3) (hsz0 : 0 < sz) (hz : z.length = sz) (hz1 : ones z = true) (hb0 : 0 < bytes)
    (hl : Le A0 A) (h : OwnE A0.length A sz v es) (hi : i < es.length) (hx : x = (i : Int) + 1) (hbb : 2 * (es.length * bytes) ≤ 2 ^ 48)
    (hq : ∀ u B, Le A0 B → OwnE A0.length B sz u (es.take i ++ es.drop (i + 1)) → KeepV A v B → (∀ j ∈ blkOf u, j ∈ blkOf v) → Q u B) : ACalls G P f [v, .int .i64 (i : Int), .int .i64 x] Q A := by
  subst hx
  obtain ⟨he, h00, h0⟩ := h
  obtain ⟨b, o, c, rc, ex, rfl, k1, k2, k3, k4, k5⟩ : ∃ i o c rc ex, v = .slice (some ⟨i, o, none⟩) es.length c ∧ es.length ≤ c ∧ A0.length ≤ i ∧ A[i]? = some (.row rc .own sz ex) ∧ o + es.length * sz ≤ rc.length ∧ ∀ j, j < es.length * sz → rc[o + j]? = es.flatten[j]? := by
    rcases h0 with ⟨_, hz⟩ | ⟨_, hz⟩ | h0
    · omega
    · omega
    · exact h0
  clear h0
  obtain ⟨n, hn⟩ : ∃ n, n = es.length := ⟨_, rfl⟩
  obtain ⟨p, hp⟩ : ∃ p, p = i * sz := ⟨_, rfl⟩
  obtain ⟨q, hqq⟩ : ∃ q, q = n * sz := ⟨_, rfl⟩
  rw [← hn] at hi k1 k4 k5 hbb h00 ⊢
  rw [← hqq] at k4 k5 h00
  have hll : n < 2 ^ 48 := by
    have : n * 1 ≤ n * bytes := Nat.mul_le_mul_left _ hb0
    omega
  have hpq : p + sz ≤ q := by
    rw [hp, hqq]
    have := Nat.mul_le_mul_right sz (show i + 1 ≤ n by omega)
    rw [Nat.succ_mul] at this
    exact this
  have i1p : (i + 1) * sz = p + sz := by rw [Nat.succ_mul, hp]
  have n1q : (n - 1) * sz = q - sz := by rw [Nat.sub_mul, Nat.one_mul, hqq]
  have hbl := lt_of_get k3
  have s0 : sSll A (.slice (some ⟨b, o, none⟩) n c) (some (.int .i64 (i : Int))) (some (.int .i64 ((i : Int) + 1))) (some (.int .i64 (n : Int))) sz = some (.slice (some ⟨b, o + i * sz, some 1⟩) (i + 1 - i) (n - i), A) := by
    unfold sSll
    have hb : boundsA n c (some (.int .i64 (i : Int))) (some (.int .i64 ((i : Int) + 1))) (some (.int .i64 (n : Int))) = some (i, i + 1, n) := by
      unfold boundsA
      simp only [Option.bind_some, asI]
      rw [if_pos ⟨by omega, by omega⟩]
      simp only [Option.bind_some]
      rw [if_pos ⟨by omega, by omega⟩]
      simp only [Option.bind_some]
      rw [if_pos ⟨by omega, by omega⟩]
      simp
    simp only [hb, Option.bind_some, rowSz, k3]
    rw [if_neg (by simp; omega), if_pos ⟨by simp, trivial, by omega⟩]
  have s1 := sll_hi (k := i) (c := c) (n := n) (o := o) k3 (by omega) (x := (i : Int)) rfl
  have s2 := sll_lo (l := i + 1) (c := c) (n := n) (o := o) k3 (by omega) k1 (x := (i : Int) + 1) (by omega)
  rw [i1p] at s2
  -- what is put over it
  obtain ⟨rc1, B1, hap, c1, c2, c3, c4, c5⟩ : ∃ rc1 B1, sApp A (.slice (some ⟨b, o, none⟩) i c) (.slice (some ⟨b, o + (p + sz), none⟩) (n - (i + 1)) (c - (i + 1))) sz bytes = some (.slice (some ⟨b, o, none⟩) (n - 1) c, B1) ∧ B1[b]? = some (.row rc1 .own sz ex) ∧ rc1.length = rc.length ∧
      (∀ j, j < q - sz → rc1[o + j]? = if j < p then es.flatten[j]? else es.flatten[j + sz]?) ∧ B1.length = A.length ∧ ∀ k bl, A[k]? = some bl → k ≠ b → B1[k]? = some bl := by
    by_cases hlast : n - (i + 1) = 0
    · refine ⟨rc, A, ?_, k3, rfl, fun j hj => ?_, rfl, fun k bl h _ => h⟩
      · unfold sApp
        simp only [hlast]
        have e0 : rdSl A sz (.slice (some ⟨b, o + (p + sz), none⟩) 0 (c - (i + 1))) = some [] := by
          unfold rdSl; simp
        rw [e0, Option.bind_some]
        unfold appA
        rw [appI_zero, Option.none_or]
        unfold appA1
        rw [appF_zero, Option.none_or]
        unfold appA0
        rw [if_pos rfl, show n - 1 = i by omega]
      · have : q = p + sz := by
          rw [hqq, show n = i + 1 by omega, i1p]
        rw [if_pos (by omega)]
        exact k5 j (by omega)
    · obtain ⟨vs, hvs⟩ : ∃ vs, vs = (rc.drop (o + (p + sz))).take ((n - (i + 1)) * sz) := ⟨_, rfl⟩
      have hkz : (n - (i + 1)) * sz = q - (p + sz) := by rw [Nat.sub_mul, i1p, hqq]
      have hvl : vs.length = q - (p + sz) := by rw [hvs, hkz, List.length_take, List.length_drop]; omega
      have hvj : ∀ j, j < q - (p + sz) → vs[j]? = es.flatten[p + sz + j]? := fun j hj => by
        rw [hvs, hkz, List.getElem?_take_of_lt hj, List.getElem?_drop, Nat.add_assoc, k5 _ (by omega)]
      have hvo : ones vs = true := by
        have h1 := ones_flatten he
        unfold ones at h1 ⊢
        rw [List.all_eq_true] at h1 ⊢
        intro w hw
        obtain ⟨j, hj, rfl⟩ := List.getElem_of_mem hw
        have := hvj j (by omega)
        rw [List.getElem?_eq_getElem hj] at this
        exact h1 _ (List.mem_of_getElem? this.symm)
      refine ⟨setAll rc (o + p) vs, A.set b (.row (setAll rc (o + p) vs) .own sz ex), ?_, List.getElem?_set_self hbl, setAll_length _ _ _ (by omega), fun j hj => ?_, by simp, fun k bl h hk => by rw [List.getElem?_set_ne (Ne.symm hk)]; exact h⟩
      · unfold sApp
        simp only
        rw [rd_row k3 (by decide) (by omega) (by rw [hkz]; omega), Option.bind_some, ← hvs]
        have hI : appI A (.slice (some ⟨b, o, none⟩) i c) vs (n - (i + 1)) sz bytes = some (.slice (some ⟨b, o, none⟩) (i + (n - (i + 1))) c, A.set b (.row (setAll rc (o + i * sz) vs) .own sz ex)) := by
          unfold appI
          simp only [k3]
          have hx1 : o + (i + (n - (i + 1))) * sz ≤ rc.length := by rw [show i + (n - (i + 1)) = n - 1 by omega, n1q]; omega
          have hx2 : 2 * ((i + (n - (i + 1))) * bytes) ≤ 2 ^ 48 := by
            rw [show i + (n - (i + 1)) = n - 1 by omega]
            have : (n - 1) * bytes ≤ n * bytes := Nat.mul_le_mul_right _ (by omega)
            omega
          rw [if_pos ⟨by omega, trivial, hsz0, by omega, hx1, hx2, hb0, by rw [hvl, hkz], hvo⟩]
        unfold appA
        rw [hI, show i + (n - (i + 1)) = n - 1 by omega, hp]
        rfl
      · rw [setAll_getX _ _ _ (by omega), hvl]
        by_cases j1 : j < p
        · rw [if_neg (by omega), if_pos j1]
          exact k5 j (by omega)
        · rw [if_pos (by omega), if_neg j1, hvj _ (by omega)]
          congr 1; omega
  have s3 : sSll B1 (.slice (some ⟨b, o, none⟩) (n - 1) c) (some (.int .i64 ((n - 1 : Nat) : Int))) (some (.int .i64 (n : Int))) none sz = some (.slice (some ⟨b, o + (q - sz), none⟩) 1 (c - (n - 1)), B1) := by
    unfold sSll
    have hb : boundsA (n - 1) c (some (.int .i64 ((n - 1 : Nat) : Int))) (some (.int .i64 (n : Int))) none = some (n - 1, n, c) := by
      unfold boundsA
      simp only [Option.bind_some, asI]
      rw [if_pos ⟨by omega, by omega⟩]
      simp only [Option.bind_some]
      rw [if_pos ⟨by omega, by omega⟩]
      simp
    simp only [hb, Option.bind_some, rowSz, c1]
    rw [if_neg (by simp), if_neg (by simp), if_pos ⟨trivial, rfl⟩, n1q, show n - (n - 1) = 1 by omega]
  have hcl : sClr B1 (.slice (some ⟨b, o + (q - sz), none⟩) 1 (c - (n - 1))) z = some (undef, B1.set b (.row (setAll rc1 (o + (q - sz)) z) .own sz ex)) := by
    unfold sClr
    simp only
    have e1 : (List.replicate (0 + 1) z).flatten = z := by simp
    rw [e1]
    unfold wr
    simp only [c1]
    rw [if_pos ⟨by rw [hz, c2]; omega, hz1⟩]
    rfl
  have hfin := hq (.slice (some ⟨b, o, none⟩) (n - 1) c) (B1.set b (.row (setAll rc1 (o + (q - sz)) z) .own sz ex)) ?_ ⟨?_, ?_⟩ ⟨by simp; omega, ?_⟩ (fun j hj => hj)
  rotate_left
  · have hlen := hl.len
    refine Le.of_get (fun k hk => ?_) (by simp; omega)
    have hk2 : A0[k]? = some A0[k] := List.getElem?_eq_getElem hk
    rw [List.getElem?_set_ne (by omega), hk2]
    exact c5 k _ (hl.get hk2) (by omega)
  · intro y hy
    rw [List.mem_append] at hy
    rcases hy with hy | hy
    · exact he y (List.mem_of_mem_take hy)
    · exact he y (List.mem_of_mem_drop hy)
  · have hlen2 : (es.take i ++ es.drop (i + 1)).length = n - 1 := by rw [List.length_append, List.length_take, List.length_drop]; omega
    have hok : ∀ y ∈ es.take i ++ es.drop (i + 1), y.length = sz ∧ ones y = true := by
      intro y hy
      rw [List.mem_append] at hy
      rcases hy with hy | hy
      · exact he y (List.mem_of_mem_take hy)
      · exact he y (List.mem_of_mem_drop hy)
    refine ⟨flatL hok, .inr (.inr ⟨b, o, c, setAll rc1 (o + (q - sz)) z, ex, by rw [hlen2], by omega, k2, List.getElem?_set_self (by omega), ?_, fun j hj => ?_⟩)⟩
    · rw [hlen2, n1q, setAll_length _ _ _ (by rw [hz, c2]; omega), c2]
      omega
    · rw [hlen2, n1q] at hj
      rw [flat_del he (by omega) hp (by rw [hqq, hn]) j hj, setAll_getX _ _ _ (by omega), if_neg (by omega)]
      exact c3 j hj
  · intro k bl hk hkv
    have hkb : k ≠ b := fun h => hkv (by rw [h]; simp [blkOf])
    rw [List.getElem?_set_ne (Ne.symm hkb)]
    exact c5 k bl hk hkb
  refine ACalls.of_fits hm hfit rfl ?_
  unfold icG_delete
  have i0 : initA [.slice (some ⟨b, o, none⟩) n c, .int .i64 (i : Int), .int .i64 ((i : Int) + 1)] 0 = .slice (some ⟨b, o, none⟩) n c := rfl
  have i1 : initA [.slice (some ⟨b, o, none⟩) n c, .int .i64 (i : Int), .int .i64 ((i : Int) + 1)] 1 = .int .i64 (i : Int) := rfl
  have i2 : initA [.slice (some ⟨b, o, none⟩) n c, .int .i64 (i : Int), .int .i64 ((i : Int) + 1)] 2 = .int .i64 ((i : Int) + 1) := rfl
  generalize initA [.slice (some ⟨b, o, none⟩) n c, .int .i64 (i : Int), .int .i64 ((i : Int) + 1)] = a at i0 i1 i2
  have ll1 : ∀ (B : AH) (p : Option Addr) (n c : Nat), sLens B false (.slice p n c) = some (.int .i64 n, B) := fun _ _ _ _ => rfl
  simp (maxSteps := 1000000) (disch := omega) only [stepS, reduceIte, Nat.reduceBEq, Nat.reduceEqDiff, tupleOf, stepT, i0, i1, i2, ll1, s0, s1, s2, hap, s3, hcl]
  exact hfin
end
end Go.AS


namespace Go.AS.C
open Go Go.Proofs
set_option linter.unusedVariables false
set_option linter.unusedSimpArgs false
set_option maxRecDepth 10000

/-! Changes; many lists of them as one. -/
structure DeltaV where
  kind : Int
  name : ByteArray
  text : ByteArray
  n : Int
def deltaE (d : DeltaV) : List Value := [ii d.kind, .string d.name, .string d.text, ii d.n]
theorem deltaE_ok (l : List DeltaV) : ∀ e ∈ l.map deltaE, e.length = 4 ∧ ones e = true := by
  intro e he
  rw [List.mem_map] at he
  obtain ⟨w, _, rfl⟩ := he
  exact ⟨rfl, rfl⟩
def DeltasA (A : AH) (v : Value) (l : List DeltaV) : Prop := Sl A 4 v (l.map deltaE).length (l.map deltaE).flatten
theorem DeltasA.le {A B : AH} {v : Value} {l : List DeltaV} (h : DeltasA A v l) (hl : Le A B) : DeltasA B v l := Sl.le h hl
theorem DeltasA.len {A : AH} {v : Value} {l : List DeltaV} (h : DeltasA A v l) (B : AH) : sLens B false v = some (ii l.length, B) := by
  have := Sl.lenB h B
  rwa [List.length_map] at this
abbrev OwnD (a0 : Nat) (A : AH) (v : Value) (l : List DeltaV) : Prop := OwnE a0 A 4 v (l.map deltaE)
theorem OwnD.sl {a0 : Nat} {A : AH} {v : Value} {l : List DeltaV} (h : OwnD a0 A v l) : DeltasA A v l := h.2.sl
theorem grow_spec {A : AH} {n : Nat} {Q : Value → AH → Prop} (hn : n ≤ 2 ^ 30) (hq : ∀ v A', Le A A' → OwnD A.length A' v [] → Q v A') : ACalls 0 Try.prog api_Delta_41 [.slice none 0 0, ii n] Q A := by
  refine ACalls.of_fits mixed fits_api_Delta_41 rfl ?_
  unfold ic_api_Delta_41
  have i0 : initA [.slice none 0 0, ii n] 0 = .slice none 0 0 := rfl
  have i1 : initA [.slice none 0 0, ii n] 1 = ii n := rfl
  generalize initA [.slice none 0 0, ii n] = a at i0 i1
  have c3 : sLens A false (.slice none 0 0) = some (ii 0, A) := rfl
  by_cases h0 : n = 0
  · subst h0
    simp (maxSteps := 1000000) (disch := omega) only [stepS, reduceIte, Nat.reduceBEq, Nat.reduceEqDiff, tupleOf, stepT, i0, i1, c3]
    exact hq _ _ (.refl _) (OwnE.nil _ _ _)
  · have c6 : sSll A (.slice none 0 0) none (some (ii 0)) none 4 = some (.slice none 0 0, A) := rfl
    obtain ⟨v', A', e1, e2, e3, _⟩ := app_own (A0 := A) (A := A) (v := .slice none 0 0) (new := (List.replicate n [Value.int .i64 0, .string ⟨#[]⟩, .string ⟨#[]⟩, .int .i64 0]).flatten) (k := n) (bytes := 48) (.refl _) (OwnS.nil A.length A 4) (by omega) (by omega) (by omega) (by simp) (by
      unfold ones
      rw [List.all_eq_true]
      intro x hx
      rw [List.mem_flatten] at hx
      obtain ⟨l, hl, hx⟩ := hx
      obtain rfl := List.eq_of_mem_replicate hl
      simp only [List.mem_cons, List.not_mem_nil, or_false] at hx
      rcases hx with rfl | rfl | rfl | rfl <;> rfl)
    have c7 : sAppz A (.slice none 0 0) (ii n) [.int .i64 0, .string ⟨#[]⟩, .string ⟨#[]⟩, .int .i64 0] 48 = some (v', A') := by
      rw [appz_eq (by omega), Int.toNat_natCast]
      exact e1
    have c8 : ∃ u, sSll A' v' none (some (ii ((0 : Nat) : Int))) none 4 = some (u, A') ∧ OwnD A.length A' u [] := by
      obtain ⟨f0, f⟩ := e3
      rcases f with ⟨rfl, f⟩ | ⟨rfl, f⟩ | ⟨i, o, c, rc, ex, rfl, f1, f2, f3, f4, f5⟩
      · omega
      · omega
      · refine ⟨.slice (some ⟨i, o, none⟩) 0 c, sll_hi (k := 0) f3 (by omega) rfl, (fun e h => by cases h), by simp, .inr (.inr ⟨i, o, c, rc, ex, rfl, by simp, f2, f3, by simp; omega, fun j hj => by simp at hj⟩)⟩
    obtain ⟨u, c8, c9⟩ := c8
    have z : ((n : Nat) : Int) - (0 - 0) = n := by omega
    have c7b : sAppz A (.slice none 0 0) (ii (((n : Nat) : Int) - (0 - 0))) [.int .i64 0, .string ⟨#[]⟩, .string ⟨#[]⟩, .int .i64 0] 48 = some (v', A') := by rw [z]; exact c7
    simp (maxSteps := 1000000) (disch := omega) only [stepS, reduceIte, Nat.reduceBEq, Nat.reduceEqDiff, tupleOf, stepT, i0, i1, c3, c6, c7b, c8]
    exact hq _ _ e2 c9
theorem concat_spec {A : AH} {v : Value} {vs : List Value} {ls : List (List DeltaV)} {Q : Value → AH → Prop} (hv : Sl A 1 v vs.length vs) (hn : vs.length = ls.length)
    (hb : ∀ (j : Nat) x l, vs[j]? = some x → ls[j]? = some l → DeltasA A x l) (hl : ls.flatten.length ≤ 2 ^ 30) (hc : ls.length ≤ 2 ^ 30) (hq : ∀ v A', Le A A' → OwnD A.length A' v ls.flatten → Q v A') :
    ACalls 0 Try.prog api_Delta [v] Q A := by
  refine ACalls.of_fits mixed fits_api_Delta rfl ?_
  unfold ic_api_Delta
  have i0 : initA [v] 0 = v := rfl
  generalize initA [v] = a at i0
  have hvl : ∀ B, sLens B false v = some (ii vs.length, B) := Sl.lenB hv
  simp (maxSteps := 1000000) (disch := omega) only [stepS, reduceIte, Nat.reduceBEq, Nat.reduceEqDiff, tupleOf, stepT, i0, hvl]
  refine W_loop (fun a' A' => A' = A ∧ ∃ k : Nat, k ≤ ls.length ∧ a' 0 = v ∧ a' 9 = v ∧ a' 10 = ii vs.length ∧ a' 11 = ii k ∧ a' 3 = ii (((ls.take k).flatten.length : Nat) : Int)) (fun a' _ => (ls.length - (iv (a' 11)).toNat)) ?_ ?_
  · refine ⟨rfl, 0, by omega, ?_⟩
    simp (maxSteps := 1000000) (disch := omega) only [stepS, reduceIte, Nat.reduceBEq, Nat.reduceEqDiff, tupleOf, stepT, i0]
    simp
  · rintro a A' ⟨rfl, k, hk, g0, g9, g10, g11, g3⟩
    rcases Nat.lt_or_ge k ls.length with hlt | hge
    · obtain ⟨x, hx⟩ : ∃ b, vs[k]? = some b := ⟨_, List.getElem?_eq_getElem (by omega)⟩
      obtain ⟨l, hl2⟩ : ∃ b, ls[k]? = some b := ⟨_, List.getElem?_eq_getElem hlt⟩
      obtain ⟨p, p1, p2⟩ := Sl.at1L hv hx
      have p3 := p2 A' (.refl _)
      have hll := (hb k x l hx hl2).len A'
      have hsu : (ls.take (k + 1)).flatten = (ls.take k).flatten ++ l := by rw [List.take_add_one, hl2]; simp
      have hle : (ls.take (k + 1)).flatten.length ≤ ls.flatten.length := by
        conv => rhs; rw [← List.take_append_drop (k + 1) ls]
        rw [List.flatten_append, List.length_append]; omega
      rw [hsu, List.length_append] at hle
      have hsl : (((ls.take (k + 1)).flatten.length : Nat) : Int) = ((ls.take k).flatten.length : Nat) + (l.length : Nat) := by rw [hsu, List.length_append]; simp
      simp (maxSteps := 1000000) (disch := omega) only [stepS, reduceIte, Nat.reduceBEq, Nat.reduceEqDiff, tupleOf, stepT, g0, g9, g10, g11, g3, p1, p3, hll]
      exact ⟨⟨k + 1, by omega, rfl, by rw [hsl]⟩, by omega⟩
    · have hk : k = ls.length := by omega
      subst hk
      rw [List.take_length] at g3
      simp (maxSteps := 1000000) (disch := omega) only [stepS, reduceIte, Nat.reduceBEq, Nat.reduceEqDiff, tupleOf, stepT, g0, g9, g10, g11, g3]
      refine grow_spec hl fun u A1 hle1 hown => ?_
      simp (maxSteps := 1000000) (disch := omega) only [stepS, reduceIte, Nat.reduceBEq, Nat.reduceEqDiff, tupleOf, stepT, g0, hvl]
      refine W_loop (fun a' B => ∃ k : Nat, k ≤ ls.length ∧ Le A' B ∧ a' 25 = v ∧ a' 26 = ii vs.length ∧ a' 27 = ii k ∧ OwnD A'.length B (a' 6) (ls.take k).flatten) (fun a' _ => (ls.length - (iv (a' 27)).toNat)) ?_ ?_
      · refine ⟨0, by omega, hle1, ?_⟩
        simp (maxSteps := 1000000) (disch := omega) only [stepS, reduceIte, Nat.reduceBEq, Nat.reduceEqDiff, tupleOf, stepT]
        simpa using hown
      · rintro a2 B ⟨k, hk, hle2, f25, f26, f27, f6⟩
        obtain ⟨y, f6e⟩ : ∃ y, a2 6 = y := ⟨_, rfl⟩
        rw [f6e] at f6
        rcases Nat.lt_or_ge k ls.length with hlt | hge
        · obtain ⟨x, hx⟩ : ∃ b, vs[k]? = some b := ⟨_, List.getElem?_eq_getElem (by omega)⟩
          obtain ⟨l, hl2⟩ : ∃ b, ls[k]? = some b := ⟨_, List.getElem?_eq_getElem hlt⟩
          obtain ⟨p, p1, p2⟩ := Sl.at1L hv hx
          have p3 := p2 B hle2
          have hsu : (ls.take (k + 1)).flatten = (ls.take k).flatten ++ l := by rw [List.take_add_one, hl2]; simp
          have hle : (ls.take (k + 1)).flatten.length ≤ ls.flatten.length := by
            conv => rhs; rw [← List.take_append_drop (k + 1) ls]
            rw [List.flatten_append, List.length_append]; omega
          rw [hsu, List.length_append] at hle
          obtain ⟨v', B', q1, q2, q3, _⟩ := OwnE.app (bytes := 48) hle2 f6 ((hb k x l hx hl2).le hle2) (deltaE_ok l) (by decide) (by rw [List.length_map, List.length_map]; omega) (by decide)
          simp (maxSteps := 1000000) (disch := omega) only [stepS, reduceIte, Nat.reduceBEq, Nat.reduceEqDiff, tupleOf, stepT, f25, f26, f27, f6e, p1, p3, q1]
          refine ⟨⟨k + 1, by omega, q2, rfl, ?_⟩, by omega⟩
          rw [hsu]
          show OwnE _ _ 4 _ (((ls.take k).flatten ++ l).map deltaE)
          rw [List.map_append]
          exact q3
        · have hk : k = ls.length := by omega
          subst hk
          rw [List.take_length] at f6
          simp (maxSteps := 1000000) (disch := omega) only [stepS, reduceIte, Nat.reduceBEq, Nat.reduceEqDiff, tupleOf, stepT, f25, f26, f27, f6e]
          exact hq _ _ hle2 f6
end Go.AS.C


namespace Go.AS.C
open Go Go.Proofs
set_option linter.unusedVariables false
set_option linter.unusedSimpArgs false
set_option maxRecDepth 10000

/-- slices.BinarySearchFunc, what is sought being a struct of two cells. -/
theorem bs2_spec {A : AH} {v fv c0 c1 : Value} {Q : Value → AH → Prop} {dom lt eq : List Value → Prop} {f : FuncId} (hf : Fits Try.prog 0 f ic_api_Count_42 [.tmp 6, .tmp 7] 3) (o0 : c0.oneCell' = true) (o1 : c1.oneCell' = true) (hc : CmpT 0 Try.prog fv (.agg #[c0, c1]) dom lt eq) {es : List (List Value)} (hv : Sl A 2 v es.length es.flatten) (hok : ∀ e ∈ es, e.length = 2 ∧ ones e = true) (hd : ∀ x ∈ es, dom x) (hl : es.length < 1152921504606846976) {p : Nat} (hp : p ≤ es.length)
    (h1 : ∀ j e, j < p → es[j]? = some e → lt e) (h2 : ∀ j e, p ≤ j → es[j]? = some e → ¬ lt e) (hq : ∀ A' b, Le A A' → (b = true ↔ ∃ e, es[p]? = some e ∧ eq e) → Q (.tuple #[ii (p : Nat), .bool b]) A') : ACalls 0 Try.prog f [v, .agg #[c0, c1], fv] Q A := by
  refine ACalls.of_fits mixed hf rfl ?_
  unfold ic_api_Count_42
  have i0 : initA [v, .agg #[c0, c1], fv] 0 = v := rfl
  have i1 : initA [v, .agg #[c0, c1], fv] 1 = .agg #[c0, c1] := rfl
  have i2 : initA [v, .agg #[c0, c1], fv] 2 = fv := rfl
  generalize initA [v, .agg #[c0, c1], fv] = r at i0 i1 i2
  have hvl := hv.lenB
  refine W_mid (fun r B => B = A ++ [.row [c0, c1] .own 0 true] ∧ r 0 = v ∧ r 2 = fv ∧ r 4 = ptr A.length) ?_ ?_
  · simp (maxSteps := 1000000) (disch := omega) only [stepS, reduceIte, Nat.reduceBEq, Nat.reduceEqDiff, tupleOf, stepT, stepX, heapR, lensR, Nat.reduceAdd, Nat.reduceLeDiff, i0, i1, i2, o0, o1]
  clear i0 i1 i2
  rintro r A0 ⟨hB, i0, i2, i4⟩
  have k0 : Le A A0 := by rw [hB]; exact .push _ _
  have r1 : rowAt A0 A.length = some ([c0, c1], .own, 0, true) := by rw [hB]; exact rowAt_own (get_last _ _)
  clear hB
  simp (maxSteps := 1000000) (disch := omega) only [stepS, reduceIte, Nat.reduceBEq, Nat.reduceEqDiff, tupleOf, stepT, stepX, heapR, lensR, Nat.reduceAdd, Nat.reduceLeDiff, i0, i2, i4, hvl]
  refine W_loop (fun r' B => ∃ c d : Nat, c ≤ p ∧ p ≤ d ∧ d ≤ es.length ∧ Le A0 B ∧ r' 0 = v ∧ r' 4 = ptr A.length ∧ r' 2 = fv ∧ r' 8 = ii es.length ∧ r' 9 = ii (c : Nat) ∧ r' 10 = ii (d : Nat)) (fun r' _ => (iv (r' 10)).toNat - (iv (r' 9)).toNat) ?_ ?_
  · refine ⟨0, es.length, by omega, hp, Nat.le_refl _, .refl _, ?_⟩
    simp (maxSteps := 1000000) (disch := omega) only [stepS, reduceIte, Nat.reduceBEq, Nat.reduceEqDiff, tupleOf, stepT, stepX, heapR, lensR, Nat.reduceAdd, Nat.reduceLeDiff, i0, i2, i4]
    (all_goals (and_intros <;> first | rfl | assumption | (push_cast; rfl) | (congr 1; omega) | omega | (simp; done)))
  · clear i0 i2 i4
    rintro r B ⟨c, d, hc1, hd1, hdl, hle, g0, g1, g2, g8, g9, g10⟩
    have r2 := hle.row r1
    rcases Nat.lt_or_ge c d with hlt | hge
    · obtain ⟨e, he⟩ := get_some (l := es) (k := (c + d) / 2) (by omega)
      obtain ⟨q, _, q1, q2, _⟩ := (hv.le (k0.trans hle)).el hok he
      simp (maxSteps := 1000000) (disch := omega) only [stepS, reduceIte, Nat.reduceBEq, Nat.reduceEqDiff, tupleOf, stepT, stepX, heapR, lensR, Nat.reduceAdd, Nat.reduceLeDiff, g0, g1, g2, g8, g9, g10, convU, convS, half, q1, q2, r2, o0, o1]
      refine hc _ e _ (hd e (List.mem_of_getElem? he)) fun B2 n k2 hn _ => ?_
      by_cases hx : lt e
      · have hn0 : n < 0 := hn.2 hx
        have hpp : (c + d) / 2 < p := by
          rcases Nat.lt_or_ge ((c + d) / 2) p with h | h
          · exact h
          · exact absurd hx (h2 _ _ h he)
        simp (maxSteps := 1000000) (disch := omega) only [stepS, reduceIte, Nat.reduceBEq, Nat.reduceEqDiff, tupleOf, stepT, stepX, heapR, lensR, Nat.reduceAdd, Nat.reduceLeDiff, g0, g1, g2, g8, g9, g10, hn0]
        refine ⟨⟨(c + d) / 2 + 1, d, by omega, hd1, hdl, hle.trans k2, ?_⟩, by omega⟩
        (all_goals (and_intros <;> first | rfl | assumption | (push_cast; rfl) | (congr 1; omega) | omega | (simp; done)))
      · have hn0 : ¬ n < 0 := fun h => hx (hn.1 h)
        have hpp : p ≤ (c + d) / 2 := by
          rcases Nat.lt_or_ge ((c + d) / 2) p with h | h
          · exact absurd (h1 _ _ h he) hx
          · exact h
        simp (maxSteps := 1000000) (disch := omega) only [stepS, reduceIte, Nat.reduceBEq, Nat.reduceEqDiff, tupleOf, stepT, stepX, heapR, lensR, Nat.reduceAdd, Nat.reduceLeDiff, g0, g1, g2, g8, g9, g10, hn0]
        refine ⟨⟨c, (c + d) / 2, hc1, hpp, by omega, hle.trans k2, ?_⟩, by omega⟩
        (all_goals (and_intros <;> first | rfl | assumption | (push_cast; rfl) | (congr 1; omega) | omega | (simp; done)))
    · have hcp : c = p := by omega
      subst hcp
      rcases Nat.lt_or_ge c es.length with hlt2 | hge2
      · obtain ⟨e, he⟩ := get_some (l := es) (k := c) hlt2
        obtain ⟨q, _, q1, q2, _⟩ := (hv.le (k0.trans hle)).el hok he
        simp (maxSteps := 1000000) (disch := omega) only [stepS, reduceIte, Nat.reduceBEq, Nat.reduceEqDiff, tupleOf, stepT, stepX, heapR, lensR, Nat.reduceAdd, Nat.reduceLeDiff, g0, g1, g2, g8, g9, g10, q1, q2, r2, o0, o1]
        refine hc _ e _ (hd e (List.mem_of_getElem? he)) fun B2 n k2 _ hn => ?_
        simp (maxSteps := 1000000) (disch := omega) only [stepS, reduceIte, Nat.reduceBEq, Nat.reduceEqDiff, tupleOf, stepT, stepX, heapR, lensR, Nat.reduceAdd, Nat.reduceLeDiff, g0, g1, g2, g8, g9, g10]
        refine hq _ _ (k0.trans (hle.trans k2)) ?_
        rw [decide_eq_true_eq, hn]
        constructor
        · intro h; exact ⟨e, he, h⟩
        · rintro ⟨e', he', h⟩; rw [he] at he'; injection he' with he'; subst he'; exact h
      · simp (maxSteps := 1000000) (disch := omega) only [stepS, reduceIte, Nat.reduceBEq, Nat.reduceEqDiff, tupleOf, stepT, stepX, heapR, lensR, Nat.reduceAdd, Nat.reduceLeDiff, g0, g1, g2, g8, g9, g10]
        refine hq _ _ (k0.trans hle) ⟨(fun h => by cases h), ?_⟩
        rintro ⟨e, he, _⟩
        have := lt_of_get he; omega
end Go.AS.C


namespace Go.AS.C
open Go Go.Proofs
set_option linter.unusedVariables false
set_option linter.unusedSimpArgs false
set_option maxRecDepth 10000

/-! Rising lists, and where a thing stands in them. -/
structure Ord3 {α : Type} (lt eq : α → α → Prop) : Prop where
  tr : ∀ {a b c}, lt a b → lt b c → lt a c
  rf : ∀ a, eq a a
  ne : ∀ {a b}, eq a b → ¬ lt a b
  le : ∀ {a b c}, lt a b → eq b c → lt a c
theorem kl_trans {a b c : List UInt8} (h : a < b) (k : b < c) : a < c := List.lt_trans h k
theorem ordC : Ord3 ltC eqCn := ⟨fun h k => kl_trans h k, fun _ => rfl, fun h k => by unfold eqCn at h; unfold ltC at k; rw [h] at k; exact kl_irr _ k, fun h k => by unfold eqCn at k; unfold ltC at *; rw [← k]; exact h⟩
theorem ordN : Ord3 ltN eqN := ⟨fun h k => kl_trans h k, fun _ => rfl, fun h k => by unfold eqN at h; unfold ltN at k; rw [h] at k; exact kl_irr _ k, fun h k => by unfold eqN at k; unfold ltN at *; rw [← k]; exact h⟩
theorem ordW : Ord3 ltWd (fun a b => a = b) := by
  refine ⟨?_, fun _ => rfl, ?_, fun h k => by rw [← k]; exact h⟩
  · rintro a b c (h | ⟨h1, h2⟩) (k | ⟨k1, k2⟩)
    · exact .inl (kl_trans h k)
    · exact .inl (by rw [← k1]; exact h)
    · exact .inl (by rw [h1]; exact k)
    · exact .inr ⟨h1.trans k1, kl_trans h2 k2⟩
  · rintro a b rfl (h | h)
    · exact kl_irr _ h
    · exact kl_irr _ h.2
section
variable {α : Type} {lt eq : α → α → Prop} {l : List α}
theorem adj_lt (h : Adj lt l) (o : Ord3 lt eq) : ∀ (d i : Nat) x y, l[i]? = some x → l[i + 1 + d]? = some y → lt x y
  | 0, i, x, y, hx, hy => h i x y hx hy
  | d + 1, i, x, y, hx, hy => by
    obtain ⟨z, hz⟩ := get_some (l := l) (k := i + 1 + d) (by have := lt_of_get hy; omega)
    exact o.tr (adj_lt h o d i x z hx hz) (h _ z y hz hy)
theorem adj_lt' (h : Adj lt l) (o : Ord3 lt eq) {i j : Nat} {x y : α} (hij : i < j) (hx : l[i]? = some x) (hy : l[j]? = some y) : lt x y :=
  adj_lt h o (j - (i + 1)) i x y hx (by rw [show i + 1 + (j - (i + 1)) = j by omega]; exact hy)
theorem pos_ex (h : Adj lt l) (o : Ord3 lt eq) (t : α) : ∃ p, p ≤ l.length ∧ (∀ j e, j < p → l[j]? = some e → lt e t) ∧ (∀ j e, p ≤ j → l[j]? = some e → ¬ lt e t) := by
  have : ∀ k, k ≤ l.length → ∃ p, p ≤ k ∧ (∀ j e, j < p → l[j]? = some e → lt e t) ∧ (p = k ∨ ∃ e, l[p]? = some e ∧ ¬ lt e t) := by
    intro k
    induction k with
    | zero => intro _; exact ⟨0, Nat.le_refl _, fun j e h => absurd h (Nat.not_lt_zero _), .inl rfl⟩
    | succ k ih =>
      intro hk
      obtain ⟨p, h1, h2, h3⟩ := ih (by omega)
      rcases h3 with rfl | h3
      · obtain ⟨e, he⟩ := get_some (l := l) (k := p) (by omega)
        by_cases hlt : lt e t
        · refine ⟨p + 1, Nat.le_refl _, fun j e' hj he' => ?_, .inl rfl⟩
          rcases Nat.lt_or_ge j p with h | h
          · exact h2 j e' h he'
          · have : j = p := by omega
            subst this
            rw [he] at he'
            injection he' with he'
            rw [← he']; exact hlt
        · exact ⟨p, by omega, h2, .inr ⟨e, he, hlt⟩⟩
      · exact ⟨p, by omega, h2, .inr h3⟩
  obtain ⟨p, h1, h2, h3⟩ := this l.length (Nat.le_refl _)
  refine ⟨p, h1, h2, fun j e hj he => ?_⟩
  rcases h3 with rfl | ⟨e', he', hn⟩
  · have := lt_of_get he; omega
  · rcases Nat.eq_or_lt_of_le hj with rfl | hj
    · rw [he'] at he; injection he with he; rw [← he]; exact hn
    · exact fun hlt => hn (o.tr (adj_lt' h o hj he' he) hlt)
/-- What compares to t stands at its place alone. -/
theorem pos_at (h : Adj lt l) (o : Ord3 lt eq) {t y : α} {p j : Nat} (h1 : ∀ j e, j < p → l[j]? = some e → lt e t) (h2 : ∀ j e, p ≤ j → l[j]? = some e → ¬ lt e t) (hy : l[j]? = some y) (he : eq y t) : j = p := by
  have hge : p ≤ j := by
    rcases Nat.lt_or_ge j p with k | k
    · exact absurd (h1 j y k hy) (o.ne he)
    · exact k
  rcases Nat.eq_or_lt_of_le hge with k | k
  · exact k.symm
  · obtain ⟨z, hz⟩ := get_some (l := l) (k := p) (by have := lt_of_get hy; omega)
    exact absurd (o.le (adj_lt' h o k hz hy) he) (h2 p z (Nat.le_refl _) hz)
theorem pos_has (h : Adj lt l) (o : Ord3 lt eq) {t : α} {p : Nat} (h1 : ∀ j e, j < p → l[j]? = some e → lt e t) (h2 : ∀ j e, p ≤ j → l[j]? = some e → ¬ lt e t) : (∃ e, l[p]? = some e ∧ eq e t) ↔ ∃ y ∈ l, eq y t := by
  constructor
  · rintro ⟨e, he, k⟩; exact ⟨e, List.mem_of_getElem? he, k⟩
  · rintro ⟨y, hy, k⟩
    obtain ⟨j, hj⟩ := List.getElem?_of_mem hy
    obtain rfl := pos_at h o h1 h2 hj k
    exact ⟨y, hj, k⟩
theorem pos_mem (h : Adj lt l) (o : Ord3 lt eq) {t e : α} {p : Nat} (h1 : ∀ j e, j < p → l[j]? = some e → lt e t) (h2 : ∀ j e, p ≤ j → l[j]? = some e → ¬ lt e t) (he : l[p]? = some e) : t ∈ l ↔ e = t := by
  constructor
  · intro hm
    obtain ⟨j, hj⟩ := List.getElem?_of_mem hm
    obtain rfl := pos_at h o h1 h2 hj (o.rf t)
    rw [he] at hj; injection hj
  · rintro rfl; exact List.mem_of_getElem? he
end
/-- slices.BinarySearchFunc over a rising list. -/
theorem bsA_spec {α : Type} {f : FuncId} {fv w : Value} {enc : α → List Value} {lt eq : α → α → Prop} {A : AH} {b : List α} {t : α} {Q : Value → AH → Prop} (hf : Fits Try.prog 0 f ic_api_Count_42 [.tmp 6, .tmp 7] 3) (he : ∀ x, (enc x).length = 2 ∧ ones (enc x) = true) (hi : ∀ x y, enc x = enc y → x = y) (hc : CmpA fv enc lt eq) (o : Ord3 lt eq)
    (hw : Sl A 2 w (b.map enc).length (b.map enc).flatten) (hl : b.length < 2 ^ 50) (hb : Adj lt b)
    (hq : ∀ A' p h, Le A A' → p ≤ b.length → (∀ j e, j < p → b[j]? = some e → lt e t) → (∀ j e, p ≤ j → b[j]? = some e → ¬ lt e t) → (h = true ↔ ∃ y ∈ b, eq y t) → (h = true ↔ ∃ e, b[p]? = some e ∧ eq e t) → Q (.tuple #[ii (p : Nat), .bool h]) A') : ACalls 0 Try.prog f [w, .agg (enc t).toArray, fv] Q A := by
  obtain ⟨p, p0, p1, p2⟩ := pos_ex hb o t
  obtain ⟨c0, c1, hte⟩ : ∃ c0 c1, enc t = [c0, c1] := by
    have := (he t).1
    match h : enc t, this with
    | [c0, c1], _ => exact ⟨c0, c1, rfl⟩
  have ho := (he t).2
  rw [hte] at ho ⊢
  have o0 : c0.oneCell' = true := by unfold ones at ho; simp at ho; exact ho.1
  have o1 : c1.oneCell' = true := by unfold ones at ho; simp at ho; exact ho.2
  refine bs2_spec (dom := fun x => ∃ y, x = enc y) (lt := fun x => ∃ y, x = enc y ∧ lt y t) (eq := fun x => ∃ y, x = enc y ∧ eq y t) hf o0 o1 ?_ hw ?_ ?_ (by rw [List.length_map]; omega) (p := p) (by rw [List.length_map]; exact p0) ?_ ?_ ?_
  · rintro B x Q' ⟨y, rfl⟩ hq'
    rw [← show (Value.agg (enc t).toArray) = .agg #[c0, c1] by rw [hte]]
    refine hc B y t Q' fun A' n k1 k2 k3 _ _ => hq' A' n k1 (k2.trans ⟨fun h => ⟨y, rfl, h⟩, ?_⟩) (k3.trans ⟨fun h => ⟨y, rfl, h⟩, ?_⟩)
    · rintro ⟨z, hz, h⟩; rw [hi _ _ hz]; exact h
    · rintro ⟨z, hz, h⟩; rw [hi _ _ hz]; exact h
  · intro e h; rw [List.mem_map] at h; obtain ⟨y, _, rfl⟩ := h; exact he y
  · intro e h; rw [List.mem_map] at h; obtain ⟨y, _, rfl⟩ := h; exact ⟨y, rfl⟩
  · intro j e hj hje
    rw [List.getElem?_map] at hje
    obtain ⟨y, hy, rfl⟩ := Option.map_eq_some_iff.1 hje
    exact ⟨y, rfl, p1 j y hj hy⟩
  · intro j e hj hje
    rw [List.getElem?_map] at hje
    obtain ⟨y, hy, rfl⟩ := Option.map_eq_some_iff.1 hje
    rintro ⟨z, hz, h⟩
    rw [← hi _ _ hz] at h
    exact p2 j y hj hy h
  · intro A' h k1 k2
    have k3 : h = true ↔ ∃ e, b[p]? = some e ∧ eq e t := by
      rw [k2]
      constructor
      · rintro ⟨e, h1, z, rfl, h2⟩
        rw [List.getElem?_map] at h1
        obtain ⟨y, hy, h3⟩ := Option.map_eq_some_iff.1 h1
        rw [hi _ _ h3] at hy
        exact ⟨z, hy, h2⟩
      · rintro ⟨e, h1, h2⟩
        exact ⟨enc e, by rw [List.getElem?_map, h1]; rfl, e, rfl, h2⟩
    exact hq A' p h k1 p0 p1 p2 (k3.trans (pos_has hb o p1 p2)) k3
theorem bsB_spec {α : Type} {f : FuncId} {fv w : Value} {enc : α → List Value} {lt eq : α → α → Prop} {A : AH} {b : List α} {t : α} {cs : List Value} {Q : Value → AH → Prop} (hf : Fits Try.prog 0 f ic_api_Count_42 [.tmp 6, .tmp 7] 3) (he : ∀ x, (enc x).length = 2 ∧ ones (enc x) = true) (hi : ∀ x y, enc x = enc y → x = y) (hc : CmpA fv enc lt eq) (o : Ord3 lt eq)
    (hcs : enc t = cs) (hw : Sl A 2 w (b.map enc).length (b.map enc).flatten) (hl : b.length < 2 ^ 50) (hb : Adj lt b)
    (hq : ∀ A' p h, Le A A' → p ≤ b.length → (∀ j e, j < p → b[j]? = some e → lt e t) → (∀ j e, p ≤ j → b[j]? = some e → ¬ lt e t) → (h = true ↔ ∃ y ∈ b, eq y t) → (h = true ↔ ∃ e, b[p]? = some e ∧ eq e t) → Q (.tuple #[ii (p : Nat), .bool h]) A') : ACalls 0 Try.prog f [w, .agg cs.toArray, fv] Q A := by
  subst hcs
  exact bsA_spec hf he hi hc o hw hl hb hq
end Go.AS.C


namespace Go.AS.C
open Go Go.Proofs
set_option linter.unusedVariables false
set_option linter.unusedSimpArgs false
set_option maxRecDepth 10000

/-! What a function makes of those of a list that another one lacks. -/
def TellC {α : Type} (A0 : AH) (fv : Value) (enc : α → List Value) (d : α → DeltaV) : Prop :=
  ∀ (A : AH) (x : α) (Q : Value → AH → Prop), Le A0 A → (∀ A', Le A A' → Q (.agg (deltaE (d x)).toArray) A') → callD fv 0 Try.prog [.agg (enc x).toArray] Q A
theorem callD_cs {α : Type} {fv : Value} {enc : α → List Value} {x : α} {cs : List Value} {A : AH} {Q : Value → AH → Prop} (h : enc x = cs) (k : callD fv 0 Try.prog [.agg (enc x).toArray] Q A) : callD fv 0 Try.prog [.agg cs.toArray] Q A := by rw [← h]; exact k
theorem deltaE_enc (x : DeltaV) : (deltaE x).length = 4 ∧ ones (deltaE x) = true := ⟨rfl, rfl⟩
theorem sl_one {sz : Nat} (A : AH) {e : List Value} (he : e.length = sz) (hz : 0 < sz) : Sl (A ++ [.row e .own sz true]) sz (.slice (some ⟨A.length, 0, none⟩) 1 1) [e].length [e].flatten := by
  refine ⟨by simp [he], .inr (.inr ⟨A.length, 0, 1, e, .own, true, rfl, Nat.le_refl _, get_last _ _, St.noConfusion, by simp [he], fun j hj => by simp⟩)⟩
set_option maxHeartbeats 2000000 in
theorem lessC_spec {α : Type} {fv tv v w : Value} {enc : α → List Value} {lt eq : α → α → Prop} {equal : Bool} {d : α → DeltaV} {keep : α → Bool} {A : AH} {a b : List α} {Q : Value → AH → Prop}
    (he : ∀ x, (enc x).length = 2 ∧ ones (enc x) = true) (hi : ∀ x y, enc x = enc y → x = y) (hc : CmpA fv enc lt eq) (o : Ord3 lt eq) (ht : TellC A tv enc d)
    (hv : Sl A 2 v (a.map enc).length (a.map enc).flatten) (hw : Sl A 2 w (b.map enc).length (b.map enc).flatten) (hla : a.length ≤ 2 ^ 30) (hlb : b.length < 2 ^ 50) (hb : Adj lt b)
    (hag : ∀ (B : AH) x y, x ∈ b → y ∈ a → (x = y → sEqagg B true (Try.prog.keyLits 8 40) (.agg (enc x).toArray) (.agg (enc y).toArray) = some (.bool false, B)) ∧ (x ≠ y → sEqagg B true (Try.prog.keyLits 8 40) (.agg (enc x).toArray) (.agg (enc y).toArray) = some (.bool true, B)))
    (hk : ∀ x ∈ a, keep x = true ↔ (¬ ∃ y ∈ b, eq y x) ∨ (equal = true ∧ ¬ x ∈ b))
    (hq : ∀ u A', Le A A' → OwnD A.length A' u ((a.filter keep).map d) → Q u A') : ACalls 0 Try.prog api_Count [v, w, fv, .bool equal, tv] Q A := by
  refine ACalls.of_fits mixed fits_api_Count rfl ?_
  unfold ic_api_Count
  have i0 : initA [v, w, fv, .bool equal, tv] 0 = v := rfl
  have i1 : initA [v, w, fv, .bool equal, tv] 1 = w := rfl
  have i2 : initA [v, w, fv, .bool equal, tv] 2 = fv := rfl
  have i3 : initA [v, w, fv, .bool equal, tv] 3 = .bool equal := rfl
  have i4 : initA [v, w, fv, .bool equal, tv] 4 = tv := rfl
  generalize initA [v, w, fv, .bool equal, tv] = r at i0 i1 i2 i3 i4
  have hvl : ∀ B, sLens B false v = some (ii a.length, B) := fun B => by have := Sl.lenB hv B; rwa [List.length_map] at this
  simp (maxSteps := 1000000) (disch := omega) only [stepS, reduceIte, Nat.reduceBEq, Nat.reduceEqDiff, tupleOf, stepT, i0, hvl]
  refine W_loop (fun r' B => ∃ k : Nat, k ≤ a.length ∧ Le A B ∧ r' 1 = w ∧ r' 2 = fv ∧ r' 3 = .bool equal ∧ r' 4 = tv ∧ r' 16 = v ∧ r' 17 = ii a.length ∧ r' 18 = ii k ∧ OwnD A.length B (r' 11) (((a.take k).filter keep).map d)) (fun r' _ => a.length - (iv (r' 18)).toNat) ?_ ?_
  · refine ⟨0, by omega, .refl _, ?_⟩
    simp (maxSteps := 1000000) (disch := omega) only [stepS, reduceIte, Nat.reduceBEq, Nat.reduceEqDiff, tupleOf, stepT, i0, i1, i2, i3, i4]
    exact ⟨rfl, OwnE.nil _ _ _⟩
  · clear i0 i1 i2 i3 i4
    rintro r B ⟨k, hkl, hle, g1, g2, g3, g4, g16, g17, g18, g11⟩
    obtain ⟨z, g11e⟩ : ∃ z, r 11 = z := ⟨_, rfl⟩
    rw [g11e] at g11
    rcases Nat.lt_or_ge k a.length with hlt | hge
    · obtain ⟨x, hx⟩ := get_some (l := a) hlt
      obtain ⟨p, p1, p2⟩ := enc_at he hv hx
      have p2 := p2 B hle
      have hxa : x ∈ a := List.mem_of_getElem? hx
      have hsu : (a.take (k + 1)).filter keep = (a.take k).filter keep ++ [x].filter keep := by rw [List.take_add_one, hx]; simp [List.filter_append]
      obtain ⟨c0, c1, hxe⟩ : ∃ c0 c1, enc x = [c0, c1] := by
        have := (he x).1
        match h : enc x, this with
        | [c0, c1], _ => exact ⟨c0, c1, rfl⟩
      have ho := (he x).2
      rw [hxe] at ho
      have o0 : c0.oneCell' = true := by unfold ones at ho; simp at ho; exact ho.1
      have o1 : c1.oneCell' = true := by unfold ones at ho; simp at ho; exact ho.2
      rw [hxe] at p2
      obtain ⟨B1, hB1⟩ : ∃ B1, B1 = B ++ [.row [c0, c1] .own 0 true] := ⟨_, rfl⟩
      have k1 : Le B B1 := by rw [hB1]; exact .push _ _
      have r1 : rowAt B1 B.length = some ([c0, c1], .own, 0, true) := by rw [hB1]; exact rowAt_own (get_last _ _)
      simp (maxSteps := 1000000) (disch := omega) only [stepS, reduceIte, Nat.reduceBEq, Nat.reduceEqDiff, tupleOf, stepT, stepX, heapR, lensR, Nat.reduceAdd, Nat.reduceLeDiff, g1, g2, g3, g4, g16, g17, g18, g11e, p1, p2, o0, o1]
      have hset : (B ++ [Blk.row [.string ⟨#[]⟩, .int .i64 0] .own 0 true]).set B.length (.row [c0, c1] .own 0 true) = B1 := by rw [hB1]; simp
      rw [hset]
      clear hset hB1
      refine bsB_spec fits_api_Count_42 he hi hc o hxe (Sl.le hw (hle.trans k1)) hlb hb fun A' q h k2 q1 q2 q3 q4 q5 => ?_
      have r2 := k2.row r1
      have k3 : Le A A' := (hle.trans k1).trans k2
      have g11' := g11.le (k1.trans k2)
      cases h with
      | false =>
        have hkp : (¬ ∃ y ∈ b, eq y x) ∨ (equal = true ∧ ¬ x ∈ b) := .inl (fun e => by have := q4.2 e; cases this)
        have hf : True := trivial
        have hkt : keep x = true := (hk x hxa).2 hkp
        have hst : ((a.take (k + 1)).filter keep).map d = ((a.take k).filter keep).map d ++ [d x] := by rw [hsu, List.filter_cons_of_pos hkt, List.map_append]; rfl
        simp (maxSteps := 1000000) (disch := omega) only [stepS, reduceIte, Nat.reduceBEq, Nat.reduceEqDiff, tupleOf, stepT, stepX, heapR, lensR, Nat.reduceAdd, Nat.reduceLeDiff, g1, g2, g3, g4, g16, g17, g18, g11e, r2, o0, o1, hf]
        refine callD_cs hxe (ht A' x _ k3 fun A2 k4 => ?_)
        obtain ⟨v', A3, u1, u2, u3, _⟩ := OwnE.app (bytes := 48) ((k3.trans k4).trans (.push A2 (.row (deltaE (d x)) .own 4 true))) (g11'.le (k4.trans (.push _ _))) (x := .slice (some ⟨A2.length, 0, none⟩) 1 1) (fs := [deltaE (d x)]) (sl_one A2 (deltaE_enc (d x)).1 (by omega)) (by intro e hm; rw [List.mem_singleton] at hm; rw [hm]; exact deltaE_enc _) (by decide) (by rw [List.length_map, List.length_map]; have := List.length_filter_le keep (a.take k); rw [List.length_take] at this; simp only [List.length_cons, List.length_nil]; omega) (by decide)
        have hlit := litE (sz := 4) A2 (z := [.int .i64 0, .string ⟨#[]⟩, .string ⟨#[]⟩, .int .i64 0]) (e := deltaE (d x)) rfl (deltaE_enc _).1 (deltaE_enc _).2
        simp (maxSteps := 1000000) (disch := omega) only [stepS, reduceIte, Nat.reduceBEq, Nat.reduceEqDiff, tupleOf, stepT, stepX, heapR, lensR, Nat.reduceAdd, Nat.reduceLeDiff, g1, g2, g3, g4, g16, g17, g18, g11e, hlit, u1]
        refine ⟨⟨k + 1, by omega, u2, rfl, ?_⟩, by omega⟩
        rw [hst]
        show OwnE _ _ 4 _ ((((a.take k).filter keep).map d ++ [d x]).map deltaE)
        rw [List.map_append]
        exact u3
      | true =>
        have hex := q4.1 rfl
        cases equal with
        | false =>
          have hkn : ¬ ((¬ ∃ y ∈ b, eq y x) ∨ (false = true ∧ ¬ x ∈ b)) := by
            rintro (e | ⟨e, _⟩)
            · exact e hex
            · cases e
          have hf : True := trivial
          have hkt : ¬ keep x = true := fun e => hkn ((hk x hxa).1 e)
          have hst : ((a.take (k + 1)).filter keep).map d = ((a.take k).filter keep).map d := by rw [hsu, List.filter_cons_of_neg hkt]; simp
          simp (maxSteps := 1000000) (disch := omega) only [stepS, reduceIte, Nat.reduceBEq, Nat.reduceEqDiff, tupleOf, stepT, stepX, heapR, lensR, Nat.reduceAdd, Nat.reduceLeDiff, g1, g2, g3, g4, g16, g17, g18, g11e, r2, o0, o1, hf]
          refine ⟨⟨k + 1, by omega, k3, rfl, ?_⟩, by omega⟩
          rw [hst]
          exact g11'
        | true =>
          obtain ⟨e, he1, he2⟩ := q5.1 rfl
          have hmem := pos_mem hb o q2 q3 he1
          obtain ⟨bp, b1, b2⟩ := enc_at he hw he1
          have b2 := b2 A' k3
          have hag' := hag A' e x (List.mem_of_getElem? he1) hxa
          rw [hxe] at hag'
          by_cases hxy : e = x
          · have hf := hag'.1 hxy
            have hkn : ¬ ((¬ ∃ y ∈ b, eq y x) ∨ (true = true ∧ ¬ x ∈ b)) := by
              rintro (e | ⟨_, e⟩)
              · exact e hex
              · exact e (hmem.2 hxy)
            have hf := And.intro hf (And.intro b1 b2)
            have hkt : ¬ keep x = true := fun e => hkn ((hk x hxa).1 e)
            have hst : ((a.take (k + 1)).filter keep).map d = ((a.take k).filter keep).map d := by rw [hsu, List.filter_cons_of_neg hkt]; simp
            simp (maxSteps := 1000000) (disch := omega) only [stepS, reduceIte, Nat.reduceBEq, Nat.reduceEqDiff, tupleOf, stepT, stepX, heapR, lensR, Nat.reduceAdd, Nat.reduceLeDiff, g1, g2, g3, g4, g16, g17, g18, g11e, r2, o0, o1, hf]
            refine ⟨⟨k + 1, by omega, k3, rfl, ?_⟩, by omega⟩
            rw [hst]
            exact g11'
          · have hf := hag'.2 hxy
            have hkp : (¬ ∃ y ∈ b, eq y x) ∨ (true = true ∧ ¬ x ∈ b) := .inr ⟨rfl, fun e => hxy (hmem.1 e)⟩
            have hf := And.intro hf (And.intro b1 b2)
            have hkt : keep x = true := (hk x hxa).2 hkp
            have hst : ((a.take (k + 1)).filter keep).map d = ((a.take k).filter keep).map d ++ [d x] := by rw [hsu, List.filter_cons_of_pos hkt, List.map_append]; rfl
            simp (maxSteps := 1000000) (disch := omega) only [stepS, reduceIte, Nat.reduceBEq, Nat.reduceEqDiff, tupleOf, stepT, stepX, heapR, lensR, Nat.reduceAdd, Nat.reduceLeDiff, g1, g2, g3, g4, g16, g17, g18, g11e, r2, o0, o1, hf]
            refine callD_cs hxe (ht A' x _ k3 fun A2 k4 => ?_)
            obtain ⟨v', A3, u1, u2, u3, _⟩ := OwnE.app (bytes := 48) ((k3.trans k4).trans (.push A2 (.row (deltaE (d x)) .own 4 true))) (g11'.le (k4.trans (.push _ _))) (x := .slice (some ⟨A2.length, 0, none⟩) 1 1) (fs := [deltaE (d x)]) (sl_one A2 (deltaE_enc (d x)).1 (by omega)) (by intro e hm; rw [List.mem_singleton] at hm; rw [hm]; exact deltaE_enc _) (by decide) (by rw [List.length_map, List.length_map]; have := List.length_filter_le keep (a.take k); rw [List.length_take] at this; simp only [List.length_cons, List.length_nil]; omega) (by decide)
            have hlit := litE (sz := 4) A2 (z := [.int .i64 0, .string ⟨#[]⟩, .string ⟨#[]⟩, .int .i64 0]) (e := deltaE (d x)) rfl (deltaE_enc _).1 (deltaE_enc _).2
            simp (maxSteps := 1000000) (disch := omega) only [stepS, reduceIte, Nat.reduceBEq, Nat.reduceEqDiff, tupleOf, stepT, stepX, heapR, lensR, Nat.reduceAdd, Nat.reduceLeDiff, g1, g2, g3, g4, g16, g17, g18, g11e, hlit, u1]
            refine ⟨⟨k + 1, by omega, u2, rfl, ?_⟩, by omega⟩
            rw [hst]
            show OwnE _ _ 4 _ ((((a.take k).filter keep).map d ++ [d x]).map deltaE)
            rw [List.map_append]
            exact u3
    · have hk : k = a.length := by omega
      subst hk
      rw [List.take_length] at g11
      simp (maxSteps := 1000000) (disch := omega) only [stepS, reduceIte, Nat.reduceBEq, Nat.reduceEqDiff, tupleOf, stepT, g1, g2, g3, g4, g16, g17, g18, g11e]
      exact hq _ _ hle g11
end Go.AS.C


namespace Go.AS.C
open Go Go.Proofs
set_option linter.unusedVariables false
set_option linter.unusedSimpArgs false
set_option maxRecDepth 10000

set_option maxHeartbeats 2000000 in
theorem lessW_spec {α : Type} {fv tv v w : Value} {enc : α → List Value} {lt eq : α → α → Prop} {equal : Bool} {d : α → DeltaV} {keep : α → Bool} {A : AH} {a b : List α} {Q : Value → AH → Prop}
    (he : ∀ x, (enc x).length = 2 ∧ ones (enc x) = true) (hi : ∀ x y, enc x = enc y → x = y) (hc : CmpA fv enc lt eq) (o : Ord3 lt eq) (ht : TellC A tv enc d)
    (hv : Sl A 2 v (a.map enc).length (a.map enc).flatten) (hw : Sl A 2 w (b.map enc).length (b.map enc).flatten) (hla : a.length ≤ 2 ^ 30) (hlb : b.length < 2 ^ 50) (hb : Adj lt b)
    (hag : ∀ (B : AH) x y, x ∈ b → y ∈ a → (x = y → sEqagg B true (Try.prog.keyLits 8 42) (.agg (enc x).toArray) (.agg (enc y).toArray) = some (.bool false, B)) ∧ (x ≠ y → sEqagg B true (Try.prog.keyLits 8 42) (.agg (enc x).toArray) (.agg (enc y).toArray) = some (.bool true, B)))
    (hk : ∀ x ∈ a, keep x = true ↔ (¬ ∃ y ∈ b, eq y x) ∨ (equal = true ∧ ¬ x ∈ b))
    (hq : ∀ u A', Le A A' → OwnD A.length A' u ((a.filter keep).map d) → Q u A') : ACalls 0 Try.prog api_Word [v, w, fv, .bool equal, tv] Q A := by
  refine ACalls.of_fits mixed fits_api_Word rfl ?_
  unfold ic_api_Word
  have i0 : initA [v, w, fv, .bool equal, tv] 0 = v := rfl
  have i1 : initA [v, w, fv, .bool equal, tv] 1 = w := rfl
  have i2 : initA [v, w, fv, .bool equal, tv] 2 = fv := rfl
  have i3 : initA [v, w, fv, .bool equal, tv] 3 = .bool equal := rfl
  have i4 : initA [v, w, fv, .bool equal, tv] 4 = tv := rfl
  generalize initA [v, w, fv, .bool equal, tv] = r at i0 i1 i2 i3 i4
  have hvl : ∀ B, sLens B false v = some (ii a.length, B) := fun B => by have := Sl.lenB hv B; rwa [List.length_map] at this
  simp (maxSteps := 1000000) (disch := omega) only [stepS, reduceIte, Nat.reduceBEq, Nat.reduceEqDiff, tupleOf, stepT, i0, hvl]
  refine W_loop (fun r' B => ∃ k : Nat, k ≤ a.length ∧ Le A B ∧ r' 1 = w ∧ r' 2 = fv ∧ r' 3 = .bool equal ∧ r' 4 = tv ∧ r' 16 = v ∧ r' 17 = ii a.length ∧ r' 18 = ii k ∧ OwnD A.length B (r' 11) (((a.take k).filter keep).map d)) (fun r' _ => a.length - (iv (r' 18)).toNat) ?_ ?_
  · refine ⟨0, by omega, .refl _, ?_⟩
    simp (maxSteps := 1000000) (disch := omega) only [stepS, reduceIte, Nat.reduceBEq, Nat.reduceEqDiff, tupleOf, stepT, i0, i1, i2, i3, i4]
    exact ⟨rfl, OwnE.nil _ _ _⟩
  · clear i0 i1 i2 i3 i4
    rintro r B ⟨k, hkl, hle, g1, g2, g3, g4, g16, g17, g18, g11⟩
    obtain ⟨z, g11e⟩ : ∃ z, r 11 = z := ⟨_, rfl⟩
    rw [g11e] at g11
    rcases Nat.lt_or_ge k a.length with hlt | hge
    · obtain ⟨x, hx⟩ := get_some (l := a) hlt
      obtain ⟨p, p1, p2⟩ := enc_at he hv hx
      have p2 := p2 B hle
      have hxa : x ∈ a := List.mem_of_getElem? hx
      have hsu : (a.take (k + 1)).filter keep = (a.take k).filter keep ++ [x].filter keep := by rw [List.take_add_one, hx]; simp [List.filter_append]
      obtain ⟨c0, c1, hxe⟩ : ∃ c0 c1, enc x = [c0, c1] := by
        have := (he x).1
        match h : enc x, this with
        | [c0, c1], _ => exact ⟨c0, c1, rfl⟩
      have ho := (he x).2
      rw [hxe] at ho
      have o0 : c0.oneCell' = true := by unfold ones at ho; simp at ho; exact ho.1
      have o1 : c1.oneCell' = true := by unfold ones at ho; simp at ho; exact ho.2
      rw [hxe] at p2
      obtain ⟨B1, hB1⟩ : ∃ B1, B1 = B ++ [.row [c0, c1] .own 0 true] := ⟨_, rfl⟩
      have k1 : Le B B1 := by rw [hB1]; exact .push _ _
      have r1 : rowAt B1 B.length = some ([c0, c1], .own, 0, true) := by rw [hB1]; exact rowAt_own (get_last _ _)
      simp (maxSteps := 1000000) (disch := omega) only [stepS, reduceIte, Nat.reduceBEq, Nat.reduceEqDiff, tupleOf, stepT, stepX, heapR, lensR, Nat.reduceAdd, Nat.reduceLeDiff, g1, g2, g3, g4, g16, g17, g18, g11e, p1, p2, o0, o1]
      have hset : (B ++ [Blk.row [.string ⟨#[]⟩, .string ⟨#[]⟩] .own 0 true]).set B.length (.row [c0, c1] .own 0 true) = B1 := by rw [hB1]; simp
      rw [hset]
      clear hset hB1
      refine bsB_spec fits_api_Word_46 he hi hc o hxe (Sl.le hw (hle.trans k1)) hlb hb fun A' q h k2 q1 q2 q3 q4 q5 => ?_
      have r2 := k2.row r1
      have k3 : Le A A' := (hle.trans k1).trans k2
      have g11' := g11.le (k1.trans k2)
      cases h with
      | false =>
        have hkp : (¬ ∃ y ∈ b, eq y x) ∨ (equal = true ∧ ¬ x ∈ b) := .inl (fun e => by have := q4.2 e; cases this)
        have hf : True := trivial
        have hkt : keep x = true := (hk x hxa).2 hkp
        have hst : ((a.take (k + 1)).filter keep).map d = ((a.take k).filter keep).map d ++ [d x] := by rw [hsu, List.filter_cons_of_pos hkt, List.map_append]; rfl
        simp (maxSteps := 1000000) (disch := omega) only [stepS, reduceIte, Nat.reduceBEq, Nat.reduceEqDiff, tupleOf, stepT, stepX, heapR, lensR, Nat.reduceAdd, Nat.reduceLeDiff, g1, g2, g3, g4, g16, g17, g18, g11e, r2, o0, o1, hf]
        refine callD_cs hxe (ht A' x _ k3 fun A2 k4 => ?_)
        obtain ⟨v', A3, u1, u2, u3, _⟩ := OwnE.app (bytes := 48) ((k3.trans k4).trans (.push A2 (.row (deltaE (d x)) .own 4 true))) (g11'.le (k4.trans (.push _ _))) (x := .slice (some ⟨A2.length, 0, none⟩) 1 1) (fs := [deltaE (d x)]) (sl_one A2 (deltaE_enc (d x)).1 (by omega)) (by intro e hm; rw [List.mem_singleton] at hm; rw [hm]; exact deltaE_enc _) (by decide) (by rw [List.length_map, List.length_map]; have := List.length_filter_le keep (a.take k); rw [List.length_take] at this; simp only [List.length_cons, List.length_nil]; omega) (by decide)
        have hlit := litE (sz := 4) A2 (z := [.int .i64 0, .string ⟨#[]⟩, .string ⟨#[]⟩, .int .i64 0]) (e := deltaE (d x)) rfl (deltaE_enc _).1 (deltaE_enc _).2
        simp (maxSteps := 1000000) (disch := omega) only [stepS, reduceIte, Nat.reduceBEq, Nat.reduceEqDiff, tupleOf, stepT, stepX, heapR, lensR, Nat.reduceAdd, Nat.reduceLeDiff, g1, g2, g3, g4, g16, g17, g18, g11e, hlit, u1]
        refine ⟨⟨k + 1, by omega, u2, rfl, ?_⟩, by omega⟩
        rw [hst]
        show OwnE _ _ 4 _ ((((a.take k).filter keep).map d ++ [d x]).map deltaE)
        rw [List.map_append]
        exact u3
      | true =>
        have hex := q4.1 rfl
        cases equal with
        | false =>
          have hkn : ¬ ((¬ ∃ y ∈ b, eq y x) ∨ (false = true ∧ ¬ x ∈ b)) := by
            rintro (e | ⟨e, _⟩)
            · exact e hex
            · cases e
          have hf : True := trivial
          have hkt : ¬ keep x = true := fun e => hkn ((hk x hxa).1 e)
          have hst : ((a.take (k + 1)).filter keep).map d = ((a.take k).filter keep).map d := by rw [hsu, List.filter_cons_of_neg hkt]; simp
          simp (maxSteps := 1000000) (disch := omega) only [stepS, reduceIte, Nat.reduceBEq, Nat.reduceEqDiff, tupleOf, stepT, stepX, heapR, lensR, Nat.reduceAdd, Nat.reduceLeDiff, g1, g2, g3, g4, g16, g17, g18, g11e, r2, o0, o1, hf]
          refine ⟨⟨k + 1, by omega, k3, rfl, ?_⟩, by omega⟩
          rw [hst]
          exact g11'
        | true =>
          obtain ⟨e, he1, he2⟩ := q5.1 rfl
          have hmem := pos_mem hb o q2 q3 he1
          obtain ⟨bp, b1, b2⟩ := enc_at he hw he1
          have b2 := b2 A' k3
          have hag' := hag A' e x (List.mem_of_getElem? he1) hxa
          rw [hxe] at hag'
          by_cases hxy : e = x
          · have hf := hag'.1 hxy
            have hkn : ¬ ((¬ ∃ y ∈ b, eq y x) ∨ (true = true ∧ ¬ x ∈ b)) := by
              rintro (e | ⟨_, e⟩)
              · exact e hex
              · exact e (hmem.2 hxy)
            have hf := And.intro hf (And.intro b1 b2)
            have hkt : ¬ keep x = true := fun e => hkn ((hk x hxa).1 e)
            have hst : ((a.take (k + 1)).filter keep).map d = ((a.take k).filter keep).map d := by rw [hsu, List.filter_cons_of_neg hkt]; simp
            simp (maxSteps := 1000000) (disch := omega) only [stepS, reduceIte, Nat.reduceBEq, Nat.reduceEqDiff, tupleOf, stepT, stepX, heapR, lensR, Nat.reduceAdd, Nat.reduceLeDiff, g1, g2, g3, g4, g16, g17, g18, g11e, r2, o0, o1, hf]
            refine ⟨⟨k + 1, by omega, k3, rfl, ?_⟩, by omega⟩
            rw [hst]
            exact g11'
          · have hf := hag'.2 hxy
            have hkp : (¬ ∃ y ∈ b, eq y x) ∨ (true = true ∧ ¬ x ∈ b) := .inr ⟨rfl, fun e => hxy (hmem.1 e)⟩
            have hf := And.intro hf (And.intro b1 b2)
            have hkt : keep x = true := (hk x hxa).2 hkp
            have hst : ((a.take (k + 1)).filter keep).map d = ((a.take k).filter keep).map d ++ [d x] := by rw [hsu, List.filter_cons_of_pos hkt, List.map_append]; rfl
            simp (maxSteps := 1000000) (disch := omega) only [stepS, reduceIte, Nat.reduceBEq, Nat.reduceEqDiff, tupleOf, stepT, stepX, heapR, lensR, Nat.reduceAdd, Nat.reduceLeDiff, g1, g2, g3, g4, g16, g17, g18, g11e, r2, o0, o1, hf]
            refine callD_cs hxe (ht A' x _ k3 fun A2 k4 => ?_)
            obtain ⟨v', A3, u1, u2, u3, _⟩ := OwnE.app (bytes := 48) ((k3.trans k4).trans (.push A2 (.row (deltaE (d x)) .own 4 true))) (g11'.le (k4.trans (.push _ _))) (x := .slice (some ⟨A2.length, 0, none⟩) 1 1) (fs := [deltaE (d x)]) (sl_one A2 (deltaE_enc (d x)).1 (by omega)) (by intro e hm; rw [List.mem_singleton] at hm; rw [hm]; exact deltaE_enc _) (by decide) (by rw [List.length_map, List.length_map]; have := List.length_filter_le keep (a.take k); rw [List.length_take] at this; simp only [List.length_cons, List.length_nil]; omega) (by decide)
            have hlit := litE (sz := 4) A2 (z := [.int .i64 0, .string ⟨#[]⟩, .string ⟨#[]⟩, .int .i64 0]) (e := deltaE (d x)) rfl (deltaE_enc _).1 (deltaE_enc _).2
            simp (maxSteps := 1000000) (disch := omega) only [stepS, reduceIte, Nat.reduceBEq, Nat.reduceEqDiff, tupleOf, stepT, stepX, heapR, lensR, Nat.reduceAdd, Nat.reduceLeDiff, g1, g2, g3, g4, g16, g17, g18, g11e, hlit, u1]
            refine ⟨⟨k + 1, by omega, u2, rfl, ?_⟩, by omega⟩
            rw [hst]
            show OwnE _ _ 4 _ ((((a.take k).filter keep).map d ++ [d x]).map deltaE)
            rw [List.map_append]
            exact u3
    · have hk : k = a.length := by omega
      subst hk
      rw [List.take_length] at g11
      simp (maxSteps := 1000000) (disch := omega) only [stepS, reduceIte, Nat.reduceBEq, Nat.reduceEqDiff, tupleOf, stepT, g1, g2, g3, g4, g16, g17, g18, g11e]
      exact hq _ _ hle g11
end Go.AS.C


namespace Go.AS.C
open Go Go.Proofs
set_option linter.unusedVariables false
set_option linter.unusedSimpArgs false
set_option maxRecDepth 10000

/-! What changes are between two states. -/
open Classical in
noncomputable def lackN (b : List WordV) (x : WordV) : Bool := decide (¬ ∃ y ∈ b, eqN y x)
open Classical in
noncomputable def lackC (b : List CountV) (x : CountV) : Bool := decide (¬ ∃ y ∈ b, eqCn y x)
open Classical in
noncomputable def notIn {α : Type} (b : List α) (x : α) : Bool := decide (¬ x ∈ b)
def wordD (k : Int) (w : WordV) : DeltaV := ⟨k, w.name, w.text, 0⟩
def nameD (w : WordV) : DeltaV := ⟨7, w.name, ⟨#[]⟩, 0⟩
def cOutD (c : CountV) : DeltaV := ⟨1, c.name, ⟨#[]⟩, 0⟩
def cInD (c : CountV) : DeltaV := ⟨2, c.name, ⟨#[]⟩, c.n⟩
noncomputable def wordsD (k : Int) (a b : List WordV) : List DeltaV := (a.filter (notIn b)).map (wordD k)
noncomputable def between (s t : StateV) : List DeltaV :=
  [(s.counts.filter (lackC t.counts)).map cOutD, (t.counts.filter (notIn s.counts)).map cInD, [wordsD 3 s.members t.members, wordsD 4 t.members s.members].flatten, [wordsD 5 s.values t.values, wordsD 6 t.values s.values].flatten, (s.lines.filter (lackN t.lines)).map nameD, wordsD 8 t.lines s.lines].flatten
theorem tell1 (A0 : AH) : TellC A0 (.func (.func diff_Between_1) #[] #[]) countE cOutD := by
  intro A x Q hle hq
  rw [callD_func]
  refine ⟨by decide +kernel, ?_⟩
  simp only [List.nil_append, List.append_nil]
  refine ACalls.of_fits mixed fits_diff_Between_1 rfl ?_
  unfold ic_diff_Between_1 countE
  have i0 : initA [.agg [.string x.name, ii x.n].toArray] 0 = .agg [.string x.name, ii x.n].toArray := rfl
  generalize initA [.agg [.string x.name, ii x.n].toArray] = r at i0
  simp (maxSteps := 1000000) (disch := omega) only [stepS, reduceIte, Nat.reduceBEq, Nat.reduceEqDiff, tupleOf, stepT, stepX, heapR, lensR, Nat.reduceAdd, Nat.reduceLeDiff, i0]
  refine hq _ ?_
  (repeat first | exact Le.refl _ | assumption | refine Le.app ?_ _ | refine Le.set ?_ ?_ | omega | (simp only [List.length_append, List.length_singleton, List.length_set]; omega))
theorem tell2 (A0 : AH) : TellC A0 (.func (.func diff_Between_2) #[] #[]) countE cInD := by
  intro A x Q hle hq
  rw [callD_func]
  refine ⟨by decide +kernel, ?_⟩
  simp only [List.nil_append, List.append_nil]
  refine ACalls.of_fits mixed fits_diff_Between_2 rfl ?_
  unfold ic_diff_Between_2 countE
  have i0 : initA [.agg [.string x.name, ii x.n].toArray] 0 = .agg [.string x.name, ii x.n].toArray := rfl
  generalize initA [.agg [.string x.name, ii x.n].toArray] = r at i0
  simp (maxSteps := 1000000) (disch := omega) only [stepS, reduceIte, Nat.reduceBEq, Nat.reduceEqDiff, tupleOf, stepT, stepX, heapR, lensR, Nat.reduceAdd, Nat.reduceLeDiff, i0]
  refine hq _ ?_
  (repeat first | exact Le.refl _ | assumption | refine Le.app ?_ _ | refine Le.set ?_ ?_ | omega | (simp only [List.length_append, List.length_singleton, List.length_set]; omega))
theorem tell3 (A0 : AH) : TellC A0 (.func (.func diff_Between_3) #[] #[]) wordE nameD := by
  intro A x Q hle hq
  rw [callD_func]
  refine ⟨by decide +kernel, ?_⟩
  simp only [List.nil_append, List.append_nil]
  refine ACalls.of_fits mixed fits_diff_Between_3 rfl ?_
  unfold ic_diff_Between_3 wordE
  have i0 : initA [.agg [.string x.name, .string x.text].toArray] 0 = .agg [.string x.name, .string x.text].toArray := rfl
  generalize initA [.agg [.string x.name, .string x.text].toArray] = r at i0
  simp (maxSteps := 1000000) (disch := omega) only [stepS, reduceIte, Nat.reduceBEq, Nat.reduceEqDiff, tupleOf, stepT, stepX, heapR, lensR, Nat.reduceAdd, Nat.reduceLeDiff, i0]
  refine hq _ ?_
  (repeat first | exact Le.refl _ | assumption | refine Le.app ?_ _ | refine Le.set ?_ ?_ | omega | (simp only [List.length_append, List.length_singleton, List.length_set]; omega))
theorem tell4 (A0 : AH) : TellC A0 (.func (.func diff_Between_4) #[] #[]) wordE (wordD 8) := by
  intro A x Q hle hq
  rw [callD_func]
  refine ⟨by decide +kernel, ?_⟩
  simp only [List.nil_append, List.append_nil]
  refine ACalls.of_fits mixed fits_diff_Between_4 rfl ?_
  unfold ic_diff_Between_4 wordE
  have i0 : initA [.agg [.string x.name, .string x.text].toArray] 0 = .agg [.string x.name, .string x.text].toArray := rfl
  generalize initA [.agg [.string x.name, .string x.text].toArray] = r at i0
  simp (maxSteps := 1000000) (disch := omega) only [stepS, reduceIte, Nat.reduceBEq, Nat.reduceEqDiff, tupleOf, stepT, stepX, heapR, lensR, Nat.reduceAdd, Nat.reduceLeDiff, i0]
  refine hq _ ?_
  (repeat first | exact Le.refl _ | assumption | refine Le.app ?_ _ | refine Le.set ?_ ?_ | omega | (simp only [List.length_append, List.length_singleton, List.length_set]; omega))
theorem tellK {A0 : AH} {i : Nat} {k : Int} (hr : rowAt A0 i = some ([ii k], .own, 0, true)) : TellC A0 (.func (.func diff_words_1_1) #[] #[ptr i]) wordE (wordD k) := by
  intro A x Q hle hq
  rw [callD_func]
  refine ⟨by decide +kernel, ?_⟩
  have r1 := hle.row hr
  have hi := lt_of_get (rowAt_get r1)
  show ACalls 0 Try.prog diff_words_1_1 [.agg (wordE x).toArray, ptr i] Q A
  refine ACalls.of_fits mixed (fits_diff_words_1_1.more 2 (by kernel_rfl)) rfl ?_
  unfold ic_diff_words_1_1 wordE
  have i0 : initA [.agg [.string x.name, .string x.text].toArray, ptr i] 0 = .agg [.string x.name, .string x.text].toArray := rfl
  have i1 : initA [.agg [.string x.name, .string x.text].toArray, ptr i] 1 = ptr i := rfl
  generalize initA [.agg [.string x.name, .string x.text].toArray, ptr i] = r at i0 i1
  simp (maxSteps := 1000000) (disch := omega) only [stepS, reduceIte, Nat.reduceBEq, Nat.reduceEqDiff, tupleOf, stepT, stepX, heapR, lensR, Nat.reduceAdd, Nat.reduceLeDiff, i0, i1, r1]
  refine hq _ ?_
  (repeat first | exact Le.refl _ | assumption | refine Le.app ?_ _ | refine Le.set ?_ ?_ | omega | (simp only [List.length_append, List.length_singleton, List.length_set]; omega))
theorem words_1_spec {A : AH} {k : Int} {Q : Value → AH → Prop} (hq : ∀ A', Le A A' → rowAt A' A.length = some ([ii k], .own, 0, true) → Q (.func (.func diff_words_1_1) #[] #[ptr A.length]) A') : ACalls 0 Try.prog diff_words_1 [ii k] Q A := by
  refine ACalls.of_fits mixed fits_diff_words_1 rfl ?_
  unfold ic_diff_words_1
  have i0 : initA [ii k] 0 = ii k := rfl
  generalize initA [ii k] = r at i0
  have k0 : Le A (A ++ [.row [ii k] .own 0 true]) := .push _ _
  have hb : sBox A (ii k) = some (ptr A.length, A ++ [.row [ii k] .own 0 true]) := rfl
  simp (maxSteps := 1000000) (disch := omega) only [stepS, reduceIte, Nat.reduceBEq, Nat.reduceEqDiff, tupleOf, stepT, stepX, heapR, lensR, Nat.reduceAdd, Nat.reduceLeDiff, i0, hb]
  exact hq _ k0 (rowAt_own (get_last _ _))
theorem sl_lit {A : AH} {n : Nat} {vs : List Value} (h : vs.length = n) : Sl (A ++ [.row vs .own 1 true]) 1 (.slice (some ⟨A.length, 0, none⟩) n n) vs.length vs := by
  subst h
  exact sl_last A St.noConfusion (Nat.le_refl _)
theorem wordE_inj (x y : WordV) (h : wordE x = wordE y) : x = y := by cases x; cases y; simpa [wordE] using h
theorem countE_inj (x y : CountV) (h : countE x = countE y) : x = y := by cases x; cases y; simpa [countE] using h
theorem le_max {n : Nat} (h : n ≤ 200) : n ≤ maxLen := Nat.le_trans h (by decide)
theorem eqC {A : AH} {a b : CountV} (ha : FinC a) (hb : FinC b) : (a = b → sEqagg A true (Try.prog.keyLits 8 40) (.agg (countE a).toArray) (.agg (countE b).toArray) = some (.bool false, A)) ∧ (a ≠ b → sEqagg A true (Try.prog.keyLits 8 40) (.agg (countE a).toArray) (.agg (countE b).toArray) = some (.bool true, A)) :=
  ⟨fun h => eqagg_flat (b := true) (ks := [.str, .int .i64]) (xs := countE a) (ys := countE b) (by kernel_rfl) ⟨le_max ha.1, FK.hasI ha.2, trivial⟩ ⟨le_max hb.1, FK.hasI hb.2, trivial⟩ ⟨fun _ => by rw [h], fun _ => rfl⟩,
   fun h => eqagg_flat (b := false) (ks := [.str, .int .i64]) (xs := countE a) (ys := countE b) (by kernel_rfl) ⟨le_max ha.1, FK.hasI ha.2, trivial⟩ ⟨le_max hb.1, FK.hasI hb.2, trivial⟩ ⟨(fun h => by cases h), fun e => absurd (countE_inj _ _ e) h⟩⟩
theorem eqW {A : AH} {a b : WordV} {n : Bool} (ha : FinW a) (hb : FinW b) : (a = b → sEqagg A n (Try.prog.keyLits 8 42) (.agg (wordE a).toArray) (.agg (wordE b).toArray) = some (.bool (true != n), A)) ∧ (a ≠ b → sEqagg A n (Try.prog.keyLits 8 42) (.agg (wordE a).toArray) (.agg (wordE b).toArray) = some (.bool (false != n), A)) :=
  ⟨fun h => eqagg_flat (b := true) (ks := [.str, .str]) (xs := wordE a) (ys := wordE b) (by kernel_rfl) ⟨le_max ha.1, le_max ha.2, trivial⟩ ⟨le_max hb.1, le_max hb.2, trivial⟩ ⟨fun _ => by rw [h], fun _ => rfl⟩,
   fun h => eqagg_flat (b := false) (ks := [.str, .str]) (xs := wordE a) (ys := wordE b) (by kernel_rfl) ⟨le_max ha.1, le_max ha.2, trivial⟩ ⟨le_max hb.1, le_max hb.2, trivial⟩ ⟨(fun h => by cases h), fun e => absurd (wordE_inj _ _ e) h⟩⟩
theorem filter_le {α : Type} (p : α → Bool) (l : List α) {n : Nat} (h : l.length ≤ n) : (l.filter p).length ≤ n := Nat.le_trans (List.length_filter_le p l) h
theorem wordsD_len {k : Int} {a b : List WordV} {n : Nat} (h : a.length ≤ n) : (wordsD k a b).length ≤ n := by unfold wordsD; rw [List.length_map]; exact filter_le _ _ h
open Classical in
theorem notIn_iff {α : Type} {b : List α} {x : α} : notIn b x = true ↔ (¬ ∃ y ∈ b, y = x) ∨ (false = true ∧ ¬ x ∈ b) := by
  unfold notIn
  rw [decide_eq_true_iff]
  constructor
  · exact fun h => .inl (fun ⟨y, hy, e⟩ => h (e ▸ hy))
  · rintro (h | ⟨h, _⟩)
    · exact fun hm => h ⟨x, hm, rfl⟩
    · cases h
theorem diff_words_spec {A : AH} {v w : Value} {a b : List WordV} {k1 k2 : Int} {Q : Value → AH → Prop} (hv : WordsA A v a) (hw : WordsA A w b) (ha : a.length ≤ 2 ^ 20) (hb : b.length ≤ 2 ^ 20) (fa : ∀ x ∈ a, FinW x) (fb : ∀ x ∈ b, FinW x) (sa : Adj ltWd a) (sb : Adj ltWd b)
    (hq : ∀ u A', Le A A' → DeltasA A' u [wordsD k1 a b, wordsD k2 b a].flatten → Q u A') : ACalls 0 Try.prog diff_words [v, w, ii k1, ii k2] Q A := by
  refine ACalls.of_fits mixed fits_diff_words rfl ?_
  unfold ic_diff_words
  have i0 : initA [v, w, ii k1, ii k2] 0 = v := rfl
  have i1 : initA [v, w, ii k1, ii k2] 1 = w := rfl
  have i2 : initA [v, w, ii k1, ii k2] 2 = ii k1 := rfl
  have i3 : initA [v, w, ii k1, ii k2] 3 = ii k2 := rfl
  generalize initA [v, w, ii k1, ii k2] = r at i0 i1 i2 i3
  have hok : calleeOk Try.prog 44 = true := by decide +kernel
  simp (maxSteps := 1000000) (disch := omega) only [stepS, reduceIte, Nat.reduceBEq, Nat.reduceEqDiff, tupleOf, stepT, i0, i1, i2, i3]
  refine ⟨hok, words_1_spec fun A1 e1 r1 => ?_⟩
  simp (maxSteps := 1000000) (disch := omega) only [stepS, reduceIte, Nat.reduceBEq, Nat.reduceEqDiff, tupleOf, stepT, i0, i1, i2, i3]
  refine lessW_spec wordE_enc wordE_inj cmpW ordW (tellK r1) (hv.le e1) (hw.le e1) (by omega) (by omega) sb (fun B x y hx hy => eqW (fb x hx) (fa y hy)) (fun x _ => notIn_iff) fun u1 A2 e2 q1 => ?_
  simp (maxSteps := 1000000) (disch := omega) only [stepS, reduceIte, Nat.reduceBEq, Nat.reduceEqDiff, tupleOf, stepT, i0, i1, i2, i3]
  refine ⟨hok, words_1_spec fun A3 e3 r3 => ?_⟩
  simp (maxSteps := 1000000) (disch := omega) only [stepS, reduceIte, Nat.reduceBEq, Nat.reduceEqDiff, tupleOf, stepT, i0, i1, i2, i3]
  have e13 := (e1.trans e2).trans e3
  refine lessW_spec wordE_enc wordE_inj cmpW ordW (tellK r3) (hw.le e13) (hv.le e13) (by omega) (by omega) sa (fun B x y hx hy => eqW (fa x hx) (fb y hy)) (fun x _ => notIn_iff) fun u2 A4 e4 q2 => ?_
  have d1 := q1.sl.le (e3.trans e4)
  have d2 := q2.sl
  have hl := lit1 (A := A4) (z := .slice none 0 0) (len := 2) (ps := [(0, 1, u1), (1, 1, u2)]) [u1, u2] rfl rfl (by
    intro z hz
    simp only [List.mem_cons, List.not_mem_nil, or_false] at hz
    rcases hz with rfl | rfl
    · exact Sl.one1 d1
    · exact Sl.one1 d2)
  simp (maxSteps := 1000000) (disch := omega) only [stepS, reduceIte, Nat.reduceBEq, Nat.reduceEqDiff, tupleOf, stepT, i0, i1, i2, i3, hl]
  have e5 : Le A4 (A4 ++ [.row [u1, u2] .own 1 true]) := .push _ _
  refine concat_spec (ls := [wordsD k1 a b, wordsD k2 b a]) (sl_lit rfl) rfl ?_ ?_ (by simp) fun u A' e6 q3 => ?_
  · intro j x l hx hl
    match j with
    | 0 => simp only [List.getElem?_cons_zero, Option.some.injEq] at hx hl; subst hx hl; exact d1.le e5
    | 1 => simp only [List.getElem?_cons_succ, List.getElem?_cons_zero, Option.some.injEq] at hx hl; subst hx hl; exact d2.le e5
    | _ + 2 => simp at hx
  · have h1 := wordsD_len (k := k1) (b := b) ha
    have h2 := wordsD_len (k := k2) (b := a) hb
    simp only [List.flatten_cons, List.flatten_nil, List.append_nil, List.length_append]
    omega
  simp (maxSteps := 1000000) (disch := omega) only [stepS, reduceIte, Nat.reduceBEq, Nat.reduceEqDiff, tupleOf, stepT]
  exact hq _ _ (((e13.trans e4).trans e5).trans e6) q3.sl
open Classical in
theorem lackC_iff {b : List CountV} {x : CountV} : lackC b x = true ↔ (¬ ∃ y ∈ b, eqCn y x) ∨ (false = true ∧ ¬ x ∈ b) := by
  unfold lackC
  rw [decide_eq_true_iff]
  simp
open Classical in
theorem lackN_iff {b : List WordV} {x : WordV} : lackN b x = true ↔ (¬ ∃ y ∈ b, eqN y x) ∨ (false = true ∧ ¬ x ∈ b) := by
  unfold lackN
  rw [decide_eq_true_iff]
  simp
open Classical in
theorem notInE_iff {α : Type} {eq : α → α → Prop} (hr : ∀ a, eq a a) {b : List α} {x : α} : notIn b x = true ↔ (¬ ∃ y ∈ b, eq y x) ∨ (true = true ∧ ¬ x ∈ b) := by
  unfold notIn
  rw [decide_eq_true_iff]
  constructor
  · exact fun h => .inr ⟨rfl, h⟩
  · rintro (h | ⟨_, h⟩)
    · exact fun hm => h ⟨x, hm, hr x⟩
    · exact h
end Go.AS.C


namespace Go.AS.C
open Go Go.Proofs
set_option linter.unusedVariables false
set_option linter.unusedSimpArgs false
set_option maxRecDepth 10000

def FewS (s : StateV) : Prop := s.counts.length ≤ 2 ^ 20 ∧ s.members.length ≤ 2 ^ 20 ∧ s.values.length ≤ 2 ^ 20 ∧ s.lines.length ≤ 2 ^ 20
theorem between_len {s t : StateV} (ws : FewS s) (wt : FewS t) : (between s t).length ≤ 2 ^ 24 := by
  obtain ⟨s1, s2, s3, s4⟩ := ws
  obtain ⟨t1, t2, t3, t4⟩ := wt
  have a1 := filter_le (lackC t.counts) _ s1
  have a2 := filter_le (notIn s.counts) _ t1
  have a3 := wordsD_len (k := 3) (b := t.members) s2
  have a4 := wordsD_len (k := 4) (b := s.members) t2
  have a5 := wordsD_len (k := 5) (b := t.values) s3
  have a6 := wordsD_len (k := 6) (b := s.values) t3
  have a7 := filter_le (lackN t.lines) _ s4
  have a8 := wordsD_len (k := 8) (b := s.lines) t4
  unfold between
  simp only [List.flatten_cons, List.flatten_nil, List.append_nil, List.length_append, List.length_map]
  omega
set_option maxHeartbeats 2000000 in
theorem diff_Between_spec {A : AH} {x y : Value} {s t : StateV} {Q : Value → AH → Prop} (hx : StateA A x s) (hy : StateA A y t) (hs : FinS s) (ht : FinS t) (ws : FewS s) (wt : FewS t)
    (hq1 : TidyS s → TidyS t → ∀ u A', Le A A' → DeltasA A' u (between s t) → Q (.tuple #[u, ii 0]) A') (hq2 : ¬ (TidyS s ∧ TidyS t) → ∀ A', Le A A' → Q (.tuple #[.slice none 0 0, ii 1]) A') : ACalls 0 Try.prog diff_Between [x, y] Q A := by
  have hx' := hx
  have hy' := hy
  obtain ⟨c, m, v, l, rfl, hc, hm, hv, hl⟩ := hx
  obtain ⟨c', m', v', l', rfl, hc', hm', hv', hl'⟩ := hy
  refine ACalls.of_fits mixed fits_diff_Between rfl ?_
  unfold ic_diff_Between
  have i0 : initA [.agg #[c, m, v, l], .agg #[c', m', v', l']] 0 = .agg #[c, m, v, l] := rfl
  have i1 : initA [.agg #[c, m, v, l], .agg #[c', m', v', l']] 1 = .agg #[c', m', v', l'] := rfl
  generalize initA [.agg #[c, m, v, l], .agg #[c', m', v', l']] = a at i0 i1
  have oc := (Sl.one1 hc).2
  have om := (Sl.one1 hm).2
  have ov := (Sl.one1 hv).2
  have ol := (Sl.one1 hl).2
  have oc' := (Sl.one1 hc').2
  have om' := (Sl.one1 hm').2
  have ov' := (Sl.one1 hv').2
  have ol' := (Sl.one1 hl').2
  refine W_mid (fun a B => B = A ++ [.row [c, m, v, l] .own 0 true] ++ [.row [c', m', v', l'] .own 0 true] ∧ a 2 = ptr A.length ∧ a 3 = ptr (A.length + 1)) ?_ ?_
  · simp (maxSteps := 1000000) (disch := omega) only [stepS, reduceIte, Nat.reduceBEq, Nat.reduceEqDiff, tupleOf, stepT, stepX, heapR, lensR, Nat.reduceAdd, Nat.reduceLeDiff, i0, i1, oc, om, ov, ol, oc', om', ov', ol']
  clear i0 i1
  rintro a B0 ⟨hB, g2, g3⟩
  have k0 : Le A B0 := by rw [hB]; exact (Le.push _ _).trans (.push _ _)
  have r1 : rowAt B0 A.length = some ([c, m, v, l], .own, 0, true) := by rw [hB]; exact (Le.push _ _).row (rowAt_own (get_last _ _))
  have r2 : rowAt B0 (A.length + 1) = some ([c', m', v', l'], .own, 0, true) := by
    have := rowAt_own (get_last (A ++ [Blk.row [c, m, v, l] .own 0 true]) (.row [c', m', v', l'] .own 0 true))
    rw [hB]; simpa using this
  have hbl : B0.length = A.length + 2 := by rw [hB]; simp
  clear hB
  simp (maxSteps := 1000000) (disch := omega) only [stepS, reduceIte, Nat.reduceBEq, Nat.reduceEqDiff, tupleOf, stepT, stepX, heapR, lensR, Nat.reduceAdd, Nat.reduceLeDiff, g2, g3, r1, r2]
  refine diff_Tidy_spec (hx'.le k0) hs fun b1 h1 => ?_
  cases b1 with
  | false =>
    simp (maxSteps := 1000000) (disch := omega) only [stepS, reduceIte, Nat.reduceBEq, Nat.reduceEqDiff, tupleOf, stepT, stepX, heapR, lensR, Nat.reduceAdd, Nat.reduceLeDiff, g2, g3, r1, r2]
    exact hq2 (fun h => by have := h1.2 h.1; cases this) _ k0
  | true =>
  simp (maxSteps := 1000000) (disch := omega) only [stepS, reduceIte, Nat.reduceBEq, Nat.reduceEqDiff, tupleOf, stepT, stepX, heapR, lensR, Nat.reduceAdd, Nat.reduceLeDiff, g2, g3, r1, r2]
  refine diff_Tidy_spec (hy'.le k0) ht fun b2 h2 => ?_
  cases b2 with
  | false =>
    simp (maxSteps := 1000000) (disch := omega) only [stepS, reduceIte, Nat.reduceBEq, Nat.reduceEqDiff, tupleOf, stepT, stepX, heapR, lensR, Nat.reduceAdd, Nat.reduceLeDiff, g2, g3, r1, r2]
    exact hq2 (fun h => by have := h2.2 h.2; cases this) _ k0
  | true =>
  have ts := h1.1 rfl
  have tt := h2.1 rfl
  simp (maxSteps := 1000000) (disch := omega) only [stepS, reduceIte, Nat.reduceBEq, Nat.reduceEqDiff, tupleOf, stepT, stepX, heapR, lensR, Nat.reduceAdd, Nat.reduceLeDiff, g2, g3, r1, r2]
  refine lessC_spec countE_enc countE_inj cmpC ordC (tell1 B0) (hc.le k0) (hc'.le k0) (Nat.le_trans ws.1 (by decide)) (Nat.lt_of_le_of_lt wt.1 (by decide)) tt.1 (fun B x y hx hy => eqC (ht.1.2 x hx) (hs.1.2 y hy)) (fun x _ => lackC_iff) fun u1 A1 e1 q1 => ?_
  simp (maxSteps := 1000000) (disch := omega) only [stepS, reduceIte, Nat.reduceBEq, Nat.reduceEqDiff, tupleOf, stepT, stepX, heapR, lensR, Nat.reduceAdd, Nat.reduceLeDiff, g2, g3, r1, r2, e1.rd]
  have f1 := k0.trans e1
  refine lessC_spec countE_enc countE_inj cmpC ordC (tell2 A1) (hc'.le f1) (hc.le f1) (Nat.le_trans wt.1 (by decide)) (Nat.lt_of_le_of_lt ws.1 (by decide)) ts.1 (fun B x y hx hy => eqC (hs.1.2 x hx) (ht.1.2 y hy)) (fun x _ => notInE_iff ordC.rf) fun u2 A2 e2 q2 => ?_
  simp (maxSteps := 1000000) (disch := omega) only [stepS, reduceIte, Nat.reduceBEq, Nat.reduceEqDiff, tupleOf, stepT, stepX, heapR, lensR, Nat.reduceAdd, Nat.reduceLeDiff, g2, g3, r1, r2, e2.rd]
  have f2 := f1.trans e2
  refine diff_words_spec (hm.le f2) (hm'.le f2) ws.2.1 wt.2.1 hs.2.1.2 ht.2.1.2 ts.2.1 tt.2.1 fun u3 A3 e3 q3 => ?_
  simp (maxSteps := 1000000) (disch := omega) only [stepS, reduceIte, Nat.reduceBEq, Nat.reduceEqDiff, tupleOf, stepT, stepX, heapR, lensR, Nat.reduceAdd, Nat.reduceLeDiff, g2, g3, r1, r2, e3.rd]
  have f3 := f2.trans e3
  refine diff_words_spec (hv.le f3) (hv'.le f3) ws.2.2.1 wt.2.2.1 hs.2.2.1.2 ht.2.2.1.2 ts.2.2.1 tt.2.2.1 fun u4 A4 e4 q4 => ?_
  simp (maxSteps := 1000000) (disch := omega) only [stepS, reduceIte, Nat.reduceBEq, Nat.reduceEqDiff, tupleOf, stepT, stepX, heapR, lensR, Nat.reduceAdd, Nat.reduceLeDiff, g2, g3, r1, r2, e4.rd]
  have f4 := f3.trans e4
  refine lessW_spec wordE_enc wordE_inj cmpN ordN (tell3 A4) (hl.le f4) (hl'.le f4) (Nat.le_trans ws.2.2.2 (by decide)) (Nat.lt_of_le_of_lt wt.2.2.2 (by decide)) tt.2.2.2 (fun B x y hx hy => eqW (ht.2.2.2.2 x hx) (hs.2.2.2.2 y hy)) (fun x _ => lackN_iff) fun u5 A5 e5 q5 => ?_
  simp (maxSteps := 1000000) (disch := omega) only [stepS, reduceIte, Nat.reduceBEq, Nat.reduceEqDiff, tupleOf, stepT, stepX, heapR, lensR, Nat.reduceAdd, Nat.reduceLeDiff, g2, g3, r1, r2, e5.rd]
  have f5 := f4.trans e5
  refine lessW_spec wordE_enc wordE_inj cmpN ordN (tell4 A5) (hl'.le f5) (hl.le f5) (Nat.le_trans wt.2.2.2 (by decide)) (Nat.lt_of_le_of_lt ws.2.2.2 (by decide)) ts.2.2.2 (fun B x y hx hy => eqW (hs.2.2.2.2 x hx) (ht.2.2.2.2 y hy)) (fun x _ => notInE_iff ordN.rf) fun u6 A6 e6 q6 => ?_
  have d1 := q1.sl.le ((((e2.trans e3).trans e4).trans e5).trans e6)
  have d2 := q2.sl.le (((e3.trans e4).trans e5).trans e6)
  have d3 := q3.le ((e4.trans e5).trans e6)
  have d4 := q4.le (e5.trans e6)
  have d5 := q5.sl.le e6
  have d6 := q6.sl
  have hlit := lit1 (A := A6) (z := .slice none 0 0) (len := 6) (ps := [(0, 1, u1), (1, 1, u2), (2, 1, u3), (3, 1, u4), (4, 1, u5), (5, 1, u6)]) [u1, u2, u3, u4, u5, u6] rfl rfl (by
    intro z hz
    simp only [List.mem_cons, List.not_mem_nil, or_false] at hz
    rcases hz with rfl | rfl | rfl | rfl | rfl | rfl
    · exact Sl.one1 d1
    · exact Sl.one1 d2
    · exact Sl.one1 d3
    · exact Sl.one1 d4
    · exact Sl.one1 d5
    · exact Sl.one1 d6)
  simp (maxSteps := 1000000) (disch := omega) only [stepS, reduceIte, Nat.reduceBEq, Nat.reduceEqDiff, tupleOf, stepT, stepX, heapR, lensR, Nat.reduceAdd, Nat.reduceLeDiff, g2, g3, r1, r2, hlit]
  have e7 : Le A6 (A6 ++ [.row [u1, u2, u3, u4, u5, u6] .own 1 true]) := .push _ _
  refine concat_spec (ls := [(s.counts.filter (lackC t.counts)).map cOutD, (t.counts.filter (notIn s.counts)).map cInD, [wordsD 3 s.members t.members, wordsD 4 t.members s.members].flatten, [wordsD 5 s.values t.values, wordsD 6 t.values s.values].flatten, (s.lines.filter (lackN t.lines)).map nameD, wordsD 8 t.lines s.lines]) (sl_lit rfl) rfl ?_ ?_ (by simp) fun u A' e8 q7 => ?_
  · intro j x l hx hl
    match j with
    | 0 => simp only [List.getElem?_cons_zero, Option.some.injEq] at hx hl; subst hx hl; exact d1.le e7
    | 1 => simp only [List.getElem?_cons_succ, List.getElem?_cons_zero, Option.some.injEq] at hx hl; subst hx hl; exact d2.le e7
    | 2 => simp only [List.getElem?_cons_succ, List.getElem?_cons_zero, Option.some.injEq] at hx hl; subst hx hl; exact d3.le e7
    | 3 => simp only [List.getElem?_cons_succ, List.getElem?_cons_zero, Option.some.injEq] at hx hl; subst hx hl; exact d4.le e7
    | 4 => simp only [List.getElem?_cons_succ, List.getElem?_cons_zero, Option.some.injEq] at hx hl; subst hx hl; exact d5.le e7
    | 5 => simp only [List.getElem?_cons_succ, List.getElem?_cons_zero, Option.some.injEq] at hx hl; subst hx hl; exact d6.le e7
    | _ + 6 => simp at hx
  · exact Nat.le_trans (between_len ws wt) (by decide)
  simp (maxSteps := 1000000) (disch := omega) only [stepS, reduceIte, Nat.reduceBEq, Nat.reduceEqDiff, tupleOf, stepT, stepX, heapR, lensR, Nat.reduceAdd, Nat.reduceLeDiff, g2, g3]
  exact hq1 ts tt _ _ (((f5.trans e6).trans e7).trans e8) q7.sl
end Go.AS.C


namespace Go.AS.C
open Go Go.Proofs
set_option linter.unusedVariables false
set_option linter.unusedSimpArgs false
set_option maxRecDepth 10000

/-! The reference's: is it there, where is it; words that are not there. -/
end Go.AS.C


namespace Go.AS.C
open Go Go.Proofs
set_option linter.unusedVariables false
set_option linter.unusedSimpArgs false
set_option maxRecDepth 10000

end Go.AS.C


namespace Go.AS.C
open Go Go.Proofs
set_option linter.unusedVariables false
set_option linter.unusedSimpArgs false
set_option maxRecDepth 10000

/-! Rising lists as sets. -/
section
variable {α : Type} {lt eq : α → α → Prop}
theorem pw_of (o : Ord3 lt eq) {l : List α} (h : Adj lt l) : l.Pairwise lt := by
  rw [List.pairwise_iff_getElem]
  intro i j hi hj hij
  exact adj_lt' h o hij (List.getElem?_eq_getElem hi) (List.getElem?_eq_getElem hj)
theorem adj_of {l : List α} (h : l.Pairwise lt) : Adj lt l := by
  rw [List.pairwise_iff_getElem] at h
  intro i x y hx hy
  obtain ⟨hi, rfl⟩ := List.getElem?_eq_some_iff.1 hx
  obtain ⟨hj, rfl⟩ := List.getElem?_eq_some_iff.1 hy
  exact h i (i + 1) hi hj (by omega)
theorem Ord3.irr (o : Ord3 lt eq) (a : α) : ¬ lt a a := o.ne (o.rf a)
theorem pw_ext (o : Ord3 lt eq) : ∀ {l m : List α}, l.Pairwise lt → m.Pairwise lt → (∀ x, x ∈ l ↔ x ∈ m) → l = m
  | [], [], _, _, _ => rfl
  | [], b :: m, _, _, h => absurd ((h b).2 List.mem_cons_self) (by simp)
  | a :: l, [], _, _, h => absurd ((h a).1 List.mem_cons_self) (by simp)
  | a :: l, b :: m, hl, hm, h => by
    rw [List.pairwise_cons] at hl hm
    have hab : a = b := by
      have h1 := (h a).1 List.mem_cons_self
      have h2 := (h b).2 List.mem_cons_self
      rcases List.mem_cons.1 h1 with h1 | h1
      · exact h1
      · rcases List.mem_cons.1 h2 with h2 | h2
        · exact h2.symm
        · exact absurd (o.tr (hm.1 a h1) (hl.1 b h2)) (o.irr b)
    subst hab
    rw [pw_ext o hl.2 hm.2 fun x => ?_]
    constructor
    · intro hx
      rcases List.mem_cons.1 ((h x).1 (List.mem_cons_of_mem _ hx)) with e | e
      · rw [e] at hx; exact absurd (hl.1 a hx) (o.irr a)
      · exact e
    · intro hx
      rcases List.mem_cons.1 ((h x).2 (List.mem_cons_of_mem _ hx)) with e | e
      · rw [e] at hx; exact absurd (hm.1 a hx) (o.irr a)
      · exact e
theorem pw_uniq (o : Ord3 lt eq) {l : List α} (h : l.Pairwise lt) (hsym : ∀ a b, eq a b → eq b a) {x y : α} (hx : x ∈ l) (hy : y ∈ l) (he : eq x y) : x = y := by
  obtain ⟨i, hi⟩ := List.getElem?_of_mem hx
  obtain ⟨j, hj⟩ := List.getElem?_of_mem hy
  have ha := adj_of h
  rcases Nat.lt_trichotomy i j with h1 | h1 | h1
  · exact absurd (adj_lt' ha o h1 hi hj) (o.ne he)
  · subst h1; rw [hi] at hj; injection hj
  · exact absurd (adj_lt' ha o h1 hj hi) (o.ne (hsym _ _ he))
end
theorem notIn_true {α : Type} {b : List α} {x : α} : notIn b x = true ↔ ¬ x ∈ b := by unfold notIn; simp only [decide_eq_true_eq]
theorem lackC_true {b : List CountV} {x : CountV} : lackC b x = true ↔ ¬ ∃ y ∈ b, y.name = x.name := by unfold lackC; simp only [decide_eq_true_eq]; exact Iff.rfl
theorem lackN_true {b : List WordV} {x : WordV} : lackN b x = true ↔ ¬ ∃ y ∈ b, y.name = x.name := by unfold lackN; simp only [decide_eq_true_eq]; exact Iff.rfl
theorem mem_between {s t : StateV} {d : DeltaV} (h : d ∈ between s t) : (∃ c, (c ∈ s.counts ∨ c ∈ t.counts) ∧ (d = cOutD c ∨ d = cInD c)) ∨ ∃ w k, (w ∈ s.members ∨ w ∈ t.members ∨ w ∈ s.values ∨ w ∈ t.values ∨ w ∈ s.lines ∨ w ∈ t.lines) ∧ 0 ≤ k ∧ k < 10 ∧ (d = wordD k w ∨ d = nameD w) := by
  unfold between at h
  simp only [List.flatten_cons, List.flatten_nil, List.append_nil, List.mem_append, List.mem_map, wordsD, List.mem_filter] at h
  rcases h with ⟨c, ⟨h, _⟩, rfl⟩ | ⟨c, ⟨h, _⟩, rfl⟩ | (⟨w, ⟨h, _⟩, rfl⟩ | ⟨w, ⟨h, _⟩, rfl⟩) | (⟨w, ⟨h, _⟩, rfl⟩ | ⟨w, ⟨h, _⟩, rfl⟩) | ⟨w, ⟨h, _⟩, rfl⟩ | ⟨w, ⟨h, _⟩, rfl⟩
  · exact .inl ⟨c, .inl h, .inl rfl⟩
  · exact .inl ⟨c, .inr h, .inr rfl⟩
  · exact .inr ⟨w, 3, by simp [h], by omega, by omega, .inl rfl⟩
  · exact .inr ⟨w, 4, by simp [h], by omega, by omega, .inl rfl⟩
  · exact .inr ⟨w, 5, by simp [h], by omega, by omega, .inl rfl⟩
  · exact .inr ⟨w, 6, by simp [h], by omega, by omega, .inl rfl⟩
  · exact .inr ⟨w, 0, by simp [h], by omega, by omega, .inr rfl⟩
  · exact .inr ⟨w, 8, by simp [h], by omega, by omega, .inl rfl⟩
end Go.AS.C


namespace Go.AS.C
open Go Go.Proofs
set_option linter.unusedVariables false
set_option linter.unusedSimpArgs false
set_option maxRecDepth 10000

/-! Whether two lists are the same. -/
theorem eqC2 {A : AH} {a b : CountV} (ha : FinC a) (hb : FinC b) : (a = b → sEqagg A true (Try.prog.keyLits 8 40) (.agg #[.string a.name, ii a.n]) (.agg #[.string b.name, ii b.n]) = some (.bool false, A)) ∧ (a ≠ b → sEqagg A true (Try.prog.keyLits 8 40) (.agg #[.string a.name, ii a.n]) (.agg #[.string b.name, ii b.n]) = some (.bool true, A)) := eqC ha hb
theorem eqW2 {A : AH} {a b : WordV} (ha : FinW a) (hb : FinW b) : (a = b → sEqagg A true (Try.prog.keyLits 8 42) (.agg #[.string a.name, .string a.text]) (.agg #[.string b.name, .string b.text]) = some (.bool false, A)) ∧ (a ≠ b → sEqagg A true (Try.prog.keyLits 8 42) (.agg #[.string a.name, .string a.text]) (.agg #[.string b.name, .string b.text]) = some (.bool true, A)) := eqW (n := true) ha hb
theorem DeltasA.at {A : AH} {v : Value} {l : List DeltaV} (h : DeltasA A v l) {j : Nat} {w : DeltaV} (hj : l[j]? = some w) : ∃ p, (∀ (B : AH) (n : Int), n = (j : Int) → sIaddr B v (.int .i64 n) 4 = some (p, B)) ∧ ∀ B, Le A B → sLoadn B p 4 = some (.agg #[ii w.kind, .string w.name, .string w.text, ii w.n], B) := by
  obtain ⟨p, _, p1, _, p3⟩ := Sl.el h (deltaE_ok l) (j := j) (e := deltaE w) (by rw [List.getElem?_map, hj]; rfl)
  exact ⟨p, p1, fun B hB => p3 B (fun k b hb _ => hB.get hb)⟩
theorem ref19_Same_spec {A : AH} {v w : Value} {l m : List CountV} {Q : Value → AH → Prop} (hv : CountsA A v l) (hw : CountsA A w m) (rv : ∀ c ∈ l, FinC c) (rw' : ∀ c ∈ m, FinC c) (hl : l.length < 2 ^ 50) (hm : m.length < 2 ^ 50) (hq : ∀ b : Bool, (b = true ↔ l = m) → Q (.bool b) A) : ACalls 0 Try.prog chantryref19_Same [v, w] Q A := by
  refine ACalls.of_fits mixed fits_chantryref19_Same rfl ?_
  unfold ic_chantryref19_Same
  have i0 : initA [v, w] 0 = v := rfl
  have i1 : initA [v, w] 1 = w := rfl
  generalize initA [v, w] = a at i0 i1
  have hvl := hv.len
  have hwl := hw.len
  by_cases hn : l.length = m.length
  · simp (maxSteps := 1000000) (disch := omega) only [stepS, reduceIte, Nat.reduceBEq, Nat.reduceEqDiff, tupleOf, stepT, i0, i1, hvl, hwl]
    refine W_loop (fun a' B => B = A ∧ ∃ k : Nat, k ≤ l.length ∧ l.take k = m.take k ∧ a' 0 = v ∧ a' 1 = w ∧ a' 5 = ii k) (fun a' _ => l.length - (iv (a' 5)).toNat) ?_ ?_
    · refine ⟨rfl, 0, by omega, rfl, ?_⟩
      simp (maxSteps := 1000000) (disch := omega) only [stepS, reduceIte, Nat.reduceBEq, Nat.reduceEqDiff, tupleOf, stepT, i0, i1]
      (all_goals (and_intros <;> first | rfl | assumption | (push_cast; rfl) | (congr 1; omega) | omega | (simp; done)))
    · rintro a2 B ⟨rfl, k, hk, hn2, g0, g1, g5⟩
      rcases Nat.lt_or_ge k l.length with hlt | hge
      · obtain ⟨s, hs⟩ := get_some hlt
        obtain ⟨t, ht⟩ := get_some (l := m) (k := k) (by omega)
        obtain ⟨p, p1, p2⟩ := hv.at hs
        have p3 := p2 B (.refl _)
        obtain ⟨q, q1, q2⟩ := hw.at ht
        have q3 := q2 B (.refl _)
        by_cases hst : s = t
        · have hd := (eqC2 (A := B) (rv s (List.mem_of_getElem? hs)) (rw' t (List.mem_of_getElem? ht))).1 hst
          simp (maxSteps := 1000000) (disch := omega) only [stepS, reduceIte, Nat.reduceBEq, Nat.reduceEqDiff, tupleOf, stepT, g0, g1, g5, hvl, hwl, p1, p3, q1, q3, hd]
          refine ⟨⟨k + 1, by omega, ?_, rfl⟩, by omega⟩
          rw [List.take_add_one, List.take_add_one, hs, ht, hn2, hst]
        · have hd := (eqC2 (A := B) (rv s (List.mem_of_getElem? hs)) (rw' t (List.mem_of_getElem? ht))).2 hst
          simp (maxSteps := 1000000) (disch := omega) only [stepS, reduceIte, Nat.reduceBEq, Nat.reduceEqDiff, tupleOf, stepT, g0, g1, g5, hvl, hwl, p1, p3, q1, q3, hd]
          exact hq false ⟨(fun h => by cases h), fun h => by subst h; rw [hs] at ht; injection ht with ht; exact absurd ht hst⟩
      · rw [List.take_of_length_le hge, List.take_of_length_le (by omega)] at hn2
        simp (maxSteps := 1000000) (disch := omega) only [stepS, reduceIte, Nat.reduceBEq, Nat.reduceEqDiff, tupleOf, stepT, g0, g1, g5, hvl]
        exact hq true ⟨fun _ => hn2, fun _ => rfl⟩
  · simp (maxSteps := 1000000) (disch := omega) only [stepS, reduceIte, Nat.reduceBEq, Nat.reduceEqDiff, tupleOf, stepT, i0, i1, hvl, hwl]
    exact hq false ⟨(fun h => by cases h), fun h => absurd (by rw [h]) hn⟩
theorem ref20_SameWords_spec {A : AH} {v w : Value} {l m : List WordV} {Q : Value → AH → Prop} (hv : WordsA A v l) (hw : WordsA A w m) (rv : ∀ c ∈ l, FinW c) (rw' : ∀ c ∈ m, FinW c) (hl : l.length < 2 ^ 50) (hm : m.length < 2 ^ 50) (hq : ∀ b : Bool, (b = true ↔ l = m) → Q (.bool b) A) : ACalls 0 Try.prog chantryref20_SameWords [v, w] Q A := by
  refine ACalls.of_fits mixed fits_chantryref20_SameWords rfl ?_
  unfold ic_chantryref20_SameWords
  have i0 : initA [v, w] 0 = v := rfl
  have i1 : initA [v, w] 1 = w := rfl
  generalize initA [v, w] = a at i0 i1
  have hvl := hv.len
  have hwl := hw.len
  by_cases hn : l.length = m.length
  · simp (maxSteps := 1000000) (disch := omega) only [stepS, reduceIte, Nat.reduceBEq, Nat.reduceEqDiff, tupleOf, stepT, i0, i1, hvl, hwl]
    refine W_loop (fun a' B => B = A ∧ ∃ k : Nat, k ≤ l.length ∧ l.take k = m.take k ∧ a' 0 = v ∧ a' 1 = w ∧ a' 5 = ii k) (fun a' _ => l.length - (iv (a' 5)).toNat) ?_ ?_
    · refine ⟨rfl, 0, by omega, rfl, ?_⟩
      simp (maxSteps := 1000000) (disch := omega) only [stepS, reduceIte, Nat.reduceBEq, Nat.reduceEqDiff, tupleOf, stepT, i0, i1]
      (all_goals (and_intros <;> first | rfl | assumption | (push_cast; rfl) | (congr 1; omega) | omega | (simp; done)))
    · rintro a2 B ⟨rfl, k, hk, hn2, g0, g1, g5⟩
      rcases Nat.lt_or_ge k l.length with hlt | hge
      · obtain ⟨s, hs⟩ := get_some hlt
        obtain ⟨t, ht⟩ := get_some (l := m) (k := k) (by omega)
        obtain ⟨p, p1, p2⟩ := hv.at hs
        have p3 := p2 B (.refl _)
        obtain ⟨q, q1, q2⟩ := hw.at ht
        have q3 := q2 B (.refl _)
        by_cases hst : s = t
        · have hd := (eqW2 (A := B) (rv s (List.mem_of_getElem? hs)) (rw' t (List.mem_of_getElem? ht))).1 hst
          simp (maxSteps := 1000000) (disch := omega) only [stepS, reduceIte, Nat.reduceBEq, Nat.reduceEqDiff, tupleOf, stepT, g0, g1, g5, hvl, hwl, p1, p3, q1, q3, hd]
          refine ⟨⟨k + 1, by omega, ?_, rfl⟩, by omega⟩
          rw [List.take_add_one, List.take_add_one, hs, ht, hn2, hst]
        · have hd := (eqW2 (A := B) (rv s (List.mem_of_getElem? hs)) (rw' t (List.mem_of_getElem? ht))).2 hst
          simp (maxSteps := 1000000) (disch := omega) only [stepS, reduceIte, Nat.reduceBEq, Nat.reduceEqDiff, tupleOf, stepT, g0, g1, g5, hvl, hwl, p1, p3, q1, q3, hd]
          exact hq false ⟨(fun h => by cases h), fun h => by subst h; rw [hs] at ht; injection ht with ht; exact absurd ht hst⟩
      · rw [List.take_of_length_le hge, List.take_of_length_le (by omega)] at hn2
        simp (maxSteps := 1000000) (disch := omega) only [stepS, reduceIte, Nat.reduceBEq, Nat.reduceEqDiff, tupleOf, stepT, g0, g1, g5, hvl]
        exact hq true ⟨fun _ => hn2, fun _ => rfl⟩
  · simp (maxSteps := 1000000) (disch := omega) only [stepS, reduceIte, Nat.reduceBEq, Nat.reduceEqDiff, tupleOf, stepT, i0, i1, hvl, hwl]
    exact hq false ⟨(fun h => by cases h), fun h => absurd (by rw [h]) hn⟩
theorem ref23_Same_spec {A : AH} {x y : Value} {s t : StateV} {Q : Value → AH → Prop} (hx : StateA A x s) (hy : StateA A y t) (hs : FinS s) (ht : FinS t) (hq : ∀ b : Bool, (b = true ↔ s = t) → Q (.bool b) A) : ACalls 0 Try.prog chantryref23_Same [x, y] Q A := by
  refine ACalls.pure (S := fun v => ∃ b : Bool, v = .bool b ∧ (b = true ↔ s = t)) (fun v ⟨b, e, h⟩ => by rw [e]; exact hq b h) ?_
  obtain ⟨c, m, v, l, rfl, hc, hm, hv, hl⟩ := hx
  obtain ⟨c', m', v', l', rfl, hc', hm', hv', hl'⟩ := hy
  refine ACalls.of_fits mixed fits_chantryref23_Same rfl ?_
  unfold ic_chantryref23_Same
  have i0 : initA [.agg #[c, m, v, l], .agg #[c', m', v', l']] 0 = .agg #[c, m, v, l] := rfl
  have i1 : initA [.agg #[c, m, v, l], .agg #[c', m', v', l']] 1 = .agg #[c', m', v', l'] := rfl
  generalize initA [.agg #[c, m, v, l], .agg #[c', m', v', l']] = a at i0 i1
  have oc := (Sl.one1 hc).2
  have om := (Sl.one1 hm).2
  have ov := (Sl.one1 hv).2
  have ol := (Sl.one1 hl).2
  have oc' := (Sl.one1 hc').2
  have om' := (Sl.one1 hm').2
  have ov' := (Sl.one1 hv').2
  have ol' := (Sl.one1 hl').2
  refine W_mid (fun a B => B = A ++ [.row [c, m, v, l] .own 0 true] ++ [.row [c', m', v', l'] .own 0 true] ∧ a 2 = ptr A.length ∧ a 3 = ptr (A.length + 1)) ?_ ?_
  · simp (maxSteps := 1000000) (disch := omega) only [stepS, reduceIte, Nat.reduceBEq, Nat.reduceEqDiff, tupleOf, stepT, stepX, heapR, lensR, Nat.reduceAdd, Nat.reduceLeDiff, i0, i1, oc, om, ov, ol, oc', om', ov', ol']
  rintro a B0 ⟨hB, g2, g3⟩
  have k0 : Le A B0 := by rw [hB]; exact (Le.push _ _).trans (.push _ _)
  have r1 : rowAt B0 A.length = some ([c, m, v, l], .own, 0, true) := by rw [hB]; exact (Le.push _ _).row (rowAt_own (get_last _ _))
  have r2 : rowAt B0 (A.length + 1) = some ([c', m', v', l'], .own, 0, true) := by
    rw [hB]
    have := rowAt_own (get_last (A ++ [Blk.row [c, m, v, l] .own 0 true]) (.row [c', m', v', l'] .own 0 true))
    simpa using this
  clear i0 i1 hB
  obtain ⟨⟨sc, sc2⟩, ⟨sm, sm2⟩, ⟨sv, sv2⟩, ⟨sl, sl2⟩⟩ := hs
  obtain ⟨⟨tc, tc2⟩, ⟨tm, tm2⟩, ⟨tv, tv2⟩, ⟨tl, tl2⟩⟩ := ht
  have fin : ∀ b1 b2 b3 b4 : Bool, (b1 = true ↔ s.counts = t.counts) → (b2 = true ↔ s.members = t.members) → (b3 = true ↔ s.values = t.values) → (b4 = true ↔ s.lines = t.lines) → ((b1 && b2 && b3 && b4) = true ↔ s = t) := by
    intro b1 b2 b3 b4 h1 h2 h3 h4
    cases s; cases t
    simp only at h1 h2 h3 h4
    simp only [Bool.and_eq_true, h1, h2, h3, h4, StateV.mk.injEq, and_assoc]
  have no : ∀ {p : Prop}, (false = true ↔ p) → (false = true ↔ p) := fun h => h
  have nn : ∀ {α : Type} (f : StateV → α), (false = true ↔ f s = f t) → (false = true ↔ s = t) := fun f h => ⟨(fun h => by cases h), fun e => by rw [e] at h; exact h.2 rfl⟩
  simp (maxSteps := 1000000) (disch := omega) only [stepS, reduceIte, Nat.reduceBEq, Nat.reduceEqDiff, tupleOf, stepT, stepX, heapR, lensR, Nat.reduceAdd, Nat.reduceLeDiff, g2, g3, r1, r2]
  refine ref19_Same_spec (hc.le k0) (hc'.le k0) sc2 tc2 (by omega) (by omega) fun b1 h1 => ?_
  cases b1 with
  | false =>
    simp (maxSteps := 1000000) (disch := omega) only [stepS, reduceIte, Nat.reduceBEq, Nat.reduceEqDiff, tupleOf, stepT, stepX, heapR, lensR, Nat.reduceAdd, Nat.reduceLeDiff, g2, g3, r1, r2]
    exact ⟨k0, rfl, false, rfl, nn StateV.counts h1⟩
  | true =>
  simp (maxSteps := 1000000) (disch := omega) only [stepS, reduceIte, Nat.reduceBEq, Nat.reduceEqDiff, tupleOf, stepT, stepX, heapR, lensR, Nat.reduceAdd, Nat.reduceLeDiff, g2, g3, r1, r2]
  refine ref20_SameWords_spec (hm.le k0) (hm'.le k0) sm2 tm2 (by omega) (by omega) fun b2 h2 => ?_
  cases b2 with
  | false =>
    simp (maxSteps := 1000000) (disch := omega) only [stepS, reduceIte, Nat.reduceBEq, Nat.reduceEqDiff, tupleOf, stepT, stepX, heapR, lensR, Nat.reduceAdd, Nat.reduceLeDiff, g2, g3, r1, r2]
    exact ⟨k0, rfl, false, rfl, nn StateV.members h2⟩
  | true =>
  simp (maxSteps := 1000000) (disch := omega) only [stepS, reduceIte, Nat.reduceBEq, Nat.reduceEqDiff, tupleOf, stepT, stepX, heapR, lensR, Nat.reduceAdd, Nat.reduceLeDiff, g2, g3, r1, r2]
  refine ref20_SameWords_spec (hv.le k0) (hv'.le k0) sv2 tv2 (by omega) (by omega) fun b3 h3 => ?_
  cases b3 with
  | false =>
    simp (maxSteps := 1000000) (disch := omega) only [stepS, reduceIte, Nat.reduceBEq, Nat.reduceEqDiff, tupleOf, stepT, stepX, heapR, lensR, Nat.reduceAdd, Nat.reduceLeDiff, g2, g3, r1, r2]
    exact ⟨k0, rfl, false, rfl, nn StateV.values h3⟩
  | true =>
  simp (maxSteps := 1000000) (disch := omega) only [stepS, reduceIte, Nat.reduceBEq, Nat.reduceEqDiff, tupleOf, stepT, stepX, heapR, lensR, Nat.reduceAdd, Nat.reduceLeDiff, g2, g3, r1, r2]
  refine ref20_SameWords_spec (hl.le k0) (hl'.le k0) sl2 tl2 (by omega) (by omega) fun b4 h4 => ?_
  cases b4 with
  | false =>
    simp (maxSteps := 1000000) (disch := omega) only [stepS, reduceIte, Nat.reduceBEq, Nat.reduceEqDiff, tupleOf, stepT, stepX, heapR, lensR, Nat.reduceAdd, Nat.reduceLeDiff, g2, g3, r1, r2]
    exact ⟨k0, rfl, false, rfl, nn StateV.lines h4⟩
  | true =>
    simp (maxSteps := 1000000) (disch := omega) only [stepS, reduceIte, Nat.reduceBEq, Nat.reduceEqDiff, tupleOf, stepT, stepX, heapR, lensR, Nat.reduceAdd, Nat.reduceLeDiff, g2, g3, r1, r2]
    exact ⟨k0, rfl, true, rfl, fin true true true true h1 h2 h3 h4⟩
end Go.AS.C


namespace Go.AS.C
open Go Go.Proofs
set_option linter.unusedVariables false
set_option linter.unusedSimpArgs false
set_option maxRecDepth 10000

def SmallW (w : WordV) : Prop := w.name.size ≤ 60 ∧ w.text.size ≤ 100
def SmallS0 (s : StateV) : Prop := (s.counts.length ≤ 20 ∧ ∀ w ∈ s.counts, w.name.size ≤ 60) ∧ (s.members.length ≤ 20 ∧ ∀ w ∈ s.members, SmallW w) ∧ (s.values.length ≤ 20 ∧ ∀ w ∈ s.values, SmallW w) ∧ (s.lines.length ≤ 20 ∧ ∀ w ∈ s.lines, SmallW w)
def LargeA (s : StateV) (v : Value) : Prop := ∃ b, v = .bool b ∧ (b = false → SmallS0 s)
theorem large_spec {A : AH} {x : Value} {s : StateV} {Q : Value → AH → Prop} (hx : StateA A x s) (hq : ∀ b : Bool, (b = false → SmallS0 s) → Q (.bool b) A) : ACalls 0 Try.prog chantrylaw41_large [x] Q A := by
  refine ACalls.pure (S := LargeA s) (fun v ⟨b, e, h⟩ => by rw [e]; exact hq b h) ?_
  have big : LargeA s (.bool true) := ⟨true, rfl, fun h => by cases h⟩
  obtain ⟨c, m, v, l, rfl, hc, hm, hv, hl⟩ := hx
  refine ACalls.of_fits mixed fits_chantrylaw41_large rfl ?_
  unfold ic_chantrylaw41_large
  have i0 : initA [.agg #[c, m, v, l]] 0 = .agg #[c, m, v, l] := rfl
  generalize initA [.agg #[c, m, v, l]] = a at i0
  have oc := (Sl.one1 hc).2
  have om := (Sl.one1 hm).2
  have ov := (Sl.one1 hv).2
  have ol := (Sl.one1 hl).2
  refine W_mid (fun a B => B = A ++ [.row [c, m, v, l] .own 0 true] ∧ a 1 = ptr A.length) ?_ ?_
  · simp (maxSteps := 1000000) (disch := omega) only [stepS, reduceIte, Nat.reduceBEq, Nat.reduceEqDiff, tupleOf, stepT, stepX, heapR, lensR, Nat.reduceAdd, Nat.reduceLeDiff, i0, oc, om, ov, ol]
  rintro a B0 ⟨hB, g1⟩
  have k0 : Le A B0 := by rw [hB]; exact .push _ _
  have r1 : rowAt B0 A.length = some ([c, m, v, l], .own, 0, true) := by rw [hB]; exact rowAt_own (get_last _ _)
  clear i0 hB
  have lc := hc.len
  have lm := hm.len
  have lv := hv.len
  have ll := hl.len
  refine W_midR (fun a B => (s.counts.length ≤ 20 ∧ s.members.length ≤ 20 ∧ s.values.length ≤ 20 ∧ s.lines.length ≤ 20) ∧ B = B0 ∧ a 1 = ptr A.length) ?_ ?_
  · by_cases h1 : s.counts.length ≤ 20
    · by_cases h2 : s.members.length ≤ 20
      · by_cases h3 : s.values.length ≤ 20
        · by_cases h4 : s.lines.length ≤ 20
          · simp (maxSteps := 1000000) (disch := omega) only [stepS, reduceIte, Nat.reduceBEq, Nat.reduceEqDiff, tupleOf, stepT, stepX, heapR, lensR, Nat.reduceAdd, Nat.reduceLeDiff, g1, r1, lc, lm, lv, ll, reduceCtorEq, false_and, or_false, true_and]
            all_goals exact ⟨h1, h2, h3, h4⟩
          · simp (maxSteps := 1000000) (disch := omega) only [stepS, reduceIte, Nat.reduceBEq, Nat.reduceEqDiff, tupleOf, stepT, stepX, heapR, lensR, Nat.reduceAdd, Nat.reduceLeDiff, g1, r1, lc, lm, lv, ll, reduceCtorEq, false_and, false_or, true_and]
            exact ⟨k0, rfl, big⟩
        · simp (maxSteps := 1000000) (disch := omega) only [stepS, reduceIte, Nat.reduceBEq, Nat.reduceEqDiff, tupleOf, stepT, stepX, heapR, lensR, Nat.reduceAdd, Nat.reduceLeDiff, g1, r1, lc, lm, lv, ll, reduceCtorEq, false_and, false_or, true_and]
          exact ⟨k0, rfl, big⟩
      · simp (maxSteps := 1000000) (disch := omega) only [stepS, reduceIte, Nat.reduceBEq, Nat.reduceEqDiff, tupleOf, stepT, stepX, heapR, lensR, Nat.reduceAdd, Nat.reduceLeDiff, g1, r1, lc, lm, lv, ll, reduceCtorEq, false_and, false_or, true_and]
        exact ⟨k0, rfl, big⟩
    · simp (maxSteps := 1000000) (disch := omega) only [stepS, reduceIte, Nat.reduceBEq, Nat.reduceEqDiff, tupleOf, stepT, stepX, heapR, lensR, Nat.reduceAdd, Nat.reduceLeDiff, g1, r1, lc, lm, lv, ll, reduceCtorEq, false_and, false_or, true_and]
      exact ⟨k0, rfl, big⟩
  rintro a B1 ⟨⟨b1, b2, b3, b4⟩, hB, g1⟩
  obtain rfl : B0 = B1 := hB.symm
  clear hB
  refine W_midR (fun a B => (∀ w ∈ s.counts, w.name.size ≤ 60) ∧ B = B0 ∧ a 1 = ptr A.length) ?_ ?_
  · simp (maxSteps := 1000000) (disch := omega) only [stepS, reduceIte, Nat.reduceBEq, Nat.reduceEqDiff, tupleOf, stepT, g1]
    refine W_loop (fun a' D => ∃ j : Nat, j ≤ s.counts.length ∧ D = B0 ∧ a' 1 = ptr A.length ∧ a' 3 = ii j ∧ ∀ w ∈ s.counts.take j, w.name.size ≤ 60) (fun a' _ => s.counts.length - (iv (a' 3)).toNat) ?_ ?_
    · refine ⟨0, Nat.zero_le _, rfl, ?_⟩
      simp (maxSteps := 1000000) (disch := omega) only [stepS, reduceIte, Nat.reduceBEq, Nat.reduceEqDiff, tupleOf, stepT, g1]
      simp
    · rintro a2 D ⟨j, hj, hD, g1, g3, hs⟩
      obtain rfl : B0 = D := hD.symm
      clear hD
      rcases Nat.lt_or_ge j s.counts.length with hlt | hge
      · obtain ⟨w, hw⟩ := get_some hlt
        obtain ⟨p, q, p1, p2, p3⟩ := hc.fld hw (o := 0) (x := .string w.name) rfl
        have p4 := p3 B0 k0
        have htk : s.counts.take (j + 1) = s.counts.take j ++ [w] := by rw [List.take_add_one, hw]; rfl
        by_cases h5 : w.name.size ≤ 60
        · simp (maxSteps := 1000000) (disch := omega) only [stepS, reduceIte, Nat.reduceBEq, Nat.reduceEqDiff, tupleOf, stepT, stepX, heapR, lensR, Nat.reduceAdd, Nat.reduceLeDiff, g1, g3, lc, r1, p1, p2, p4]
          refine ⟨⟨j + 1, by omega, rfl, fun x hx => ?_⟩, by omega⟩
          rw [htk, List.mem_append, List.mem_singleton] at hx
          rcases hx with hx | rfl
          · exact hs x hx
          · exact h5
        · simp (maxSteps := 1000000) (disch := omega) only [stepS, reduceIte, Nat.reduceBEq, Nat.reduceEqDiff, tupleOf, stepT, stepX, heapR, lensR, Nat.reduceAdd, Nat.reduceLeDiff, g1, g3, lc, r1, p1, p2, p4]
          exact .inr ⟨k0, rfl, big⟩
      · simp (maxSteps := 1000000) (disch := omega) only [stepS, reduceIte, Nat.reduceBEq, Nat.reduceEqDiff, tupleOf, stepT, stepX, heapR, lensR, Nat.reduceAdd, Nat.reduceLeDiff, g1, g3, lc, r1]
        rw [List.take_of_length_le hge] at hs
        exact .inl hs
  rintro a B1 ⟨b5, hB, g1⟩
  obtain rfl : B0 = B1 := hB.symm
  clear hB
  have l0 : sLit B0 [.string ⟨#[]⟩, .string ⟨#[]⟩] 2 0 [] = some (.slice (some ⟨B0.length, 0, none⟩) 0 0, B0 ++ [.row [] .own 2 true]) := rfl
  have k1 : Le B0 (B0 ++ [.row [] .own 2 true]) := .push _ _
  have w0 : OwnE B0.length (B0 ++ [.row [] .own 2 true]) 2 (.slice (some ⟨B0.length, 0, none⟩) 0 0) [] :=
    ⟨fun e he => (by cases he), rfl, .inr (.inr ⟨B0.length, 0, 0, [], true, rfl, Nat.le_refl _, Nat.le_refl _, by simp, by simp, fun j hj => by simp at hj⟩)⟩
  obtain ⟨x1, D1, q1, j1, w1, e1⟩ := OwnE.app (bytes := 32) k1 w0 (hm.le (k0.trans k1)) (wordE_ok _) (by decide) (by rw [List.length_map]; simp; omega) (by decide)
  obtain ⟨x2, D2, q2, j2, w2, e2⟩ := OwnE.app (bytes := 32) j1 w1 (hv.le (k0.trans j1)) (wordE_ok _) (by decide) (by simp; omega) (by decide)
  obtain ⟨x3, D3, q3, j3, w3, e3⟩ := OwnE.app (bytes := 32) j2 w2 (hl.le (k0.trans j2)) (wordE_ok _) (by decide) (by simp; omega) (by decide)
  have hA := lt_of_get (rowAt_get r1)
  have low : ∀ {D : AH} {x : Value} {n : Nat} {cs : List Value}, OwnS B0.length D 2 x n cs → ∀ k ∈ [A.length, A.length, A.length], k ∉ blkOf x := fun h k hk hm => by
    have h1 := (OwnS.ge h k hm).1
    simp only [List.mem_cons, List.not_mem_nil, or_false, or_self] at hk
    omega
  have rd1 := e1.rd (low w0.2)
  have rd2 := e2.rd (low w1.2)
  refine W_mid (fun a B => B = D3 ∧ a 4 = x3) ?_ ?_
  · simp (maxSteps := 1000000) (disch := omega) only [stepS, reduceIte, Nat.reduceBEq, Nat.reduceEqDiff, tupleOf, stepT, stepX, heapR, lensR, Nat.reduceAdd, Nat.reduceLeDiff, g1, r1, l0, q1, q2, q3]
    exact ⟨rd1, rd2⟩
  rintro a B ⟨hB, g4⟩
  subst hB
  have hWL : WordsA B x3 (s.members ++ s.values ++ s.lines) := by
    unfold WordsA
    rw [List.map_append, List.map_append]
    exact w3.2.sl
  have lw := hWL.len
  have kB := k0.trans j3
  refine W_midR (fun a B' => B' = B ∧ (∀ w ∈ s.members ++ s.values ++ s.lines, SmallW w)) ?_ ?_
  · simp (maxSteps := 1000000) (disch := omega) only [stepS, reduceIte, Nat.reduceBEq, Nat.reduceEqDiff, tupleOf, stepT, g4]
    generalize hW : s.members ++ s.values ++ s.lines = ws at *
    have hwl : ws.length ≤ 90 := by rw [← hW]; simp; omega
    refine W_loop (fun a' D => ∃ j : Nat, j ≤ ws.length ∧ D = B ∧ a' 4 = x3 ∧ a' 5 = ii j ∧ ∀ w ∈ ws.take j, SmallW w) (fun a' _ => ws.length - (iv (a' 5)).toNat) ?_ ?_
    · refine ⟨0, Nat.zero_le _, rfl, ?_⟩
      simp (maxSteps := 1000000) (disch := omega) only [stepS, reduceIte, Nat.reduceBEq, Nat.reduceEqDiff, tupleOf, stepT, g4]
      simp
    · rintro a2 D ⟨j, hj, hD, g4, g5, hs⟩
      subst hD
      rcases Nat.lt_or_ge j ws.length with hlt | hge
      · obtain ⟨w, hw⟩ := get_some hlt
        obtain ⟨p, q, p1, p2, p3⟩ := hWL.fld hw (o := 0) (x := .string w.name) rfl
        obtain ⟨p', q', u1, u2, u3⟩ := hWL.fld hw (o := 1) (x := .string w.text) rfl
        have e : p' = p := by
          have h1 := p1 D j rfl
          rw [u1 D j rfl] at h1
          injection h1 with h1
          injection h1 with h1 _
        subst e
        have p4 := p3 D (.refl _)
        have u4 := u3 D (.refl _)
        have htk : ws.take (j + 1) = ws.take j ++ [w] := by rw [List.take_add_one, hw]; rfl
        by_cases h5 : w.name.size ≤ 60
        · by_cases h6 : w.text.size ≤ 100
          · simp (maxSteps := 1000000) (disch := omega) only [stepS, reduceIte, Nat.reduceBEq, Nat.reduceEqDiff, tupleOf, stepT, stepX, heapR, lensR, Nat.reduceAdd, Nat.reduceLeDiff, g4, g5, lw, p1, p2, p4, u2, u4]
            refine ⟨⟨j + 1, by omega, rfl, fun x hx => ?_⟩, by omega⟩
            rw [htk, List.mem_append, List.mem_singleton] at hx
            rcases hx with hx | rfl
            · exact hs x hx
            · exact ⟨h5, h6⟩
          · simp (maxSteps := 1000000) (disch := omega) only [stepS, reduceIte, Nat.reduceBEq, Nat.reduceEqDiff, tupleOf, stepT, stepX, heapR, lensR, Nat.reduceAdd, Nat.reduceLeDiff, g4, g5, lw, p1, p2, p4, u2, u4]
            exact .inr ⟨kB, rfl, big⟩
        · simp (maxSteps := 1000000) (disch := omega) only [stepS, reduceIte, Nat.reduceBEq, Nat.reduceEqDiff, tupleOf, stepT, stepX, heapR, lensR, Nat.reduceAdd, Nat.reduceLeDiff, g4, g5, lw, p1, p2, p4]
          exact .inr ⟨kB, rfl, big⟩
      · simp (maxSteps := 1000000) (disch := omega) only [stepS, reduceIte, Nat.reduceBEq, Nat.reduceEqDiff, tupleOf, stepT, stepX, heapR, lensR, Nat.reduceAdd, Nat.reduceLeDiff, g4, g5, lw]
        rw [List.take_of_length_le hge] at hs
        exact .inl hs
  rintro a B' ⟨hB, hall⟩
  subst hB
  simp (maxSteps := 1000000) (disch := omega) only [stepS, reduceIte, Nat.reduceBEq, Nat.reduceEqDiff, tupleOf, stepT]
  exact ⟨kB, rfl, false, rfl, fun _ => ⟨⟨b1, b5⟩, ⟨b2, fun w hw => hall w (by simp [hw])⟩, ⟨b3, fun w hw => hall w (by simp [hw])⟩, b4, fun w hw => hall w (by simp [hw])⟩⟩
end Go.AS.C


-- Printed by tab.py (wip/tools): all abstract codes of the chapter, as one table.
namespace Go.AS.C
open Go Go.Proofs
set_option maxRecDepth 100000
noncomputable def tab : List (Nat × CodeE) := [
  (chantrylaw41_DiffBetween, ⟨ic_chantrylaw41_DiffBetween, [.tmp 4], 2⟩),
  (chantrylaw41_DiffApplies, ⟨ic_chantrylaw41_DiffApplies, [.tmp 6], 3⟩),
  (chantrylaw41_DiffBack, ⟨ic_chantrylaw41_DiffBack, [.tmp 4], 2⟩),
  (chantrylaw41_large, ⟨ic_chantrylaw41_large, [.tmp 2], 1⟩),
  (chantrylaw41_awake, ⟨ic_chantrylaw41_awake, [.tmp 0], 0⟩),
  (diff_Between, ⟨ic_diff_Between, [.tmp 4, .tmp 5], 2⟩),
  (chantryref41_Between, ⟨ic_chantryref41_Between, [.tmp 4, .tmp 5], 2⟩),
  (chantryref41_Same, ⟨ic_chantryref41_Same, [.tmp 4], 2⟩),
  (diff_Tidy, ⟨ic_diff_Tidy, [.tmp 2], 1⟩),
  (chantryref41_Tidy, ⟨ic_chantryref41_Tidy, [.tmp 2], 1⟩),
  (chantryref23_Same, ⟨ic_chantryref23_Same, [.tmp 4], 2⟩),
  (diff_Apply, ⟨ic_diff_Apply, [.many 4 4, .tmp 5], 2⟩),
  (chantryref41_Apply, ⟨ic_chantryref41_Apply, [.many 4 4, .tmp 5], 2⟩),
  (diff_Same, ⟨ic_diff_Same, [.tmp 4], 2⟩),
  (api_Delta, ⟨ic_api_Delta, [.tmp 2], 1⟩),
  (api_Count, ⟨ic_api_Count, [.tmp 10], 5⟩),
  (diff_byCount, ⟨ic_diff_byCount, [.tmp 4], 2⟩),
  (diff_Between_1, ⟨ic_diff_Between_1, [.many 2 4], 1⟩),
  (diff_Between_2, ⟨ic_diff_Between_2, [.many 2 4], 1⟩),
  (diff_words, ⟨ic_diff_words, [.tmp 8], 4⟩),
  (api_Word, ⟨ic_api_Word, [.tmp 10], 5⟩),
  (diff_byName, ⟨ic_diff_byName, [.tmp 4], 2⟩),
  (diff_Between_3, ⟨ic_diff_Between_3, [.many 2 4], 1⟩),
  (diff_Between_4, ⟨ic_diff_Between_4, [.many 2 4], 1⟩),
  (chantryref41_counted, ⟨ic_chantryref41_counted, [.tmp 4], 2⟩),
  (chantryref41_words, ⟨ic_chantryref41_words, [.tmp 6], 3⟩),
  (chantryref41_named, ⟨ic_chantryref41_named, [.tmp 4], 2⟩),
  (api_Count_30, ⟨ic_api_Count_30, [.tmp 4], 2⟩),
  (api_Word_31, ⟨ic_api_Word_31, [.tmp 4], 2⟩),
  (diff_byWord, ⟨ic_diff_byWord, [.tmp 4], 2⟩),
  (chantryref41_rising, ⟨ic_chantryref41_rising, [.tmp 4], 2⟩),
  (chantryref19_Same, ⟨ic_chantryref19_Same, [.tmp 4], 2⟩),
  (chantryref20_SameWords, ⟨ic_chantryref20_SameWords, [.tmp 4], 2⟩),
  (diff_apply, ⟨ic_diff_apply, [.tmp 4], 2⟩),
  (chantryref41_count, ⟨ic_chantryref41_count, [.tmp 4, .tmp 5], 2⟩),
  (chantryref41_turn, ⟨ic_chantryref41_turn, [.tmp 6, .tmp 7], 3⟩),
  (chantryref41_line, ⟨ic_chantryref41_line, [.tmp 4, .tmp 5], 2⟩),
  (api_Delta_40, ⟨ic_api_Delta_40, [.tmp 4], 2⟩),
  (api_Delta_41, ⟨ic_api_Delta_41, [.tmp 4], 2⟩),
  (api_Count_42, ⟨ic_api_Count_42, [.tmp 6, .tmp 7], 3⟩),
  (cmp_Compare_string, ⟨ic_cmp_Compare_string, [.tmp 4], 2⟩),
  (diff_words_1, ⟨ic_diff_words_1, [.tmp 2], 1⟩),
  (diff_words_1_1, ⟨ic_diff_words_1_1, [.many 3 4], 1⟩),
  (api_Word_46, ⟨ic_api_Word_46, [.tmp 6, .tmp 7], 3⟩),
  (chantryref41_has, ⟨ic_chantryref41_has, [.tmp 4], 2⟩),
  (cmp_Or_int, ⟨ic_cmp_Or_int, [.tmp 2], 1⟩),
  (chantryref41_less, ⟨ic_chantryref41_less, [.tmp 4], 2⟩),
  (api_Count_50, ⟨ic_api_Count_50, [.tmp 6, .tmp 7], 3⟩),
  (api_Count_51, ⟨ic_api_Count_51, [.tmp 8, .tmp 9], 4⟩),
  (api_Word_52, ⟨ic_api_Word_52, [.tmp 6, .tmp 7], 3⟩),
  (api_Word_53, ⟨ic_api_Word_53, [.tmp 8, .tmp 9], 4⟩),
  (diff_odd, ⟨ic_diff_odd, [.tmp 2], 1⟩),
  (chantryref41_put, ⟨ic_chantryref41_put, [.tmp 4], 2⟩),
  (chantryref41_cut, ⟨ic_chantryref41_cut, [.tmp 4], 2⟩),
  (cmp_isNaN_string, ⟨ic_cmp_isNaN_string, [.tmp 2], 1⟩),
  (api_Count_58, ⟨ic_api_Count_58, [.tmp 6], 3⟩),
  (api_Count_59, ⟨ic_api_Count_59, [.tmp 2], 1⟩),
  (api_Count_60, ⟨ic_api_Count_60, [.tmp 6], 3⟩),
  (api_Word_61, ⟨ic_api_Word_61, [.tmp 6], 3⟩),
  (api_Word_62, ⟨ic_api_Word_62, [.tmp 2], 1⟩),
  (api_Word_63, ⟨ic_api_Word_63, [.tmp 6], 3⟩),
  (api_Count_65, ⟨ic_api_Count_65, [], 2⟩),
  (api_Word_67, ⟨ic_api_Word_67, [], 2⟩),
  (api_Count_68, ⟨ic_api_Count_68, [], 2⟩),
  (api_Word_69, ⟨ic_api_Word_69, [], 2⟩),
  (api_Count_70, ⟨ic_api_Count_70, [], 1⟩),
  (api_Word_71, ⟨ic_api_Word_71, [], 1⟩)]
theorem tabOk : ∀ p ∈ tab, Fits Try.prog 0 p.1 p.2.ic p.2.rs p.2.np := by
  unfold tab
  exact List.forall_mem_cons.2 ⟨fits_chantrylaw41_DiffBetween, List.forall_mem_cons.2 ⟨fits_chantrylaw41_DiffApplies, List.forall_mem_cons.2 ⟨fits_chantrylaw41_DiffBack, List.forall_mem_cons.2 ⟨fits_chantrylaw41_large, List.forall_mem_cons.2 ⟨fits_chantrylaw41_awake, List.forall_mem_cons.2 ⟨fits_diff_Between, List.forall_mem_cons.2 ⟨fits_chantryref41_Between, List.forall_mem_cons.2 ⟨fits_chantryref41_Same, List.forall_mem_cons.2 ⟨fits_diff_Tidy, List.forall_mem_cons.2 ⟨fits_chantryref41_Tidy, List.forall_mem_cons.2 ⟨fits_chantryref23_Same, List.forall_mem_cons.2 ⟨fits_diff_Apply, List.forall_mem_cons.2 ⟨fits_chantryref41_Apply, List.forall_mem_cons.2 ⟨fits_diff_Same, List.forall_mem_cons.2 ⟨fits_api_Delta, List.forall_mem_cons.2 ⟨fits_api_Count, List.forall_mem_cons.2 ⟨fits_diff_byCount, List.forall_mem_cons.2 ⟨fits_diff_Between_1, List.forall_mem_cons.2 ⟨fits_diff_Between_2, List.forall_mem_cons.2 ⟨fits_diff_words, List.forall_mem_cons.2 ⟨fits_api_Word, List.forall_mem_cons.2 ⟨fits_diff_byName, List.forall_mem_cons.2 ⟨fits_diff_Between_3, List.forall_mem_cons.2 ⟨fits_diff_Between_4, List.forall_mem_cons.2 ⟨fits_chantryref41_counted, List.forall_mem_cons.2 ⟨fits_chantryref41_words, List.forall_mem_cons.2 ⟨fits_chantryref41_named, List.forall_mem_cons.2 ⟨fits_api_Count_30, List.forall_mem_cons.2 ⟨fits_api_Word_31, List.forall_mem_cons.2 ⟨fits_diff_byWord, List.forall_mem_cons.2 ⟨fits_chantryref41_rising, List.forall_mem_cons.2 ⟨fits_chantryref19_Same, List.forall_mem_cons.2 ⟨fits_chantryref20_SameWords, List.forall_mem_cons.2 ⟨fits_diff_apply, List.forall_mem_cons.2 ⟨fits_chantryref41_count, List.forall_mem_cons.2 ⟨fits_chantryref41_turn, List.forall_mem_cons.2 ⟨fits_chantryref41_line, List.forall_mem_cons.2 ⟨fits_api_Delta_40, List.forall_mem_cons.2 ⟨fits_api_Delta_41, List.forall_mem_cons.2 ⟨fits_api_Count_42, List.forall_mem_cons.2 ⟨fits_cmp_Compare_string, List.forall_mem_cons.2 ⟨fits_diff_words_1, List.forall_mem_cons.2 ⟨fits_diff_words_1_1, List.forall_mem_cons.2 ⟨fits_api_Word_46, List.forall_mem_cons.2 ⟨fits_chantryref41_has, List.forall_mem_cons.2 ⟨fits_cmp_Or_int, List.forall_mem_cons.2 ⟨fits_chantryref41_less, List.forall_mem_cons.2 ⟨fits_api_Count_50, List.forall_mem_cons.2 ⟨fits_api_Count_51, List.forall_mem_cons.2 ⟨fits_api_Word_52, List.forall_mem_cons.2 ⟨fits_api_Word_53, List.forall_mem_cons.2 ⟨fits_diff_odd, List.forall_mem_cons.2 ⟨fits_chantryref41_put, List.forall_mem_cons.2 ⟨fits_chantryref41_cut, List.forall_mem_cons.2 ⟨fits_cmp_isNaN_string, List.forall_mem_cons.2 ⟨fits_api_Count_58, List.forall_mem_cons.2 ⟨fits_api_Count_59, List.forall_mem_cons.2 ⟨fits_api_Count_60, List.forall_mem_cons.2 ⟨fits_api_Word_61, List.forall_mem_cons.2 ⟨fits_api_Word_62, List.forall_mem_cons.2 ⟨fits_api_Word_63, List.forall_mem_cons.2 ⟨fits_api_Count_65, List.forall_mem_cons.2 ⟨fits_api_Word_67, List.forall_mem_cons.2 ⟨fits_api_Count_68, List.forall_mem_cons.2 ⟨fits_api_Word_69, List.forall_mem_cons.2 ⟨fits_api_Count_70, List.forall_mem_cons.2 ⟨fits_api_Word_71, fun p h => by cases h⟩⟩⟩⟩⟩⟩⟩⟩⟩⟩⟩⟩⟩⟩⟩⟩⟩⟩⟩⟩⟩⟩⟩⟩⟩⟩⟩⟩⟩⟩⟩⟩⟩⟩⟩⟩⟩⟩⟩⟩⟩⟩⟩⟩⟩⟩⟩⟩⟩⟩⟩⟩⟩⟩⟩⟩⟩⟩⟩⟩⟩⟩⟩⟩⟩⟩⟩
end Go.AS.C


namespace Go.AS.C
open Go Go.Proofs
set_option linter.unusedVariables false
set_option linter.unusedSimpArgs false
set_option maxRecDepth 100000

/-! The law's own example is run. -/
noncomputable def tab2 : List (Nat × CodeE) := (diff_words_1_1, ⟨ic_diff_words_1_1, [.many 3 4], 2⟩) :: tab
theorem tab2Ok : ∀ p ∈ tab2, Fits Try.prog 0 p.1 p.2.ic p.2.rs p.2.np := List.forall_mem_cons.2 ⟨fits_diff_words_1_1.more 2 (by kernel_rfl), tabOk⟩
theorem awake_run : (runO Try.prog tab2 orc0 (fun _ => false) 100000 60 chantrylaw41_awake [] []).map (·.1) = some (.bool true) := by kernel_rfl
theorem wake {A : AH} {Q : Value → AH → Prop} (hq : Q (.bool true) A) : ACalls 0 Try.prog chantrylaw41_awake [] Q A :=
  ACalls.runO (A0 := []) mixed rfl (by decide +kernel) tab2Ok orc0_ok awake_run rfl rfl (Le.of_get (fun k hk => by simp at hk) (by simp)) hq
end Go.AS.C


namespace Go.AS.C
open Go Go.Proofs
set_option linter.unusedVariables false
set_option linter.unusedSimpArgs false
set_option maxRecDepth 10000

/-! DiffBetween. -/
theorem fin_of {s : StateV} (h : SmallS0 s) (hr : RangeS s) : FinS s ∧ FewS s := by
  obtain ⟨⟨a1, a2⟩, ⟨b1, b2⟩, ⟨c1, c2⟩, d1, d2⟩ := h
  have fw : ∀ {w : WordV}, SmallW w → FinW w := fun h => ⟨by have := h.1; omega, by have := h.2; omega⟩
  exact ⟨⟨⟨by omega, fun w hw => ⟨by have := a2 w hw; omega, hr w hw⟩⟩, ⟨by omega, fun w hw => fw (b2 w hw)⟩, ⟨by omega, fun w hw => fw (c2 w hw)⟩, by omega, fun w hw => fw (d2 w hw)⟩, by omega, by omega, by omega, by omega⟩
end Go.AS.C


namespace Go.AS.C
open Go Go.Proofs
set_option linter.unusedVariables false
set_option linter.unusedSimpArgs false
set_option maxRecDepth 10000

/-! A thing put into a rising list, or taken out. -/
structure Ord4 {α : Type} (lt eq : α → α → Prop) : Prop extends Ord3 lt eq where
  sy : ∀ {a b}, eq a b → eq b a
  tot : ∀ a b, lt a b ∨ eq a b ∨ lt b a
theorem ord4C : Ord4 ltC eqCn := ⟨ordC, fun h => h.symm, fun a b => by
  rcases kl_tri (bl a.name) (bl b.name) with h | h | h
  · exact .inl h
  · exact .inr (.inl (bl_inj.1 h))
  · exact .inr (.inr h)⟩
theorem ord4N : Ord4 ltN eqN := ⟨ordN, fun h => h.symm, fun a b => by
  rcases kl_tri (bl a.name) (bl b.name) with h | h | h
  · exact .inl h
  · exact .inr (.inl (bl_inj.1 h))
  · exact .inr (.inr h)⟩
theorem ord4W : Ord4 ltWd (fun a b => a = b) := ⟨ordW, fun h => h.symm, fun a b => by
  rcases kl_tri (bl a.name) (bl b.name) with h | h | h
  · exact .inl (.inl h)
  · have hn := bl_inj.1 h
    rcases kl_tri (bl a.text) (bl b.text) with h | h | h
    · exact .inl (.inr ⟨hn, h⟩)
    · refine .inr (.inl ?_)
      have ht := bl_inj.1 h
      cases a; cases b
      simp only at hn ht
      rw [hn, ht]
    · exact .inr (.inr (.inr ⟨hn.symm, h⟩))
  · exact .inr (.inr (.inl h))⟩
section
variable {α : Type} (lt : α → α → Prop)
open Classical in
noncomputable def below (x : α) (l : List α) : List α := l.filter (fun y => decide (lt y x))
open Classical in
noncomputable def above (x : α) (l : List α) : List α := l.filter (fun y => decide (lt x y))
noncomputable def ins (x : α) (l : List α) : List α := below lt x l ++ x :: above lt x l
noncomputable def rem (x : α) (l : List α) : List α := below lt x l ++ above lt x l
end
section
variable {α : Type} {lt eq : α → α → Prop} {l : List α} {x y : α}
theorem mem_below : y ∈ below lt x l ↔ y ∈ l ∧ lt y x := by unfold below; simp
theorem mem_above : y ∈ above lt x l ↔ y ∈ l ∧ lt x y := by unfold above; simp
theorem mem_ins : y ∈ ins lt x l ↔ y = x ∨ (y ∈ l ∧ (lt y x ∨ lt x y)) := by
  unfold ins
  rw [List.mem_append, List.mem_cons, mem_below, mem_above]
  constructor
  · rintro (⟨h, k⟩ | h | ⟨h, k⟩)
    · exact .inr ⟨h, .inl k⟩
    · exact .inl h
    · exact .inr ⟨h, .inr k⟩
  · rintro (h | ⟨h, k | k⟩)
    · exact .inr (.inl h)
    · exact .inl ⟨h, k⟩
    · exact .inr (.inr ⟨h, k⟩)
theorem mem_rem : y ∈ rem lt x l ↔ y ∈ l ∧ (lt y x ∨ lt x y) := by
  unfold rem
  rw [List.mem_append, mem_below, mem_above]
  constructor
  · rintro (⟨h, k⟩ | ⟨h, k⟩)
    · exact ⟨h, .inl k⟩
    · exact ⟨h, .inr k⟩
  · rintro ⟨h, k | k⟩
    · exact .inl ⟨h, k⟩
    · exact .inr ⟨h, k⟩
theorem Ord4.ne_iff (o : Ord4 lt eq) : (lt y x ∨ lt x y) ↔ ¬ eq y x := by
  constructor
  · rintro (h | h) e
    · exact o.ne e h
    · exact o.ne (o.sy e) h
  · intro e
    rcases o.tot y x with h | h | h
    · exact .inl h
    · exact absurd h e
    · exact .inr h
theorem pw_ins (o : Ord4 lt eq) (h : l.Pairwise lt) : (ins lt x l).Pairwise lt := by
  unfold ins
  rw [List.pairwise_append, List.pairwise_cons]
  refine ⟨h.filter _, ⟨fun y hy => (mem_above.1 hy).2, h.filter _⟩, fun a ha b hb => ?_⟩
  have h1 := (mem_below.1 ha).2
  rcases List.mem_cons.1 hb with rfl | hb
  · exact h1
  · exact o.tr h1 (mem_above.1 hb).2
theorem pw_rem (o : Ord4 lt eq) (h : l.Pairwise lt) : (rem lt x l).Pairwise lt := by
  unfold rem
  rw [List.pairwise_append]
  exact ⟨h.filter _, h.filter _, fun a ha b hb => o.tr (mem_below.1 ha).2 (mem_above.1 hb).2⟩
theorem filter_self {p : α → Bool} (h : ∀ y ∈ l, p y = true) : l.filter p = l := List.filter_eq_self.2 h
theorem filter_no {p : α → Bool} (h : ∀ y ∈ l, ¬ p y = true) : l.filter p = [] := List.filter_eq_nil_iff.2 h
theorem mem_take {k : Nat} (h : y ∈ l.take k) : ∃ j, j < k ∧ l[j]? = some y := by
  obtain ⟨j, hj⟩ := List.getElem?_of_mem h
  have hlt := lt_of_get hj
  rw [List.length_take] at hlt
  rw [List.getElem?_take_of_lt (by omega)] at hj
  exact ⟨j, by omega, hj⟩
theorem mem_drop {k : Nat} (h : y ∈ l.drop k) : ∃ j, k ≤ j ∧ l[j]? = some y := by
  obtain ⟨j, hj⟩ := List.getElem?_of_mem h
  rw [List.getElem?_drop] at hj
  exact ⟨k + j, by omega, hj⟩
open Classical in
theorem take_below (o : Ord4 lt eq) {p : Nat} (h1 : ∀ j e, j < p → l[j]? = some e → lt e x) (h2 : ∀ j e, p ≤ j → l[j]? = some e → ¬ lt e x) : l.take p = below lt x l := by
  unfold below
  conv => rhs; rw [← List.take_append_drop p l]
  rw [List.filter_append, filter_self (l := l.take p), filter_no (l := l.drop p), List.append_nil]
  · intro y hy
    obtain ⟨j, hj, e⟩ := mem_drop hy
    rw [decide_eq_true_iff]
    exact h2 j y hj e
  · intro y hy
    obtain ⟨j, hj, e⟩ := mem_take hy
    exact decide_eq_true (h1 j y hj e)
open Classical in
theorem drop_above (o : Ord4 lt eq) {p : Nat} (h1 : ∀ j e, j < p → l[j]? = some e → lt e x) (h2 : ∀ j e, p ≤ j → l[j]? = some e → ¬ lt e x) (hn : ¬ ∃ y ∈ l, eq y x) : l.drop p = above lt x l := by
  unfold above
  conv => rhs; rw [← List.take_append_drop p l]
  rw [List.filter_append, filter_no (l := l.take p), filter_self (l := l.drop p), List.nil_append]
  · intro y hy
    obtain ⟨j, hj, e⟩ := mem_drop hy
    refine decide_eq_true ?_
    rcases o.tot x y with h | h | h
    · exact h
    · exact absurd ⟨y, List.mem_of_getElem? e, o.sy h⟩ hn
    · exact absurd h (h2 j y hj e)
  · intro y hy
    obtain ⟨j, hj, e⟩ := mem_take hy
    rw [decide_eq_true_iff]
    intro h
    exact o.irr _ (o.tr h (h1 j y hj e))
open Classical in
theorem drop_above' (o : Ord4 lt eq) (ha : Adj lt l) {p : Nat} {e : α} (h1 : ∀ j e, j < p → l[j]? = some e → lt e x) (h2 : ∀ j e, p ≤ j → l[j]? = some e → ¬ lt e x) (he : l[p]? = some e) (hx : eq e x) : l.drop (p + 1) = above lt x l := by
  unfold above
  conv => rhs; rw [← List.take_append_drop (p + 1) l]
  rw [List.filter_append, filter_no (l := l.take (p + 1)), filter_self (l := l.drop (p + 1)), List.nil_append]
  · intro y hy
    obtain ⟨j, hj, k⟩ := mem_drop hy
    refine decide_eq_true ?_
    have hlt := adj_lt' ha o.toOrd3 (show p < j by omega) he k
    rcases o.tot x y with h | h | h
    · exact h
    · exact absurd (o.le hlt (o.sy h)) (o.ne hx)
    · exact absurd (o.tr hlt h) (o.ne hx)
  · intro y hy
    obtain ⟨j, hj, k⟩ := mem_take hy
    rw [decide_eq_true_iff]
    intro h
    rcases Nat.lt_or_ge j p with hjp | hjp
    · exact o.irr _ (o.tr h (h1 j y hjp k))
    · obtain rfl : j = p := by omega
      rw [he] at k
      injection k with k
      subst k
      exact o.ne (o.sy hx) h
end
end Go.AS.C


namespace Go.AS.C
open Go Go.Proofs
set_option linter.unusedVariables false
set_option linter.unusedSimpArgs false
set_option maxRecDepth 10000

/-! A thing put into a rising list, or taken out. -/
theorem ovlC : OvlOk Try.prog api_Count_64 2 := ⟨Try.f64, 22, 4, 40, Try.func64, by kernel_rfl, by kernel_rfl, by kernel_rfl, by kernel_rfl, Try.underlying22, fun w => by kernel_rfl⟩
theorem cloneC_spec {A : AH} {v : Value} {es : List (List Value)} {Q : Value → AH → Prop} (hv : Sl A 2 v es.length es.flatten) (hok : ∀ e ∈ es, e.length = 2 ∧ ones e = true) (hl : es.length ≤ 2 ^ 30) (hq : ∀ u A', Le A A' → OwnE A.length A' 2 u es → Q u A') : ACalls 0 Try.prog api_Count_59 [v] Q A := by
  refine ACalls.of_fits mixed fits_api_Count_59 rfl ?_
  unfold ic_api_Count_59
  have i0 : initA [v] 0 = v := rfl
  generalize initA [v] = a at i0
  have non : (∃ p n c, v = .slice (some p) n c) ∨ (v = .slice none 0 0 ∧ es.length = 0) := by
    rcases hv.2 with ⟨h, h'⟩ | ⟨h, h'⟩ | ⟨i, o, c, rc, st, ex, h, _⟩
    · exact .inr ⟨h, h'⟩
    · exact .inl ⟨_, _, _, h⟩
    · exact .inl ⟨_, _, _, h⟩
  rcases non with ⟨p, n, c, hs⟩ | ⟨hs, hz⟩
  · have c1 : (if kindOf (.slice 40) v = true then sIsnil A v false else none) = some (.bool false, A) := by subst hs; rfl
    obtain ⟨l1, l2⟩ := lit_noneE (A0 := A) A [.string ⟨#[]⟩, .int .i64 0] 2 (.refl _)
    obtain ⟨v', A', q1, q2, q3, _⟩ := OwnE.app (bytes := 24) (A0 := A) (.push _ _) l2 (hv.le (.push _ _)) hok (by decide) (by simp only [List.length_nil]; omega) (by decide)
    simp (maxSteps := 1000000) (disch := omega) only [stepS, reduceIte, Nat.reduceBEq, Nat.reduceEqDiff, tupleOf, stepT, i0, c1, l1, q1]
    exact hq _ _ q2 q3
  · have c1 : (if kindOf (.slice 40) v = true then sIsnil A v false else none) = some (.bool true, A) := by subst hs; rfl
    simp (maxSteps := 1000000) (disch := omega) only [stepS, reduceIte, Nat.reduceBEq, Nat.reduceEqDiff, tupleOf, stepT, i0, c1]
    rw [List.length_eq_zero_iff.1 hz] at hq
    exact hq _ _ (.refl _) (OwnE.nil _ _ _)
section
variable {α : Type} {fv v : Value} {enc : α → List Value} {lt eq : α → α → Prop} {A : AH} {l : List α} {x : α} {Q : Value → AH → Prop}
theorem outC_spec (he : ∀ x, (enc x).length = 2 ∧ ones (enc x) = true) (hi : ∀ x y, enc x = enc y → x = y) (hc : CmpA fv enc lt eq) (o : Ord4 lt eq)
    (hv : Sl A 2 v (l.map enc).length (l.map enc).flatten) (hl : l.length ≤ 2 ^ 30) (hs : Adj lt l)
    (hq1 : (¬ ∃ y ∈ l, eq y x) → ∀ A', Le A A' → Q (.tuple #[.slice none 0 0, .bool false]) A') (hq2 : (∃ y ∈ l, eq y x) → ∀ u A', Le A A' → Sl A' 2 u ((rem lt x l).map enc).length ((rem lt x l).map enc).flatten → Q (.tuple #[u, .bool true]) A') :
    ACalls 0 Try.prog api_Count_50 [v, .agg (enc x).toArray, fv] Q A := by
  refine ACalls.of_fits mixed fits_api_Count_50 rfl ?_
  unfold ic_api_Count_50
  obtain ⟨c0, c1, hxe⟩ : ∃ c0 c1, enc x = [c0, c1] := by
    have := (he x).1
    match h : enc x, this with
    | [c0, c1], _ => exact ⟨c0, c1, rfl⟩
  have ho := (he x).2
  rw [hxe] at ho ⊢
  have o0 : c0.oneCell' = true := by unfold ones at ho; simp at ho; exact ho.1
  have o1 : c1.oneCell' = true := by unfold ones at ho; simp at ho; exact ho.2
  have i0 : initA [v, .agg [c0, c1].toArray, fv] 0 = v := rfl
  have i1 : initA [v, .agg [c0, c1].toArray, fv] 1 = .agg #[c0, c1] := rfl
  have i2 : initA [v, .agg [c0, c1].toArray, fv] 2 = fv := rfl
  generalize initA [v, .agg [c0, c1].toArray, fv] = a at i0 i1 i2
  obtain ⟨B1, hB1⟩ : ∃ B1, B1 = A ++ [.row [c0, c1] .own 0 true] := ⟨_, rfl⟩
  have k1 : Le A B1 := by rw [hB1]; exact .push _ _
  have r1 : rowAt B1 A.length = some ([c0, c1], .own, 0, true) := by rw [hB1]; exact rowAt_own (get_last _ _)
  refine W_mid (fun r' B' => B' = B1 ∧ r' 0 = v ∧ r' 2 = fv ∧ r' 4 = ptr A.length) ?_ ?_
  · rw [hB1]
    simp (maxSteps := 1000000) (disch := omega) only [stepS, reduceIte, Nat.reduceBEq, Nat.reduceEqDiff, tupleOf, stepT, stepX, heapR, lensR, Nat.reduceAdd, Nat.reduceLeDiff, i0, i1, i2, o0, o1]
  clear i0 i1 i2 hB1
  rintro r B ⟨hB, g0, g2, g4⟩
  obtain rfl : B1 = B := hB.symm
  clear hB
  have hok : ∀ e ∈ l.map enc, e.length = 2 ∧ ones e = true := by intro e h; rw [List.mem_map] at h; obtain ⟨y, _, rfl⟩ := h; exact he y
  simp (maxSteps := 1000000) (disch := omega) only [stepS, reduceIte, Nat.reduceBEq, Nat.reduceEqDiff, tupleOf, stepT, stepX, heapR, lensR, Nat.reduceAdd, Nat.reduceLeDiff, g0, g2, g4, r1, o0, o1]
  refine bsB_spec fits_api_Count_42 he hi hc o.toOrd3 hxe (hv.le k1) (by omega) hs fun A' p h k2 q1 q2 q3 q4 q5 => ?_
  cases h with
  | false =>
    simp (maxSteps := 1000000) (disch := omega) only [stepS, reduceIte, Nat.reduceBEq, Nat.reduceEqDiff, tupleOf, stepT, stepX, heapR, lensR, Nat.reduceAdd, Nat.reduceLeDiff, g0, g2, g4]
    exact hq1 (fun e => by have := q4.2 e; cases this) _ (k1.trans k2)
  | true =>
    obtain ⟨e, he1, he2⟩ := q5.1 rfl
    have hp := lt_of_get he1
    simp (maxSteps := 1000000) (disch := omega) only [stepS, reduceIte, Nat.reduceBEq, Nat.reduceEqDiff, tupleOf, stepT, stepX, heapR, lensR, Nat.reduceAdd, Nat.reduceLeDiff, g0, g2, g4]
    refine cloneC_spec (hv.le (k1.trans k2)) hok (by rw [List.length_map]; exact hl) fun u A2 k3 w1 => ?_
    simp (maxSteps := 1000000) (disch := omega) only [stepS, reduceIte, Nat.reduceBEq, Nat.reduceEqDiff, tupleOf, stepT, stepX, heapR, lensR, Nat.reduceAdd, Nat.reduceLeDiff, g0, g2, g4]
    refine delete1_spec (A0 := A') (es := l.map enc) (i := p) (bytes := 24) mixed fits_api_Count_58 (by decide) rfl rfl (by decide) k3 w1 (by rw [List.length_map]; exact hp) rfl (by rw [List.length_map]; omega) fun u' A3 k4 w2 _ _ => ?_
    simp (maxSteps := 1000000) (disch := omega) only [stepS, reduceIte, Nat.reduceBEq, Nat.reduceEqDiff, tupleOf, stepT, stepX, heapR, lensR, Nat.reduceAdd, Nat.reduceLeDiff, g0, g2, g4]
    refine hq2 (q4.1 rfl) _ _ ((k1.trans k2).trans k4) ?_
    have hrem : (rem lt x l).map enc = (l.map enc).take p ++ (l.map enc).drop (p + 1) := by
      unfold rem
      rw [← take_below o q2 q3, ← drop_above' o hs q2 q3 he1 he2, List.map_append, List.map_take, List.map_drop]
    rw [hrem]
    exact w2.2.sl
theorem inC_spec {rep : Bool} (he : ∀ x, (enc x).length = 2 ∧ ones (enc x) = true) (hi : ∀ x y, enc x = enc y → x = y) (hc : CmpA fv enc lt eq) (o : Ord4 lt eq)
    (hag : ∀ (B : AH) y, y ∈ l → (y = x → sEqagg B false (Try.prog.keyLits 8 40) (.agg (enc y).toArray) (.agg (enc x).toArray) = some (.bool true, B)) ∧ (y ≠ x → sEqagg B false (Try.prog.keyLits 8 40) (.agg (enc y).toArray) (.agg (enc x).toArray) = some (.bool false, B)))
    (hv : Sl A 2 v (l.map enc).length (l.map enc).flatten) (hl : l.length ≤ 2 ^ 30) (hs : Adj lt l)
    (hq1 : ((∃ y ∈ l, eq y x) ∧ (rep = false ∨ x ∈ l)) → ∀ A', Le A A' → Q (.tuple #[.slice none 0 0, .bool false]) A') (hq2 : ¬ ((∃ y ∈ l, eq y x) ∧ (rep = false ∨ x ∈ l)) → ∀ u A', Le A A' → Sl A' 2 u ((ins lt x l).map enc).length ((ins lt x l).map enc).flatten → Q (.tuple #[u, .bool true]) A') :
    ACalls 0 Try.prog api_Count_51 [v, .agg (enc x).toArray, fv, .bool rep] Q A := by
  refine ACalls.of_fits mixed fits_api_Count_51 rfl ?_
  unfold ic_api_Count_51
  obtain ⟨c0, c1, hxe⟩ : ∃ c0 c1, enc x = [c0, c1] := by
    have := (he x).1
    match h : enc x, this with
    | [c0, c1], _ => exact ⟨c0, c1, rfl⟩
  have ho := (he x).2
  rw [hxe] at ho ⊢
  have o0 : c0.oneCell' = true := by unfold ones at ho; simp at ho; exact ho.1
  have o1 : c1.oneCell' = true := by unfold ones at ho; simp at ho; exact ho.2
  have i0 : initA [v, .agg [c0, c1].toArray, fv, .bool rep] 0 = v := rfl
  have i1 : initA [v, .agg [c0, c1].toArray, fv, .bool rep] 1 = .agg #[c0, c1] := rfl
  have i2 : initA [v, .agg [c0, c1].toArray, fv, .bool rep] 2 = fv := rfl
  have i3 : initA [v, .agg [c0, c1].toArray, fv, .bool rep] 3 = .bool rep := rfl
  generalize initA [v, .agg [c0, c1].toArray, fv, .bool rep] = a at i0 i1 i2 i3
  obtain ⟨B1, hB1⟩ : ∃ B1, B1 = A ++ [.row [c0, c1] .own 0 true] := ⟨_, rfl⟩
  have k1 : Le A B1 := by rw [hB1]; exact .push _ _
  have r1 : rowAt B1 A.length = some ([c0, c1], .own, 0, true) := by rw [hB1]; exact rowAt_own (get_last _ _)
  refine W_mid (fun r' B' => B' = B1 ∧ r' 0 = v ∧ r' 2 = fv ∧ r' 3 = .bool rep ∧ r' 5 = ptr A.length) ?_ ?_
  · rw [hB1]
    simp (maxSteps := 1000000) (disch := omega) only [stepS, reduceIte, Nat.reduceBEq, Nat.reduceEqDiff, tupleOf, stepT, stepX, heapR, lensR, Nat.reduceAdd, Nat.reduceLeDiff, i0, i1, i2, i3, o0, o1]
  clear i0 i1 i2 i3 hB1
  rintro r B ⟨hB, g0, g2, g3, g5⟩
  obtain rfl : B1 = B := hB.symm
  clear hB
  have hok : ∀ e ∈ l.map enc, e.length = 2 ∧ ones e = true := by intro e h; rw [List.mem_map] at h; obtain ⟨y, _, rfl⟩ := h; exact he y
  simp (maxSteps := 1000000) (disch := omega) only [stepS, reduceIte, Nat.reduceBEq, Nat.reduceEqDiff, tupleOf, stepT, stepX, heapR, lensR, Nat.reduceAdd, Nat.reduceLeDiff, g0, g2, g3, g5, r1, o0, o1]
  refine bsB_spec fits_api_Count_42 he hi hc o.toOrd3 hxe (hv.le k1) (by omega) hs fun A' p h k2 q1 q2 q3 q4 q5 => ?_
  have r2 := k2.row r1
  have kA := k1.trans k2
  cases h with
  | false =>
    have hno : ¬ ∃ y ∈ l, eq y x := fun e => by have := q4.2 e; cases this
    simp (maxSteps := 1000000) (disch := omega) only [stepS, reduceIte, Nat.reduceBEq, Nat.reduceEqDiff, tupleOf, stepT, stepX, heapR, lensR, Nat.reduceAdd, Nat.reduceLeDiff, g0, g2, g3, g5]
    refine cloneC_spec (hv.le kA) hok (by rw [List.length_map]; exact hl) fun u A2 k3 w1 => ?_
    have r3 := k3.row r2
    have hlit := litE (sz := 2) A2 (z := [.string ⟨#[]⟩, .int .i64 0]) (e := [c0, c1]) rfl rfl ho
    simp (maxSteps := 1000000) (disch := omega) only [stepS, reduceIte, Nat.reduceBEq, Nat.reduceEqDiff, tupleOf, stepT, stepX, heapR, lensR, Nat.reduceAdd, Nat.reduceLeDiff, g0, g2, g3, g5, r3, hlit, o0, o1]
    have k4 : Le A2 (A2 ++ [.row [c0, c1] .own 2 true]) := .push _ _
    have w1' := w1.le k4
    have hx1 : OwnE A'.length (A2 ++ [.row [c0, c1] .own 2 true]) 2 (.slice (some ⟨A2.length, 0, none⟩) 1 1) [[c0, c1]] := ⟨fun e h => by rw [List.mem_singleton] at h; rw [h]; exact ⟨rfl, ho⟩, rfl, .inr (.inr ⟨A2.length, 0, 1, [c0, c1], true, rfl, Nat.le_refl _, k3.len, get_last _ _, by simp, fun j hj => by simp⟩)⟩
    refine insert1_spec (A0 := A') (es := l.map enc) (e := [c0, c1]) (i := p) (bytes := 24) mixed fits_api_Count_60 ovlC (by decide) rfl rfl (by decide) (k3.trans k4) w1' hx1 ?_ (by rw [List.length_map]; exact q1) (by rw [List.length_map]; omega) fun u' A3 k5 w2 _ _ => ?_
    · intro k hk1 hk2
      have := (OwnE.ge w1 k hk2).2
      simp [blkOf] at hk1
      omega
    simp (maxSteps := 1000000) (disch := omega) only [stepS, reduceIte, Nat.reduceBEq, Nat.reduceEqDiff, tupleOf, stepT, stepX, heapR, lensR, Nat.reduceAdd, Nat.reduceLeDiff, g0, g2, g3, g5]
    refine hq2 (fun h => hno h.1) _ _ (kA.trans k5) ?_
    have hins : (ins lt x l).map enc = (l.map enc).take p ++ [c0, c1] :: (l.map enc).drop p := by
      unfold ins
      rw [← take_below o q2 q3, ← drop_above o q2 q3 hno, List.map_append, List.map_cons, List.map_take, List.map_drop, hxe]
    rw [hins]
    exact w2.2.sl
  | true =>
    obtain ⟨e, he1, he2⟩ := q5.1 rfl
    have hex := q4.1 rfl
    have hmem := pos_mem hs o.toOrd3 q2 q3 he1
    have hp := lt_of_get he1
    obtain ⟨bp, b1, b2⟩ := enc_at he hv he1
    have b2 := b2 A' kA
    have hag' := hag A' e (List.mem_of_getElem? he1)
    rw [hxe] at hag'
    by_cases hfail : rep = false ∨ x ∈ l
    · cases rep with
      | false =>
        simp (maxSteps := 1000000) (disch := omega) only [stepS, reduceIte, Nat.reduceBEq, Nat.reduceEqDiff, tupleOf, stepT, stepX, heapR, lensR, Nat.reduceAdd, Nat.reduceLeDiff, g0, g2, g3, g5, r2, o0, o1]
        exact hq1 ⟨hex, hfail⟩ _ kA
      | true =>
        have hxe' : e = x := hmem.1 (hfail.resolve_left (by decide))
        have hd := hag'.1 hxe'
        simp (maxSteps := 1000000) (disch := omega) only [stepS, reduceIte, Nat.reduceBEq, Nat.reduceEqDiff, tupleOf, stepT, stepX, heapR, lensR, Nat.reduceAdd, Nat.reduceLeDiff, g0, g2, g3, g5, r2, o0, o1, b1, b2, hd]
        exact hq1 ⟨hex, hfail⟩ _ kA
    · cases rep with
      | false => exact absurd (.inl rfl) hfail
      | true =>
        have hd := hag'.2 (fun h => hfail (.inr (hmem.2 h)))
        simp (maxSteps := 1000000) (disch := omega) only [stepS, reduceIte, Nat.reduceBEq, Nat.reduceEqDiff, tupleOf, stepT, stepX, heapR, lensR, Nat.reduceAdd, Nat.reduceLeDiff, g0, g2, g3, g5, r2, o0, o1, b1, b2, hd]
        refine cloneC_spec (hv.le kA) hok (by rw [List.length_map]; exact hl) fun u A2 k3 w1 => ?_
        have r3 := k3.row r2
        obtain ⟨up, _, u1, _⟩ := OwnE.el w1 (j := p) (e := enc e) (by rw [List.getElem?_map, he1]; rfl)
        obtain ⟨A3, s1, s2, s3⟩ := OwnE.put w1 (j := p) (e := [c0, c1]) (by rw [List.length_map]; exact hp) rfl ho (u1 A2 p rfl)
        simp (maxSteps := 1000000) (disch := omega) only [stepS, reduceIte, Nat.reduceBEq, Nat.reduceEqDiff, tupleOf, stepT, stepX, heapR, lensR, Nat.reduceAdd, Nat.reduceLeDiff, g0, g2, g3, g5, r3, o0, o1, u1, s1]
        refine hq2 (fun h => hfail h.2) _ _ (kA.trans (s3.le k3 (fun k hk => (OwnE.ge w1 k hk).1))) ?_
        have hins : (ins lt x l).map enc = (l.map enc).set p [c0, c1] := by
          unfold ins
          rw [← take_below o q2 q3, ← drop_above' o hs q2 q3 he1 he2, List.map_append, List.map_cons, List.map_take, List.map_drop, hxe, List.set_eq_take_append_cons_drop, if_pos (by rw [List.length_map]; exact hp)]
        rw [hins]
        exact s2.2.sl
end
end Go.AS.C


namespace Go.AS.C
open Go Go.Proofs
set_option linter.unusedVariables false
set_option linter.unusedSimpArgs false
set_option maxRecDepth 10000

theorem ovlW : OvlOk Try.prog api_Word_66 2 := ⟨Try.f66, 23, 4, 42, Try.func66, by kernel_rfl, by kernel_rfl, by kernel_rfl, by kernel_rfl, Try.underlying23, fun w => by kernel_rfl⟩
theorem cloneW_spec {A : AH} {v : Value} {es : List (List Value)} {Q : Value → AH → Prop} (hv : Sl A 2 v es.length es.flatten) (hok : ∀ e ∈ es, e.length = 2 ∧ ones e = true) (hl : es.length ≤ 2 ^ 30) (hq : ∀ u A', Le A A' → OwnE A.length A' 2 u es → Q u A') : ACalls 0 Try.prog api_Word_62 [v] Q A := by
  refine ACalls.of_fits mixed fits_api_Word_62 rfl ?_
  unfold ic_api_Word_62
  have i0 : initA [v] 0 = v := rfl
  generalize initA [v] = a at i0
  have non : (∃ p n c, v = .slice (some p) n c) ∨ (v = .slice none 0 0 ∧ es.length = 0) := by
    rcases hv.2 with ⟨h, h'⟩ | ⟨h, h'⟩ | ⟨i, o, c, rc, st, ex, h, _⟩
    · exact .inr ⟨h, h'⟩
    · exact .inl ⟨_, _, _, h⟩
    · exact .inl ⟨_, _, _, h⟩
  rcases non with ⟨p, n, c, hs⟩ | ⟨hs, hz⟩
  · have c1 : (if kindOf (.slice 42) v = true then sIsnil A v false else none) = some (.bool false, A) := by subst hs; rfl
    obtain ⟨l1, l2⟩ := lit_noneE (A0 := A) A [.string ⟨#[]⟩, .string ⟨#[]⟩] 2 (.refl _)
    obtain ⟨v', A', q1, q2, q3, _⟩ := OwnE.app (bytes := 32) (A0 := A) (.push _ _) l2 (hv.le (.push _ _)) hok (by decide) (by simp only [List.length_nil]; omega) (by decide)
    simp (maxSteps := 1000000) (disch := omega) only [stepS, reduceIte, Nat.reduceBEq, Nat.reduceEqDiff, tupleOf, stepT, i0, c1, l1, q1]
    exact hq _ _ q2 q3
  · have c1 : (if kindOf (.slice 42) v = true then sIsnil A v false else none) = some (.bool true, A) := by subst hs; rfl
    simp (maxSteps := 1000000) (disch := omega) only [stepS, reduceIte, Nat.reduceBEq, Nat.reduceEqDiff, tupleOf, stepT, i0, c1]
    rw [List.length_eq_zero_iff.1 hz] at hq
    exact hq _ _ (.refl _) (OwnE.nil _ _ _)
section
variable {α : Type} {fv v : Value} {enc : α → List Value} {lt eq : α → α → Prop} {A : AH} {l : List α} {x : α} {Q : Value → AH → Prop}
theorem outW_spec (he : ∀ x, (enc x).length = 2 ∧ ones (enc x) = true) (hi : ∀ x y, enc x = enc y → x = y) (hc : CmpA fv enc lt eq) (o : Ord4 lt eq)
    (hv : Sl A 2 v (l.map enc).length (l.map enc).flatten) (hl : l.length ≤ 2 ^ 30) (hs : Adj lt l)
    (hq1 : (¬ ∃ y ∈ l, eq y x) → ∀ A', Le A A' → Q (.tuple #[.slice none 0 0, .bool false]) A') (hq2 : (∃ y ∈ l, eq y x) → ∀ u A', Le A A' → Sl A' 2 u ((rem lt x l).map enc).length ((rem lt x l).map enc).flatten → Q (.tuple #[u, .bool true]) A') :
    ACalls 0 Try.prog api_Word_52 [v, .agg (enc x).toArray, fv] Q A := by
  refine ACalls.of_fits mixed fits_api_Word_52 rfl ?_
  unfold ic_api_Word_52
  obtain ⟨c0, c1, hxe⟩ : ∃ c0 c1, enc x = [c0, c1] := by
    have := (he x).1
    match h : enc x, this with
    | [c0, c1], _ => exact ⟨c0, c1, rfl⟩
  have ho := (he x).2
  rw [hxe] at ho ⊢
  have o0 : c0.oneCell' = true := by unfold ones at ho; simp at ho; exact ho.1
  have o1 : c1.oneCell' = true := by unfold ones at ho; simp at ho; exact ho.2
  have i0 : initA [v, .agg [c0, c1].toArray, fv] 0 = v := rfl
  have i1 : initA [v, .agg [c0, c1].toArray, fv] 1 = .agg #[c0, c1] := rfl
  have i2 : initA [v, .agg [c0, c1].toArray, fv] 2 = fv := rfl
  generalize initA [v, .agg [c0, c1].toArray, fv] = a at i0 i1 i2
  obtain ⟨B1, hB1⟩ : ∃ B1, B1 = A ++ [.row [c0, c1] .own 0 true] := ⟨_, rfl⟩
  have k1 : Le A B1 := by rw [hB1]; exact .push _ _
  have r1 : rowAt B1 A.length = some ([c0, c1], .own, 0, true) := by rw [hB1]; exact rowAt_own (get_last _ _)
  refine W_mid (fun r' B' => B' = B1 ∧ r' 0 = v ∧ r' 2 = fv ∧ r' 4 = ptr A.length) ?_ ?_
  · rw [hB1]
    simp (maxSteps := 1000000) (disch := omega) only [stepS, reduceIte, Nat.reduceBEq, Nat.reduceEqDiff, tupleOf, stepT, stepX, heapR, lensR, Nat.reduceAdd, Nat.reduceLeDiff, i0, i1, i2, o0, o1]
  clear i0 i1 i2 hB1
  rintro r B ⟨hB, g0, g2, g4⟩
  obtain rfl : B1 = B := hB.symm
  clear hB
  have hok : ∀ e ∈ l.map enc, e.length = 2 ∧ ones e = true := by intro e h; rw [List.mem_map] at h; obtain ⟨y, _, rfl⟩ := h; exact he y
  simp (maxSteps := 1000000) (disch := omega) only [stepS, reduceIte, Nat.reduceBEq, Nat.reduceEqDiff, tupleOf, stepT, stepX, heapR, lensR, Nat.reduceAdd, Nat.reduceLeDiff, g0, g2, g4, r1, o0, o1]
  refine bsB_spec fits_api_Word_46 he hi hc o.toOrd3 hxe (hv.le k1) (by omega) hs fun A' p h k2 q1 q2 q3 q4 q5 => ?_
  cases h with
  | false =>
    simp (maxSteps := 1000000) (disch := omega) only [stepS, reduceIte, Nat.reduceBEq, Nat.reduceEqDiff, tupleOf, stepT, stepX, heapR, lensR, Nat.reduceAdd, Nat.reduceLeDiff, g0, g2, g4]
    exact hq1 (fun e => by have := q4.2 e; cases this) _ (k1.trans k2)
  | true =>
    obtain ⟨e, he1, he2⟩ := q5.1 rfl
    have hp := lt_of_get he1
    simp (maxSteps := 1000000) (disch := omega) only [stepS, reduceIte, Nat.reduceBEq, Nat.reduceEqDiff, tupleOf, stepT, stepX, heapR, lensR, Nat.reduceAdd, Nat.reduceLeDiff, g0, g2, g4]
    refine cloneW_spec (hv.le (k1.trans k2)) hok (by rw [List.length_map]; exact hl) fun u A2 k3 w1 => ?_
    simp (maxSteps := 1000000) (disch := omega) only [stepS, reduceIte, Nat.reduceBEq, Nat.reduceEqDiff, tupleOf, stepT, stepX, heapR, lensR, Nat.reduceAdd, Nat.reduceLeDiff, g0, g2, g4]
    refine delete1_spec (A0 := A') (es := l.map enc) (i := p) (bytes := 32) mixed fits_api_Word_61 (by decide) rfl rfl (by decide) k3 w1 (by rw [List.length_map]; exact hp) rfl (by rw [List.length_map]; omega) fun u' A3 k4 w2 _ _ => ?_
    simp (maxSteps := 1000000) (disch := omega) only [stepS, reduceIte, Nat.reduceBEq, Nat.reduceEqDiff, tupleOf, stepT, stepX, heapR, lensR, Nat.reduceAdd, Nat.reduceLeDiff, g0, g2, g4]
    refine hq2 (q4.1 rfl) _ _ ((k1.trans k2).trans k4) ?_
    have hrem : (rem lt x l).map enc = (l.map enc).take p ++ (l.map enc).drop (p + 1) := by
      unfold rem
      rw [← take_below o q2 q3, ← drop_above' o hs q2 q3 he1 he2, List.map_append, List.map_take, List.map_drop]
    rw [hrem]
    exact w2.2.sl
theorem inW_spec {rep : Bool} (he : ∀ x, (enc x).length = 2 ∧ ones (enc x) = true) (hi : ∀ x y, enc x = enc y → x = y) (hc : CmpA fv enc lt eq) (o : Ord4 lt eq)
    (hag : ∀ (B : AH) y, y ∈ l → (y = x → sEqagg B false (Try.prog.keyLits 8 42) (.agg (enc y).toArray) (.agg (enc x).toArray) = some (.bool true, B)) ∧ (y ≠ x → sEqagg B false (Try.prog.keyLits 8 42) (.agg (enc y).toArray) (.agg (enc x).toArray) = some (.bool false, B)))
    (hv : Sl A 2 v (l.map enc).length (l.map enc).flatten) (hl : l.length ≤ 2 ^ 30) (hs : Adj lt l)
    (hq1 : ((∃ y ∈ l, eq y x) ∧ (rep = false ∨ x ∈ l)) → ∀ A', Le A A' → Q (.tuple #[.slice none 0 0, .bool false]) A') (hq2 : ¬ ((∃ y ∈ l, eq y x) ∧ (rep = false ∨ x ∈ l)) → ∀ u A', Le A A' → Sl A' 2 u ((ins lt x l).map enc).length ((ins lt x l).map enc).flatten → Q (.tuple #[u, .bool true]) A') :
    ACalls 0 Try.prog api_Word_53 [v, .agg (enc x).toArray, fv, .bool rep] Q A := by
  refine ACalls.of_fits mixed fits_api_Word_53 rfl ?_
  unfold ic_api_Word_53
  obtain ⟨c0, c1, hxe⟩ : ∃ c0 c1, enc x = [c0, c1] := by
    have := (he x).1
    match h : enc x, this with
    | [c0, c1], _ => exact ⟨c0, c1, rfl⟩
  have ho := (he x).2
  rw [hxe] at ho ⊢
  have o0 : c0.oneCell' = true := by unfold ones at ho; simp at ho; exact ho.1
  have o1 : c1.oneCell' = true := by unfold ones at ho; simp at ho; exact ho.2
  have i0 : initA [v, .agg [c0, c1].toArray, fv, .bool rep] 0 = v := rfl
  have i1 : initA [v, .agg [c0, c1].toArray, fv, .bool rep] 1 = .agg #[c0, c1] := rfl
  have i2 : initA [v, .agg [c0, c1].toArray, fv, .bool rep] 2 = fv := rfl
  have i3 : initA [v, .agg [c0, c1].toArray, fv, .bool rep] 3 = .bool rep := rfl
  generalize initA [v, .agg [c0, c1].toArray, fv, .bool rep] = a at i0 i1 i2 i3
  obtain ⟨B1, hB1⟩ : ∃ B1, B1 = A ++ [.row [c0, c1] .own 0 true] := ⟨_, rfl⟩
  have k1 : Le A B1 := by rw [hB1]; exact .push _ _
  have r1 : rowAt B1 A.length = some ([c0, c1], .own, 0, true) := by rw [hB1]; exact rowAt_own (get_last _ _)
  refine W_mid (fun r' B' => B' = B1 ∧ r' 0 = v ∧ r' 2 = fv ∧ r' 3 = .bool rep ∧ r' 5 = ptr A.length) ?_ ?_
  · rw [hB1]
    simp (maxSteps := 1000000) (disch := omega) only [stepS, reduceIte, Nat.reduceBEq, Nat.reduceEqDiff, tupleOf, stepT, stepX, heapR, lensR, Nat.reduceAdd, Nat.reduceLeDiff, i0, i1, i2, i3, o0, o1]
  clear i0 i1 i2 i3 hB1
  rintro r B ⟨hB, g0, g2, g3, g5⟩
  obtain rfl : B1 = B := hB.symm
  clear hB
  have hok : ∀ e ∈ l.map enc, e.length = 2 ∧ ones e = true := by intro e h; rw [List.mem_map] at h; obtain ⟨y, _, rfl⟩ := h; exact he y
  simp (maxSteps := 1000000) (disch := omega) only [stepS, reduceIte, Nat.reduceBEq, Nat.reduceEqDiff, tupleOf, stepT, stepX, heapR, lensR, Nat.reduceAdd, Nat.reduceLeDiff, g0, g2, g3, g5, r1, o0, o1]
  refine bsB_spec fits_api_Word_46 he hi hc o.toOrd3 hxe (hv.le k1) (by omega) hs fun A' p h k2 q1 q2 q3 q4 q5 => ?_
  have r2 := k2.row r1
  have kA := k1.trans k2
  cases h with
  | false =>
    have hno : ¬ ∃ y ∈ l, eq y x := fun e => by have := q4.2 e; cases this
    simp (maxSteps := 1000000) (disch := omega) only [stepS, reduceIte, Nat.reduceBEq, Nat.reduceEqDiff, tupleOf, stepT, stepX, heapR, lensR, Nat.reduceAdd, Nat.reduceLeDiff, g0, g2, g3, g5]
    refine cloneW_spec (hv.le kA) hok (by rw [List.length_map]; exact hl) fun u A2 k3 w1 => ?_
    have r3 := k3.row r2
    have hlit := litE (sz := 2) A2 (z := [.string ⟨#[]⟩, .string ⟨#[]⟩]) (e := [c0, c1]) rfl rfl ho
    simp (maxSteps := 1000000) (disch := omega) only [stepS, reduceIte, Nat.reduceBEq, Nat.reduceEqDiff, tupleOf, stepT, stepX, heapR, lensR, Nat.reduceAdd, Nat.reduceLeDiff, g0, g2, g3, g5, r3, hlit, o0, o1]
    have k4 : Le A2 (A2 ++ [.row [c0, c1] .own 2 true]) := .push _ _
    have w1' := w1.le k4
    have hx1 : OwnE A'.length (A2 ++ [.row [c0, c1] .own 2 true]) 2 (.slice (some ⟨A2.length, 0, none⟩) 1 1) [[c0, c1]] := ⟨fun e h => by rw [List.mem_singleton] at h; rw [h]; exact ⟨rfl, ho⟩, rfl, .inr (.inr ⟨A2.length, 0, 1, [c0, c1], true, rfl, Nat.le_refl _, k3.len, get_last _ _, by simp, fun j hj => by simp⟩)⟩
    refine insert1_spec (A0 := A') (es := l.map enc) (e := [c0, c1]) (i := p) (bytes := 32) mixed fits_api_Word_63 ovlW (by decide) rfl rfl (by decide) (k3.trans k4) w1' hx1 ?_ (by rw [List.length_map]; exact q1) (by rw [List.length_map]; omega) fun u' A3 k5 w2 _ _ => ?_
    · intro k hk1 hk2
      have := (OwnE.ge w1 k hk2).2
      simp [blkOf] at hk1
      omega
    simp (maxSteps := 1000000) (disch := omega) only [stepS, reduceIte, Nat.reduceBEq, Nat.reduceEqDiff, tupleOf, stepT, stepX, heapR, lensR, Nat.reduceAdd, Nat.reduceLeDiff, g0, g2, g3, g5]
    refine hq2 (fun h => hno h.1) _ _ (kA.trans k5) ?_
    have hins : (ins lt x l).map enc = (l.map enc).take p ++ [c0, c1] :: (l.map enc).drop p := by
      unfold ins
      rw [← take_below o q2 q3, ← drop_above o q2 q3 hno, List.map_append, List.map_cons, List.map_take, List.map_drop, hxe]
    rw [hins]
    exact w2.2.sl
  | true =>
    obtain ⟨e, he1, he2⟩ := q5.1 rfl
    have hex := q4.1 rfl
    have hmem := pos_mem hs o.toOrd3 q2 q3 he1
    have hp := lt_of_get he1
    obtain ⟨bp, b1, b2⟩ := enc_at he hv he1
    have b2 := b2 A' kA
    have hag' := hag A' e (List.mem_of_getElem? he1)
    rw [hxe] at hag'
    by_cases hfail : rep = false ∨ x ∈ l
    · cases rep with
      | false =>
        simp (maxSteps := 1000000) (disch := omega) only [stepS, reduceIte, Nat.reduceBEq, Nat.reduceEqDiff, tupleOf, stepT, stepX, heapR, lensR, Nat.reduceAdd, Nat.reduceLeDiff, g0, g2, g3, g5, r2, o0, o1]
        exact hq1 ⟨hex, hfail⟩ _ kA
      | true =>
        have hxe' : e = x := hmem.1 (hfail.resolve_left (by decide))
        have hd := hag'.1 hxe'
        simp (maxSteps := 1000000) (disch := omega) only [stepS, reduceIte, Nat.reduceBEq, Nat.reduceEqDiff, tupleOf, stepT, stepX, heapR, lensR, Nat.reduceAdd, Nat.reduceLeDiff, g0, g2, g3, g5, r2, o0, o1, b1, b2, hd]
        exact hq1 ⟨hex, hfail⟩ _ kA
    · cases rep with
      | false => exact absurd (.inl rfl) hfail
      | true =>
        have hd := hag'.2 (fun h => hfail (.inr (hmem.2 h)))
        simp (maxSteps := 1000000) (disch := omega) only [stepS, reduceIte, Nat.reduceBEq, Nat.reduceEqDiff, tupleOf, stepT, stepX, heapR, lensR, Nat.reduceAdd, Nat.reduceLeDiff, g0, g2, g3, g5, r2, o0, o1, b1, b2, hd]
        refine cloneW_spec (hv.le kA) hok (by rw [List.length_map]; exact hl) fun u A2 k3 w1 => ?_
        have r3 := k3.row r2
        obtain ⟨up, _, u1, _⟩ := OwnE.el w1 (j := p) (e := enc e) (by rw [List.getElem?_map, he1]; rfl)
        obtain ⟨A3, s1, s2, s3⟩ := OwnE.put w1 (j := p) (e := [c0, c1]) (by rw [List.length_map]; exact hp) rfl ho (u1 A2 p rfl)
        simp (maxSteps := 1000000) (disch := omega) only [stepS, reduceIte, Nat.reduceBEq, Nat.reduceEqDiff, tupleOf, stepT, stepX, heapR, lensR, Nat.reduceAdd, Nat.reduceLeDiff, g0, g2, g3, g5, r3, o0, o1, u1, s1]
        refine hq2 (fun h => hfail h.2) _ _ (kA.trans (s3.le k3 (fun k hk => (OwnE.ge w1 k hk).1))) ?_
        have hins : (ins lt x l).map enc = (l.map enc).set p [c0, c1] := by
          unfold ins
          rw [← take_below o q2 q3, ← drop_above' o hs q2 q3 he1 he2, List.map_append, List.map_cons, List.map_take, List.map_drop, hxe, List.set_eq_take_append_cons_drop, if_pos (by rw [List.length_map]; exact hp)]
        rw [hins]
        exact s2.2.sl
end
end Go.AS.C


namespace Go.AS.C
open Go Go.Proofs
set_option linter.unusedVariables false
set_option linter.unusedSimpArgs false
set_option maxRecDepth 10000

/-! One change, done. -/
abbrev noT : ByteArray := ⟨#[]⟩
def OddD (d : DeltaV) : Prop := (d.kind ≠ 2 ∧ d.n ≠ 0) ∨ ((d.kind = 1 ∨ d.kind = 2 ∨ d.kind = 7) ∧ d.text ≠ noT)
open Classical in
noncomputable def turnD (s : StateV) (d : DeltaV) : Option StateV :=
  if d.kind = 1 then if ∃ y ∈ s.counts, eqCn y ⟨d.name, 0⟩ then some { s with counts := rem ltC ⟨d.name, 0⟩ s.counts } else none
  else if d.kind = 2 then if (∃ y ∈ s.counts, eqCn y ⟨d.name, d.n⟩) ∧ (true = false ∨ ⟨d.name, d.n⟩ ∈ s.counts) then none else some { s with counts := ins ltC ⟨d.name, d.n⟩ s.counts }
  else if d.kind = 3 then if ∃ y ∈ s.members, y = ⟨d.name, d.text⟩ then some { s with members := rem ltWd ⟨d.name, d.text⟩ s.members } else none
  else if d.kind = 4 then if (∃ y ∈ s.members, y = ⟨d.name, d.text⟩) ∧ (false = false ∨ ⟨d.name, d.text⟩ ∈ s.members) then none else some { s with members := ins ltWd ⟨d.name, d.text⟩ s.members }
  else if d.kind = 5 then if ∃ y ∈ s.values, y = ⟨d.name, d.text⟩ then some { s with values := rem ltWd ⟨d.name, d.text⟩ s.values } else none
  else if d.kind = 6 then if (∃ y ∈ s.values, y = ⟨d.name, d.text⟩) ∧ (false = false ∨ ⟨d.name, d.text⟩ ∈ s.values) then none else some { s with values := ins ltWd ⟨d.name, d.text⟩ s.values }
  else if d.kind = 7 then if ∃ y ∈ s.lines, eqN y ⟨d.name, d.text⟩ then some { s with lines := rem ltN ⟨d.name, d.text⟩ s.lines } else none
  else if d.kind = 8 then if (∃ y ∈ s.lines, eqN y ⟨d.name, d.text⟩) ∧ (true = false ∨ ⟨d.name, d.text⟩ ∈ s.lines) then none else some { s with lines := ins ltN ⟨d.name, d.text⟩ s.lines }
  else none
open Classical in
noncomputable def stepD (s : StateV) (d : DeltaV) : Option StateV := if OddD d then none else turnD s d
theorem stepD_odd {s : StateV} {d : DeltaV} (h : OddD d) : stepD s d = none := by unfold stepD; rw [if_pos h]
theorem stepD_turn {s : StateV} {d : DeltaV} (h : ¬ OddD d) : stepD s d = turnD s d := by unfold stepD; rw [if_neg h]
theorem stepD_none {s : StateV} {d : DeltaV} (h : turnD s d = none) : stepD s d = none := by
  by_cases k : OddD d
  · exact stepD_odd k
  · rw [stepD_turn k, h]
def BoolIs (p : Prop) (v : Value) : Prop := ∃ b : Bool, v = .bool b ∧ (b = true ↔ p)
theorem BoolIs.yes {p : Prop} (h : p) : BoolIs p (.bool true) := ⟨true, rfl, fun _ => h, fun _ => rfl⟩
theorem BoolIs.no {p : Prop} (h : ¬ p) : BoolIs p (.bool false) := ⟨false, rfl, (fun e => by cases e), fun e => absurd e h⟩
theorem diff_odd_spec {A : AH} {d : DeltaV} {Q : Value → AH → Prop} (hq : ∀ b : Bool, (b = true ↔ OddD d) → Q (.bool b) A) : ACalls 0 Try.prog diff_odd [.agg #[ii d.kind, .string d.name, .string d.text, ii d.n]] Q A := by
  obtain ⟨kd, nm, tx, n⟩ := d
  show ACalls 0 Try.prog diff_odd [.agg #[ii kd, .string nm, .string tx, ii n]] Q A
  refine ACalls.pure (S := BoolIs (OddD ⟨kd, nm, tx, n⟩)) (fun v ⟨b, e, h⟩ => by rw [e]; exact hq b h) ?_
  refine ACalls.of_fits mixed fits_diff_odd rfl ?_
  unfold ic_diff_odd
  have i0 : initA [.agg #[ii kd, .string nm, .string tx, ii n]] 0 = .agg #[ii kd, .string nm, .string tx, ii n] := rfl
  generalize initA [.agg #[ii kd, .string nm, .string tx, ii n]] = a at i0
  refine W_mid (fun a B => B = A ++ [.row [ii kd, .string nm, .string tx, ii n] .own 0 true] ∧ a 1 = ptr A.length) ?_ ?_
  · simp (maxSteps := 1000000) (disch := omega) only [stepS, reduceIte, Nat.reduceBEq, Nat.reduceEqDiff, tupleOf, stepT, stepX, heapR, lensR, Nat.reduceAdd, Nat.reduceLeDiff, i0]
  clear i0
  rintro a B0 ⟨hB, g1⟩
  have k0 : Le A B0 := by rw [hB]; exact .push _ _
  have r1 : rowAt B0 A.length = some ([ii kd, .string nm, .string tx, ii n], .own, 0, true) := by rw [hB]; exact rowAt_own (get_last _ _)
  clear hB
  refine W_mid (fun a B => B = B0 ∧ a 1 = ptr A.length ∧ a 3 = .bool (decide (kd = 1 ∨ kd = 2 ∨ kd = 7))) ?_ ?_
  · by_cases h1 : kd = 1
    · subst h1
      simp (maxSteps := 1000000) (disch := omega) only [stepS, reduceIte, Nat.reduceBEq, Nat.reduceEqDiff, tupleOf, stepT, stepX, heapR, lensR, Nat.reduceAdd, Nat.reduceLeDiff, g1, r1]
      (all_goals (and_intros <;> first | rfl | assumption | (push_cast; rfl) | (congr 1; omega) | omega | (simp; done)))
    · by_cases h2 : kd = 2
      · subst h2
        simp (maxSteps := 1000000) (disch := omega) only [stepS, reduceIte, Nat.reduceBEq, Nat.reduceEqDiff, tupleOf, stepT, stepX, heapR, lensR, Nat.reduceAdd, Nat.reduceLeDiff, g1, r1]
        (all_goals (and_intros <;> first | rfl | assumption | (push_cast; rfl) | (congr 1; omega) | omega | (simp; done)))
      · by_cases h7 : kd = 7
        · subst h7
          simp (maxSteps := 1000000) (disch := omega) only [stepS, reduceIte, Nat.reduceBEq, Nat.reduceEqDiff, tupleOf, stepT, stepX, heapR, lensR, Nat.reduceAdd, Nat.reduceLeDiff, g1, r1]
          (all_goals (and_intros <;> first | rfl | assumption | (push_cast; rfl) | (congr 1; omega) | omega | (simp; done)))
        · have hd : decide (kd = 1 ∨ kd = 2 ∨ kd = 7) = false := decide_eq_false (by omega)
          rw [hd]
          simp (maxSteps := 1000000) (disch := omega) only [stepS, reduceIte, Nat.reduceBEq, Nat.reduceEqDiff, tupleOf, stepT, stepX, heapR, lensR, Nat.reduceAdd, Nat.reduceLeDiff, g1, r1]
          (all_goals (and_intros <;> first | rfl | assumption | (push_cast; rfl) | (congr 1; omega) | omega | (simp; done)))
  rintro a B ⟨hB, g1, g3⟩
  obtain rfl : B0 = B := hB.symm
  clear hB
  by_cases ho : kd ≠ 2 ∧ n ≠ 0
  · obtain ⟨h1, h2⟩ := ho
    simp (maxSteps := 1000000) (disch := omega) only [stepS, reduceIte, Nat.reduceBEq, Nat.reduceEqDiff, tupleOf, stepT, stepX, heapR, lensR, Nat.reduceAdd, Nat.reduceLeDiff, g1, g3, r1]
    exact ⟨k0, rfl, .yes (.inl ⟨h1, h2⟩)⟩
  · by_cases ht : kd = 1 ∨ kd = 2 ∨ kd = 7
    · rw [decide_eq_true ht] at g3
      by_cases hx : tx = noT
      · have hd : decide (tx ≠ ⟨#[]⟩) = false := decide_eq_false (fun h => h hx)
        have hno : BoolIs (OddD ⟨kd, nm, tx, n⟩) (.bool false) := .no (by
          rintro (h | ⟨_, h⟩)
          · exact ho h
          · exact h hx)
        by_cases h2 : kd = 2
        · subst h2
          simp (maxSteps := 1000000) (disch := omega) only [stepS, reduceIte, Nat.reduceBEq, Nat.reduceEqDiff, tupleOf, stepT, stepX, heapR, lensR, Nat.reduceAdd, Nat.reduceLeDiff, g1, g3, r1, hd, ne_strD]
          exact ⟨k0, rfl, hno⟩
        · have h0 : n = 0 := Classical.not_not.1 (fun h => ho ⟨h2, h⟩)
          subst h0
          simp (maxSteps := 1000000) (disch := omega) only [stepS, reduceIte, Nat.reduceBEq, Nat.reduceEqDiff, tupleOf, stepT, stepX, heapR, lensR, Nat.reduceAdd, Nat.reduceLeDiff, g1, g3, r1, hd, ne_strD]
          exact ⟨k0, rfl, hno⟩
      · have hd : decide (tx ≠ ⟨#[]⟩) = true := decide_eq_true hx
        have hno : BoolIs (OddD ⟨kd, nm, tx, n⟩) (.bool true) := .yes (.inr ⟨ht, hx⟩)
        by_cases h2 : kd = 2
        · subst h2
          simp (maxSteps := 1000000) (disch := omega) only [stepS, reduceIte, Nat.reduceBEq, Nat.reduceEqDiff, tupleOf, stepT, stepX, heapR, lensR, Nat.reduceAdd, Nat.reduceLeDiff, g1, g3, r1, hd, ne_strD]
          exact ⟨k0, rfl, hno⟩
        · have h0 : n = 0 := Classical.not_not.1 (fun h => ho ⟨h2, h⟩)
          subst h0
          simp (maxSteps := 1000000) (disch := omega) only [stepS, reduceIte, Nat.reduceBEq, Nat.reduceEqDiff, tupleOf, stepT, stepX, heapR, lensR, Nat.reduceAdd, Nat.reduceLeDiff, g1, g3, r1, hd, ne_strD]
          exact ⟨k0, rfl, hno⟩
    · rw [decide_eq_false ht] at g3
      have hd : True := trivial
      have hno : BoolIs (OddD ⟨kd, nm, tx, n⟩) (.bool false) := .no (by
        rintro (h | ⟨h, _⟩)
        · exact ho h
        · exact ht h)
      have h2 : ¬ kd = 2 := fun h => ht (.inr (.inl h))
      have h0 : n = 0 := Classical.not_not.1 (fun h => ho ⟨h2, h⟩)
      subst h0
      simp (maxSteps := 1000000) (disch := omega) only [stepS, reduceIte, Nat.reduceBEq, Nat.reduceEqDiff, tupleOf, stepT, stepX, heapR, lensR, Nat.reduceAdd, Nat.reduceLeDiff, g1, g3, r1, hd, ne_strD]
      exact ⟨k0, rfl, hno⟩
end Go.AS.C
