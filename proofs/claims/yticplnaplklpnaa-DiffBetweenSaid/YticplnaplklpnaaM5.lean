/- Lemmas for the proof of a given statement; no conditions. -/
import Derived.Test.YticplnaplklpnaaM4
set_option maxHeartbeats 1000000

namespace Go.AS.C
open Go Go.Proofs
set_option linter.unusedVariables false
set_option linter.unusedSimpArgs false
set_option maxRecDepth 10000

/-! How counts and words compare; whether a list rises. -/
/-- fv, called with two things, tells how they compare. -/
def CmpA {α : Type} (fv : Value) (enc : α → List Value) (lt eq : α → α → Prop) : Prop :=
  ∀ (A : AH) (x y : α) (Q : Value → AH → Prop), (∀ A' n, Le A A' → (n < 0 ↔ lt x y) → (n = 0 ↔ eq x y) → -2 < n → n < 2 → Q (ii n) A') → callD fv 0 Try.prog [.agg (enc x).toArray, .agg (enc y).toArray] Q A
def ltC (a b : CountV) : Prop := bl a.name < bl b.name
def eqCn (a b : CountV) : Prop := a.name = b.name
def ltN (a b : WordV) : Prop := bl a.name < bl b.name
def eqN (a b : WordV) : Prop := a.name = b.name
def ltWd (a b : WordV) : Prop := bl a.name < bl b.name ∨ (a.name = b.name ∧ bl a.text < bl b.text)
abbrev fvC : Value := .func (.func diff_byCount) #[] #[]
abbrev fvN : Value := .func (.func diff_byName) #[] #[]
abbrev fvW : Value := .func (.func diff_byWord) #[] #[]
theorem cmp3_spec {A : AH} {a b : ByteArray} {Q : Value → AH → Prop} (hq : ∀ n, (n < 0 ↔ bl a < bl b) → (n = 0 ↔ a = b) → (0 < n ↔ bl b < bl a) → -2 < n → n < 2 → Q (ii n) A) : ACalls 0 Try.prog cmp_Compare_string [.string a, .string b] Q A := by
  refine ACalls.of_fits mixed fits_cmp_Compare_string rfl ?_
  unfold ic_cmp_Compare_string
  have i0 : initA [.string a, .string b] 0 = .string a := rfl
  have i1 : initA [.string a, .string b] 1 = .string b := rfl
  generalize initA [.string a, .string b] = r at i0 i1
  simp (maxSteps := 1000000) (disch := omega) only [stepS, reduceIte, Nat.reduceBEq, Nat.reduceEqDiff, tupleOf, stepT, i0, i1]
  refine cmp_isNaN_spec ?_
  simp (maxSteps := 1000000) (disch := omega) only [stepS, reduceIte, Nat.reduceBEq, Nat.reduceEqDiff, tupleOf, stepT, i0, i1]
  refine cmp_isNaN_spec ?_
  by_cases h1 : bl a < bl b
  · have d1 : decide (bl a < bl b) = true := decide_eq_true h1
    simp (maxSteps := 1000000) (disch := omega) only [stepS, reduceIte, Nat.reduceBEq, Nat.reduceEqDiff, tupleOf, stepT, i0, i1, ltS, d1]
    exact hq (-1) ⟨fun _ => h1, (fun _ => by decide)⟩ ⟨(fun h => by cases h), fun h => by subst h; exact absurd h1 (kl_irr _)⟩ ⟨fun h => absurd h (by decide), fun h => absurd h (kl_asym h1)⟩ (by decide) (by decide)
  · have d1 : decide (bl a < bl b) = false := decide_eq_false h1
    by_cases h2 : bl b < bl a
    · have d2 : decide (bl b < bl a) = true := decide_eq_true h2
      simp (maxSteps := 1000000) (disch := omega) only [stepS, reduceIte, Nat.reduceBEq, Nat.reduceEqDiff, tupleOf, stepT, i0, i1, ltS, gtS, d1, d2]
      exact hq 1 ⟨fun h => absurd h (by decide), fun h => absurd h h1⟩ ⟨(fun h => by cases h), fun h => by subst h; exact absurd h2 (kl_irr _)⟩ ⟨fun _ => h2, fun _ => by decide⟩ (by decide) (by decide)
    · have d2 : decide (bl b < bl a) = false := decide_eq_false h2
      have he : a = b := by
        rcases kl_tri (bl a) (bl b) with h | h | h
        · exact absurd h h1
        · exact bl_inj.1 h
        · exact absurd h h2
      simp (maxSteps := 1000000) (disch := omega) only [stepS, reduceIte, Nat.reduceBEq, Nat.reduceEqDiff, tupleOf, stepT, i0, i1, ltS, gtS, d1, d2]
      exact hq 0 ⟨fun h => absurd h (by decide), fun h => absurd h h1⟩ ⟨fun _ => he, fun _ => rfl⟩ ⟨fun h => absurd h (by decide), fun h => absurd h h2⟩ (by decide) (by decide)
theorem diff_byName_spec {A : AH} {a b : WordV} {Q : Value → AH → Prop} (hq : ∀ A' n, Le A A' → (n < 0 ↔ ltN a b) → (n = 0 ↔ eqN a b) → -2 < n → n < 2 → Q (ii n) A') : ACalls 0 Try.prog diff_byName [.agg (wordE a).toArray, .agg (wordE b).toArray] Q A := by
  refine ACalls.of_fits mixed fits_diff_byName rfl ?_
  unfold ic_diff_byName wordE
  have i0 : initA [.agg [.string a.name, .string a.text].toArray, .agg [.string b.name, .string b.text].toArray] 0 = .agg [.string a.name, .string a.text].toArray := rfl
  have i1 : initA [.agg [.string a.name, .string a.text].toArray, .agg [.string b.name, .string b.text].toArray] 1 = .agg [.string b.name, .string b.text].toArray := rfl
  generalize initA [.agg [.string a.name, .string a.text].toArray, .agg [.string b.name, .string b.text].toArray] = r at i0 i1
  have k0 : Le A (A ++ [.row [.string a.name, .string a.text] .own 0 true] ++ [.row [.string b.name, .string b.text] .own 0 true]) := (Le.push _ _).trans (.push _ _)
  simp (maxSteps := 1000000) (disch := omega) only [stepS, reduceIte, Nat.reduceBEq, Nat.reduceEqDiff, tupleOf, stepT, stepX, heapR, lensR, Nat.reduceAdd, Nat.reduceLeDiff, i0, i1]
  refine cmp3_spec fun n h1 h2 h3 h4 h5 => ?_
  simp (maxSteps := 1000000) (disch := omega) only [stepS, reduceIte, Nat.reduceBEq, Nat.reduceEqDiff, tupleOf, stepT, stepX, heapR, lensR, Nat.reduceAdd, Nat.reduceLeDiff]
  exact hq _ n k0 h1 h2 h4 h5
theorem cmpN : CmpA fvN wordE ltN eqN := by
  intro A x y Q hq
  rw [callD_func]
  refine ⟨by decide +kernel, ?_⟩
  exact diff_byName_spec hq
theorem cmpC : CmpA fvC countE ltC eqCn := by
  intro A a b Q hq
  rw [callD_func]
  refine ⟨by decide +kernel, ?_⟩
  simp only [List.nil_append, List.append_nil]
  refine ACalls.of_fits mixed fits_diff_byCount rfl ?_
  unfold ic_diff_byCount countE
  have i0 : initA [.agg [.string a.name, ii a.n].toArray, .agg [.string b.name, ii b.n].toArray] 0 = .agg [.string a.name, ii a.n].toArray := rfl
  have i1 : initA [.agg [.string a.name, ii a.n].toArray, .agg [.string b.name, ii b.n].toArray] 1 = .agg [.string b.name, ii b.n].toArray := rfl
  generalize initA [.agg [.string a.name, ii a.n].toArray, .agg [.string b.name, ii b.n].toArray] = r at i0 i1
  have k0 : Le A (A ++ [.row [.string a.name, ii a.n] .own 0 true] ++ [.row [.string b.name, ii b.n] .own 0 true]) := (Le.push _ _).trans (.push _ _)
  simp (maxSteps := 1000000) (disch := omega) only [stepS, reduceIte, Nat.reduceBEq, Nat.reduceEqDiff, tupleOf, stepT, stepX, heapR, lensR, Nat.reduceAdd, Nat.reduceLeDiff, i0, i1]
  refine cmp3_spec fun n h1 h2 h3 h4 h5 => ?_
  simp (maxSteps := 1000000) (disch := omega) only [stepS, reduceIte, Nat.reduceBEq, Nat.reduceEqDiff, tupleOf, stepT, stepX, heapR, lensR, Nat.reduceAdd, Nat.reduceLeDiff]
  exact hq _ n k0 h1 h2 h4 h5
/-- cmp.Or of two numbers. -/
theorem cmp_Or_spec {A : AH} {v : Value} {m n : Int} {Q : Value → AH → Prop} (h : SlI A .i64 v [m, n]) (hq : Q (ii (if m = 0 then n else m)) A) : ACalls 0 Try.prog cmp_Or_int [v] Q A := by
  refine ACalls.of_fits mixed fits_cmp_Or_int rfl ?_
  unfold ic_cmp_Or_int
  have i0 : initA [v] 0 = v := rfl
  generalize initA [v] = a at i0
  have hvl : ∀ B, sLens B false v = some (ii 2, B) := Sl.lenB h
  obtain ⟨p, p1, p2⟩ := Sl.at1L (A := A) h (j := 0) (x := .int .i64 m) rfl
  have p3 := p2 A (.refl _)
  obtain ⟨q, q1, q2⟩ := Sl.at1L (A := A) h (j := 1) (x := .int .i64 n) rfl
  have q3 := q2 A (.refl _)
  simp (maxSteps := 1000000) (disch := omega) only [stepS, reduceIte, Nat.reduceBEq, Nat.reduceEqDiff, tupleOf, stepT, i0, hvl]
  refine W_loop (fun a' B => B = A ∧ ∃ k : Nat, k ≤ 2 ∧ (0 < k → m = 0) ∧ (1 < k → n = 0) ∧ a' 3 = ii 0 ∧ a' 6 = v ∧ a' 7 = ii 2 ∧ a' 8 = ii k) (fun a' _ => 2 - (iv (a' 8)).toNat) ?_ ?_
  · refine ⟨rfl, 0, by omega, by omega, by omega, ?_⟩
    simp (maxSteps := 1000000) (disch := omega) only [stepS, reduceIte, Nat.reduceBEq, Nat.reduceEqDiff, tupleOf, stepT, i0]
    (all_goals (and_intros <;> first | rfl | assumption | (push_cast; rfl) | (congr 1; omega) | omega | (simp; done)))
  · rintro a2 B ⟨rfl, k, hk, hk1, hk2, g3, g6, g7, g8⟩
    match k, hk with
    | 0, _ =>
      by_cases hm : m = 0
      · simp (maxSteps := 1000000) (disch := omega) only [stepS, reduceIte, Nat.reduceBEq, Nat.reduceEqDiff, tupleOf, stepT, g3, g6, g7, g8, p1, p3]
        exact ⟨⟨1, by omega, fun _ => hm, by omega, rfl⟩, by omega⟩
      · rw [if_neg hm] at hq
        simp (maxSteps := 1000000) (disch := omega) only [stepS, reduceIte, Nat.reduceBEq, Nat.reduceEqDiff, tupleOf, stepT, g3, g6, g7, g8, p1, p3]
        exact hq
    | 1, _ =>
      rw [if_pos (hk1 (by omega))] at hq
      by_cases hn : n = 0
      · simp (maxSteps := 1000000) (disch := omega) only [stepS, reduceIte, Nat.reduceBEq, Nat.reduceEqDiff, tupleOf, stepT, g3, g6, g7, g8, q1, q3]
        exact ⟨⟨2, by omega, fun _ => hk1 (by omega), fun _ => hn, rfl⟩, by omega⟩
      · simp (maxSteps := 1000000) (disch := omega) only [stepS, reduceIte, Nat.reduceBEq, Nat.reduceEqDiff, tupleOf, stepT, g3, g6, g7, g8, q1, q3]
        exact hq
    | 2, _ =>
      rw [if_pos (hk1 (by omega)), hk2 (by omega)] at hq
      simp (maxSteps := 1000000) (disch := omega) only [stepS, reduceIte, Nat.reduceBEq, Nat.reduceEqDiff, tupleOf, stepT, g3, g6, g7, g8]
      exact hq
theorem ltW_ends {a b : WordV} : (if (a.name = b.name) then bl a.text < bl b.text else bl a.name < bl b.name) ↔ ltWd a b := by
  unfold ltWd
  by_cases h : a.name = b.name
  · rw [if_pos h]
    constructor
    · exact fun k => .inr ⟨h, k⟩
    · rintro (k | k)
      · rw [h] at k; exact absurd k (kl_irr _)
      · exact k.2
  · rw [if_neg h]
    constructor
    · exact .inl
    · rintro (k | k)
      · exact k
      · exact absurd k.1 h
theorem cmpW : CmpA fvW wordE ltWd (fun a b => a = b) := by
  intro A a b Q hq
  rw [callD_func]
  refine ⟨by decide +kernel, ?_⟩
  simp only [List.nil_append, List.append_nil]
  refine ACalls.of_fits mixed fits_diff_byWord rfl ?_
  unfold ic_diff_byWord
  have i0 : initA [.agg (wordE a).toArray, .agg (wordE b).toArray] 0 = .agg [.string a.name, .string a.text].toArray := rfl
  have i1 : initA [.agg (wordE a).toArray, .agg (wordE b).toArray] 1 = .agg [.string b.name, .string b.text].toArray := rfl
  generalize initA [.agg (wordE a).toArray, .agg (wordE b).toArray] = r at i0 i1
  have k0 : Le A (A ++ [.row [.string a.name, .string a.text] .own 0 true] ++ [.row [.string b.name, .string b.text] .own 0 true]) := (Le.push _ _).trans (.push _ _)
  have r1 : rowAt (A ++ [.row [.string a.name, .string a.text] .own 0 true] ++ [.row [.string b.name, .string b.text] .own 0 true]) A.length = some ([.string a.name, .string a.text], .own, 0, true) := (Le.push _ _).row (rowAt_own (get_last _ _))
  have r2 : rowAt (A ++ [.row [.string a.name, .string a.text] .own 0 true] ++ [.row [.string b.name, .string b.text] .own 0 true]) (A.length + 1) = some ([.string b.name, .string b.text], .own, 0, true) := by
    have := rowAt_own (get_last (A ++ [Blk.row [.string a.name, .string a.text] .own 0 true]) (.row [.string b.name, .string b.text] .own 0 true))
    simpa using this
  have hbl : (A ++ [Blk.row [.string a.name, .string a.text] .own 0 true] ++ [Blk.row [.string b.name, .string b.text] .own 0 true]).length = A.length + 2 := by simp
  refine W_mid (fun r B => B = A ++ [.row [.string a.name, .string a.text] .own 0 true] ++ [.row [.string b.name, .string b.text] .own 0 true] ∧ r 2 = ptr A.length ∧ r 3 = ptr (A.length + 1)) ?_ ?_
  · simp (maxSteps := 1000000) (disch := omega) only [stepS, reduceIte, Nat.reduceBEq, Nat.reduceEqDiff, tupleOf, stepT, stepX, heapR, lensR, Nat.reduceAdd, Nat.reduceLeDiff, i0, i1]
  clear i0 i1
  rintro r B ⟨hB, g2, g3⟩
  rw [← hB] at k0 r1 r2 hbl
  clear hB
  simp (maxSteps := 1000000) (disch := omega) only [stepS, reduceIte, Nat.reduceBEq, Nat.reduceEqDiff, tupleOf, stepT, stepX, heapR, lensR, Nat.reduceAdd, Nat.reduceLeDiff, g2, g3, r1, r2]
  refine diff_byName_spec (a := a) (b := b) fun A' m k1 m1 m2 m3 m4 => ?_
  simp (maxSteps := 1000000) (disch := omega) only [stepS, reduceIte, Nat.reduceBEq, Nat.reduceEqDiff, tupleOf, stepT, stepX, heapR, lensR, Nat.reduceAdd, Nat.reduceLeDiff, g2, g3, k1.rd]
  refine cmp3_spec fun n n1 n2 n3 n4 n5 => ?_
  have l2 : sLit A' [.int .i64 0] 1 2 [(0, 1, ii m), (1, 1, ii n)] = some (.slice (some ⟨A'.length, 0, none⟩) 2 2, A' ++ [.row [ii m, ii n] .own 1 true]) := lit1 [ii m, ii n] rfl rfl (fun z hz => by
    simp only [List.mem_cons, List.not_mem_nil, or_false] at hz
    rcases hz with rfl | rfl <;> exact ⟨rfl, rfl⟩)
  have s2 : SlI (A' ++ [.row [ii m, ii n] .own 1 true]) .i64 (.slice (some ⟨A'.length, 0, none⟩) 2 2) [m, n] := sl_last A' (by decide) (Nat.le_refl _)
  have k2 : Le A' (A' ++ [.row [ii m, ii n] .own 1 true]) := .push _ _
  simp (maxSteps := 1000000) (disch := omega) only [stepS, reduceIte, Nat.reduceBEq, Nat.reduceEqDiff, tupleOf, stepT, stepX, heapR, lensR, Nat.reduceAdd, Nat.reduceLeDiff, g2, g3, l2]
  refine cmp_Or_spec s2 ?_
  simp (maxSteps := 1000000) (disch := omega) only [stepS, reduceIte, Nat.reduceBEq, Nat.reduceEqDiff, tupleOf, stepT, stepX, heapR, lensR, Nat.reduceAdd, Nat.reduceLeDiff]
  refine hq _ _ ((k0.trans k1).trans k2) ?_ ?_ ?_ ?_
  · rw [← ltW_ends]
    by_cases h : a.name = b.name
    · rw [if_pos h, if_pos (m2.2 h)]
      exact n1
    · rw [if_neg h, if_neg (fun e => h (m2.1 e))]
      exact m1
  · by_cases h : a.name = b.name
    · rw [if_pos (m2.2 h), n2]
      constructor
      · intro e; cases a; cases b; simp only at h e; rw [h, e]
      · rintro rfl; rfl
    · rw [if_neg (fun e => h (m2.1 e))]
      constructor
      · intro e; exact absurd (m2.1 e) h
      · rintro rfl; exact absurd rfl h
  · split <;> omega
  · split <;> omega
end Go.AS.C


namespace Go.AS.C
open Go Go.Proofs
set_option linter.unusedVariables false
set_option linter.unusedSimpArgs false
set_option maxRecDepth 10000

/-! Whether a state is tidy. -/
def Adj {α : Type} (lt : α → α → Prop) (l : List α) : Prop := ∀ (i : Nat) x y, l[i]? = some x → l[i + 1]? = some y → lt x y
def TidyS (s : StateV) : Prop := Adj ltC s.counts ∧ Adj ltWd s.members ∧ Adj ltWd s.values ∧ Adj ltN s.lines
theorem enc_at {α : Type} {A : AH} {v : Value} {enc : α → List Value} {l : List α} (he : ∀ x, (enc x).length = 2 ∧ ones (enc x) = true) (h : Sl A 2 v (l.map enc).length (l.map enc).flatten) {j : Nat} {x : α} (hj : l[j]? = some x) :
    ∃ p, (∀ (B : AH) (n : Int), n = (j : Int) → sIaddr B v (.int .i64 n) 2 = some (p, B)) ∧ ∀ B, Le A B → sLoadn B p 2 = some (.agg (enc x).toArray, B) := by
  obtain ⟨p, _, p1, _, p3⟩ := Sl.el h (fun e h => by rw [List.mem_map] at h; obtain ⟨y, _, rfl⟩ := h; exact he y) (j := j) (e := enc x) (by rw [List.getElem?_map, hj]; rfl)
  exact ⟨p, p1, fun B hB => p3 B (fun k b hb _ => hB.get hb)⟩
theorem rises_spec {α : Type} {f : FuncId} {fv v : Value} {enc : α → List Value} {lt eq : α → α → Prop} {A : AH} {l : List α} {Q : Value → AH → Prop} (hf : Fits Try.prog 0 f ic_api_Count_30 [.tmp 4] 2) (he : ∀ x, (enc x).length = 2 ∧ ones (enc x) = true) (hc : CmpA fv enc lt eq) (hv : Sl A 2 v (l.map enc).length (l.map enc).flatten) (hl : l.length < 2 ^ 50)
    (hq : ∀ b : Bool, (b = true ↔ Adj lt l) → Q (.bool b) A) : ACalls 0 Try.prog f [v, fv] Q A := by
  refine ACalls.pure (S := fun v => ∃ b : Bool, v = .bool b ∧ (b = true ↔ Adj lt l)) (fun v ⟨b, e, h⟩ => by rw [e]; exact hq b h) ?_
  refine ACalls.of_fits mixed hf rfl ?_
  unfold ic_api_Count_30
  have i0 : initA [v, fv] 0 = v := rfl
  have i1 : initA [v, fv] 1 = fv := rfl
  generalize initA [v, fv] = a at i0 i1
  have hvl : ∀ B, sLens B false v = some (ii l.length, B) := fun B => by have := Sl.lenB hv B; rwa [List.length_map] at this
  simp (maxSteps := 1000000) (disch := omega) only [stepS, reduceIte, Nat.reduceBEq, Nat.reduceEqDiff, tupleOf, stepT, i0, i1]
  refine W_loop (fun a' B => ∃ k : Nat, 1 ≤ k ∧ (k ≤ l.length ∨ k = 1) ∧ Le A B ∧ a' 0 = v ∧ a' 1 = fv ∧ a' 5 = ii k ∧ ∀ (i : Nat) x y, i + 1 < k → l[i]? = some x → l[i + 1]? = some y → lt x y) (fun a' _ => l.length - (iv (a' 5)).toNat) ?_ ?_
  · refine ⟨1, Nat.le_refl _, .inr rfl, .refl _, ?_⟩
    simp (maxSteps := 1000000) (disch := omega) only [stepS, reduceIte, Nat.reduceBEq, Nat.reduceEqDiff, tupleOf, stepT, i0, i1]
    refine ⟨rfl, fun i x y h => by omega⟩
  · rintro a2 B ⟨k, hk1, hk2, hle, g0, g1, g5, hs⟩
    rcases Nat.lt_or_ge k l.length with hlt | hge
    · obtain ⟨x, hx⟩ := get_some (l := l) (k := k - 1) (by omega)
      obtain ⟨y, hy⟩ := get_some hlt
      obtain ⟨p, p1, p2⟩ := enc_at he hv hx
      obtain ⟨q, q1, q2⟩ := enc_at he hv hy
      have p3 := p2 B hle
      have q3 := q2 B hle
      have e1 : (k : Int) - 1 = ((k - 1 : Nat) : Int) := by omega
      simp (maxSteps := 1000000) (disch := omega) only [stepS, reduceIte, Nat.reduceBEq, Nat.reduceEqDiff, tupleOf, stepT, g0, g1, g5, hvl, e1, p1, p3, q1, q3]
      refine hc B x y _ fun A' n k3 n1 n2 n3 n4 => ?_
      by_cases hn : n < 0
      · simp (maxSteps := 1000000) (disch := omega) only [stepS, reduceIte, Nat.reduceBEq, Nat.reduceEqDiff, tupleOf, stepT, g0, g1, g5]
        refine ⟨⟨k + 1, by omega, by omega, hle.trans k3, rfl, fun i x' y' hi hx' hy' => ?_⟩, by omega⟩
        rcases Nat.lt_or_ge (i + 1) k with h | h
        · exact hs i x' y' h hx' hy'
        · have : i = k - 1 := by omega
          subst this
          rw [show k - 1 + 1 = k by omega] at hy'
          rw [hx] at hx'
          rw [hy] at hy'
          obtain rfl := Option.some.inj hx'
          obtain rfl := Option.some.inj hy'
          exact n1.1 hn
      · simp (maxSteps := 1000000) (disch := omega) only [stepS, reduceIte, Nat.reduceBEq, Nat.reduceEqDiff, tupleOf, stepT, g0, g1, g5]
        refine ⟨hle.trans k3, rfl, false, rfl, (fun h => by cases h), fun h => ?_⟩
        exact absurd (n1.2 (h (k - 1) x y hx (by rw [show k - 1 + 1 = k by omega]; exact hy))) hn
    · simp (maxSteps := 1000000) (disch := omega) only [stepS, reduceIte, Nat.reduceBEq, Nat.reduceEqDiff, tupleOf, stepT, g0, g1, g5, hvl]
      refine ⟨hle, rfl, true, rfl, fun _ i x y hx hy => hs i x y (by have := lt_of_get hy; omega) hx hy, fun _ => rfl⟩
theorem countE_enc (x : CountV) : (countE x).length = 2 ∧ ones (countE x) = true := ⟨rfl, rfl⟩
theorem wordE_enc (x : WordV) : (wordE x).length = 2 ∧ ones (wordE x) = true := ⟨rfl, rfl⟩
theorem finS_len {s : StateV} (h : FinS s) : s.counts.length < 2 ^ 50 ∧ s.members.length < 2 ^ 50 ∧ s.values.length < 2 ^ 50 ∧ s.lines.length < 2 ^ 50 := by
  obtain ⟨⟨h1, _⟩, ⟨h2, _⟩, ⟨h3, _⟩, ⟨h4, _⟩⟩ := h
  exact ⟨by omega, by omega, by omega, by omega⟩
theorem diff_Tidy_spec {A : AH} {x : Value} {s : StateV} {Q : Value → AH → Prop} (hx : StateA A x s) (hs : FinS s) (hq : ∀ b : Bool, (b = true ↔ TidyS s) → Q (.bool b) A) : ACalls 0 Try.prog diff_Tidy [x] Q A := by
  refine ACalls.pure (S := fun v => ∃ b : Bool, v = .bool b ∧ (b = true ↔ TidyS s)) (fun v ⟨b, e, h⟩ => by rw [e]; exact hq b h) ?_
  obtain ⟨c, m, v, l, rfl, hc, hm, hv, hl⟩ := hx
  obtain ⟨n1, n2, n3, n4⟩ := finS_len hs
  refine ACalls.of_fits mixed fits_diff_Tidy rfl ?_
  unfold ic_diff_Tidy
  have i0 : initA [.agg #[c, m, v, l]] 0 = .agg #[c, m, v, l] := rfl
  generalize initA [.agg #[c, m, v, l]] = a at i0
  have oc := (Sl.one1 hc).2
  have om := (Sl.one1 hm).2
  have ov := (Sl.one1 hv).2
  have ol := (Sl.one1 hl).2
  refine W_mid (fun a B => B = A ++ [.row [c, m, v, l] .own 0 true] ∧ a 1 = ptr A.length) ?_ ?_
  · simp (maxSteps := 1000000) (disch := omega) only [stepS, reduceIte, Nat.reduceBEq, Nat.reduceEqDiff, tupleOf, stepT, stepX, heapR, lensR, Nat.reduceAdd, Nat.reduceLeDiff, i0, oc, om, ov, ol]
  rintro a B0 ⟨hB, g1⟩
  have k0 : Le A B0 := by rw [hB]; exact .push _ _
  have r1 : rowAt B0 A.length = some ([c, m, v, l], .own, 0, true) := by rw [hB]; exact rowAt_own (get_last _ _)
  clear i0 hB
  have no : ∀ {p : Prop}, (TidyS s → p) → ¬ p → ∃ b : Bool, Value.bool false = .bool b ∧ (b = true ↔ TidyS s) := fun h k => ⟨false, rfl, (fun h => by cases h), fun t => absurd (h t) k⟩
  have nf : ∀ {p : Prop}, (false = true ↔ p) → ¬ p := fun h k => by have := h.2 k; cases this
  simp (maxSteps := 1000000) (disch := omega) only [stepS, reduceIte, Nat.reduceBEq, Nat.reduceEqDiff, tupleOf, stepT, stepX, heapR, lensR, Nat.reduceAdd, Nat.reduceLeDiff, g1, r1]
  refine rises_spec fits_api_Count_30 countE_enc cmpC (hc.le k0) n1 fun b1 h1 => ?_
  cases b1 with
  | false =>
    simp (maxSteps := 1000000) (disch := omega) only [stepS, reduceIte, Nat.reduceBEq, Nat.reduceEqDiff, tupleOf, stepT, stepX, heapR, lensR, Nat.reduceAdd, Nat.reduceLeDiff, g1, r1]
    exact ⟨k0, rfl, no (fun t => t.1) (nf h1)⟩
  | true =>
  simp (maxSteps := 1000000) (disch := omega) only [stepS, reduceIte, Nat.reduceBEq, Nat.reduceEqDiff, tupleOf, stepT, stepX, heapR, lensR, Nat.reduceAdd, Nat.reduceLeDiff, g1, r1]
  refine rises_spec fits_api_Word_31 wordE_enc cmpW (hm.le k0) n2 fun b2 h2 => ?_
  cases b2 with
  | false =>
    simp (maxSteps := 1000000) (disch := omega) only [stepS, reduceIte, Nat.reduceBEq, Nat.reduceEqDiff, tupleOf, stepT, stepX, heapR, lensR, Nat.reduceAdd, Nat.reduceLeDiff, g1, r1]
    exact ⟨k0, rfl, no (fun t => t.2.1) (nf h2)⟩
  | true =>
  simp (maxSteps := 1000000) (disch := omega) only [stepS, reduceIte, Nat.reduceBEq, Nat.reduceEqDiff, tupleOf, stepT, stepX, heapR, lensR, Nat.reduceAdd, Nat.reduceLeDiff, g1, r1]
  refine rises_spec fits_api_Word_31 wordE_enc cmpW (hv.le k0) n3 fun b3 h3 => ?_
  cases b3 with
  | false =>
    simp (maxSteps := 1000000) (disch := omega) only [stepS, reduceIte, Nat.reduceBEq, Nat.reduceEqDiff, tupleOf, stepT, stepX, heapR, lensR, Nat.reduceAdd, Nat.reduceLeDiff, g1, r1]
    exact ⟨k0, rfl, no (fun t => t.2.2.1) (nf h3)⟩
  | true =>
  simp (maxSteps := 1000000) (disch := omega) only [stepS, reduceIte, Nat.reduceBEq, Nat.reduceEqDiff, tupleOf, stepT, stepX, heapR, lensR, Nat.reduceAdd, Nat.reduceLeDiff, g1, r1]
  refine rises_spec fits_api_Word_31 wordE_enc cmpN (hl.le k0) n4 fun b4 h4 => ?_
  cases b4 with
  | false =>
    simp (maxSteps := 1000000) (disch := omega) only [stepS, reduceIte, Nat.reduceBEq, Nat.reduceEqDiff, tupleOf, stepT, stepX, heapR, lensR, Nat.reduceAdd, Nat.reduceLeDiff, g1, r1]
    exact ⟨k0, rfl, no (fun t => t.2.2.2) (nf h4)⟩
  | true =>
    simp (maxSteps := 1000000) (disch := omega) only [stepS, reduceIte, Nat.reduceBEq, Nat.reduceEqDiff, tupleOf, stepT, stepX, heapR, lensR, Nat.reduceAdd, Nat.reduceLeDiff, g1, r1]
    exact ⟨k0, rfl, true, rfl, fun _ => ⟨h1.1 rfl, h2.1 rfl, h3.1 rfl, h4.1 rfl⟩, fun _ => rfl⟩
theorem ref41_less_spec {A : AH} {a b : WordV} {Q : Value → AH → Prop} (hq : ∀ c : Bool, (c = true ↔ ltWd a b) → Q (.bool c) A) : ACalls 0 Try.prog chantryref41_less [.agg (wordE a).toArray, .agg (wordE b).toArray] Q A := by
  refine ACalls.pure (S := fun v => ∃ c : Bool, v = .bool c ∧ (c = true ↔ ltWd a b)) (fun v ⟨b, e, h⟩ => by rw [e]; exact hq b h) ?_
  refine ACalls.of_fits mixed fits_chantryref41_less rfl ?_
  unfold ic_chantryref41_less
  have i0 : initA [.agg (wordE a).toArray, .agg (wordE b).toArray] 0 = .agg [.string a.name, .string a.text].toArray := rfl
  have i1 : initA [.agg (wordE a).toArray, .agg (wordE b).toArray] 1 = .agg [.string b.name, .string b.text].toArray := rfl
  generalize initA [.agg (wordE a).toArray, .agg (wordE b).toArray] = r at i0 i1
  have k0 : Le A (A ++ [.row [.string a.name, .string a.text] .own 0 true] ++ [.row [.string b.name, .string b.text] .own 0 true]) := (Le.push _ _).trans (.push _ _)
  by_cases h1 : bl a.name < bl b.name
  · have d1 : decide (bl a.name < bl b.name) = true := decide_eq_true h1
    simp (maxSteps := 1000000) (disch := omega) only [stepS, reduceIte, Nat.reduceBEq, Nat.reduceEqDiff, tupleOf, stepT, stepX, heapR, lensR, Nat.reduceAdd, Nat.reduceLeDiff, i0, i1, ltS, d1]
    exact ⟨k0, rfl, true, rfl, fun _ => .inl h1, fun _ => rfl⟩
  · have d1 : decide (bl a.name < bl b.name) = false := decide_eq_false h1
    by_cases h2 : a.name = b.name
    · have d2 : decide (a.name = b.name) = true := decide_eq_true h2
      simp (maxSteps := 1000000) (disch := omega) only [stepS, reduceIte, Nat.reduceBEq, Nat.reduceEqDiff, tupleOf, stepT, stepX, heapR, lensR, Nat.reduceAdd, Nat.reduceLeDiff, i0, i1, ltS, d1, d2]
      refine ⟨k0, rfl, _, rfl, ?_⟩
      rw [decide_eq_true_iff]
      exact ⟨fun h => .inr ⟨h2, h⟩, fun h => h.resolve_left h1 |>.2⟩
    · have d2 : decide (a.name = b.name) = false := decide_eq_false h2
      simp (maxSteps := 1000000) (disch := omega) only [stepS, reduceIte, Nat.reduceBEq, Nat.reduceEqDiff, tupleOf, stepT, stepX, heapR, lensR, Nat.reduceAdd, Nat.reduceLeDiff, i0, i1, ltS, d1, d2]
      exact ⟨k0, rfl, false, rfl, (fun h => by cases h), fun h => absurd (h.resolve_left h1).1 h2⟩
theorem ltN_of {a b : WordV} : ltN a b ↔ ltWd a b ∧ a.name ≠ b.name := by
  unfold ltN ltWd
  constructor
  · intro h
    exact ⟨.inl h, fun e => by rw [e] at h; exact kl_irr _ h⟩
  · rintro ⟨h | h, hn⟩
    · exact h
    · exact absurd h.1 hn
end Go.AS.C


namespace Go.AS.C
open Go Go.Proofs
set_option linter.unusedVariables false
set_option linter.unusedSimpArgs false
set_option maxRecDepth 10000

theorem words_at {A : AH} {v : Value} {l : List WordV} (h : WordsA A v l) {j : Nat} {w : WordV} (hj : l[j]? = some w) : ∃ p, ∃ q : Value × Value, (∀ (B : AH) (n : Int), n = (j : Int) → sIaddr B v (.int .i64 n) 2 = some (p, B)) ∧ (∀ B, Le A B → sLoadn B p 2 = some (.agg (wordE w).toArray, B)) ∧
    ((∀ B, sFaddr B p 0 = some (q.1, B)) ∧ ∀ B, Le A B → sLoad1 B q.1 = some (.string w.name, B)) ∧ ((∀ B, sFaddr B p 1 = some (q.2, B)) ∧ ∀ B, Le A B → sLoad1 B q.2 = some (.string w.text, B)) := by
  obtain ⟨p, p1, p2⟩ := SlR.elfs (Sl.r h) (wordE_ok l) (j := j) (e := wordE w) (by rw [List.getElem?_map, hj]; rfl) rfl
  obtain ⟨p', p1', p2'⟩ := enc_at wordE_enc h hj
  have e : p' = p := by
    have h1 := p1 A j rfl
    rw [p1' A j rfl] at h1
    injection h1 with h1
    injection h1 with h1 _
  subst e
  obtain ⟨q0, c0⟩ := p2 0 _ rfl
  obtain ⟨q1, c1⟩ := p2 1 _ rfl
  exact ⟨p', (q0, q1), p1, p2', c0, c1⟩
theorem counts_at {A : AH} {v : Value} {l : List CountV} (h : CountsA A v l) {j : Nat} {w : CountV} (hj : l[j]? = some w) : ∃ p, ∃ q : Value × Value, (∀ (B : AH) (n : Int), n = (j : Int) → sIaddr B v (.int .i64 n) 2 = some (p, B)) ∧ (∀ B, Le A B → sLoadn B p 2 = some (.agg (countE w).toArray, B)) ∧
    ((∀ B, sFaddr B p 0 = some (q.1, B)) ∧ ∀ B, Le A B → sLoad1 B q.1 = some (.string w.name, B)) ∧ ((∀ B, sFaddr B p 1 = some (q.2, B)) ∧ ∀ B, Le A B → sLoad1 B q.2 = some (ii w.n, B)) := by
  obtain ⟨p, p1, p2⟩ := SlR.elfs (Sl.r h) (countE_ok l) (j := j) (e := countE w) (by rw [List.getElem?_map, hj]; rfl) rfl
  obtain ⟨p', p1', p2'⟩ := enc_at countE_enc h hj
  have e : p' = p := by
    have h1 := p1 A j rfl
    rw [p1' A j rfl] at h1
    injection h1 with h1
    injection h1 with h1 _
  subst e
  obtain ⟨q0, c0⟩ := p2 0 _ rfl
  obtain ⟨q1, c1⟩ := p2 1 _ rfl
  exact ⟨p', (q0, q1), p1, p2', c0, c1⟩
theorem ref41_rising_spec {A : AH} {v : Value} {names : Bool} {l : List WordV} {Q : Value → AH → Prop} (hv : WordsA A v l) (hl : l.length < 2 ^ 50) (hq : ∀ b : Bool, (b = true ↔ Adj (fun a b => ltWd a b ∧ (names = true → a.name ≠ b.name)) l) → Q (.bool b) A) : ACalls 0 Try.prog chantryref41_rising [v, .bool names] Q A := by
  refine ACalls.of_fits mixed fits_chantryref41_rising rfl ?_
  unfold ic_chantryref41_rising
  have i0 : initA [v, .bool names] 0 = v := rfl
  have i1 : initA [v, .bool names] 1 = .bool names := rfl
  generalize initA [v, .bool names] = a at i0 i1
  have hvl := hv.len
  obtain ⟨Pk, hPk⟩ : ∃ P : Nat → Prop, P = fun k => ∀ (i : Nat) x y, i + 1 < k → l[i]? = some x → l[i + 1]? = some y → ltWd x y ∧ (names = true → x.name ≠ y.name) := ⟨_, rfl⟩
  simp (maxSteps := 1000000) (disch := omega) only [stepS, reduceIte, Nat.reduceBEq, Nat.reduceEqDiff, tupleOf, stepT, i0, i1]
  refine W_loop (fun a' B => ∃ k : Nat, 1 ≤ k ∧ (k ≤ l.length ∨ k = 1) ∧ B = A ∧ a' 0 = v ∧ a' 1 = .bool names ∧ a' 5 = ii k ∧ Pk k) (fun a' _ => l.length - (iv (a' 5)).toNat) ?_ ?_
  · refine ⟨1, Nat.le_refl _, .inr rfl, rfl, ?_⟩
    simp (maxSteps := 1000000) (disch := omega) only [stepS, reduceIte, Nat.reduceBEq, Nat.reduceEqDiff, tupleOf, stepT, i0, i1]
    refine ⟨rfl, ?_⟩
    rw [hPk]
    exact fun i x y h => by omega
  · rintro a2 B ⟨k, hk1, hk2, hB, g0, g1, g5, hs⟩
    have hs : ∀ (i : Nat) x y, i + 1 < k → l[i]? = some x → l[i + 1]? = some y → ltWd x y ∧ (names = true → x.name ≠ y.name) := by rw [hPk] at hs; exact hs
    obtain rfl : A = B := hB.symm
    clear hB
    rcases Nat.lt_or_ge k l.length with hlt | hge
    · obtain ⟨x, hx⟩ := get_some (l := l) (k := k - 1) (by omega)
      obtain ⟨y, hy⟩ := get_some hlt
      obtain ⟨p, pq, p1, p2, ⟨p3, p4⟩, _⟩ := words_at hv hx
      obtain ⟨q, qq, q1, q2, ⟨q3, q4⟩, _⟩ := words_at hv hy
      have p2 := p2 A (.refl _)
      have q2 := q2 A (.refl _)
      have p4 := p4 A (.refl _)
      have q4 := q4 A (.refl _)
      have e1 : (k : Int) - 1 = ((k - 1 : Nat) : Int) := by omega
      have hy' : l[k - 1 + 1]? = some y := by rw [show k - 1 + 1 = k by omega]; exact hy
      have step : (ltWd x y ∧ (names = true → x.name ≠ y.name)) → Pk (k + 1) := by
        rw [hPk]
        intro hxy i x2 y2 hi hx2 hy2
        rcases Nat.lt_or_ge (i + 1) k with h | h
        · exact hs i x2 y2 h hx2 hy2
        · have : i = k - 1 := by omega
          subst this
          rw [hx] at hx2
          rw [hy'] at hy2
          obtain rfl := Option.some.inj hx2
          obtain rfl := Option.some.inj hy2
          exact hxy
      simp (maxSteps := 1000000) (disch := omega) only [stepS, reduceIte, Nat.reduceBEq, Nat.reduceEqDiff, tupleOf, stepT, g0, g1, g5, hvl, e1, p1, p2, q1, q2]
      refine ref41_less_spec fun c hc => ?_
      cases c with
      | false =>
        simp (maxSteps := 1000000) (disch := omega) only [stepS, reduceIte, Nat.reduceBEq, Nat.reduceEqDiff, tupleOf, stepT, g0, g1, g5]
        exact hq false ⟨(fun h => by cases h), fun h => absurd (hc.2 (h (k - 1) x y hx hy').1) (by decide)⟩
      | true =>
        have hlt2 := hc.1 rfl
        cases names with
        | false =>
          simp (maxSteps := 1000000) (disch := omega) only [stepS, reduceIte, Nat.reduceBEq, Nat.reduceEqDiff, tupleOf, stepT, g0, g1, g5]
          exact ⟨⟨k + 1, by omega, by omega, rfl, step ⟨hlt2, fun h => by cases h⟩⟩, by omega⟩
        | true =>
          by_cases h2 : x.name = y.name
          · have d2 : decide (x.name = y.name) = true := decide_eq_true h2
            simp (maxSteps := 1000000) (disch := omega) only [stepS, reduceIte, Nat.reduceBEq, Nat.reduceEqDiff, tupleOf, stepT, g0, g1, g5, hvl, e1, p1, p3, p4, q1, q3, q4, d2]
            exact hq false ⟨(fun h => by cases h), fun h => absurd h2 ((h (k - 1) x y hx hy').2 rfl)⟩
          · have d2 : decide (x.name = y.name) = false := decide_eq_false h2
            simp (maxSteps := 1000000) (disch := omega) only [stepS, reduceIte, Nat.reduceBEq, Nat.reduceEqDiff, tupleOf, stepT, g0, g1, g5, hvl, e1, p1, p3, p4, q1, q3, q4, d2]
            exact ⟨⟨k + 1, by omega, by omega, rfl, step ⟨hlt2, fun _ => h2⟩⟩, by omega⟩
    · simp (maxSteps := 1000000) (disch := omega) only [stepS, reduceIte, Nat.reduceBEq, Nat.reduceEqDiff, tupleOf, stepT, g0, g1, g5, hvl]
      exact hq true ⟨fun _ i x y hx hy => hs i x y (by have := lt_of_get hy; omega) hx hy, fun _ => rfl⟩
theorem ref41_Tidy_spec {A : AH} {x : Value} {s : StateV} {Q : Value → AH → Prop} (hx : StateA A x s) (hs : FinS s) (hq : ∀ b : Bool, (b = true ↔ TidyS s) → Q (.bool b) A) : ACalls 0 Try.prog chantryref41_Tidy [x] Q A := by
  refine ACalls.pure (S := fun v => ∃ b : Bool, v = .bool b ∧ (b = true ↔ TidyS s)) (fun v ⟨b, e, h⟩ => by rw [e]; exact hq b h) ?_
  obtain ⟨c, m, v, l, rfl, hc, hm, hv, hl⟩ := hx
  obtain ⟨n1, n2, n3, n4⟩ := finS_len hs
  refine ACalls.of_fits mixed fits_chantryref41_Tidy rfl ?_
  unfold ic_chantryref41_Tidy
  have i0 : initA [.agg #[c, m, v, l]] 0 = .agg #[c, m, v, l] := rfl
  generalize initA [.agg #[c, m, v, l]] = a at i0
  have oc := (Sl.one1 hc).2
  have om := (Sl.one1 hm).2
  have ov := (Sl.one1 hv).2
  have ol := (Sl.one1 hl).2
  refine W_mid (fun a B => B = A ++ [.row [c, m, v, l] .own 0 true] ∧ a 1 = ptr A.length) ?_ ?_
  · simp (maxSteps := 1000000) (disch := omega) only [stepS, reduceIte, Nat.reduceBEq, Nat.reduceEqDiff, tupleOf, stepT, stepX, heapR, lensR, Nat.reduceAdd, Nat.reduceLeDiff, i0, oc, om, ov, ol]
  rintro a B0 ⟨hB, g1⟩
  have k0 : Le A B0 := by rw [hB]; exact .push _ _
  have r1 : rowAt B0 A.length = some ([c, m, v, l], .own, 0, true) := by rw [hB]; exact rowAt_own (get_last _ _)
  clear i0 hB
  have no : ∀ {p : Prop}, (TidyS s → p) → ¬ p → ∃ b : Bool, Value.bool false = .bool b ∧ (b = true ↔ TidyS s) := fun h k => ⟨false, rfl, (fun h => by cases h), fun t => absurd (h t) k⟩
  have nf : ∀ {p : Prop}, (false = true ↔ p) → ¬ p := fun h k => by have := h.2 k; cases this
  have hcl := hc.len
  refine W_midR (fun a B => Adj ltC s.counts ∧ B = B0 ∧ a 1 = ptr A.length) ?_ ?_
  · simp (maxSteps := 1000000) (disch := omega) only [stepS, reduceIte, Nat.reduceBEq, Nat.reduceEqDiff, tupleOf, stepT, stepX, heapR, lensR, Nat.reduceAdd, Nat.reduceLeDiff, g1]
    refine W_loop (fun a' B => ∃ k : Nat, 1 ≤ k ∧ (k ≤ s.counts.length ∨ k = 1) ∧ B = B0 ∧ a' 1 = ptr A.length ∧ a' 3 = ii k ∧ ∀ (i : Nat) x y, i + 1 < k → s.counts[i]? = some x → s.counts[i + 1]? = some y → ltC x y) (fun a' _ => s.counts.length - (iv (a' 3)).toNat) ?_ ?_
    · refine ⟨1, Nat.le_refl _, .inr rfl, rfl, ?_⟩
      simp (maxSteps := 1000000) (disch := omega) only [stepS, reduceIte, Nat.reduceBEq, Nat.reduceEqDiff, tupleOf, stepT, stepX, heapR, lensR, Nat.reduceAdd, Nat.reduceLeDiff, g1]
      refine ⟨rfl, fun i x y h => by omega⟩
    · clear g1
      rintro a2 B ⟨k, hk1, hk2, hB, g1, g3, hs⟩
      obtain rfl : B0 = B := hB.symm
      clear hB
      rcases Nat.lt_or_ge k s.counts.length with hlt | hge
      · obtain ⟨x, hx⟩ := get_some (l := s.counts) (k := k - 1) (by omega)
        obtain ⟨y, hy⟩ := get_some hlt
        obtain ⟨p, pq, p1, p2, ⟨p3, p4⟩, _⟩ := counts_at hc hx
        obtain ⟨q, qq, q1, q2, ⟨q3, q4⟩, _⟩ := counts_at hc hy
        have p4 := p4 B0 k0
        have q4 := q4 B0 k0
        have e1 : (k : Int) - 1 = ((k - 1 : Nat) : Int) := by omega
        have hy' : s.counts[k - 1 + 1]? = some y := by rw [show k - 1 + 1 = k by omega]; exact hy
        by_cases h1 : bl x.name < bl y.name
        · have d1 : decide (¬ bl x.name < bl y.name) = false := decide_eq_false (fun h => h h1)
          simp (maxSteps := 1000000) (disch := omega) only [stepS, reduceIte, Nat.reduceBEq, Nat.reduceEqDiff, tupleOf, stepT, stepX, heapR, lensR, Nat.reduceAdd, Nat.reduceLeDiff, g1, g3, r1, hcl, e1, p1, p3, p4, q1, q3, q4, geS, d1]
          refine ⟨⟨k + 1, by omega, by omega, rfl, fun i x2 y2 hi hx2 hy2 => ?_⟩, by omega⟩
          rcases Nat.lt_or_ge (i + 1) k with h | h
          · exact hs i x2 y2 h hx2 hy2
          · have : i = k - 1 := by omega
            subst this
            rw [hx] at hx2
            rw [hy'] at hy2
            obtain rfl := Option.some.inj hx2
            obtain rfl := Option.some.inj hy2
            exact h1
        · have d1 : decide (¬ bl x.name < bl y.name) = true := decide_eq_true h1
          simp (maxSteps := 1000000) (disch := omega) only [stepS, reduceIte, Nat.reduceBEq, Nat.reduceEqDiff, tupleOf, stepT, stepX, heapR, lensR, Nat.reduceAdd, Nat.reduceLeDiff, g1, g3, r1, hcl, e1, p1, p3, p4, q1, q3, q4, geS, d1]
          exact .inr ⟨k0, rfl, no (fun t => t.1 (k - 1) x y hx hy') h1⟩
      · simp (maxSteps := 1000000) (disch := omega) only [stepS, reduceIte, Nat.reduceBEq, Nat.reduceEqDiff, tupleOf, stepT, stepX, heapR, lensR, Nat.reduceAdd, Nat.reduceLeDiff, g1, g3, r1, hcl]
        exact .inl fun i x y hx hy => hs i x y (by have := lt_of_get hy; omega) hx hy
  clear g1
  rintro a B ⟨h0, hB, g1⟩
  obtain rfl : B0 = B := hB.symm
  clear hB
  have wd : ∀ {l : List WordV}, Adj (fun a b => ltWd a b ∧ (false = true → a.name ≠ b.name)) l ↔ Adj ltWd l := fun {l} => ⟨fun h i x y hx hy => (h i x y hx hy).1, fun h i x y hx hy => ⟨h i x y hx hy, fun h => by cases h⟩⟩
  have wn : ∀ {l : List WordV}, Adj (fun a b => ltWd a b ∧ (true = true → a.name ≠ b.name)) l ↔ Adj ltN l := fun {l} => ⟨fun h i x y hx hy => ltN_of.2 ⟨(h i x y hx hy).1, (h i x y hx hy).2 rfl⟩, fun h i x y hx hy => ⟨(ltN_of.1 (h i x y hx hy)).1, fun _ => (ltN_of.1 (h i x y hx hy)).2⟩⟩
  simp (maxSteps := 1000000) (disch := omega) only [stepS, reduceIte, Nat.reduceBEq, Nat.reduceEqDiff, tupleOf, stepT, stepX, heapR, lensR, Nat.reduceAdd, Nat.reduceLeDiff, g1, r1]
  refine ref41_rising_spec (hm.le k0) n2 fun b2 h2 => ?_
  rw [wd] at h2
  cases b2 with
  | false =>
    simp (maxSteps := 1000000) (disch := omega) only [stepS, reduceIte, Nat.reduceBEq, Nat.reduceEqDiff, tupleOf, stepT, stepX, heapR, lensR, Nat.reduceAdd, Nat.reduceLeDiff, g1, r1]
    exact ⟨k0, rfl, no (fun t => t.2.1) (nf h2)⟩
  | true =>
  simp (maxSteps := 1000000) (disch := omega) only [stepS, reduceIte, Nat.reduceBEq, Nat.reduceEqDiff, tupleOf, stepT, stepX, heapR, lensR, Nat.reduceAdd, Nat.reduceLeDiff, g1, r1]
  refine ref41_rising_spec (hv.le k0) n3 fun b3 h3 => ?_
  rw [wd] at h3
  cases b3 with
  | false =>
    simp (maxSteps := 1000000) (disch := omega) only [stepS, reduceIte, Nat.reduceBEq, Nat.reduceEqDiff, tupleOf, stepT, stepX, heapR, lensR, Nat.reduceAdd, Nat.reduceLeDiff, g1, r1]
    exact ⟨k0, rfl, no (fun t => t.2.2.1) (nf h3)⟩
  | true =>
  simp (maxSteps := 1000000) (disch := omega) only [stepS, reduceIte, Nat.reduceBEq, Nat.reduceEqDiff, tupleOf, stepT, stepX, heapR, lensR, Nat.reduceAdd, Nat.reduceLeDiff, g1, r1]
  refine ref41_rising_spec (hl.le k0) n4 fun b4 h4 => ?_
  rw [wn] at h4
  cases b4 with
  | false =>
    simp (maxSteps := 1000000) (disch := omega) only [stepS, reduceIte, Nat.reduceBEq, Nat.reduceEqDiff, tupleOf, stepT, stepX, heapR, lensR, Nat.reduceAdd, Nat.reduceLeDiff, g1, r1]
    exact ⟨k0, rfl, no (fun t => t.2.2.2) (nf h4)⟩
  | true =>
    simp (maxSteps := 1000000) (disch := omega) only [stepS, reduceIte, Nat.reduceBEq, Nat.reduceEqDiff, tupleOf, stepT, stepX, heapR, lensR, Nat.reduceAdd, Nat.reduceLeDiff, g1, r1]
    exact ⟨k0, rfl, true, rfl, fun _ => ⟨h0, h2.1 rfl, h3.1 rfl, h4.1 rfl⟩, fun _ => rfl⟩
end Go.AS.C


namespace Go.AS
open Go
set_option maxRecDepth 100000
/-! slices.Insert (printed). -/
end Go.AS


namespace Go.AS
open Go
set_option linter.unusedVariables false
set_option linter.unusedSimpArgs false
set_option maxRecDepth 10000

/-! slices.Insert of one element into a slice of the call's own. -/
section
variable {A A0 : AH} {v : Value} {sz : Nat} {es : List (List Value)} {e : List Value}
theorem sll_hi {b o n c k : Nat} {cs : List Value} {st : St} {ex : Bool} (h : A[b]? = some (.row cs st sz ex)) (hk : k ≤ c) {x : Int} (hx : x = (k : Int)) : sSll A (.slice (some ⟨b, o, none⟩) n c) none (some (.int .i64 x)) none sz = some (.slice (some ⟨b, o, none⟩) k c, A) := by
  subst hx
  unfold sSll
  have hb : boundsA n c none (some (.int .i64 (k : Int))) none = some (0, k, c) := by
    unfold boundsA
    simp only [Option.bind_some, asI]
    rw [if_pos ⟨by omega, by omega⟩]
    simp
  simp only [hb, Option.bind_some, rowSz, h]
  simp
end
end Go.AS


namespace Go.AS
open Go
set_option linter.unusedVariables false
set_option linter.unusedSimpArgs false
set_option maxRecDepth 100000
/-! slices.Delete of one element of a slice of the call's own. -/
section
variable {A A0 : AH} {v : Value} {sz : Nat} {es : List (List Value)}
end
end Go.AS


namespace Go.AS.C
open Go Go.Proofs
set_option linter.unusedVariables false
set_option linter.unusedSimpArgs false
set_option maxRecDepth 10000

/-! Changes; many lists of them as one. -/
structure DeltaV where
  kind : Int
  name : ByteArray
  text : ByteArray
  n : Int
def deltaE (d : DeltaV) : List Value := [ii d.kind, .string d.name, .string d.text, ii d.n]
theorem deltaE_ok (l : List DeltaV) : ∀ e ∈ l.map deltaE, e.length = 4 ∧ ones e = true := by
  intro e he
  rw [List.mem_map] at he
  obtain ⟨w, _, rfl⟩ := he
  exact ⟨rfl, rfl⟩
def DeltasA (A : AH) (v : Value) (l : List DeltaV) : Prop := Sl A 4 v (l.map deltaE).length (l.map deltaE).flatten
theorem DeltasA.le {A B : AH} {v : Value} {l : List DeltaV} (h : DeltasA A v l) (hl : Le A B) : DeltasA B v l := Sl.le h hl
theorem DeltasA.len {A : AH} {v : Value} {l : List DeltaV} (h : DeltasA A v l) (B : AH) : sLens B false v = some (ii l.length, B) := by
  have := Sl.lenB h B
  rwa [List.length_map] at this
abbrev OwnD (a0 : Nat) (A : AH) (v : Value) (l : List DeltaV) : Prop := OwnE a0 A 4 v (l.map deltaE)
theorem OwnD.sl {a0 : Nat} {A : AH} {v : Value} {l : List DeltaV} (h : OwnD a0 A v l) : DeltasA A v l := h.2.sl
theorem grow_spec {A : AH} {n : Nat} {Q : Value → AH → Prop} (hn : n ≤ 2 ^ 30) (hq : ∀ v A', Le A A' → OwnD A.length A' v [] → Q v A') : ACalls 0 Try.prog api_Delta_41 [.slice none 0 0, ii n] Q A := by
  refine ACalls.of_fits mixed fits_api_Delta_41 rfl ?_
  unfold ic_api_Delta_41
  have i0 : initA [.slice none 0 0, ii n] 0 = .slice none 0 0 := rfl
  have i1 : initA [.slice none 0 0, ii n] 1 = ii n := rfl
  generalize initA [.slice none 0 0, ii n] = a at i0 i1
  have c3 : sLens A false (.slice none 0 0) = some (ii 0, A) := rfl
  by_cases h0 : n = 0
  · subst h0
    simp (maxSteps := 1000000) (disch := omega) only [stepS, reduceIte, Nat.reduceBEq, Nat.reduceEqDiff, tupleOf, stepT, i0, i1, c3]
    exact hq _ _ (.refl _) (OwnE.nil _ _ _)
  · have c6 : sSll A (.slice none 0 0) none (some (ii 0)) none 4 = some (.slice none 0 0, A) := rfl
    obtain ⟨v', A', e1, e2, e3, _⟩ := app_own (A0 := A) (A := A) (v := .slice none 0 0) (new := (List.replicate n [Value.int .i64 0, .string ⟨#[]⟩, .string ⟨#[]⟩, .int .i64 0]).flatten) (k := n) (bytes := 48) (.refl _) (OwnS.nil A.length A 4) (by omega) (by omega) (by omega) (by simp) (by
      unfold ones
      rw [List.all_eq_true]
      intro x hx
      rw [List.mem_flatten] at hx
      obtain ⟨l, hl, hx⟩ := hx
      obtain rfl := List.eq_of_mem_replicate hl
      simp only [List.mem_cons, List.not_mem_nil, or_false] at hx
      rcases hx with rfl | rfl | rfl | rfl <;> rfl)
    have c7 : sAppz A (.slice none 0 0) (ii n) [.int .i64 0, .string ⟨#[]⟩, .string ⟨#[]⟩, .int .i64 0] 48 = some (v', A') := by
      rw [appz_eq (by omega), Int.toNat_natCast]
      exact e1
    have c8 : ∃ u, sSll A' v' none (some (ii ((0 : Nat) : Int))) none 4 = some (u, A') ∧ OwnD A.length A' u [] := by
      obtain ⟨f0, f⟩ := e3
      rcases f with ⟨rfl, f⟩ | ⟨rfl, f⟩ | ⟨i, o, c, rc, ex, rfl, f1, f2, f3, f4, f5⟩
      · omega
      · omega
      · refine ⟨.slice (some ⟨i, o, none⟩) 0 c, sll_hi (k := 0) f3 (by omega) rfl, (fun e h => by cases h), by simp, .inr (.inr ⟨i, o, c, rc, ex, rfl, by simp, f2, f3, by simp; omega, fun j hj => by simp at hj⟩)⟩
    obtain ⟨u, c8, c9⟩ := c8
    have z : ((n : Nat) : Int) - (0 - 0) = n := by omega
    have c7b : sAppz A (.slice none 0 0) (ii (((n : Nat) : Int) - (0 - 0))) [.int .i64 0, .string ⟨#[]⟩, .string ⟨#[]⟩, .int .i64 0] 48 = some (v', A') := by rw [z]; exact c7
    simp (maxSteps := 1000000) (disch := omega) only [stepS, reduceIte, Nat.reduceBEq, Nat.reduceEqDiff, tupleOf, stepT, i0, i1, c3, c6, c7b, c8]
    exact hq _ _ e2 c9
theorem concat_spec {A : AH} {v : Value} {vs : List Value} {ls : List (List DeltaV)} {Q : Value → AH → Prop} (hv : Sl A 1 v vs.length vs) (hn : vs.length = ls.length)
    (hb : ∀ (j : Nat) x l, vs[j]? = some x → ls[j]? = some l → DeltasA A x l) (hl : ls.flatten.length ≤ 2 ^ 30) (hc : ls.length ≤ 2 ^ 30) (hq : ∀ v A', Le A A' → OwnD A.length A' v ls.flatten → Q v A') :
    ACalls 0 Try.prog api_Delta [v] Q A := by
  refine ACalls.of_fits mixed fits_api_Delta rfl ?_
  unfold ic_api_Delta
  have i0 : initA [v] 0 = v := rfl
  generalize initA [v] = a at i0
  have hvl : ∀ B, sLens B false v = some (ii vs.length, B) := Sl.lenB hv
  simp (maxSteps := 1000000) (disch := omega) only [stepS, reduceIte, Nat.reduceBEq, Nat.reduceEqDiff, tupleOf, stepT, i0, hvl]
  refine W_loop (fun a' A' => A' = A ∧ ∃ k : Nat, k ≤ ls.length ∧ a' 0 = v ∧ a' 9 = v ∧ a' 10 = ii vs.length ∧ a' 11 = ii k ∧ a' 3 = ii (((ls.take k).flatten.length : Nat) : Int)) (fun a' _ => (ls.length - (iv (a' 11)).toNat)) ?_ ?_
  · refine ⟨rfl, 0, by omega, ?_⟩
    simp (maxSteps := 1000000) (disch := omega) only [stepS, reduceIte, Nat.reduceBEq, Nat.reduceEqDiff, tupleOf, stepT, i0]
    simp
  · rintro a A' ⟨rfl, k, hk, g0, g9, g10, g11, g3⟩
    rcases Nat.lt_or_ge k ls.length with hlt | hge
    · obtain ⟨x, hx⟩ : ∃ b, vs[k]? = some b := ⟨_, List.getElem?_eq_getElem (by omega)⟩
      obtain ⟨l, hl2⟩ : ∃ b, ls[k]? = some b := ⟨_, List.getElem?_eq_getElem hlt⟩
      obtain ⟨p, p1, p2⟩ := Sl.at1L hv hx
      have p3 := p2 A' (.refl _)
      have hll := (hb k x l hx hl2).len A'
      have hsu : (ls.take (k + 1)).flatten = (ls.take k).flatten ++ l := by rw [List.take_add_one, hl2]; simp
      have hle : (ls.take (k + 1)).flatten.length ≤ ls.flatten.length := by
        conv => rhs; rw [← List.take_append_drop (k + 1) ls]
        rw [List.flatten_append, List.length_append]; omega
      rw [hsu, List.length_append] at hle
      have hsl : (((ls.take (k + 1)).flatten.length : Nat) : Int) = ((ls.take k).flatten.length : Nat) + (l.length : Nat) := by rw [hsu, List.length_append]; simp
      simp (maxSteps := 1000000) (disch := omega) only [stepS, reduceIte, Nat.reduceBEq, Nat.reduceEqDiff, tupleOf, stepT, g0, g9, g10, g11, g3, p1, p3, hll]
      exact ⟨⟨k + 1, by omega, rfl, by rw [hsl]⟩, by omega⟩
    · have hk : k = ls.length := by omega
      subst hk
      rw [List.take_length] at g3
      simp (maxSteps := 1000000) (disch := omega) only [stepS, reduceIte, Nat.reduceBEq, Nat.reduceEqDiff, tupleOf, stepT, g0, g9, g10, g11, g3]
      refine grow_spec hl fun u A1 hle1 hown => ?_
      simp (maxSteps := 1000000) (disch := omega) only [stepS, reduceIte, Nat.reduceBEq, Nat.reduceEqDiff, tupleOf, stepT, g0, hvl]
      refine W_loop (fun a' B => ∃ k : Nat, k ≤ ls.length ∧ Le A' B ∧ a' 25 = v ∧ a' 26 = ii vs.length ∧ a' 27 = ii k ∧ OwnD A'.length B (a' 6) (ls.take k).flatten) (fun a' _ => (ls.length - (iv (a' 27)).toNat)) ?_ ?_
      · refine ⟨0, by omega, hle1, ?_⟩
        simp (maxSteps := 1000000) (disch := omega) only [stepS, reduceIte, Nat.reduceBEq, Nat.reduceEqDiff, tupleOf, stepT]
        simpa using hown
      · rintro a2 B ⟨k, hk, hle2, f25, f26, f27, f6⟩
        obtain ⟨y, f6e⟩ : ∃ y, a2 6 = y := ⟨_, rfl⟩
        rw [f6e] at f6
        rcases Nat.lt_or_ge k ls.length with hlt | hge
        · obtain ⟨x, hx⟩ : ∃ b, vs[k]? = some b := ⟨_, List.getElem?_eq_getElem (by omega)⟩
          obtain ⟨l, hl2⟩ : ∃ b, ls[k]? = some b := ⟨_, List.getElem?_eq_getElem hlt⟩
          obtain ⟨p, p1, p2⟩ := Sl.at1L hv hx
          have p3 := p2 B hle2
          have hsu : (ls.take (k + 1)).flatten = (ls.take k).flatten ++ l := by rw [List.take_add_one, hl2]; simp
          have hle : (ls.take (k + 1)).flatten.length ≤ ls.flatten.length := by
            conv => rhs; rw [← List.take_append_drop (k + 1) ls]
            rw [List.flatten_append, List.length_append]; omega
          rw [hsu, List.length_append] at hle
          obtain ⟨v', B', q1, q2, q3, _⟩ := OwnE.app (bytes := 48) hle2 f6 ((hb k x l hx hl2).le hle2) (deltaE_ok l) (by decide) (by rw [List.length_map, List.length_map]; omega) (by decide)
          simp (maxSteps := 1000000) (disch := omega) only [stepS, reduceIte, Nat.reduceBEq, Nat.reduceEqDiff, tupleOf, stepT, f25, f26, f27, f6e, p1, p3, q1]
          refine ⟨⟨k + 1, by omega, q2, rfl, ?_⟩, by omega⟩
          rw [hsu]
          show OwnE _ _ 4 _ (((ls.take k).flatten ++ l).map deltaE)
          rw [List.map_append]
          exact q3
        · have hk : k = ls.length := by omega
          subst hk
          rw [List.take_length] at f6
          simp (maxSteps := 1000000) (disch := omega) only [stepS, reduceIte, Nat.reduceBEq, Nat.reduceEqDiff, tupleOf, stepT, f25, f26, f27, f6e]
          exact hq _ _ hle2 f6
end Go.AS.C


namespace Go.AS.C
open Go Go.Proofs
set_option linter.unusedVariables false
set_option linter.unusedSimpArgs false
set_option maxRecDepth 10000

/-- slices.BinarySearchFunc, what is sought being a struct of two cells. -/
theorem bs2_spec {A : AH} {v fv c0 c1 : Value} {Q : Value → AH → Prop} {dom lt eq : List Value → Prop} {f : FuncId} (hf : Fits Try.prog 0 f ic_api_Count_42 [.tmp 6, .tmp 7] 3) (o0 : c0.oneCell' = true) (o1 : c1.oneCell' = true) (hc : CmpT 0 Try.prog fv (.agg #[c0, c1]) dom lt eq) {es : List (List Value)} (hv : Sl A 2 v es.length es.flatten) (hok : ∀ e ∈ es, e.length = 2 ∧ ones e = true) (hd : ∀ x ∈ es, dom x) (hl : es.length < 1152921504606846976) {p : Nat} (hp : p ≤ es.length)
    (h1 : ∀ j e, j < p → es[j]? = some e → lt e) (h2 : ∀ j e, p ≤ j → es[j]? = some e → ¬ lt e) (hq : ∀ A' b, Le A A' → (b = true ↔ ∃ e, es[p]? = some e ∧ eq e) → Q (.tuple #[ii (p : Nat), .bool b]) A') : ACalls 0 Try.prog f [v, .agg #[c0, c1], fv] Q A := by
  refine ACalls.of_fits mixed hf rfl ?_
  unfold ic_api_Count_42
  have i0 : initA [v, .agg #[c0, c1], fv] 0 = v := rfl
  have i1 : initA [v, .agg #[c0, c1], fv] 1 = .agg #[c0, c1] := rfl
  have i2 : initA [v, .agg #[c0, c1], fv] 2 = fv := rfl
  generalize initA [v, .agg #[c0, c1], fv] = r at i0 i1 i2
  have hvl := hv.lenB
  refine W_mid (fun r B => B = A ++ [.row [c0, c1] .own 0 true] ∧ r 0 = v ∧ r 2 = fv ∧ r 4 = ptr A.length) ?_ ?_
  · simp (maxSteps := 1000000) (disch := omega) only [stepS, reduceIte, Nat.reduceBEq, Nat.reduceEqDiff, tupleOf, stepT, stepX, heapR, lensR, Nat.reduceAdd, Nat.reduceLeDiff, i0, i1, i2, o0, o1]
  clear i0 i1 i2
  rintro r A0 ⟨hB, i0, i2, i4⟩
  have k0 : Le A A0 := by rw [hB]; exact .push _ _
  have r1 : rowAt A0 A.length = some ([c0, c1], .own, 0, true) := by rw [hB]; exact rowAt_own (get_last _ _)
  clear hB
  simp (maxSteps := 1000000) (disch := omega) only [stepS, reduceIte, Nat.reduceBEq, Nat.reduceEqDiff, tupleOf, stepT, stepX, heapR, lensR, Nat.reduceAdd, Nat.reduceLeDiff, i0, i2, i4, hvl]
  refine W_loop (fun r' B => ∃ c d : Nat, c ≤ p ∧ p ≤ d ∧ d ≤ es.length ∧ Le A0 B ∧ r' 0 = v ∧ r' 4 = ptr A.length ∧ r' 2 = fv ∧ r' 8 = ii es.length ∧ r' 9 = ii (c : Nat) ∧ r' 10 = ii (d : Nat)) (fun r' _ => (iv (r' 10)).toNat - (iv (r' 9)).toNat) ?_ ?_
  · refine ⟨0, es.length, by omega, hp, Nat.le_refl _, .refl _, ?_⟩
    simp (maxSteps := 1000000) (disch := omega) only [stepS, reduceIte, Nat.reduceBEq, Nat.reduceEqDiff, tupleOf, stepT, stepX, heapR, lensR, Nat.reduceAdd, Nat.reduceLeDiff, i0, i2, i4]
    (all_goals (and_intros <;> first | rfl | assumption | (push_cast; rfl) | (congr 1; omega) | omega | (simp; done)))
  · clear i0 i2 i4
    rintro r B ⟨c, d, hc1, hd1, hdl, hle, g0, g1, g2, g8, g9, g10⟩
    have r2 := hle.row r1
    rcases Nat.lt_or_ge c d with hlt | hge
    · obtain ⟨e, he⟩ := get_some (l := es) (k := (c + d) / 2) (by omega)
      obtain ⟨q, _, q1, q2, _⟩ := (hv.le (k0.trans hle)).el hok he
      simp (maxSteps := 1000000) (disch := omega) only [stepS, reduceIte, Nat.reduceBEq, Nat.reduceEqDiff, tupleOf, stepT, stepX, heapR, lensR, Nat.reduceAdd, Nat.reduceLeDiff, g0, g1, g2, g8, g9, g10, convU, convS, half, q1, q2, r2, o0, o1]
      refine hc _ e _ (hd e (List.mem_of_getElem? he)) fun B2 n k2 hn _ => ?_
      by_cases hx : lt e
      · have hn0 : n < 0 := hn.2 hx
        have hpp : (c + d) / 2 < p := by
          rcases Nat.lt_or_ge ((c + d) / 2) p with h | h
          · exact h
          · exact absurd hx (h2 _ _ h he)
        simp (maxSteps := 1000000) (disch := omega) only [stepS, reduceIte, Nat.reduceBEq, Nat.reduceEqDiff, tupleOf, stepT, stepX, heapR, lensR, Nat.reduceAdd, Nat.reduceLeDiff, g0, g1, g2, g8, g9, g10, hn0]
        refine ⟨⟨(c + d) / 2 + 1, d, by omega, hd1, hdl, hle.trans k2, ?_⟩, by omega⟩
        (all_goals (and_intros <;> first | rfl | assumption | (push_cast; rfl) | (congr 1; omega) | omega | (simp; done)))
      · have hn0 : ¬ n < 0 := fun h => hx (hn.1 h)
        have hpp : p ≤ (c + d) / 2 := by
          rcases Nat.lt_or_ge ((c + d) / 2) p with h | h
          · exact absurd (h1 _ _ h he) hx
          · exact h
        simp (maxSteps := 1000000) (disch := omega) only [stepS, reduceIte, Nat.reduceBEq, Nat.reduceEqDiff, tupleOf, stepT, stepX, heapR, lensR, Nat.reduceAdd, Nat.reduceLeDiff, g0, g1, g2, g8, g9, g10, hn0]
        refine ⟨⟨c, (c + d) / 2, hc1, hpp, by omega, hle.trans k2, ?_⟩, by omega⟩
        (all_goals (and_intros <;> first | rfl | assumption | (push_cast; rfl) | (congr 1; omega) | omega | (simp; done)))
    · have hcp : c = p := by omega
      subst hcp
      rcases Nat.lt_or_ge c es.length with hlt2 | hge2
      · obtain ⟨e, he⟩ := get_some (l := es) (k := c) hlt2
        obtain ⟨q, _, q1, q2, _⟩ := (hv.le (k0.trans hle)).el hok he
        simp (maxSteps := 1000000) (disch := omega) only [stepS, reduceIte, Nat.reduceBEq, Nat.reduceEqDiff, tupleOf, stepT, stepX, heapR, lensR, Nat.reduceAdd, Nat.reduceLeDiff, g0, g1, g2, g8, g9, g10, q1, q2, r2, o0, o1]
        refine hc _ e _ (hd e (List.mem_of_getElem? he)) fun B2 n k2 _ hn => ?_
        simp (maxSteps := 1000000) (disch := omega) only [stepS, reduceIte, Nat.reduceBEq, Nat.reduceEqDiff, tupleOf, stepT, stepX, heapR, lensR, Nat.reduceAdd, Nat.reduceLeDiff, g0, g1, g2, g8, g9, g10]
        refine hq _ _ (k0.trans (hle.trans k2)) ?_
        rw [decide_eq_true_eq, hn]
        constructor
        · intro h; exact ⟨e, he, h⟩
        · rintro ⟨e', he', h⟩; rw [he] at he'; injection he' with he'; subst he'; exact h
      · simp (maxSteps := 1000000) (disch := omega) only [stepS, reduceIte, Nat.reduceBEq, Nat.reduceEqDiff, tupleOf, stepT, stepX, heapR, lensR, Nat.reduceAdd, Nat.reduceLeDiff, g0, g1, g2, g8, g9, g10]
        refine hq _ _ (k0.trans hle) ⟨(fun h => by cases h), ?_⟩
        rintro ⟨e, he, _⟩
        have := lt_of_get he; omega
end Go.AS.C


namespace Go.AS.C
open Go Go.Proofs
set_option linter.unusedVariables false
set_option linter.unusedSimpArgs false
set_option maxRecDepth 10000

/-! Rising lists, and where a thing stands in them. -/
structure Ord3 {α : Type} (lt eq : α → α → Prop) : Prop where
  tr : ∀ {a b c}, lt a b → lt b c → lt a c
  rf : ∀ a, eq a a
  ne : ∀ {a b}, eq a b → ¬ lt a b
  le : ∀ {a b c}, lt a b → eq b c → lt a c
theorem kl_trans {a b c : List UInt8} (h : a < b) (k : b < c) : a < c := List.lt_trans h k
theorem ordC : Ord3 ltC eqCn := ⟨fun h k => kl_trans h k, fun _ => rfl, fun h k => by unfold eqCn at h; unfold ltC at k; rw [h] at k; exact kl_irr _ k, fun h k => by unfold eqCn at k; unfold ltC at *; rw [← k]; exact h⟩
theorem ordN : Ord3 ltN eqN := ⟨fun h k => kl_trans h k, fun _ => rfl, fun h k => by unfold eqN at h; unfold ltN at k; rw [h] at k; exact kl_irr _ k, fun h k => by unfold eqN at k; unfold ltN at *; rw [← k]; exact h⟩
theorem ordW : Ord3 ltWd (fun a b => a = b) := by
  refine ⟨?_, fun _ => rfl, ?_, fun h k => by rw [← k]; exact h⟩
  · rintro a b c (h | ⟨h1, h2⟩) (k | ⟨k1, k2⟩)
    · exact .inl (kl_trans h k)
    · exact .inl (by rw [← k1]; exact h)
    · exact .inl (by rw [h1]; exact k)
    · exact .inr ⟨h1.trans k1, kl_trans h2 k2⟩
  · rintro a b rfl (h | h)
    · exact kl_irr _ h
    · exact kl_irr _ h.2
section
variable {α : Type} {lt eq : α → α → Prop} {l : List α}
theorem adj_lt (h : Adj lt l) (o : Ord3 lt eq) : ∀ (d i : Nat) x y, l[i]? = some x → l[i + 1 + d]? = some y → lt x y
  | 0, i, x, y, hx, hy => h i x y hx hy
  | d + 1, i, x, y, hx, hy => by
    obtain ⟨z, hz⟩ := get_some (l := l) (k := i + 1 + d) (by have := lt_of_get hy; omega)
    exact o.tr (adj_lt h o d i x z hx hz) (h _ z y hz hy)
theorem adj_lt' (h : Adj lt l) (o : Ord3 lt eq) {i j : Nat} {x y : α} (hij : i < j) (hx : l[i]? = some x) (hy : l[j]? = some y) : lt x y :=
  adj_lt h o (j - (i + 1)) i x y hx (by rw [show i + 1 + (j - (i + 1)) = j by omega]; exact hy)
theorem pos_ex (h : Adj lt l) (o : Ord3 lt eq) (t : α) : ∃ p, p ≤ l.length ∧ (∀ j e, j < p → l[j]? = some e → lt e t) ∧ (∀ j e, p ≤ j → l[j]? = some e → ¬ lt e t) := by
  have : ∀ k, k ≤ l.length → ∃ p, p ≤ k ∧ (∀ j e, j < p → l[j]? = some e → lt e t) ∧ (p = k ∨ ∃ e, l[p]? = some e ∧ ¬ lt e t) := by
    intro k
    induction k with
    | zero => intro _; exact ⟨0, Nat.le_refl _, fun j e h => absurd h (Nat.not_lt_zero _), .inl rfl⟩
    | succ k ih =>
      intro hk
      obtain ⟨p, h1, h2, h3⟩ := ih (by omega)
      rcases h3 with rfl | h3
      · obtain ⟨e, he⟩ := get_some (l := l) (k := p) (by omega)
        by_cases hlt : lt e t
        · refine ⟨p + 1, Nat.le_refl _, fun j e' hj he' => ?_, .inl rfl⟩
          rcases Nat.lt_or_ge j p with h | h
          · exact h2 j e' h he'
          · have : j = p := by omega
            subst this
            rw [he] at he'
            injection he' with he'
            rw [← he']; exact hlt
        · exact ⟨p, by omega, h2, .inr ⟨e, he, hlt⟩⟩
      · exact ⟨p, by omega, h2, .inr h3⟩
  obtain ⟨p, h1, h2, h3⟩ := this l.length (Nat.le_refl _)
  refine ⟨p, h1, h2, fun j e hj he => ?_⟩
  rcases h3 with rfl | ⟨e', he', hn⟩
  · have := lt_of_get he; omega
  · rcases Nat.eq_or_lt_of_le hj with rfl | hj
    · rw [he'] at he; injection he with he; rw [← he]; exact hn
    · exact fun hlt => hn (o.tr (adj_lt' h o hj he' he) hlt)
/-- What compares to t stands at its place alone. -/
theorem pos_at (h : Adj lt l) (o : Ord3 lt eq) {t y : α} {p j : Nat} (h1 : ∀ j e, j < p → l[j]? = some e → lt e t) (h2 : ∀ j e, p ≤ j → l[j]? = some e → ¬ lt e t) (hy : l[j]? = some y) (he : eq y t) : j = p := by
  have hge : p ≤ j := by
    rcases Nat.lt_or_ge j p with k | k
    · exact absurd (h1 j y k hy) (o.ne he)
    · exact k
  rcases Nat.eq_or_lt_of_le hge with k | k
  · exact k.symm
  · obtain ⟨z, hz⟩ := get_some (l := l) (k := p) (by have := lt_of_get hy; omega)
    exact absurd (o.le (adj_lt' h o k hz hy) he) (h2 p z (Nat.le_refl _) hz)
theorem pos_has (h : Adj lt l) (o : Ord3 lt eq) {t : α} {p : Nat} (h1 : ∀ j e, j < p → l[j]? = some e → lt e t) (h2 : ∀ j e, p ≤ j → l[j]? = some e → ¬ lt e t) : (∃ e, l[p]? = some e ∧ eq e t) ↔ ∃ y ∈ l, eq y t := by
  constructor
  · rintro ⟨e, he, k⟩; exact ⟨e, List.mem_of_getElem? he, k⟩
  · rintro ⟨y, hy, k⟩
    obtain ⟨j, hj⟩ := List.getElem?_of_mem hy
    obtain rfl := pos_at h o h1 h2 hj k
    exact ⟨y, hj, k⟩
theorem pos_mem (h : Adj lt l) (o : Ord3 lt eq) {t e : α} {p : Nat} (h1 : ∀ j e, j < p → l[j]? = some e → lt e t) (h2 : ∀ j e, p ≤ j → l[j]? = some e → ¬ lt e t) (he : l[p]? = some e) : t ∈ l ↔ e = t := by
  constructor
  · intro hm
    obtain ⟨j, hj⟩ := List.getElem?_of_mem hm
    obtain rfl := pos_at h o h1 h2 hj (o.rf t)
    rw [he] at hj; injection hj
  · rintro rfl; exact List.mem_of_getElem? he
end
/-- slices.BinarySearchFunc over a rising list. -/
theorem bsA_spec {α : Type} {f : FuncId} {fv w : Value} {enc : α → List Value} {lt eq : α → α → Prop} {A : AH} {b : List α} {t : α} {Q : Value → AH → Prop} (hf : Fits Try.prog 0 f ic_api_Count_42 [.tmp 6, .tmp 7] 3) (he : ∀ x, (enc x).length = 2 ∧ ones (enc x) = true) (hi : ∀ x y, enc x = enc y → x = y) (hc : CmpA fv enc lt eq) (o : Ord3 lt eq)
    (hw : Sl A 2 w (b.map enc).length (b.map enc).flatten) (hl : b.length < 2 ^ 50) (hb : Adj lt b)
    (hq : ∀ A' p h, Le A A' → p ≤ b.length → (∀ j e, j < p → b[j]? = some e → lt e t) → (∀ j e, p ≤ j → b[j]? = some e → ¬ lt e t) → (h = true ↔ ∃ y ∈ b, eq y t) → (h = true ↔ ∃ e, b[p]? = some e ∧ eq e t) → Q (.tuple #[ii (p : Nat), .bool h]) A') : ACalls 0 Try.prog f [w, .agg (enc t).toArray, fv] Q A := by
  obtain ⟨p, p0, p1, p2⟩ := pos_ex hb o t
  obtain ⟨c0, c1, hte⟩ : ∃ c0 c1, enc t = [c0, c1] := by
    have := (he t).1
    match h : enc t, this with
    | [c0, c1], _ => exact ⟨c0, c1, rfl⟩
  have ho := (he t).2
  rw [hte] at ho ⊢
  have o0 : c0.oneCell' = true := by unfold ones at ho; simp at ho; exact ho.1
  have o1 : c1.oneCell' = true := by unfold ones at ho; simp at ho; exact ho.2
  refine bs2_spec (dom := fun x => ∃ y, x = enc y) (lt := fun x => ∃ y, x = enc y ∧ lt y t) (eq := fun x => ∃ y, x = enc y ∧ eq y t) hf o0 o1 ?_ hw ?_ ?_ (by rw [List.length_map]; omega) (p := p) (by rw [List.length_map]; exact p0) ?_ ?_ ?_
  · rintro B x Q' ⟨y, rfl⟩ hq'
    rw [← show (Value.agg (enc t).toArray) = .agg #[c0, c1] by rw [hte]]
    refine hc B y t Q' fun A' n k1 k2 k3 _ _ => hq' A' n k1 (k2.trans ⟨fun h => ⟨y, rfl, h⟩, ?_⟩) (k3.trans ⟨fun h => ⟨y, rfl, h⟩, ?_⟩)
    · rintro ⟨z, hz, h⟩; rw [hi _ _ hz]; exact h
    · rintro ⟨z, hz, h⟩; rw [hi _ _ hz]; exact h
  · intro e h; rw [List.mem_map] at h; obtain ⟨y, _, rfl⟩ := h; exact he y
  · intro e h; rw [List.mem_map] at h; obtain ⟨y, _, rfl⟩ := h; exact ⟨y, rfl⟩
  · intro j e hj hje
    rw [List.getElem?_map] at hje
    obtain ⟨y, hy, rfl⟩ := Option.map_eq_some_iff.1 hje
    exact ⟨y, rfl, p1 j y hj hy⟩
  · intro j e hj hje
    rw [List.getElem?_map] at hje
    obtain ⟨y, hy, rfl⟩ := Option.map_eq_some_iff.1 hje
    rintro ⟨z, hz, h⟩
    rw [← hi _ _ hz] at h
    exact p2 j y hj hy h
  · intro A' h k1 k2
    have k3 : h = true ↔ ∃ e, b[p]? = some e ∧ eq e t := by
      rw [k2]
      constructor
      · rintro ⟨e, h1, z, rfl, h2⟩
        rw [List.getElem?_map] at h1
        obtain ⟨y, hy, h3⟩ := Option.map_eq_some_iff.1 h1
        rw [hi _ _ h3] at hy
        exact ⟨z, hy, h2⟩
      · rintro ⟨e, h1, h2⟩
        exact ⟨enc e, by rw [List.getElem?_map, h1]; rfl, e, rfl, h2⟩
    exact hq A' p h k1 p0 p1 p2 (k3.trans (pos_has hb o p1 p2)) k3
theorem bsB_spec {α : Type} {f : FuncId} {fv w : Value} {enc : α → List Value} {lt eq : α → α → Prop} {A : AH} {b : List α} {t : α} {cs : List Value} {Q : Value → AH → Prop} (hf : Fits Try.prog 0 f ic_api_Count_42 [.tmp 6, .tmp 7] 3) (he : ∀ x, (enc x).length = 2 ∧ ones (enc x) = true) (hi : ∀ x y, enc x = enc y → x = y) (hc : CmpA fv enc lt eq) (o : Ord3 lt eq)
    (hcs : enc t = cs) (hw : Sl A 2 w (b.map enc).length (b.map enc).flatten) (hl : b.length < 2 ^ 50) (hb : Adj lt b)
    (hq : ∀ A' p h, Le A A' → p ≤ b.length → (∀ j e, j < p → b[j]? = some e → lt e t) → (∀ j e, p ≤ j → b[j]? = some e → ¬ lt e t) → (h = true ↔ ∃ y ∈ b, eq y t) → (h = true ↔ ∃ e, b[p]? = some e ∧ eq e t) → Q (.tuple #[ii (p : Nat), .bool h]) A') : ACalls 0 Try.prog f [w, .agg cs.toArray, fv] Q A := by
  subst hcs
  exact bsA_spec hf he hi hc o hw hl hb hq
end Go.AS.C


namespace Go.AS.C
open Go Go.Proofs
set_option linter.unusedVariables false
set_option linter.unusedSimpArgs false
set_option maxRecDepth 10000

/-! What a function makes of those of a list that another one lacks. -/
def TellC {α : Type} (A0 : AH) (fv : Value) (enc : α → List Value) (d : α → DeltaV) : Prop :=
  ∀ (A : AH) (x : α) (Q : Value → AH → Prop), Le A0 A → (∀ A', Le A A' → Q (.agg (deltaE (d x)).toArray) A') → callD fv 0 Try.prog [.agg (enc x).toArray] Q A
theorem callD_cs {α : Type} {fv : Value} {enc : α → List Value} {x : α} {cs : List Value} {A : AH} {Q : Value → AH → Prop} (h : enc x = cs) (k : callD fv 0 Try.prog [.agg (enc x).toArray] Q A) : callD fv 0 Try.prog [.agg cs.toArray] Q A := by rw [← h]; exact k
theorem deltaE_enc (x : DeltaV) : (deltaE x).length = 4 ∧ ones (deltaE x) = true := ⟨rfl, rfl⟩
theorem sl_one {sz : Nat} (A : AH) {e : List Value} (he : e.length = sz) (hz : 0 < sz) : Sl (A ++ [.row e .own sz true]) sz (.slice (some ⟨A.length, 0, none⟩) 1 1) [e].length [e].flatten := by
  refine ⟨by simp [he], .inr (.inr ⟨A.length, 0, 1, e, .own, true, rfl, Nat.le_refl _, get_last _ _, St.noConfusion, by simp [he], fun j hj => by simp⟩)⟩
set_option maxHeartbeats 2000000 in
theorem lessC_spec {α : Type} {fv tv v w : Value} {enc : α → List Value} {lt eq : α → α → Prop} {equal : Bool} {d : α → DeltaV} {keep : α → Bool} {A : AH} {a b : List α} {Q : Value → AH → Prop}
    (he : ∀ x, (enc x).length = 2 ∧ ones (enc x) = true) (hi : ∀ x y, enc x = enc y → x = y) (hc : CmpA fv enc lt eq) (o : Ord3 lt eq) (ht : TellC A tv enc d)
    (hv : Sl A 2 v (a.map enc).length (a.map enc).flatten) (hw : Sl A 2 w (b.map enc).length (b.map enc).flatten) (hla : a.length ≤ 2 ^ 30) (hlb : b.length < 2 ^ 50) (hb : Adj lt b)
    (hag : ∀ (B : AH) x y, x ∈ b → y ∈ a → (x = y → sEqagg B true (Try.prog.keyLits 8 40) (.agg (enc x).toArray) (.agg (enc y).toArray) = some (.bool false, B)) ∧ (x ≠ y → sEqagg B true (Try.prog.keyLits 8 40) (.agg (enc x).toArray) (.agg (enc y).toArray) = some (.bool true, B)))
    (hk : ∀ x ∈ a, keep x = true ↔ (¬ ∃ y ∈ b, eq y x) ∨ (equal = true ∧ ¬ x ∈ b))
    (hq : ∀ u A', Le A A' → OwnD A.length A' u ((a.filter keep).map d) → Q u A') : ACalls 0 Try.prog api_Count [v, w, fv, .bool equal, tv] Q A := by
  refine ACalls.of_fits mixed fits_api_Count rfl ?_
  unfold ic_api_Count
  have i0 : initA [v, w, fv, .bool equal, tv] 0 = v := rfl
  have i1 : initA [v, w, fv, .bool equal, tv] 1 = w := rfl
  have i2 : initA [v, w, fv, .bool equal, tv] 2 = fv := rfl
  have i3 : initA [v, w, fv, .bool equal, tv] 3 = .bool equal := rfl
  have i4 : initA [v, w, fv, .bool equal, tv] 4 = tv := rfl
  generalize initA [v, w, fv, .bool equal, tv] = r at i0 i1 i2 i3 i4
  have hvl : ∀ B, sLens B false v = some (ii a.length, B) := fun B => by have := Sl.lenB hv B; rwa [List.length_map] at this
  simp (maxSteps := 1000000) (disch := omega) only [stepS, reduceIte, Nat.reduceBEq, Nat.reduceEqDiff, tupleOf, stepT, i0, hvl]
  refine W_loop (fun r' B => ∃ k : Nat, k ≤ a.length ∧ Le A B ∧ r' 1 = w ∧ r' 2 = fv ∧ r' 3 = .bool equal ∧ r' 4 = tv ∧ r' 16 = v ∧ r' 17 = ii a.length ∧ r' 18 = ii k ∧ OwnD A.length B (r' 11) (((a.take k).filter keep).map d)) (fun r' _ => a.length - (iv (r' 18)).toNat) ?_ ?_
  · refine ⟨0, by omega, .refl _, ?_⟩
    simp (maxSteps := 1000000) (disch := omega) only [stepS, reduceIte, Nat.reduceBEq, Nat.reduceEqDiff, tupleOf, stepT, i0, i1, i2, i3, i4]
    exact ⟨rfl, OwnE.nil _ _ _⟩
  · clear i0 i1 i2 i3 i4
    rintro r B ⟨k, hkl, hle, g1, g2, g3, g4, g16, g17, g18, g11⟩
    obtain ⟨z, g11e⟩ : ∃ z, r 11 = z := ⟨_, rfl⟩
    rw [g11e] at g11
    rcases Nat.lt_or_ge k a.length with hlt | hge
    · obtain ⟨x, hx⟩ := get_some (l := a) hlt
      obtain ⟨p, p1, p2⟩ := enc_at he hv hx
      have p2 := p2 B hle
      have hxa : x ∈ a := List.mem_of_getElem? hx
      have hsu : (a.take (k + 1)).filter keep = (a.take k).filter keep ++ [x].filter keep := by rw [List.take_add_one, hx]; simp [List.filter_append]
      obtain ⟨c0, c1, hxe⟩ : ∃ c0 c1, enc x = [c0, c1] := by
        have := (he x).1
        match h : enc x, this with
        | [c0, c1], _ => exact ⟨c0, c1, rfl⟩
      have ho := (he x).2
      rw [hxe] at ho
      have o0 : c0.oneCell' = true := by unfold ones at ho; simp at ho; exact ho.1
      have o1 : c1.oneCell' = true := by unfold ones at ho; simp at ho; exact ho.2
      rw [hxe] at p2
      obtain ⟨B1, hB1⟩ : ∃ B1, B1 = B ++ [.row [c0, c1] .own 0 true] := ⟨_, rfl⟩
      have k1 : Le B B1 := by rw [hB1]; exact .push _ _
      have r1 : rowAt B1 B.length = some ([c0, c1], .own, 0, true) := by rw [hB1]; exact rowAt_own (get_last _ _)
      simp (maxSteps := 1000000) (disch := omega) only [stepS, reduceIte, Nat.reduceBEq, Nat.reduceEqDiff, tupleOf, stepT, stepX, heapR, lensR, Nat.reduceAdd, Nat.reduceLeDiff, g1, g2, g3, g4, g16, g17, g18, g11e, p1, p2, o0, o1]
      have hset : (B ++ [Blk.row [.string ⟨#[]⟩, .int .i64 0] .own 0 true]).set B.length (.row [c0, c1] .own 0 true) = B1 := by rw [hB1]; simp
      rw [hset]
      clear hset hB1
      refine bsB_spec fits_api_Count_42 he hi hc o hxe (Sl.le hw (hle.trans k1)) hlb hb fun A' q h k2 q1 q2 q3 q4 q5 => ?_
      have r2 := k2.row r1
      have k3 : Le A A' := (hle.trans k1).trans k2
      have g11' := g11.le (k1.trans k2)
      cases h with
      | false =>
        have hkp : (¬ ∃ y ∈ b, eq y x) ∨ (equal = true ∧ ¬ x ∈ b) := .inl (fun e => by have := q4.2 e; cases this)
        have hf : True := trivial
        have hkt : keep x = true := (hk x hxa).2 hkp
        have hst : ((a.take (k + 1)).filter keep).map d = ((a.take k).filter keep).map d ++ [d x] := by rw [hsu, List.filter_cons_of_pos hkt, List.map_append]; rfl
        simp (maxSteps := 1000000) (disch := omega) only [stepS, reduceIte, Nat.reduceBEq, Nat.reduceEqDiff, tupleOf, stepT, stepX, heapR, lensR, Nat.reduceAdd, Nat.reduceLeDiff, g1, g2, g3, g4, g16, g17, g18, g11e, r2, o0, o1, hf]
        refine callD_cs hxe (ht A' x _ k3 fun A2 k4 => ?_)
        obtain ⟨v', A3, u1, u2, u3, _⟩ := OwnE.app (bytes := 48) ((k3.trans k4).trans (.push A2 (.row (deltaE (d x)) .own 4 true))) (g11'.le (k4.trans (.push _ _))) (x := .slice (some ⟨A2.length, 0, none⟩) 1 1) (fs := [deltaE (d x)]) (sl_one A2 (deltaE_enc (d x)).1 (by omega)) (by intro e hm; rw [List.mem_singleton] at hm; rw [hm]; exact deltaE_enc _) (by decide) (by rw [List.length_map, List.length_map]; have := List.length_filter_le keep (a.take k); rw [List.length_take] at this; simp only [List.length_cons, List.length_nil]; omega) (by decide)
        have hlit := litE (sz := 4) A2 (z := [.int .i64 0, .string ⟨#[]⟩, .string ⟨#[]⟩, .int .i64 0]) (e := deltaE (d x)) rfl (deltaE_enc _).1 (deltaE_enc _).2
        simp (maxSteps := 1000000) (disch := omega) only [stepS, reduceIte, Nat.reduceBEq, Nat.reduceEqDiff, tupleOf, stepT, stepX, heapR, lensR, Nat.reduceAdd, Nat.reduceLeDiff, g1, g2, g3, g4, g16, g17, g18, g11e, hlit, u1]
        refine ⟨⟨k + 1, by omega, u2, rfl, ?_⟩, by omega⟩
        rw [hst]
        show OwnE _ _ 4 _ ((((a.take k).filter keep).map d ++ [d x]).map deltaE)
        rw [List.map_append]
        exact u3
      | true =>
        have hex := q4.1 rfl
        cases equal with
        | false =>
          have hkn : ¬ ((¬ ∃ y ∈ b, eq y x) ∨ (false = true ∧ ¬ x ∈ b)) := by
            rintro (e | ⟨e, _⟩)
            · exact e hex
            · cases e
          have hf : True := trivial
          have hkt : ¬ keep x = true := fun e => hkn ((hk x hxa).1 e)
          have hst : ((a.take (k + 1)).filter keep).map d = ((a.take k).filter keep).map d := by rw [hsu, List.filter_cons_of_neg hkt]; simp
          simp (maxSteps := 1000000) (disch := omega) only [stepS, reduceIte, Nat.reduceBEq, Nat.reduceEqDiff, tupleOf, stepT, stepX, heapR, lensR, Nat.reduceAdd, Nat.reduceLeDiff, g1, g2, g3, g4, g16, g17, g18, g11e, r2, o0, o1, hf]
          refine ⟨⟨k + 1, by omega, k3, rfl, ?_⟩, by omega⟩
          rw [hst]
          exact g11'
        | true =>
          obtain ⟨e, he1, he2⟩ := q5.1 rfl
          have hmem := pos_mem hb o q2 q3 he1
          obtain ⟨bp, b1, b2⟩ := enc_at he hw he1
          have b2 := b2 A' k3
          have hag' := hag A' e x (List.mem_of_getElem? he1) hxa
          rw [hxe] at hag'
          by_cases hxy : e = x
          · have hf := hag'.1 hxy
            have hkn : ¬ ((¬ ∃ y ∈ b, eq y x) ∨ (true = true ∧ ¬ x ∈ b)) := by
              rintro (e | ⟨_, e⟩)
              · exact e hex
              · exact e (hmem.2 hxy)
            have hf := And.intro hf (And.intro b1 b2)
            have hkt : ¬ keep x = true := fun e => hkn ((hk x hxa).1 e)
            have hst : ((a.take (k + 1)).filter keep).map d = ((a.take k).filter keep).map d := by rw [hsu, List.filter_cons_of_neg hkt]; simp
            simp (maxSteps := 1000000) (disch := omega) only [stepS, reduceIte, Nat.reduceBEq, Nat.reduceEqDiff, tupleOf, stepT, stepX, heapR, lensR, Nat.reduceAdd, Nat.reduceLeDiff, g1, g2, g3, g4, g16, g17, g18, g11e, r2, o0, o1, hf]
            refine ⟨⟨k + 1, by omega, k3, rfl, ?_⟩, by omega⟩
            rw [hst]
            exact g11'
          · have hf := hag'.2 hxy
            have hkp : (¬ ∃ y ∈ b, eq y x) ∨ (true = true ∧ ¬ x ∈ b) := .inr ⟨rfl, fun e => hxy (hmem.1 e)⟩
            have hf := And.intro hf (And.intro b1 b2)
            have hkt : keep x = true := (hk x hxa).2 hkp
            have hst : ((a.take (k + 1)).filter keep).map d = ((a.take k).filter keep).map d ++ [d x] := by rw [hsu, List.filter_cons_of_pos hkt, List.map_append]; rfl
            simp (maxSteps := 1000000) (disch := omega) only [stepS, reduceIte, Nat.reduceBEq, Nat.reduceEqDiff, tupleOf, stepT, stepX, heapR, lensR, Nat.reduceAdd, Nat.reduceLeDiff, g1, g2, g3, g4, g16, g17, g18, g11e, r2, o0, o1, hf]
            refine callD_cs hxe (ht A' x _ k3 fun A2 k4 => ?_)
            obtain ⟨v', A3, u1, u2, u3, _⟩ := OwnE.app (bytes := 48) ((k3.trans k4).trans (.push A2 (.row (deltaE (d x)) .own 4 true))) (g11'.le (k4.trans (.push _ _))) (x := .slice (some ⟨A2.length, 0, none⟩) 1 1) (fs := [deltaE (d x)]) (sl_one A2 (deltaE_enc (d x)).1 (by omega)) (by intro e hm; rw [List.mem_singleton] at hm; rw [hm]; exact deltaE_enc _) (by decide) (by rw [List.length_map, List.length_map]; have := List.length_filter_le keep (a.take k); rw [List.length_take] at this; simp only [List.length_cons, List.length_nil]; omega) (by decide)
            have hlit := litE (sz := 4) A2 (z := [.int .i64 0, .string ⟨#[]⟩, .string ⟨#[]⟩, .int .i64 0]) (e := deltaE (d x)) rfl (deltaE_enc _).1 (deltaE_enc _).2
            simp (maxSteps := 1000000) (disch := omega) only [stepS, reduceIte, Nat.reduceBEq, Nat.reduceEqDiff, tupleOf, stepT, stepX, heapR, lensR, Nat.reduceAdd, Nat.reduceLeDiff, g1, g2, g3, g4, g16, g17, g18, g11e, hlit, u1]
            refine ⟨⟨k + 1, by omega, u2, rfl, ?_⟩, by omega⟩
            rw [hst]
            show OwnE _ _ 4 _ ((((a.take k).filter keep).map d ++ [d x]).map deltaE)
            rw [List.map_append]
            exact u3
    · have hk : k = a.length := by omega
      subst hk
      rw [List.take_length] at g11
      simp (maxSteps := 1000000) (disch := omega) only [stepS, reduceIte, Nat.reduceBEq, Nat.reduceEqDiff, tupleOf, stepT, g1, g2, g3, g4, g16, g17, g18, g11e]
      exact hq _ _ hle g11
end Go.AS.C


namespace Go.AS.C
open Go Go.Proofs
set_option linter.unusedVariables false
set_option linter.unusedSimpArgs false
set_option maxRecDepth 10000

set_option maxHeartbeats 2000000 in
theorem lessW_spec {α : Type} {fv tv v w : Value} {enc : α → List Value} {lt eq : α → α → Prop} {equal : Bool} {d : α → DeltaV} {keep : α → Bool} {A : AH} {a b : List α} {Q : Value → AH → Prop}
    (he : ∀ x, (enc x).length = 2 ∧ ones (enc x) = true) (hi : ∀ x y, enc x = enc y → x = y) (hc : CmpA fv enc lt eq) (o : Ord3 lt eq) (ht : TellC A tv enc d)
    (hv : Sl A 2 v (a.map enc).length (a.map enc).flatten) (hw : Sl A 2 w (b.map enc).length (b.map enc).flatten) (hla : a.length ≤ 2 ^ 30) (hlb : b.length < 2 ^ 50) (hb : Adj lt b)
    (hag : ∀ (B : AH) x y, x ∈ b → y ∈ a → (x = y → sEqagg B true (Try.prog.keyLits 8 42) (.agg (enc x).toArray) (.agg (enc y).toArray) = some (.bool false, B)) ∧ (x ≠ y → sEqagg B true (Try.prog.keyLits 8 42) (.agg (enc x).toArray) (.agg (enc y).toArray) = some (.bool true, B)))
    (hk : ∀ x ∈ a, keep x = true ↔ (¬ ∃ y ∈ b, eq y x) ∨ (equal = true ∧ ¬ x ∈ b))
    (hq : ∀ u A', Le A A' → OwnD A.length A' u ((a.filter keep).map d) → Q u A') : ACalls 0 Try.prog api_Word [v, w, fv, .bool equal, tv] Q A := by
  refine ACalls.of_fits mixed fits_api_Word rfl ?_
  unfold ic_api_Word
  have i0 : initA [v, w, fv, .bool equal, tv] 0 = v := rfl
  have i1 : initA [v, w, fv, .bool equal, tv] 1 = w := rfl
  have i2 : initA [v, w, fv, .bool equal, tv] 2 = fv := rfl
  have i3 : initA [v, w, fv, .bool equal, tv] 3 = .bool equal := rfl
  have i4 : initA [v, w, fv, .bool equal, tv] 4 = tv := rfl
  generalize initA [v, w, fv, .bool equal, tv] = r at i0 i1 i2 i3 i4
  have hvl : ∀ B, sLens B false v = some (ii a.length, B) := fun B => by have := Sl.lenB hv B; rwa [List.length_map] at this
  simp (maxSteps := 1000000) (disch := omega) only [stepS, reduceIte, Nat.reduceBEq, Nat.reduceEqDiff, tupleOf, stepT, i0, hvl]
  refine W_loop (fun r' B => ∃ k : Nat, k ≤ a.length ∧ Le A B ∧ r' 1 = w ∧ r' 2 = fv ∧ r' 3 = .bool equal ∧ r' 4 = tv ∧ r' 16 = v ∧ r' 17 = ii a.length ∧ r' 18 = ii k ∧ OwnD A.length B (r' 11) (((a.take k).filter keep).map d)) (fun r' _ => a.length - (iv (r' 18)).toNat) ?_ ?_
  · refine ⟨0, by omega, .refl _, ?_⟩
    simp (maxSteps := 1000000) (disch := omega) only [stepS, reduceIte, Nat.reduceBEq, Nat.reduceEqDiff, tupleOf, stepT, i0, i1, i2, i3, i4]
    exact ⟨rfl, OwnE.nil _ _ _⟩
  · clear i0 i1 i2 i3 i4
    rintro r B ⟨k, hkl, hle, g1, g2, g3, g4, g16, g17, g18, g11⟩
    obtain ⟨z, g11e⟩ : ∃ z, r 11 = z := ⟨_, rfl⟩
    rw [g11e] at g11
    rcases Nat.lt_or_ge k a.length with hlt | hge
    · obtain ⟨x, hx⟩ := get_some (l := a) hlt
      obtain ⟨p, p1, p2⟩ := enc_at he hv hx
      have p2 := p2 B hle
      have hxa : x ∈ a := List.mem_of_getElem? hx
      have hsu : (a.take (k + 1)).filter keep = (a.take k).filter keep ++ [x].filter keep := by rw [List.take_add_one, hx]; simp [List.filter_append]
      obtain ⟨c0, c1, hxe⟩ : ∃ c0 c1, enc x = [c0, c1] := by
        have := (he x).1
        match h : enc x, this with
        | [c0, c1], _ => exact ⟨c0, c1, rfl⟩
      have ho := (he x).2
      rw [hxe] at ho
      have o0 : c0.oneCell' = true := by unfold ones at ho; simp at ho; exact ho.1
      have o1 : c1.oneCell' = true := by unfold ones at ho; simp at ho; exact ho.2
      rw [hxe] at p2
      obtain ⟨B1, hB1⟩ : ∃ B1, B1 = B ++ [.row [c0, c1] .own 0 true] := ⟨_, rfl⟩
      have k1 : Le B B1 := by rw [hB1]; exact .push _ _
      have r1 : rowAt B1 B.length = some ([c0, c1], .own, 0, true) := by rw [hB1]; exact rowAt_own (get_last _ _)
      simp (maxSteps := 1000000) (disch := omega) only [stepS, reduceIte, Nat.reduceBEq, Nat.reduceEqDiff, tupleOf, stepT, stepX, heapR, lensR, Nat.reduceAdd, Nat.reduceLeDiff, g1, g2, g3, g4, g16, g17, g18, g11e, p1, p2, o0, o1]
      have hset : (B ++ [Blk.row [.string ⟨#[]⟩, .string ⟨#[]⟩] .own 0 true]).set B.length (.row [c0, c1] .own 0 true) = B1 := by rw [hB1]; simp
      rw [hset]
      clear hset hB1
      refine bsB_spec fits_api_Word_46 he hi hc o hxe (Sl.le hw (hle.trans k1)) hlb hb fun A' q h k2 q1 q2 q3 q4 q5 => ?_
      have r2 := k2.row r1
      have k3 : Le A A' := (hle.trans k1).trans k2
      have g11' := g11.le (k1.trans k2)
      cases h with
      | false =>
        have hkp : (¬ ∃ y ∈ b, eq y x) ∨ (equal = true ∧ ¬ x ∈ b) := .inl (fun e => by have := q4.2 e; cases this)
        have hf : True := trivial
        have hkt : keep x = true := (hk x hxa).2 hkp
        have hst : ((a.take (k + 1)).filter keep).map d = ((a.take k).filter keep).map d ++ [d x] := by rw [hsu, List.filter_cons_of_pos hkt, List.map_append]; rfl
        simp (maxSteps := 1000000) (disch := omega) only [stepS, reduceIte, Nat.reduceBEq, Nat.reduceEqDiff, tupleOf, stepT, stepX, heapR, lensR, Nat.reduceAdd, Nat.reduceLeDiff, g1, g2, g3, g4, g16, g17, g18, g11e, r2, o0, o1, hf]
        refine callD_cs hxe (ht A' x _ k3 fun A2 k4 => ?_)
        obtain ⟨v', A3, u1, u2, u3, _⟩ := OwnE.app (bytes := 48) ((k3.trans k4).trans (.push A2 (.row (deltaE (d x)) .own 4 true))) (g11'.le (k4.trans (.push _ _))) (x := .slice (some ⟨A2.length, 0, none⟩) 1 1) (fs := [deltaE (d x)]) (sl_one A2 (deltaE_enc (d x)).1 (by omega)) (by intro e hm; rw [List.mem_singleton] at hm; rw [hm]; exact deltaE_enc _) (by decide) (by rw [List.length_map, List.length_map]; have := List.length_filter_le keep (a.take k); rw [List.length_take] at this; simp only [List.length_cons, List.length_nil]; omega) (by decide)
        have hlit := litE (sz := 4) A2 (z := [.int .i64 0, .string ⟨#[]⟩, .string ⟨#[]⟩, .int .i64 0]) (e := deltaE (d x)) rfl (deltaE_enc _).1 (deltaE_enc _).2
        simp (maxSteps := 1000000) (disch := omega) only [stepS, reduceIte, Nat.reduceBEq, Nat.reduceEqDiff, tupleOf, stepT, stepX, heapR, lensR, Nat.reduceAdd, Nat.reduceLeDiff, g1, g2, g3, g4, g16, g17, g18, g11e, hlit, u1]
        refine ⟨⟨k + 1, by omega, u2, rfl, ?_⟩, by omega⟩
        rw [hst]
        show OwnE _ _ 4 _ ((((a.take k).filter keep).map d ++ [d x]).map deltaE)
        rw [List.map_append]
        exact u3
      | true =>
        have hex := q4.1 rfl
        cases equal with
        | false =>
          have hkn : ¬ ((¬ ∃ y ∈ b, eq y x) ∨ (false = true ∧ ¬ x ∈ b)) := by
            rintro (e | ⟨e, _⟩)
            · exact e hex
            · cases e
          have hf : True := trivial
          have hkt : ¬ keep x = true := fun e => hkn ((hk x hxa).1 e)
          have hst : ((a.take (k + 1)).filter keep).map d = ((a.take k).filter keep).map d := by rw [hsu, List.filter_cons_of_neg hkt]; simp
          simp (maxSteps := 1000000) (disch := omega) only [stepS, reduceIte, Nat.reduceBEq, Nat.reduceEqDiff, tupleOf, stepT, stepX, heapR, lensR, Nat.reduceAdd, Nat.reduceLeDiff, g1, g2, g3, g4, g16, g17, g18, g11e, r2, o0, o1, hf]
          refine ⟨⟨k + 1, by omega, k3, rfl, ?_⟩, by omega⟩
          rw [hst]
          exact g11'
        | true =>
          obtain ⟨e, he1, he2⟩ := q5.1 rfl
          have hmem := pos_mem hb o q2 q3 he1
          obtain ⟨bp, b1, b2⟩ := enc_at he hw he1
          have b2 := b2 A' k3
          have hag' := hag A' e x (List.mem_of_getElem? he1) hxa
          rw [hxe] at hag'
          by_cases hxy : e = x
          · have hf := hag'.1 hxy
            have hkn : ¬ ((¬ ∃ y ∈ b, eq y x) ∨ (true = true ∧ ¬ x ∈ b)) := by
              rintro (e | ⟨_, e⟩)
              · exact e hex
              · exact e (hmem.2 hxy)
            have hf := And.intro hf (And.intro b1 b2)
            have hkt : ¬ keep x = true := fun e => hkn ((hk x hxa).1 e)
            have hst : ((a.take (k + 1)).filter keep).map d = ((a.take k).filter keep).map d := by rw [hsu, List.filter_cons_of_neg hkt]; simp
            simp (maxSteps := 1000000) (disch := omega) only [stepS, reduceIte, Nat.reduceBEq, Nat.reduceEqDiff, tupleOf, stepT, stepX, heapR, lensR, Nat.reduceAdd, Nat.reduceLeDiff, g1, g2, g3, g4, g16, g17, g18, g11e, r2, o0, o1, hf]
            refine ⟨⟨k + 1, by omega, k3, rfl, ?_⟩, by omega⟩
            rw [hst]
            exact g11'
          · have hf := hag'.2 hxy
            have hkp : (¬ ∃ y ∈ b, eq y x) ∨ (true = true ∧ ¬ x ∈ b) := .inr ⟨rfl, fun e => hxy (hmem.1 e)⟩
            have hf := And.intro hf (And.intro b1 b2)
            have hkt : keep x = true := (hk x hxa).2 hkp
            have hst : ((a.take (k + 1)).filter keep).map d = ((a.take k).filter keep).map d ++ [d x] := by rw [hsu, List.filter_cons_of_pos hkt, List.map_append]; rfl
            simp (maxSteps := 1000000) (disch := omega) only [stepS, reduceIte, Nat.reduceBEq, Nat.reduceEqDiff, tupleOf, stepT, stepX, heapR, lensR, Nat.reduceAdd, Nat.reduceLeDiff, g1, g2, g3, g4, g16, g17, g18, g11e, r2, o0, o1, hf]
            refine callD_cs hxe (ht A' x _ k3 fun A2 k4 => ?_)
            obtain ⟨v', A3, u1, u2, u3, _⟩ := OwnE.app (bytes := 48) ((k3.trans k4).trans (.push A2 (.row (deltaE (d x)) .own 4 true))) (g11'.le (k4.trans (.push _ _))) (x := .slice (some ⟨A2.length, 0, none⟩) 1 1) (fs := [deltaE (d x)]) (sl_one A2 (deltaE_enc (d x)).1 (by omega)) (by intro e hm; rw [List.mem_singleton] at hm; rw [hm]; exact deltaE_enc _) (by decide) (by rw [List.length_map, List.length_map]; have := List.length_filter_le keep (a.take k); rw [List.length_take] at this; simp only [List.length_cons, List.length_nil]; omega) (by decide)
            have hlit := litE (sz := 4) A2 (z := [.int .i64 0, .string ⟨#[]⟩, .string ⟨#[]⟩, .int .i64 0]) (e := deltaE (d x)) rfl (deltaE_enc _).1 (deltaE_enc _).2
            simp (maxSteps := 1000000) (disch := omega) only [stepS, reduceIte, Nat.reduceBEq, Nat.reduceEqDiff, tupleOf, stepT, stepX, heapR, lensR, Nat.reduceAdd, Nat.reduceLeDiff, g1, g2, g3, g4, g16, g17, g18, g11e, hlit, u1]
            refine ⟨⟨k + 1, by omega, u2, rfl, ?_⟩, by omega⟩
            rw [hst]
            show OwnE _ _ 4 _ ((((a.take k).filter keep).map d ++ [d x]).map deltaE)
            rw [List.map_append]
            exact u3
    · have hk : k = a.length := by omega
      subst hk
      rw [List.take_length] at g11
      simp (maxSteps := 1000000) (disch := omega) only [stepS, reduceIte, Nat.reduceBEq, Nat.reduceEqDiff, tupleOf, stepT, g1, g2, g3, g4, g16, g17, g18, g11e]
      exact hq _ _ hle g11
end Go.AS.C


namespace Go.AS.C
open Go Go.Proofs
set_option linter.unusedVariables false
set_option linter.unusedSimpArgs false
set_option maxRecDepth 10000

/-! What changes are between two states. -/
open Classical in
noncomputable def lackN (b : List WordV) (x : WordV) : Bool := decide (¬ ∃ y ∈ b, eqN y x)
open Classical in
noncomputable def lackC (b : List CountV) (x : CountV) : Bool := decide (¬ ∃ y ∈ b, eqCn y x)
open Classical in
noncomputable def notIn {α : Type} (b : List α) (x : α) : Bool := decide (¬ x ∈ b)
def wordD (k : Int) (w : WordV) : DeltaV := ⟨k, w.name, w.text, 0⟩
def nameD (w : WordV) : DeltaV := ⟨7, w.name, ⟨#[]⟩, 0⟩
def cOutD (c : CountV) : DeltaV := ⟨1, c.name, ⟨#[]⟩, 0⟩
def cInD (c : CountV) : DeltaV := ⟨2, c.name, ⟨#[]⟩, c.n⟩
noncomputable def wordsD (k : Int) (a b : List WordV) : List DeltaV := (a.filter (notIn b)).map (wordD k)
noncomputable def between (s t : StateV) : List DeltaV :=
  [(s.counts.filter (lackC t.counts)).map cOutD, (t.counts.filter (notIn s.counts)).map cInD, [wordsD 3 s.members t.members, wordsD 4 t.members s.members].flatten, [wordsD 5 s.values t.values, wordsD 6 t.values s.values].flatten, (s.lines.filter (lackN t.lines)).map nameD, wordsD 8 t.lines s.lines].flatten
theorem tell1 (A0 : AH) : TellC A0 (.func (.func diff_Between_1) #[] #[]) countE cOutD := by
  intro A x Q hle hq
  rw [callD_func]
  refine ⟨by decide +kernel, ?_⟩
  simp only [List.nil_append, List.append_nil]
  refine ACalls.of_fits mixed fits_diff_Between_1 rfl ?_
  unfold ic_diff_Between_1 countE
  have i0 : initA [.agg [.string x.name, ii x.n].toArray] 0 = .agg [.string x.name, ii x.n].toArray := rfl
  generalize initA [.agg [.string x.name, ii x.n].toArray] = r at i0
  simp (maxSteps := 1000000) (disch := omega) only [stepS, reduceIte, Nat.reduceBEq, Nat.reduceEqDiff, tupleOf, stepT, stepX, heapR, lensR, Nat.reduceAdd, Nat.reduceLeDiff, i0]
  refine hq _ ?_
  (repeat first | exact Le.refl _ | assumption | refine Le.app ?_ _ | refine Le.set ?_ ?_ | omega | (simp only [List.length_append, List.length_singleton, List.length_set]; omega))
theorem tell2 (A0 : AH) : TellC A0 (.func (.func diff_Between_2) #[] #[]) countE cInD := by
  intro A x Q hle hq
  rw [callD_func]
  refine ⟨by decide +kernel, ?_⟩
  simp only [List.nil_append, List.append_nil]
  refine ACalls.of_fits mixed fits_diff_Between_2 rfl ?_
  unfold ic_diff_Between_2 countE
  have i0 : initA [.agg [.string x.name, ii x.n].toArray] 0 = .agg [.string x.name, ii x.n].toArray := rfl
  generalize initA [.agg [.string x.name, ii x.n].toArray] = r at i0
  simp (maxSteps := 1000000) (disch := omega) only [stepS, reduceIte, Nat.reduceBEq, Nat.reduceEqDiff, tupleOf, stepT, stepX, heapR, lensR, Nat.reduceAdd, Nat.reduceLeDiff, i0]
  refine hq _ ?_
  (repeat first | exact Le.refl _ | assumption | refine Le.app ?_ _ | refine Le.set ?_ ?_ | omega | (simp only [List.length_append, List.length_singleton, List.length_set]; omega))
theorem tell3 (A0 : AH) : TellC A0 (.func (.func diff_Between_3) #[] #[]) wordE nameD := by
  intro A x Q hle hq
  rw [callD_func]
  refine ⟨by decide +kernel, ?_⟩
  simp only [List.nil_append, List.append_nil]
  refine ACalls.of_fits mixed fits_diff_Between_3 rfl ?_
  unfold ic_diff_Between_3 wordE
  have i0 : initA [.agg [.string x.name, .string x.text].toArray] 0 = .agg [.string x.name, .string x.text].toArray := rfl
  generalize initA [.agg [.string x.name, .string x.text].toArray] = r at i0
  simp (maxSteps := 1000000) (disch := omega) only [stepS, reduceIte, Nat.reduceBEq, Nat.reduceEqDiff, tupleOf, stepT, stepX, heapR, lensR, Nat.reduceAdd, Nat.reduceLeDiff, i0]
  refine hq _ ?_
  (repeat first | exact Le.refl _ | assumption | refine Le.app ?_ _ | refine Le.set ?_ ?_ | omega | (simp only [List.length_append, List.length_singleton, List.length_set]; omega))
theorem tell4 (A0 : AH) : TellC A0 (.func (.func diff_Between_4) #[] #[]) wordE (wordD 8) := by
  intro A x Q hle hq
  rw [callD_func]
  refine ⟨by decide +kernel, ?_⟩
  simp only [List.nil_append, List.append_nil]
  refine ACalls.of_fits mixed fits_diff_Between_4 rfl ?_
  unfold ic_diff_Between_4 wordE
  have i0 : initA [.agg [.string x.name, .string x.text].toArray] 0 = .agg [.string x.name, .string x.text].toArray := rfl
  generalize initA [.agg [.string x.name, .string x.text].toArray] = r at i0
  simp (maxSteps := 1000000) (disch := omega) only [stepS, reduceIte, Nat.reduceBEq, Nat.reduceEqDiff, tupleOf, stepT, stepX, heapR, lensR, Nat.reduceAdd, Nat.reduceLeDiff, i0]
  refine hq _ ?_
  (repeat first | exact Le.refl _ | assumption | refine Le.app ?_ _ | refine Le.set ?_ ?_ | omega | (simp only [List.length_append, List.length_singleton, List.length_set]; omega))
theorem tellK {A0 : AH} {i : Nat} {k : Int} (hr : rowAt A0 i = some ([ii k], .own, 0, true)) : TellC A0 (.func (.func diff_words_1_1) #[] #[ptr i]) wordE (wordD k) := by
  intro A x Q hle hq
  rw [callD_func]
  refine ⟨by decide +kernel, ?_⟩
  have r1 := hle.row hr
  have hi := lt_of_get (rowAt_get r1)
  show ACalls 0 Try.prog diff_words_1_1 [.agg (wordE x).toArray, ptr i] Q A
  refine ACalls.of_fits mixed (fits_diff_words_1_1.more 2 (by kernel_rfl)) rfl ?_
  unfold ic_diff_words_1_1 wordE
  have i0 : initA [.agg [.string x.name, .string x.text].toArray, ptr i] 0 = .agg [.string x.name, .string x.text].toArray := rfl
  have i1 : initA [.agg [.string x.name, .string x.text].toArray, ptr i] 1 = ptr i := rfl
  generalize initA [.agg [.string x.name, .string x.text].toArray, ptr i] = r at i0 i1
  simp (maxSteps := 1000000) (disch := omega) only [stepS, reduceIte, Nat.reduceBEq, Nat.reduceEqDiff, tupleOf, stepT, stepX, heapR, lensR, Nat.reduceAdd, Nat.reduceLeDiff, i0, i1, r1]
  refine hq _ ?_
  (repeat first | exact Le.refl _ | assumption | refine Le.app ?_ _ | refine Le.set ?_ ?_ | omega | (simp only [List.length_append, List.length_singleton, List.length_set]; omega))
theorem words_1_spec {A : AH} {k : Int} {Q : Value → AH → Prop} (hq : ∀ A', Le A A' → rowAt A' A.length = some ([ii k], .own, 0, true) → Q (.func (.func diff_words_1_1) #[] #[ptr A.length]) A') : ACalls 0 Try.prog diff_words_1 [ii k] Q A := by
  refine ACalls.of_fits mixed fits_diff_words_1 rfl ?_
  unfold ic_diff_words_1
  have i0 : initA [ii k] 0 = ii k := rfl
  generalize initA [ii k] = r at i0
  have k0 : Le A (A ++ [.row [ii k] .own 0 true]) := .push _ _
  have hb : sBox A (ii k) = some (ptr A.length, A ++ [.row [ii k] .own 0 true]) := rfl
  simp (maxSteps := 1000000) (disch := omega) only [stepS, reduceIte, Nat.reduceBEq, Nat.reduceEqDiff, tupleOf, stepT, stepX, heapR, lensR, Nat.reduceAdd, Nat.reduceLeDiff, i0, hb]
  exact hq _ k0 (rowAt_own (get_last _ _))
theorem sl_lit {A : AH} {n : Nat} {vs : List Value} (h : vs.length = n) : Sl (A ++ [.row vs .own 1 true]) 1 (.slice (some ⟨A.length, 0, none⟩) n n) vs.length vs := by
  subst h
  exact sl_last A St.noConfusion (Nat.le_refl _)
theorem wordE_inj (x y : WordV) (h : wordE x = wordE y) : x = y := by cases x; cases y; simpa [wordE] using h
theorem countE_inj (x y : CountV) (h : countE x = countE y) : x = y := by cases x; cases y; simpa [countE] using h
theorem le_max {n : Nat} (h : n ≤ 200) : n ≤ maxLen := Nat.le_trans h (by decide)
theorem eqC {A : AH} {a b : CountV} (ha : FinC a) (hb : FinC b) : (a = b → sEqagg A true (Try.prog.keyLits 8 40) (.agg (countE a).toArray) (.agg (countE b).toArray) = some (.bool false, A)) ∧ (a ≠ b → sEqagg A true (Try.prog.keyLits 8 40) (.agg (countE a).toArray) (.agg (countE b).toArray) = some (.bool true, A)) :=
  ⟨fun h => eqagg_flat (b := true) (ks := [.str, .int .i64]) (xs := countE a) (ys := countE b) (by kernel_rfl) ⟨le_max ha.1, FK.hasI ha.2, trivial⟩ ⟨le_max hb.1, FK.hasI hb.2, trivial⟩ ⟨fun _ => by rw [h], fun _ => rfl⟩,
   fun h => eqagg_flat (b := false) (ks := [.str, .int .i64]) (xs := countE a) (ys := countE b) (by kernel_rfl) ⟨le_max ha.1, FK.hasI ha.2, trivial⟩ ⟨le_max hb.1, FK.hasI hb.2, trivial⟩ ⟨(fun h => by cases h), fun e => absurd (countE_inj _ _ e) h⟩⟩
theorem eqW {A : AH} {a b : WordV} {n : Bool} (ha : FinW a) (hb : FinW b) : (a = b → sEqagg A n (Try.prog.keyLits 8 42) (.agg (wordE a).toArray) (.agg (wordE b).toArray) = some (.bool (true != n), A)) ∧ (a ≠ b → sEqagg A n (Try.prog.keyLits 8 42) (.agg (wordE a).toArray) (.agg (wordE b).toArray) = some (.bool (false != n), A)) :=
  ⟨fun h => eqagg_flat (b := true) (ks := [.str, .str]) (xs := wordE a) (ys := wordE b) (by kernel_rfl) ⟨le_max ha.1, le_max ha.2, trivial⟩ ⟨le_max hb.1, le_max hb.2, trivial⟩ ⟨fun _ => by rw [h], fun _ => rfl⟩,
   fun h => eqagg_flat (b := false) (ks := [.str, .str]) (xs := wordE a) (ys := wordE b) (by kernel_rfl) ⟨le_max ha.1, le_max ha.2, trivial⟩ ⟨le_max hb.1, le_max hb.2, trivial⟩ ⟨(fun h => by cases h), fun e => absurd (wordE_inj _ _ e) h⟩⟩
theorem filter_le {α : Type} (p : α → Bool) (l : List α) {n : Nat} (h : l.length ≤ n) : (l.filter p).length ≤ n := Nat.le_trans (List.length_filter_le p l) h
theorem wordsD_len {k : Int} {a b : List WordV} {n : Nat} (h : a.length ≤ n) : (wordsD k a b).length ≤ n := by unfold wordsD; rw [List.length_map]; exact filter_le _ _ h
open Classical in
theorem notIn_iff {α : Type} {b : List α} {x : α} : notIn b x = true ↔ (¬ ∃ y ∈ b, y = x) ∨ (false = true ∧ ¬ x ∈ b) := by
  unfold notIn
  rw [decide_eq_true_iff]
  constructor
  · exact fun h => .inl (fun ⟨y, hy, e⟩ => h (e ▸ hy))
  · rintro (h | ⟨h, _⟩)
    · exact fun hm => h ⟨x, hm, rfl⟩
    · cases h
theorem diff_words_spec {A : AH} {v w : Value} {a b : List WordV} {k1 k2 : Int} {Q : Value → AH → Prop} (hv : WordsA A v a) (hw : WordsA A w b) (ha : a.length ≤ 2 ^ 20) (hb : b.length ≤ 2 ^ 20) (fa : ∀ x ∈ a, FinW x) (fb : ∀ x ∈ b, FinW x) (sa : Adj ltWd a) (sb : Adj ltWd b)
    (hq : ∀ u A', Le A A' → DeltasA A' u [wordsD k1 a b, wordsD k2 b a].flatten → Q u A') : ACalls 0 Try.prog diff_words [v, w, ii k1, ii k2] Q A := by
  refine ACalls.of_fits mixed fits_diff_words rfl ?_
  unfold ic_diff_words
  have i0 : initA [v, w, ii k1, ii k2] 0 = v := rfl
  have i1 : initA [v, w, ii k1, ii k2] 1 = w := rfl
  have i2 : initA [v, w, ii k1, ii k2] 2 = ii k1 := rfl
  have i3 : initA [v, w, ii k1, ii k2] 3 = ii k2 := rfl
  generalize initA [v, w, ii k1, ii k2] = r at i0 i1 i2 i3
  have hok : calleeOk Try.prog 44 = true := by decide +kernel
  simp (maxSteps := 1000000) (disch := omega) only [stepS, reduceIte, Nat.reduceBEq, Nat.reduceEqDiff, tupleOf, stepT, i0, i1, i2, i3]
  refine ⟨hok, words_1_spec fun A1 e1 r1 => ?_⟩
  simp (maxSteps := 1000000) (disch := omega) only [stepS, reduceIte, Nat.reduceBEq, Nat.reduceEqDiff, tupleOf, stepT, i0, i1, i2, i3]
  refine lessW_spec wordE_enc wordE_inj cmpW ordW (tellK r1) (hv.le e1) (hw.le e1) (by omega) (by omega) sb (fun B x y hx hy => eqW (fb x hx) (fa y hy)) (fun x _ => notIn_iff) fun u1 A2 e2 q1 => ?_
  simp (maxSteps := 1000000) (disch := omega) only [stepS, reduceIte, Nat.reduceBEq, Nat.reduceEqDiff, tupleOf, stepT, i0, i1, i2, i3]
  refine ⟨hok, words_1_spec fun A3 e3 r3 => ?_⟩
  simp (maxSteps := 1000000) (disch := omega) only [stepS, reduceIte, Nat.reduceBEq, Nat.reduceEqDiff, tupleOf, stepT, i0, i1, i2, i3]
  have e13 := (e1.trans e2).trans e3
  refine lessW_spec wordE_enc wordE_inj cmpW ordW (tellK r3) (hw.le e13) (hv.le e13) (by omega) (by omega) sa (fun B x y hx hy => eqW (fa x hx) (fb y hy)) (fun x _ => notIn_iff) fun u2 A4 e4 q2 => ?_
  have d1 := q1.sl.le (e3.trans e4)
  have d2 := q2.sl
  have hl := lit1 (A := A4) (z := .slice none 0 0) (len := 2) (ps := [(0, 1, u1), (1, 1, u2)]) [u1, u2] rfl rfl (by
    intro z hz
    simp only [List.mem_cons, List.not_mem_nil, or_false] at hz
    rcases hz with rfl | rfl
    · exact Sl.one1 d1
    · exact Sl.one1 d2)
  simp (maxSteps := 1000000) (disch := omega) only [stepS, reduceIte, Nat.reduceBEq, Nat.reduceEqDiff, tupleOf, stepT, i0, i1, i2, i3, hl]
  have e5 : Le A4 (A4 ++ [.row [u1, u2] .own 1 true]) := .push _ _
  refine concat_spec (ls := [wordsD k1 a b, wordsD k2 b a]) (sl_lit rfl) rfl ?_ ?_ (by simp) fun u A' e6 q3 => ?_
  · intro j x l hx hl
    match j with
    | 0 => simp only [List.getElem?_cons_zero, Option.some.injEq] at hx hl; subst hx hl; exact d1.le e5
    | 1 => simp only [List.getElem?_cons_succ, List.getElem?_cons_zero, Option.some.injEq] at hx hl; subst hx hl; exact d2.le e5
    | _ + 2 => simp at hx
  · have h1 := wordsD_len (k := k1) (b := b) ha
    have h2 := wordsD_len (k := k2) (b := a) hb
    simp only [List.flatten_cons, List.flatten_nil, List.append_nil, List.length_append]
    omega
  simp (maxSteps := 1000000) (disch := omega) only [stepS, reduceIte, Nat.reduceBEq, Nat.reduceEqDiff, tupleOf, stepT]
  exact hq _ _ (((e13.trans e4).trans e5).trans e6) q3.sl
open Classical in
theorem lackC_iff {b : List CountV} {x : CountV} : lackC b x = true ↔ (¬ ∃ y ∈ b, eqCn y x) ∨ (false = true ∧ ¬ x ∈ b) := by
  unfold lackC
  rw [decide_eq_true_iff]
  simp
open Classical in
theorem lackN_iff {b : List WordV} {x : WordV} : lackN b x = true ↔ (¬ ∃ y ∈ b, eqN y x) ∨ (false = true ∧ ¬ x ∈ b) := by
  unfold lackN
  rw [decide_eq_true_iff]
  simp
open Classical in
theorem notInE_iff {α : Type} {eq : α → α → Prop} (hr : ∀ a, eq a a) {b : List α} {x : α} : notIn b x = true ↔ (¬ ∃ y ∈ b, eq y x) ∨ (true = true ∧ ¬ x ∈ b) := by
  unfold notIn
  rw [decide_eq_true_iff]
  constructor
  · exact fun h => .inr ⟨rfl, h⟩
  · rintro (h | ⟨_, h⟩)
    · exact fun hm => h ⟨x, hm, hr x⟩
    · exact h
end Go.AS.C


namespace Go.AS.C
open Go Go.Proofs
set_option linter.unusedVariables false
set_option linter.unusedSimpArgs false
set_option maxRecDepth 10000

def FewS (s : StateV) : Prop := s.counts.length ≤ 2 ^ 20 ∧ s.members.length ≤ 2 ^ 20 ∧ s.values.length ≤ 2 ^ 20 ∧ s.lines.length ≤ 2 ^ 20
theorem between_len {s t : StateV} (ws : FewS s) (wt : FewS t) : (between s t).length ≤ 2 ^ 24 := by
  obtain ⟨s1, s2, s3, s4⟩ := ws
  obtain ⟨t1, t2, t3, t4⟩ := wt
  have a1 := filter_le (lackC t.counts) _ s1
  have a2 := filter_le (notIn s.counts) _ t1
  have a3 := wordsD_len (k := 3) (b := t.members) s2
  have a4 := wordsD_len (k := 4) (b := s.members) t2
  have a5 := wordsD_len (k := 5) (b := t.values) s3
  have a6 := wordsD_len (k := 6) (b := s.values) t3
  have a7 := filter_le (lackN t.lines) _ s4
  have a8 := wordsD_len (k := 8) (b := s.lines) t4
  unfold between
  simp only [List.flatten_cons, List.flatten_nil, List.append_nil, List.length_append, List.length_map]
  omega
set_option maxHeartbeats 2000000 in
theorem diff_Between_spec {A : AH} {x y : Value} {s t : StateV} {Q : Value → AH → Prop} (hx : StateA A x s) (hy : StateA A y t) (hs : FinS s) (ht : FinS t) (ws : FewS s) (wt : FewS t)
    (hq1 : TidyS s → TidyS t → ∀ u A', Le A A' → DeltasA A' u (between s t) → Q (.tuple #[u, ii 0]) A') (hq2 : ¬ (TidyS s ∧ TidyS t) → ∀ A', Le A A' → Q (.tuple #[.slice none 0 0, ii 1]) A') : ACalls 0 Try.prog diff_Between [x, y] Q A := by
  have hx' := hx
  have hy' := hy
  obtain ⟨c, m, v, l, rfl, hc, hm, hv, hl⟩ := hx
  obtain ⟨c', m', v', l', rfl, hc', hm', hv', hl'⟩ := hy
  refine ACalls.of_fits mixed fits_diff_Between rfl ?_
  unfold ic_diff_Between
  have i0 : initA [.agg #[c, m, v, l], .agg #[c', m', v', l']] 0 = .agg #[c, m, v, l] := rfl
  have i1 : initA [.agg #[c, m, v, l], .agg #[c', m', v', l']] 1 = .agg #[c', m', v', l'] := rfl
  generalize initA [.agg #[c, m, v, l], .agg #[c', m', v', l']] = a at i0 i1
  have oc := (Sl.one1 hc).2
  have om := (Sl.one1 hm).2
  have ov := (Sl.one1 hv).2
  have ol := (Sl.one1 hl).2
  have oc' := (Sl.one1 hc').2
  have om' := (Sl.one1 hm').2
  have ov' := (Sl.one1 hv').2
  have ol' := (Sl.one1 hl').2
  refine W_mid (fun a B => B = A ++ [.row [c, m, v, l] .own 0 true] ++ [.row [c', m', v', l'] .own 0 true] ∧ a 2 = ptr A.length ∧ a 3 = ptr (A.length + 1)) ?_ ?_
  · simp (maxSteps := 1000000) (disch := omega) only [stepS, reduceIte, Nat.reduceBEq, Nat.reduceEqDiff, tupleOf, stepT, stepX, heapR, lensR, Nat.reduceAdd, Nat.reduceLeDiff, i0, i1, oc, om, ov, ol, oc', om', ov', ol']
  clear i0 i1
  rintro a B0 ⟨hB, g2, g3⟩
  have k0 : Le A B0 := by rw [hB]; exact (Le.push _ _).trans (.push _ _)
  have r1 : rowAt B0 A.length = some ([c, m, v, l], .own, 0, true) := by rw [hB]; exact (Le.push _ _).row (rowAt_own (get_last _ _))
  have r2 : rowAt B0 (A.length + 1) = some ([c', m', v', l'], .own, 0, true) := by
    have := rowAt_own (get_last (A ++ [Blk.row [c, m, v, l] .own 0 true]) (.row [c', m', v', l'] .own 0 true))
    rw [hB]; simpa using this
  have hbl : B0.length = A.length + 2 := by rw [hB]; simp
  clear hB
  simp (maxSteps := 1000000) (disch := omega) only [stepS, reduceIte, Nat.reduceBEq, Nat.reduceEqDiff, tupleOf, stepT, stepX, heapR, lensR, Nat.reduceAdd, Nat.reduceLeDiff, g2, g3, r1, r2]
  refine diff_Tidy_spec (hx'.le k0) hs fun b1 h1 => ?_
  cases b1 with
  | false =>
    simp (maxSteps := 1000000) (disch := omega) only [stepS, reduceIte, Nat.reduceBEq, Nat.reduceEqDiff, tupleOf, stepT, stepX, heapR, lensR, Nat.reduceAdd, Nat.reduceLeDiff, g2, g3, r1, r2]
    exact hq2 (fun h => by have := h1.2 h.1; cases this) _ k0
  | true =>
  simp (maxSteps := 1000000) (disch := omega) only [stepS, reduceIte, Nat.reduceBEq, Nat.reduceEqDiff, tupleOf, stepT, stepX, heapR, lensR, Nat.reduceAdd, Nat.reduceLeDiff, g2, g3, r1, r2]
  refine diff_Tidy_spec (hy'.le k0) ht fun b2 h2 => ?_
  cases b2 with
  | false =>
    simp (maxSteps := 1000000) (disch := omega) only [stepS, reduceIte, Nat.reduceBEq, Nat.reduceEqDiff, tupleOf, stepT, stepX, heapR, lensR, Nat.reduceAdd, Nat.reduceLeDiff, g2, g3, r1, r2]
    exact hq2 (fun h => by have := h2.2 h.2; cases this) _ k0
  | true =>
  have ts := h1.1 rfl
  have tt := h2.1 rfl
  simp (maxSteps := 1000000) (disch := omega) only [stepS, reduceIte, Nat.reduceBEq, Nat.reduceEqDiff, tupleOf, stepT, stepX, heapR, lensR, Nat.reduceAdd, Nat.reduceLeDiff, g2, g3, r1, r2]
  refine lessC_spec countE_enc countE_inj cmpC ordC (tell1 B0) (hc.le k0) (hc'.le k0) (Nat.le_trans ws.1 (by decide)) (Nat.lt_of_le_of_lt wt.1 (by decide)) tt.1 (fun B x y hx hy => eqC (ht.1.2 x hx) (hs.1.2 y hy)) (fun x _ => lackC_iff) fun u1 A1 e1 q1 => ?_
  simp (maxSteps := 1000000) (disch := omega) only [stepS, reduceIte, Nat.reduceBEq, Nat.reduceEqDiff, tupleOf, stepT, stepX, heapR, lensR, Nat.reduceAdd, Nat.reduceLeDiff, g2, g3, r1, r2, e1.rd]
  have f1 := k0.trans e1
  refine lessC_spec countE_enc countE_inj cmpC ordC (tell2 A1) (hc'.le f1) (hc.le f1) (Nat.le_trans wt.1 (by decide)) (Nat.lt_of_le_of_lt ws.1 (by decide)) ts.1 (fun B x y hx hy => eqC (hs.1.2 x hx) (ht.1.2 y hy)) (fun x _ => notInE_iff ordC.rf) fun u2 A2 e2 q2 => ?_
  simp (maxSteps := 1000000) (disch := omega) only [stepS, reduceIte, Nat.reduceBEq, Nat.reduceEqDiff, tupleOf, stepT, stepX, heapR, lensR, Nat.reduceAdd, Nat.reduceLeDiff, g2, g3, r1, r2, e2.rd]
  have f2 := f1.trans e2
  refine diff_words_spec (hm.le f2) (hm'.le f2) ws.2.1 wt.2.1 hs.2.1.2 ht.2.1.2 ts.2.1 tt.2.1 fun u3 A3 e3 q3 => ?_
  simp (maxSteps := 1000000) (disch := omega) only [stepS, reduceIte, Nat.reduceBEq, Nat.reduceEqDiff, tupleOf, stepT, stepX, heapR, lensR, Nat.reduceAdd, Nat.reduceLeDiff, g2, g3, r1, r2, e3.rd]
  have f3 := f2.trans e3
  refine diff_words_spec (hv.le f3) (hv'.le f3) ws.2.2.1 wt.2.2.1 hs.2.2.1.2 ht.2.2.1.2 ts.2.2.1 tt.2.2.1 fun u4 A4 e4 q4 => ?_
  simp (maxSteps := 1000000) (disch := omega) only [stepS, reduceIte, Nat.reduceBEq, Nat.reduceEqDiff, tupleOf, stepT, stepX, heapR, lensR, Nat.reduceAdd, Nat.reduceLeDiff, g2, g3, r1, r2, e4.rd]
  have f4 := f3.trans e4
  refine lessW_spec wordE_enc wordE_inj cmpN ordN (tell3 A4) (hl.le f4) (hl'.le f4) (Nat.le_trans ws.2.2.2 (by decide)) (Nat.lt_of_le_of_lt wt.2.2.2 (by decide)) tt.2.2.2 (fun B x y hx hy => eqW (ht.2.2.2.2 x hx) (hs.2.2.2.2 y hy)) (fun x _ => lackN_iff) fun u5 A5 e5 q5 => ?_
  simp (maxSteps := 1000000) (disch := omega) only [stepS, reduceIte, Nat.reduceBEq, Nat.reduceEqDiff, tupleOf, stepT, stepX, heapR, lensR, Nat.reduceAdd, Nat.reduceLeDiff, g2, g3, r1, r2, e5.rd]
  have f5 := f4.trans e5
  refine lessW_spec wordE_enc wordE_inj cmpN ordN (tell4 A5) (hl'.le f5) (hl.le f5) (Nat.le_trans wt.2.2.2 (by decide)) (Nat.lt_of_le_of_lt ws.2.2.2 (by decide)) ts.2.2.2 (fun B x y hx hy => eqW (hs.2.2.2.2 x hx) (ht.2.2.2.2 y hy)) (fun x _ => notInE_iff ordN.rf) fun u6 A6 e6 q6 => ?_
  have d1 := q1.sl.le ((((e2.trans e3).trans e4).trans e5).trans e6)
  have d2 := q2.sl.le (((e3.trans e4).trans e5).trans e6)
  have d3 := q3.le ((e4.trans e5).trans e6)
  have d4 := q4.le (e5.trans e6)
  have d5 := q5.sl.le e6
  have d6 := q6.sl
  have hlit := lit1 (A := A6) (z := .slice none 0 0) (len := 6) (ps := [(0, 1, u1), (1, 1, u2), (2, 1, u3), (3, 1, u4), (4, 1, u5), (5, 1, u6)]) [u1, u2, u3, u4, u5, u6] rfl rfl (by
    intro z hz
    simp only [List.mem_cons, List.not_mem_nil, or_false] at hz
    rcases hz with rfl | rfl | rfl | rfl | rfl | rfl
    · exact Sl.one1 d1
    · exact Sl.one1 d2
    · exact Sl.one1 d3
    · exact Sl.one1 d4
    · exact Sl.one1 d5
    · exact Sl.one1 d6)
  simp (maxSteps := 1000000) (disch := omega) only [stepS, reduceIte, Nat.reduceBEq, Nat.reduceEqDiff, tupleOf, stepT, stepX, heapR, lensR, Nat.reduceAdd, Nat.reduceLeDiff, g2, g3, r1, r2, hlit]
  have e7 : Le A6 (A6 ++ [.row [u1, u2, u3, u4, u5, u6] .own 1 true]) := .push _ _
  refine concat_spec (ls := [(s.counts.filter (lackC t.counts)).map cOutD, (t.counts.filter (notIn s.counts)).map cInD, [wordsD 3 s.members t.members, wordsD 4 t.members s.members].flatten, [wordsD 5 s.values t.values, wordsD 6 t.values s.values].flatten, (s.lines.filter (lackN t.lines)).map nameD, wordsD 8 t.lines s.lines]) (sl_lit rfl) rfl ?_ ?_ (by simp) fun u A' e8 q7 => ?_
  · intro j x l hx hl
    match j with
    | 0 => simp only [List.getElem?_cons_zero, Option.some.injEq] at hx hl; subst hx hl; exact d1.le e7
    | 1 => simp only [List.getElem?_cons_succ, List.getElem?_cons_zero, Option.some.injEq] at hx hl; subst hx hl; exact d2.le e7
    | 2 => simp only [List.getElem?_cons_succ, List.getElem?_cons_zero, Option.some.injEq] at hx hl; subst hx hl; exact d3.le e7
    | 3 => simp only [List.getElem?_cons_succ, List.getElem?_cons_zero, Option.some.injEq] at hx hl; subst hx hl; exact d4.le e7
    | 4 => simp only [List.getElem?_cons_succ, List.getElem?_cons_zero, Option.some.injEq] at hx hl; subst hx hl; exact d5.le e7
    | 5 => simp only [List.getElem?_cons_succ, List.getElem?_cons_zero, Option.some.injEq] at hx hl; subst hx hl; exact d6.le e7
    | _ + 6 => simp at hx
  · exact Nat.le_trans (between_len ws wt) (by decide)
  simp (maxSteps := 1000000) (disch := omega) only [stepS, reduceIte, Nat.reduceBEq, Nat.reduceEqDiff, tupleOf, stepT, stepX, heapR, lensR, Nat.reduceAdd, Nat.reduceLeDiff, g2, g3]
  exact hq1 ts tt _ _ (((f5.trans e6).trans e7).trans e8) q7.sl
end Go.AS.C


namespace Go.AS.C
open Go Go.Proofs
set_option linter.unusedVariables false
set_option linter.unusedSimpArgs false
set_option maxRecDepth 10000

/-! The reference's: is it there, where is it; words that are not there. -/
theorem take_notin {α : Type} {l : List α} {k : Nat} {x : α} {p : α → Prop} (hx : l[k]? = some x) (h : ∀ y ∈ l.take k, ¬ p y) (hn : ¬ p x) : ∀ y ∈ l.take (k + 1), ¬ p y := by
  intro y hy
  rw [List.take_add_one, hx] at hy
  rcases List.mem_append.1 hy with hy | hy
  · exact h y hy
  · simp at hy; rw [hy]; exact hn
theorem ref41_has_spec {A : AH} {v : Value} {l : List WordV} {w : WordV} {Q : Value → AH → Prop} (hv : WordsA A v l) (hl : l.length < 2 ^ 50) (fl : ∀ x ∈ l, FinW x) (fw : FinW w) (hq : ∀ b : Bool, (b = true ↔ w ∈ l) → Q (.bool b) A) : ACalls 0 Try.prog chantryref41_has [v, .agg (wordE w).toArray] Q A := by
  refine ACalls.pure (S := fun v => ∃ b : Bool, v = .bool b ∧ (b = true ↔ w ∈ l)) (fun v ⟨b, e, h⟩ => by rw [e]; exact hq b h) ?_
  refine ACalls.of_fits mixed fits_chantryref41_has rfl ?_
  unfold ic_chantryref41_has
  have i0 : initA [v, .agg (wordE w).toArray] 0 = v := rfl
  have i1 : initA [v, .agg (wordE w).toArray] 1 = .agg #[.string w.name, .string w.text] := rfl
  generalize initA [v, .agg (wordE w).toArray] = a at i0 i1
  have hvl := hv.len
  refine W_mid (fun a B => B = A ++ [.row [.string w.name, .string w.text] .own 0 true] ∧ a 0 = v ∧ a 3 = ptr A.length) ?_ ?_
  · simp (maxSteps := 1000000) (disch := omega) only [stepS, reduceIte, Nat.reduceBEq, Nat.reduceEqDiff, tupleOf, stepT, stepX, heapR, lensR, Nat.reduceAdd, Nat.reduceLeDiff, i0, i1]
  clear i0 i1
  rintro a B0 ⟨hB, g0, g3⟩
  have k0 : Le A B0 := by rw [hB]; exact .push _ _
  have r1 : rowAt B0 A.length = some ([.string w.name, .string w.text], .own, 0, true) := by rw [hB]; exact rowAt_own (get_last _ _)
  clear hB
  obtain ⟨Pk, hPk⟩ : ∃ P : Nat → Prop, P = fun k => ∀ y ∈ l.take k, ¬ y = w := ⟨_, rfl⟩
  simp (maxSteps := 1000000) (disch := omega) only [stepS, reduceIte, Nat.reduceBEq, Nat.reduceEqDiff, tupleOf, stepT, stepX, heapR, lensR, Nat.reduceAdd, Nat.reduceLeDiff, g0, g3]
  refine W_loop (fun a' B => ∃ k : Nat, k ≤ l.length ∧ B = B0 ∧ a' 0 = v ∧ a' 3 = ptr A.length ∧ a' 5 = ii k ∧ Pk k) (fun a' _ => l.length - (iv (a' 5)).toNat) ?_ ?_
  · refine ⟨0, by omega, rfl, ?_⟩
    simp (maxSteps := 1000000) (disch := omega) only [stepS, reduceIte, Nat.reduceBEq, Nat.reduceEqDiff, tupleOf, stepT, stepX, heapR, lensR, Nat.reduceAdd, Nat.reduceLeDiff, g0, g3]
    refine ⟨rfl, ?_⟩
    rw [hPk]
    intro y hy; simp at hy
  · clear g0 g3
    rintro a2 B ⟨k, hk, hB, g0, g3, g5, hs⟩
    obtain rfl : B0 = B := hB.symm
    clear hB
    rcases Nat.lt_or_ge k l.length with hlt | hge
    · obtain ⟨x, hx⟩ := get_some hlt
      obtain ⟨p, pq, p1, p2, _⟩ := words_at hv hx
      have p2 : sLoadn B0 p 2 = some (.agg #[.string x.name, .string x.text], B0) := p2 B0 k0
      have he := eqW (A := B0) (n := false) (fl x (List.mem_of_getElem? hx)) fw
      rw [show (Value.agg (wordE x).toArray) = .agg #[.string x.name, .string x.text] from rfl, show (Value.agg (wordE w).toArray) = .agg #[.string w.name, .string w.text] from rfl] at he
      by_cases hxw : x = w
      · have hd : _ = some (Value.bool true, B0) := he.1 hxw
        simp (maxSteps := 1000000) (disch := omega) only [stepS, reduceIte, Nat.reduceBEq, Nat.reduceEqDiff, tupleOf, stepT, stepX, heapR, lensR, Nat.reduceAdd, Nat.reduceLeDiff, g0, g3, g5, hvl, p1, p2, r1, hd]
        exact ⟨k0, rfl, true, rfl, fun _ => hxw ▸ List.mem_of_getElem? hx, fun _ => rfl⟩
      · have hd : _ = some (Value.bool false, B0) := he.2 hxw
        have hstep : Pk (k + 1) := by rw [hPk] at hs ⊢; exact take_notin hx hs hxw
        simp (maxSteps := 1000000) (disch := omega) only [stepS, reduceIte, Nat.reduceBEq, Nat.reduceEqDiff, tupleOf, stepT, stepX, heapR, lensR, Nat.reduceAdd, Nat.reduceLeDiff, g0, g3, g5, hvl, p1, p2, r1, hd]
        exact ⟨⟨k + 1, by omega, rfl, hstep⟩, by omega⟩
    · rw [hPk] at hs
      rw [List.take_of_length_le hge] at hs
      simp (maxSteps := 1000000) (disch := omega) only [stepS, reduceIte, Nat.reduceBEq, Nat.reduceEqDiff, tupleOf, stepT, stepX, heapR, lensR, Nat.reduceAdd, Nat.reduceLeDiff, g0, g3, g5, hvl]
      exact ⟨k0, rfl, false, rfl, (fun h => by cases h), fun h => absurd rfl (hs w h)⟩
def NamedAt {α : Type} (name : α → ByteArray) (l : List α) (t : ByteArray) (n : Int) : Prop := (n < 0 ∧ ∀ y ∈ l, ¬ name y = t) ∨ (∃ k w, n = ((k : Nat) : Int) ∧ l[k]? = some w ∧ name w = t ∧ ∀ y ∈ l.take k, ¬ name y = t)
theorem ref41_named_spec {A : AH} {v : Value} {l : List WordV} {t : ByteArray} {Q : Value → AH → Prop} (hv : WordsA A v l) (hl : l.length < 2 ^ 50) (hq : ∀ n : Int, NamedAt WordV.name l t n → Q (ii n) A) : ACalls 0 Try.prog chantryref41_named [v, .string t] Q A := by
  refine ACalls.of_fits mixed fits_chantryref41_named rfl ?_
  unfold ic_chantryref41_named
  have i0 : initA [v, .string t] 0 = v := rfl
  have i1 : initA [v, .string t] 1 = .string t := rfl
  generalize initA [v, .string t] = a at i0 i1
  have hvl := hv.len
  obtain ⟨Pk, hPk⟩ : ∃ P : Nat → Prop, P = fun k => ∀ y ∈ l.take k, ¬ y.name = t := ⟨_, rfl⟩
  simp (maxSteps := 1000000) (disch := omega) only [stepS, reduceIte, Nat.reduceBEq, Nat.reduceEqDiff, tupleOf, stepT, i0, i1]
  refine W_loop (fun a' B => ∃ k : Nat, k ≤ l.length ∧ B = A ∧ a' 0 = v ∧ a' 1 = .string t ∧ a' 5 = ii k ∧ Pk k) (fun a' _ => l.length - (iv (a' 5)).toNat) ?_ ?_
  · refine ⟨0, by omega, rfl, ?_⟩
    simp (maxSteps := 1000000) (disch := omega) only [stepS, reduceIte, Nat.reduceBEq, Nat.reduceEqDiff, tupleOf, stepT, i0, i1]
    refine ⟨rfl, ?_⟩
    rw [hPk]
    intro y hy; simp at hy
  · clear i0 i1
    rintro a2 B ⟨k, hk, hB, g0, g1, g5, hs⟩
    obtain rfl : A = B := hB.symm
    clear hB
    rcases Nat.lt_or_ge k l.length with hlt | hge
    · obtain ⟨x, hx⟩ := get_some hlt
      obtain ⟨p, pq, p1, p2, ⟨p3, p4⟩, _⟩ := words_at hv hx
      have p4 := p4 A (.refl _)
      by_cases hxw : x.name = t
      · have hd : decide (x.name = t) = true := decide_eq_true hxw
        rw [hPk] at hs
        simp (maxSteps := 1000000) (disch := omega) only [stepS, reduceIte, Nat.reduceBEq, Nat.reduceEqDiff, tupleOf, stepT, g0, g1, g5, hvl, p1, p3, p4, hd]
        exact hq k (.inr ⟨k, x, rfl, hx, hxw, hs⟩)
      · have hd : decide (x.name = t) = false := decide_eq_false hxw
        have hstep : Pk (k + 1) := by rw [hPk] at hs ⊢; exact take_notin hx hs hxw
        simp (maxSteps := 1000000) (disch := omega) only [stepS, reduceIte, Nat.reduceBEq, Nat.reduceEqDiff, tupleOf, stepT, g0, g1, g5, hvl, p1, p3, p4, hd]
        exact ⟨⟨k + 1, by omega, rfl, hstep⟩, by omega⟩
    · rw [hPk] at hs
      rw [List.take_of_length_le hge] at hs
      simp (maxSteps := 1000000) (disch := omega) only [stepS, reduceIte, Nat.reduceBEq, Nat.reduceEqDiff, tupleOf, stepT, g0, g1, g5, hvl]
      exact hq (-1) (.inl ⟨by decide, hs⟩)
theorem ref41_counted_spec {A : AH} {v : Value} {l : List CountV} {t : ByteArray} {Q : Value → AH → Prop} (hv : CountsA A v l) (hl : l.length < 2 ^ 50) (hq : ∀ n : Int, NamedAt CountV.name l t n → Q (ii n) A) : ACalls 0 Try.prog chantryref41_counted [v, .string t] Q A := by
  refine ACalls.of_fits mixed fits_chantryref41_counted rfl ?_
  unfold ic_chantryref41_counted
  have i0 : initA [v, .string t] 0 = v := rfl
  have i1 : initA [v, .string t] 1 = .string t := rfl
  generalize initA [v, .string t] = a at i0 i1
  have hvl := hv.len
  obtain ⟨Pk, hPk⟩ : ∃ P : Nat → Prop, P = fun k => ∀ y ∈ l.take k, ¬ y.name = t := ⟨_, rfl⟩
  simp (maxSteps := 1000000) (disch := omega) only [stepS, reduceIte, Nat.reduceBEq, Nat.reduceEqDiff, tupleOf, stepT, i0, i1]
  refine W_loop (fun a' B => ∃ k : Nat, k ≤ l.length ∧ B = A ∧ a' 0 = v ∧ a' 1 = .string t ∧ a' 5 = ii k ∧ Pk k) (fun a' _ => l.length - (iv (a' 5)).toNat) ?_ ?_
  · refine ⟨0, by omega, rfl, ?_⟩
    simp (maxSteps := 1000000) (disch := omega) only [stepS, reduceIte, Nat.reduceBEq, Nat.reduceEqDiff, tupleOf, stepT, i0, i1]
    refine ⟨rfl, ?_⟩
    rw [hPk]
    intro y hy; simp at hy
  · clear i0 i1
    rintro a2 B ⟨k, hk, hB, g0, g1, g5, hs⟩
    obtain rfl : A = B := hB.symm
    clear hB
    rcases Nat.lt_or_ge k l.length with hlt | hge
    · obtain ⟨x, hx⟩ := get_some hlt
      obtain ⟨p, pq, p1, p2, ⟨p3, p4⟩, _⟩ := counts_at hv hx
      have p4 := p4 A (.refl _)
      by_cases hxw : x.name = t
      · have hd : decide (x.name = t) = true := decide_eq_true hxw
        rw [hPk] at hs
        simp (maxSteps := 1000000) (disch := omega) only [stepS, reduceIte, Nat.reduceBEq, Nat.reduceEqDiff, tupleOf, stepT, g0, g1, g5, hvl, p1, p3, p4, hd]
        exact hq k (.inr ⟨k, x, rfl, hx, hxw, hs⟩)
      · have hd : decide (x.name = t) = false := decide_eq_false hxw
        have hstep : Pk (k + 1) := by rw [hPk] at hs ⊢; exact take_notin hx hs hxw
        simp (maxSteps := 1000000) (disch := omega) only [stepS, reduceIte, Nat.reduceBEq, Nat.reduceEqDiff, tupleOf, stepT, g0, g1, g5, hvl, p1, p3, p4, hd]
        exact ⟨⟨k + 1, by omega, rfl, hstep⟩, by omega⟩
    · rw [hPk] at hs
      rw [List.take_of_length_le hge] at hs
      simp (maxSteps := 1000000) (disch := omega) only [stepS, reduceIte, Nat.reduceBEq, Nat.reduceEqDiff, tupleOf, stepT, g0, g1, g5, hvl]
      exact hq (-1) (.inl ⟨by decide, hs⟩)
/-- One change appended. -/
theorem app_one {A0 A : AH} {z : Value} {l : List DeltaV} (hl : Le A0 A) (h : OwnD A0.length A z l) (d : DeltaV) (hn : l.length ≤ 2 ^ 30) :
    sLit A [.int .i64 0, .string ⟨#[]⟩, .string ⟨#[]⟩, .int .i64 0] 4 1 [(0, 4, .agg (deltaE d).toArray)] = some (.slice (some ⟨A.length, 0, none⟩) 1 1, A ++ [.row (deltaE d) .own 4 true]) ∧
    ∃ v' A', sApp (A ++ [.row (deltaE d) .own 4 true]) z (.slice (some ⟨A.length, 0, none⟩) 1 1) 4 48 = some (v', A') ∧ Le A0 A' ∧ OwnD A0.length A' v' (l ++ [d]) := by
  refine ⟨litE (sz := 4) A rfl (deltaE_enc _).1 (deltaE_enc _).2, ?_⟩
  obtain ⟨v', A3, u1, u2, u3, _⟩ := OwnE.app (bytes := 48) (hl.trans (.push A (.row (deltaE d) .own 4 true))) (OwnE.le h (.push _ _)) (x := .slice (some ⟨A.length, 0, none⟩) 1 1) (fs := [deltaE d]) (sl_one A (deltaE_enc d).1 (by omega)) (by intro e hm; rw [List.mem_singleton] at hm; rw [hm]; exact deltaE_enc _) (by decide) (by rw [List.length_map]; simp only [List.length_cons, List.length_nil]; omega) (by decide)
  refine ⟨v', A3, u1, u2, ?_⟩
  show OwnE _ _ 4 _ ((l ++ [d]).map deltaE)
  rw [List.map_append]
  exact u3
theorem app_list {A0 A : AH} {z x : Value} {l m : List DeltaV} (hl : Le A0 A) (h : OwnD A0.length A z l) (hx : DeltasA A x m) (hn : l.length + m.length ≤ 2 ^ 30) :
    ∃ v' A', sApp A z x 4 48 = some (v', A') ∧ Le A0 A' ∧ OwnD A0.length A' v' (l ++ m) := by
  obtain ⟨v', A3, u1, u2, u3, _⟩ := OwnE.app (bytes := 48) hl h hx (deltaE_ok m) (by decide) (by rw [List.length_map, List.length_map]; omega) (by decide)
  refine ⟨v', A3, u1, u2, ?_⟩
  show OwnE _ _ 4 _ ((l ++ m).map deltaE)
  rw [List.map_append]
  exact u3
theorem filter_step {α β : Type} {p : α → Bool} {f : α → β} {l : List α} {k : Nat} {x : α} (hx : l[k]? = some x) : ((l.take (k + 1)).filter p).map f = ((l.take k).filter p).map f ++ (if p x = true then [f x] else []) := by
  rw [List.take_add_one, hx, List.filter_append, List.map_append]
  congr 1
  by_cases h : p x = true
  · rw [if_pos h]; simp [h]
  · rw [if_neg h]; simp [h]
theorem ref41_words_spec {A : AH} {v w : Value} {a b : List WordV} {kd : Int} {Q : Value → AH → Prop} (hv : WordsA A v a) (hw : WordsA A w b) (ha : a.length ≤ 2 ^ 30) (hb : b.length ≤ 2 ^ 30) (fa : ∀ x ∈ a, FinW x) (fb : ∀ x ∈ b, FinW x)
    (hq : ∀ u A', Le A A' → DeltasA A' u (wordsD kd a b) → Q u A') : ACalls 0 Try.prog chantryref41_words [ii kd, v, w] Q A := by
  refine ACalls.of_fits mixed fits_chantryref41_words rfl ?_
  unfold ic_chantryref41_words
  have i0 : initA [ii kd, v, w] 0 = ii kd := rfl
  have i1 : initA [ii kd, v, w] 1 = v := rfl
  have i2 : initA [ii kd, v, w] 2 = w := rfl
  generalize initA [ii kd, v, w] = r at i0 i1 i2
  have hvl := hv.len
  simp (maxSteps := 1000000) (disch := omega) only [stepS, reduceIte, Nat.reduceBEq, Nat.reduceEqDiff, tupleOf, stepT, i0, i1, i2]
  refine W_loop (fun r' B => ∃ k : Nat, k ≤ a.length ∧ Le A B ∧ r' 0 = ii kd ∧ r' 1 = v ∧ r' 2 = w ∧ r' 8 = ii k ∧ OwnD A.length B (r' 7) (((a.take k).filter (notIn b)).map (wordD kd))) (fun r' _ => a.length - (iv (r' 8)).toNat) ?_ ?_
  · refine ⟨0, by omega, .refl _, ?_⟩
    simp (maxSteps := 1000000) (disch := omega) only [stepS, reduceIte, Nat.reduceBEq, Nat.reduceEqDiff, tupleOf, stepT, i0, i1, i2]
    exact ⟨rfl, OwnE.nil _ _ _⟩
  · clear i0 i1 i2
    rintro r B ⟨k, hkl, hle, g0, g1, g2, g8, g7⟩
    obtain ⟨z, g7e⟩ : ∃ z, r 7 = z := ⟨_, rfl⟩
    rw [g7e] at g7
    rcases Nat.lt_or_ge k a.length with hlt | hge
    · obtain ⟨x, hx⟩ := get_some hlt
      obtain ⟨p, pq, p1, p2, ⟨p3, p4⟩, ⟨p5, p6⟩⟩ := words_at hv hx
      have p2 := p2 B hle
      have p4 := p4 B hle
      have p6 := p6 B hle
      have hst := filter_step (p := notIn b) (f := wordD kd) hx
      have hxa := List.mem_of_getElem? hx
      simp (maxSteps := 1000000) (disch := omega) only [stepS, reduceIte, Nat.reduceBEq, Nat.reduceEqDiff, tupleOf, stepT, stepX, heapR, lensR, Nat.reduceAdd, Nat.reduceLeDiff, g0, g1, g2, g8, g7e, hvl, p1, p2]
      refine ref41_has_spec (hw.le hle) (by omega) fb (fa x hxa) fun h hh => ?_
      cases h with
      | true =>
        have hn : ¬ notIn b x = true := by unfold notIn; simp only [decide_eq_true_eq]; exact fun e => e (hh.1 rfl)
        rw [if_neg hn, List.append_nil] at hst
        simp (maxSteps := 1000000) (disch := omega) only [stepS, reduceIte, Nat.reduceBEq, Nat.reduceEqDiff, tupleOf, stepT, stepX, heapR, lensR, Nat.reduceAdd, Nat.reduceLeDiff, g0, g1, g2, g8, g7e]
        refine ⟨⟨k + 1, by omega, hle, rfl, ?_⟩, by omega⟩
        rw [hst]
        exact g7
      | false =>
        have hn : notIn b x = true := by unfold notIn; simp only [decide_eq_true_eq]; exact fun e => by have := hh.2 e; cases this
        rw [if_pos hn] at hst
        obtain ⟨l1, v', A', l2, l3, l4⟩ := app_one hle g7 (wordD kd x) (by rw [List.length_map]; exact filter_le _ _ (by rw [List.length_take]; omega))
        have l1 : sLit B [.int .i64 0, .string ⟨#[]⟩, .string ⟨#[]⟩, .int .i64 0] 4 1 [(0, 4, .agg #[ii kd, .string x.name, .string x.text, ii 0])] = some (.slice (some ⟨B.length, 0, none⟩) 1 1, B ++ [.row (deltaE (wordD kd x)) .own 4 true]) := l1
        simp (maxSteps := 1000000) (disch := omega) only [stepS, reduceIte, Nat.reduceBEq, Nat.reduceEqDiff, tupleOf, stepT, stepX, heapR, lensR, Nat.reduceAdd, Nat.reduceLeDiff, g0, g1, g2, g8, g7e, p1, p3, p4, p5, p6, l1, l2]
        refine ⟨⟨k + 1, by omega, l3, rfl, ?_⟩, by omega⟩
        rw [hst]
        exact l4
    · have hk : k = a.length := by omega
      subst hk
      rw [List.take_length] at g7
      simp (maxSteps := 1000000) (disch := omega) only [stepS, reduceIte, Nat.reduceBEq, Nat.reduceEqDiff, tupleOf, stepT, stepX, heapR, lensR, Nat.reduceAdd, Nat.reduceLeDiff, g0, g1, g2, g8, g7e, hvl]
      exact hq _ _ hle (OwnD.sl g7)
end Go.AS.C


namespace Go.AS.C
open Go Go.Proofs
set_option linter.unusedVariables false
set_option linter.unusedSimpArgs false
set_option maxRecDepth 10000

theorem named_lt {α : Type} {name : α → ByteArray} {l : List α} {t : ByteArray} {n : Int} (h : NamedAt name l t n) : (n < 0 ↔ ¬ ∃ y ∈ l, name y = t) := by
  rcases h with ⟨h1, h2⟩ | ⟨k, w, rfl, h2, h3, _⟩
  · exact ⟨fun _ ⟨y, hy, e⟩ => h2 y hy e, fun _ => h1⟩
  · exact ⟨fun h => by omega, fun h => absurd ⟨w, List.mem_of_getElem? h2, h3⟩ h⟩
theorem lackC_named {l : List CountV} {x : CountV} {n : Int} (h : NamedAt CountV.name l x.name n) : lackC l x = true ↔ n < 0 := by
  rw [named_lt h]
  unfold lackC
  simp only [decide_eq_true_eq]
  exact Iff.rfl
theorem lackN_named {l : List WordV} {x : WordV} {n : Int} (h : NamedAt WordV.name l x.name n) : lackN l x = true ↔ n < 0 := by
  rw [named_lt h]
  unfold lackN
  simp only [decide_eq_true_eq]
  exact Iff.rfl
/-- In a rising list of counts a name stands once. -/
theorem notIn_named {l : List CountV} (hs : Adj ltC l) {x w : CountV} {k : Nat} (hw : l[k]? = some w) (hn : w.name = x.name) : notIn l x = true ↔ ¬ w.n = x.n := by
  unfold notIn
  simp only [decide_eq_true_eq]
  refine not_congr ⟨fun h => ?_, fun h => ?_⟩
  · obtain ⟨j, hj⟩ := List.getElem?_of_mem h
    rcases Nat.lt_trichotomy j k with h1 | h1 | h1
    · exact absurd hn.symm (by have := adj_lt' hs ordC h1 hj hw; unfold ltC at this; intro e; rw [e] at this; exact kl_irr _ this)
    · subst h1; rw [hw] at hj; injection hj with hj; rw [hj]
    · exact absurd hn (by have := adj_lt' hs ordC h1 hw hj; unfold ltC at this; intro e; rw [e] at this; exact kl_irr _ this)
  · have : x = w := by cases x; cases w; simp only at hn h; rw [hn, h]
    rw [this]; exact List.mem_of_getElem? hw
theorem notIn_lack {l : List CountV} {x : CountV} (h : lackC l x = true) : notIn l x = true := by
  unfold lackC at h
  unfold notIn
  simp only [decide_eq_true_eq] at h ⊢
  exact fun hm => h ⟨x, hm, rfl⟩
set_option maxHeartbeats 4000000 in
theorem ref41_Between_spec {A : AH} {x y : Value} {s t : StateV} {Q : Value → AH → Prop} (hx : StateA A x s) (hy : StateA A y t) (hs : FinS s) (ht : FinS t) (ws : FewS s) (wt : FewS t)
    (hq1 : TidyS s → TidyS t → ∀ u A', Le A A' → DeltasA A' u (between s t) → Q (.tuple #[u, ii 0]) A') (hq2 : ¬ (TidyS s ∧ TidyS t) → ∀ A', Le A A' → Q (.tuple #[.slice none 0 0, ii 1]) A') : ACalls 0 Try.prog chantryref41_Between [x, y] Q A := by
  have hx' := hx
  have hy' := hy
  obtain ⟨c, m, v, l, rfl, hc, hm, hv, hl⟩ := hx
  obtain ⟨c', m', v', l', rfl, hc', hm', hv', hl'⟩ := hy
  refine ACalls.of_fits mixed fits_chantryref41_Between rfl ?_
  unfold ic_chantryref41_Between
  have i0 : initA [.agg #[c, m, v, l], .agg #[c', m', v', l']] 0 = .agg #[c, m, v, l] := rfl
  have i1 : initA [.agg #[c, m, v, l], .agg #[c', m', v', l']] 1 = .agg #[c', m', v', l'] := rfl
  generalize initA [.agg #[c, m, v, l], .agg #[c', m', v', l']] = a at i0 i1
  have oc := (Sl.one1 hc).2
  have om := (Sl.one1 hm).2
  have ov := (Sl.one1 hv).2
  have ol := (Sl.one1 hl).2
  have oc' := (Sl.one1 hc').2
  have om' := (Sl.one1 hm').2
  have ov' := (Sl.one1 hv').2
  have ol' := (Sl.one1 hl').2
  refine W_mid (fun a B => B = A ++ [.row [c, m, v, l] .own 0 true] ++ [.row [c', m', v', l'] .own 0 true] ∧ a 2 = ptr A.length ∧ a 3 = ptr (A.length + 1)) ?_ ?_
  · simp (maxSteps := 1000000) (disch := omega) only [stepS, reduceIte, Nat.reduceBEq, Nat.reduceEqDiff, tupleOf, stepT, stepX, heapR, lensR, Nat.reduceAdd, Nat.reduceLeDiff, i0, i1, oc, om, ov, ol, oc', om', ov', ol']
  clear i0 i1
  rintro a B0 ⟨hB, g2, g3⟩
  have k0 : Le A B0 := by rw [hB]; exact (Le.push _ _).trans (.push _ _)
  have r1 : rowAt B0 A.length = some ([c, m, v, l], .own, 0, true) := by rw [hB]; exact (Le.push _ _).row (rowAt_own (get_last _ _))
  have r2 : rowAt B0 (A.length + 1) = some ([c', m', v', l'], .own, 0, true) := by
    have := rowAt_own (get_last (A ++ [Blk.row [c, m, v, l] .own 0 true]) (.row [c', m', v', l'] .own 0 true))
    rw [hB]; simpa using this
  have hbl : B0.length = A.length + 2 := by rw [hB]; simp
  clear hB
  refine W_midR (fun a B => B = B0 ∧ (TidyS s ∧ TidyS t) ∧ a 2 = ptr A.length ∧ a 3 = ptr (A.length + 1)) ?_ ?_
  · simp (maxSteps := 1000000) (disch := omega) only [stepS, reduceIte, Nat.reduceBEq, Nat.reduceEqDiff, tupleOf, stepT, stepX, heapR, lensR, Nat.reduceAdd, Nat.reduceLeDiff, g2, g3, r1, r2]
    refine ref41_Tidy_spec (hx'.le k0) hs fun b1 h1 => ?_
    cases b1 with
    | false =>
      simp (maxSteps := 1000000) (disch := omega) only [stepS, reduceIte, Nat.reduceBEq, Nat.reduceEqDiff, tupleOf, stepT, stepX, heapR, lensR, Nat.reduceAdd, Nat.reduceLeDiff, g2, g3, r1, r2, reduceCtorEq, false_and, false_or, true_and]
      exact hq2 (fun h => by have := h1.2 h.1; cases this) _ k0
    | true =>
    simp (maxSteps := 1000000) (disch := omega) only [stepS, reduceIte, Nat.reduceBEq, Nat.reduceEqDiff, tupleOf, stepT, stepX, heapR, lensR, Nat.reduceAdd, Nat.reduceLeDiff, g2, g3, r1, r2]
    refine ref41_Tidy_spec (hy'.le k0) ht fun b2 h2 => ?_
    cases b2 with
    | false =>
      simp (maxSteps := 1000000) (disch := omega) only [stepS, reduceIte, Nat.reduceBEq, Nat.reduceEqDiff, tupleOf, stepT, stepX, heapR, lensR, Nat.reduceAdd, Nat.reduceLeDiff, g2, g3, r1, r2, reduceCtorEq, false_and, false_or, true_and]
      exact hq2 (fun h => by have := h2.2 h.2; cases this) _ k0
    | true =>
    simp (maxSteps := 1000000) (disch := omega) only [stepS, reduceIte, Nat.reduceBEq, Nat.reduceEqDiff, tupleOf, stepT, stepX, heapR, lensR, Nat.reduceAdd, Nat.reduceLeDiff, g2, g3, r1, r2, reduceCtorEq, false_and, or_false, true_and]
    exact ⟨h1.1 rfl, h2.1 rfl⟩
  clear g2 g3
  rintro a B ⟨rfl, ⟨ts, tt⟩, g2, g3⟩
  have hcl := hc.len
  have hcl' := hc'.len
  have hll := hl.len
  obtain ⟨n1, n2, n3, n4⟩ := finS_len hs
  obtain ⟨n1', n2', n3', n4'⟩ := finS_len ht
  refine W_mid (fun a' B' => B' = B ∧ a' 2 = ptr A.length ∧ a' 3 = ptr (A.length + 1) ∧ a' 6 = .slice none 0 0) ?_ ?_
  · simp (maxSteps := 1000000) (disch := omega) only [stepS, reduceIte, Nat.reduceBEq, Nat.reduceEqDiff, tupleOf, stepT, stepX, heapR, lensR, Nat.reduceAdd, Nat.reduceLeDiff, g2, g3]
  clear g2 g3
  rintro a B' ⟨hB, g2, g3, g6⟩
  obtain rfl : B = B' := hB.symm
  clear hB
  obtain ⟨l1, hl1⟩ : ∃ z, z = (s.counts.filter (lackC t.counts)).map cOutD := ⟨_, rfl⟩
  have e1 : l1.length ≤ 2 ^ 20 := by rw [hl1, List.length_map]; exact filter_le _ _ ws.1
  refine W_mid (fun a' B' => Le B B' ∧ a' 2 = ptr A.length ∧ a' 3 = ptr (A.length + 1) ∧ OwnD B.length B' (a' 6) l1) ?_ ?_
  · simp (maxSteps := 1000000) (disch := omega) only [stepS, reduceIte, Nat.reduceBEq, Nat.reduceEqDiff, tupleOf, stepT, stepX, heapR, lensR, Nat.reduceAdd, Nat.reduceLeDiff, g2, g3, g6]
    refine W_loop (fun a' B' => ∃ k : Nat, k ≤ s.counts.length ∧ Le B B' ∧ a' 2 = ptr A.length ∧ a' 3 = ptr (A.length + 1) ∧ a' 7 = ii k ∧ OwnD B.length B' (a' 6) (((s.counts.take k).filter (lackC t.counts)).map cOutD)) (fun a' _ => s.counts.length - (iv (a' 7)).toNat) ?_ ?_
    · refine ⟨0, by omega, .refl _, ?_⟩
      simp (maxSteps := 1000000) (disch := omega) only [stepS, reduceIte, Nat.reduceBEq, Nat.reduceEqDiff, tupleOf, stepT, stepX, heapR, lensR, Nat.reduceAdd, Nat.reduceLeDiff, g2, g3, g6]
      exact ⟨rfl, OwnE.nil _ _ _⟩
    · clear g2 g3 g6
      rintro a2 B2 ⟨k, hk, hle, g2, g3, g7, g6⟩
      obtain ⟨z, g6e⟩ : ∃ z, a2 6 = z := ⟨_, rfl⟩
      rw [g6e] at g6
      have r1' := hle.row r1
      have r2' := hle.row r2
      have f0 := k0.trans hle
      rcases Nat.lt_or_ge k s.counts.length with hlt | hge
      · obtain ⟨w, hw⟩ := get_some hlt
        obtain ⟨p, pq, p1, _, ⟨p3, p4⟩, _⟩ := counts_at hc hw
        have p4 := p4 B2 f0
        have hst := filter_step (p := lackC t.counts) (f := cOutD) hw
        simp (maxSteps := 1000000) (disch := omega) only [stepS, reduceIte, Nat.reduceBEq, Nat.reduceEqDiff, tupleOf, stepT, stepX, heapR, lensR, Nat.reduceAdd, Nat.reduceLeDiff, g2, g3, g7, g6e, r1', r2', hcl, p1, p3, p4]
        refine ref41_counted_spec (hc'.le f0) n1' fun n hn => ?_
        have hkeep := lackC_named hn
        by_cases hn0 : n < 0
        · rw [if_pos (hkeep.2 hn0)] at hst
          obtain ⟨q1, u, A', q2, q3, q4⟩ := app_one hle g6 (cOutD w) (by rw [List.length_map]; exact filter_le _ _ (by rw [List.length_take]; have := ws.1; omega))
          have q1 : sLit B2 [.int .i64 0, .string ⟨#[]⟩, .string ⟨#[]⟩, .int .i64 0] 4 1 [(0, 4, .agg #[ii 1, .string w.name, .string ⟨#[]⟩, ii 0])] = some (.slice (some ⟨B2.length, 0, none⟩) 1 1, B2 ++ [.row (deltaE (cOutD w)) .own 4 true]) := q1
          simp (maxSteps := 1000000) (disch := omega) only [stepS, reduceIte, Nat.reduceBEq, Nat.reduceEqDiff, tupleOf, stepT, stepX, heapR, lensR, Nat.reduceAdd, Nat.reduceLeDiff, g2, g3, g7, g6e, r1', r2', hcl, p1, p3, p4, q1, q2]
          refine ⟨⟨k + 1, by omega, q3, rfl, ?_⟩, by omega⟩
          rw [hst]
          exact q4
        · rw [if_neg (fun e => hn0 (hkeep.1 e)), List.append_nil] at hst
          simp (maxSteps := 1000000) (disch := omega) only [stepS, reduceIte, Nat.reduceBEq, Nat.reduceEqDiff, tupleOf, stepT, stepX, heapR, lensR, Nat.reduceAdd, Nat.reduceLeDiff, g2, g3, g7, g6e, r1', r2', hcl, p1, p3, p4]
          refine ⟨⟨k + 1, by omega, hle, rfl, ?_⟩, by omega⟩
          rw [hst]
          exact g6
      · rw [List.take_of_length_le hge, ← hl1] at g6
        simp (maxSteps := 1000000) (disch := omega) only [stepS, reduceIte, Nat.reduceBEq, Nat.reduceEqDiff, tupleOf, stepT, stepX, heapR, lensR, Nat.reduceAdd, Nat.reduceLeDiff, g2, g3, g7, g6e, r1', r2', hcl]
        exact ⟨hle, g6⟩
  clear g2 g3 g6
  rintro a B1 ⟨c1, g2, g3, g6⟩
  obtain ⟨l2, hl2⟩ : ∃ z, z = (t.counts.filter (notIn s.counts)).map cInD := ⟨_, rfl⟩
  have e2 : l2.length ≤ 2 ^ 20 := by rw [hl2, List.length_map]; exact filter_le _ _ wt.1
  obtain ⟨z, g6e⟩ : ∃ z, a 6 = z := ⟨_, rfl⟩
  rw [g6e] at g6
  refine W_mid (fun a' B' => Le B B' ∧ a' 2 = ptr A.length ∧ a' 3 = ptr (A.length + 1) ∧ OwnD B.length B' (a' 6) (l1 ++ l2)) ?_ ?_
  · have r1' := c1.row r1
    have r2' := c1.row r2
    simp (maxSteps := 1000000) (disch := omega) only [stepS, reduceIte, Nat.reduceBEq, Nat.reduceEqDiff, tupleOf, stepT, stepX, heapR, lensR, Nat.reduceAdd, Nat.reduceLeDiff, g2, g3, g6e]
    refine W_loop (fun a' B' => ∃ k : Nat, k ≤ t.counts.length ∧ Le B B' ∧ a' 2 = ptr A.length ∧ a' 3 = ptr (A.length + 1) ∧ a' 8 = ii k ∧ OwnD B.length B' (a' 6) (l1 ++ ((t.counts.take k).filter (notIn s.counts)).map cInD)) (fun a' _ => t.counts.length - (iv (a' 8)).toNat) ?_ ?_
    · refine ⟨0, by omega, c1, ?_⟩
      simp (maxSteps := 1000000) (disch := omega) only [stepS, reduceIte, Nat.reduceBEq, Nat.reduceEqDiff, tupleOf, stepT, stepX, heapR, lensR, Nat.reduceAdd, Nat.reduceLeDiff, g2, g3, g6e, List.append_nil]
      refine ⟨rfl, ?_⟩
      have : l1 ++ (List.map cInD (List.filter (notIn s.counts) [])) = l1 := by simp
      first
      | exact g6
      | (rw [this]; exact g6)
    · clear g2 g3 g6e g6 r1' r2'
      rintro a2 B2 ⟨k, hk, hle, g2, g3, g7, g6⟩
      obtain ⟨z, g6e⟩ : ∃ z, a2 6 = z := ⟨_, rfl⟩
      rw [g6e] at g6
      have r1' := hle.row r1
      have r2' := hle.row r2
      have f0 := k0.trans hle
      rcases Nat.lt_or_ge k t.counts.length with hlt | hge
      · obtain ⟨w, hw⟩ := get_some hlt
        obtain ⟨p, pq, p1, _, ⟨p3, p4⟩, ⟨p5, p6⟩⟩ := counts_at hc' hw
        have p4 := p4 B2 f0
        have p6 := p6 B2 f0
        have hst := filter_step (p := notIn s.counts) (f := cInD) hw
        simp (maxSteps := 1000000) (disch := omega) only [stepS, reduceIte, Nat.reduceBEq, Nat.reduceEqDiff, tupleOf, stepT, stepX, heapR, lensR, Nat.reduceAdd, Nat.reduceLeDiff, g2, g3, g7, g6e, r1', r2', hcl', p1, p3, p4]
        refine ref41_counted_spec (hc.le f0) n1 fun n hn => ?_
        have hkeep := lackC_named hn
        by_cases hn0 : n < 0
        · have hin := notIn_lack (hkeep.2 hn0)
          have hf : True := trivial
          rw [if_pos hin] at hst
          obtain ⟨q1, u, A', q2, q3, q4⟩ := app_one hle g6 (cInD w) (by rw [List.length_append, List.length_map]; have := filter_le (notIn s.counts) (t.counts.take k) (n := 2 ^ 20) (by rw [List.length_take]; have := wt.1; omega); omega)
          have q1 : sLit B2 [.int .i64 0, .string ⟨#[]⟩, .string ⟨#[]⟩, .int .i64 0] 4 1 [(0, 4, .agg #[ii 2, .string w.name, .string ⟨#[]⟩, ii w.n])] = some (.slice (some ⟨B2.length, 0, none⟩) 1 1, B2 ++ [.row (deltaE (cInD w)) .own 4 true]) := q1
          simp (maxSteps := 1000000) (disch := omega) only [stepS, reduceIte, Nat.reduceBEq, Nat.reduceEqDiff, tupleOf, stepT, stepX, heapR, lensR, Nat.reduceAdd, Nat.reduceLeDiff, g2, g3, g7, g6e, r1', r2', hcl', p1, p3, p4, p5, p6, q1, q2, hf]
          refine ⟨⟨k + 1, by omega, q3, rfl, ?_⟩, by omega⟩
          rw [hst, ← List.append_assoc]
          exact q4
        · rcases hn with ⟨h, _⟩ | ⟨j, y, hnj, hj1, hj2, _⟩
          · exact absurd h hn0
          · subst hnj
            obtain ⟨jp, jq, j1, _, _, ⟨j5, j6⟩⟩ := counts_at hc hj1
            have j6 := j6 B2 f0
            have hiff := notIn_named ts.1 hj1 hj2
            by_cases hyn : y.n = w.n
            · rw [if_neg (fun e => hiff.1 e hyn), List.append_nil] at hst
              simp (maxSteps := 1000000) (disch := omega) only [stepS, reduceIte, Nat.reduceBEq, Nat.reduceEqDiff, tupleOf, stepT, stepX, heapR, lensR, Nat.reduceAdd, Nat.reduceLeDiff, g2, g3, g7, g6e, r1', r2', hcl', p1, p3, p4, p5, p6, j1, j5, j6, hyn]
              refine ⟨⟨k + 1, by omega, hle, rfl, ?_⟩, by omega⟩
              rw [hst]
              exact g6
            · have hin := hiff.2 hyn
              have hf := And.intro j1 (And.intro j5 (And.intro j6 hyn))
              rw [if_pos hin] at hst
              obtain ⟨q1, u, A', q2, q3, q4⟩ := app_one hle g6 (cInD w) (by rw [List.length_append, List.length_map]; have := filter_le (notIn s.counts) (t.counts.take k) (n := 2 ^ 20) (by rw [List.length_take]; have := wt.1; omega); omega)
              have q1 : sLit B2 [.int .i64 0, .string ⟨#[]⟩, .string ⟨#[]⟩, .int .i64 0] 4 1 [(0, 4, .agg #[ii 2, .string w.name, .string ⟨#[]⟩, ii w.n])] = some (.slice (some ⟨B2.length, 0, none⟩) 1 1, B2 ++ [.row (deltaE (cInD w)) .own 4 true]) := q1
              simp (maxSteps := 1000000) (disch := omega) only [stepS, reduceIte, Nat.reduceBEq, Nat.reduceEqDiff, tupleOf, stepT, stepX, heapR, lensR, Nat.reduceAdd, Nat.reduceLeDiff, g2, g3, g7, g6e, r1', r2', hcl', p1, p3, p4, p5, p6, q1, q2, hf]
              refine ⟨⟨k + 1, by omega, q3, rfl, ?_⟩, by omega⟩
              rw [hst, ← List.append_assoc]
              exact q4
      · rw [List.take_of_length_le hge, ← hl2] at g6
        simp (maxSteps := 1000000) (disch := omega) only [stepS, reduceIte, Nat.reduceBEq, Nat.reduceEqDiff, tupleOf, stepT, stepX, heapR, lensR, Nat.reduceAdd, Nat.reduceLeDiff, g2, g3, g7, g6e, r1', r2', hcl']
        exact ⟨hle, g6⟩
  clear g2 g3 g6 g6e c1
  obtain ⟨l3, hl3⟩ : ∃ z, z = wordsD 3 s.members t.members := ⟨_, rfl⟩
  have e3 : l3.length ≤ 2 ^ 20 := by rw [hl3]; exact wordsD_len ws.2.1
  rintro a B2 ⟨c1, g2, g3, g6⟩
  obtain ⟨z, g6e⟩ : ∃ z, a 6 = z := ⟨_, rfl⟩
  rw [g6e] at g6
  refine W_mid (fun a' B' => Le B B' ∧ a' 2 = ptr A.length ∧ a' 3 = ptr (A.length + 1) ∧ OwnD B.length B' (a' 6) ((l1 ++ l2) ++ l3)) ?_ ?_
  · have r1' := c1.row r1
    have r2' := c1.row r2
    have f0 := k0.trans c1
    simp (maxSteps := 1000000) (disch := omega) only [stepS, reduceIte, Nat.reduceBEq, Nat.reduceEqDiff, tupleOf, stepT, stepX, heapR, lensR, Nat.reduceAdd, Nat.reduceLeDiff, g2, g3, g6e, r1', r2']
    refine ref41_words_spec (hm.le f0) (hm'.le f0) (Nat.le_trans ws.2.1 (by decide)) (Nat.le_trans wt.2.1 (by decide)) hs.2.1.2 ht.2.1.2 fun u A1 d1 d2 => ?_
    rw [← hl3] at d2
    have d0 := c1.trans d1
    have g6' := g6.le d1
    obtain ⟨u', A2, q1, q2, q3⟩ := app_list d0 g6' d2 (by simp only [List.length_append]; omega)
    simp (maxSteps := 1000000) (disch := omega) only [stepS, reduceIte, Nat.reduceBEq, Nat.reduceEqDiff, tupleOf, stepT, stepX, heapR, lensR, Nat.reduceAdd, Nat.reduceLeDiff, g2, g3, g6e, q1]
    exact ⟨q2, q3⟩
  clear g2 g3 g6 g6e c1
  obtain ⟨l4, hl4⟩ : ∃ z, z = wordsD 4 t.members s.members := ⟨_, rfl⟩
  have e4 : l4.length ≤ 2 ^ 20 := by rw [hl4]; exact wordsD_len wt.2.1
  rintro a B3 ⟨c1, g2, g3, g6⟩
  obtain ⟨z, g6e⟩ : ∃ z, a 6 = z := ⟨_, rfl⟩
  rw [g6e] at g6
  refine W_mid (fun a' B' => Le B B' ∧ a' 2 = ptr A.length ∧ a' 3 = ptr (A.length + 1) ∧ OwnD B.length B' (a' 6) (((l1 ++ l2) ++ l3) ++ l4)) ?_ ?_
  · have r1' := c1.row r1
    have r2' := c1.row r2
    have f0 := k0.trans c1
    simp (maxSteps := 1000000) (disch := omega) only [stepS, reduceIte, Nat.reduceBEq, Nat.reduceEqDiff, tupleOf, stepT, stepX, heapR, lensR, Nat.reduceAdd, Nat.reduceLeDiff, g2, g3, g6e, r1', r2']
    refine ref41_words_spec (hm'.le f0) (hm.le f0) (Nat.le_trans wt.2.1 (by decide)) (Nat.le_trans ws.2.1 (by decide)) ht.2.1.2 hs.2.1.2 fun u A1 d1 d2 => ?_
    rw [← hl4] at d2
    have d0 := c1.trans d1
    have g6' := g6.le d1
    obtain ⟨u', A2, q1, q2, q3⟩ := app_list d0 g6' d2 (by simp only [List.length_append]; omega)
    simp (maxSteps := 1000000) (disch := omega) only [stepS, reduceIte, Nat.reduceBEq, Nat.reduceEqDiff, tupleOf, stepT, stepX, heapR, lensR, Nat.reduceAdd, Nat.reduceLeDiff, g2, g3, g6e, q1]
    exact ⟨q2, q3⟩
  clear g2 g3 g6 g6e c1
  obtain ⟨l5, hl5⟩ : ∃ z, z = wordsD 5 s.values t.values := ⟨_, rfl⟩
  have e5 : l5.length ≤ 2 ^ 20 := by rw [hl5]; exact wordsD_len ws.2.2.1
  rintro a B4 ⟨c1, g2, g3, g6⟩
  obtain ⟨z, g6e⟩ : ∃ z, a 6 = z := ⟨_, rfl⟩
  rw [g6e] at g6
  refine W_mid (fun a' B' => Le B B' ∧ a' 2 = ptr A.length ∧ a' 3 = ptr (A.length + 1) ∧ OwnD B.length B' (a' 6) ((((l1 ++ l2) ++ l3) ++ l4) ++ l5)) ?_ ?_
  · have r1' := c1.row r1
    have r2' := c1.row r2
    have f0 := k0.trans c1
    simp (maxSteps := 1000000) (disch := omega) only [stepS, reduceIte, Nat.reduceBEq, Nat.reduceEqDiff, tupleOf, stepT, stepX, heapR, lensR, Nat.reduceAdd, Nat.reduceLeDiff, g2, g3, g6e, r1', r2']
    refine ref41_words_spec (hv.le f0) (hv'.le f0) (Nat.le_trans ws.2.2.1 (by decide)) (Nat.le_trans wt.2.2.1 (by decide)) hs.2.2.1.2 ht.2.2.1.2 fun u A1 d1 d2 => ?_
    rw [← hl5] at d2
    have d0 := c1.trans d1
    have g6' := g6.le d1
    obtain ⟨u', A2, q1, q2, q3⟩ := app_list d0 g6' d2 (by simp only [List.length_append]; omega)
    simp (maxSteps := 1000000) (disch := omega) only [stepS, reduceIte, Nat.reduceBEq, Nat.reduceEqDiff, tupleOf, stepT, stepX, heapR, lensR, Nat.reduceAdd, Nat.reduceLeDiff, g2, g3, g6e, q1]
    exact ⟨q2, q3⟩
  clear g2 g3 g6 g6e c1
  obtain ⟨l6, hl6⟩ : ∃ z, z = wordsD 6 t.values s.values := ⟨_, rfl⟩
  have e6 : l6.length ≤ 2 ^ 20 := by rw [hl6]; exact wordsD_len wt.2.2.1
  rintro a B5 ⟨c1, g2, g3, g6⟩
  obtain ⟨z, g6e⟩ : ∃ z, a 6 = z := ⟨_, rfl⟩
  rw [g6e] at g6
  refine W_mid (fun a' B' => Le B B' ∧ a' 2 = ptr A.length ∧ a' 3 = ptr (A.length + 1) ∧ OwnD B.length B' (a' 6) (((((l1 ++ l2) ++ l3) ++ l4) ++ l5) ++ l6)) ?_ ?_
  · have r1' := c1.row r1
    have r2' := c1.row r2
    have f0 := k0.trans c1
    simp (maxSteps := 1000000) (disch := omega) only [stepS, reduceIte, Nat.reduceBEq, Nat.reduceEqDiff, tupleOf, stepT, stepX, heapR, lensR, Nat.reduceAdd, Nat.reduceLeDiff, g2, g3, g6e, r1', r2']
    refine ref41_words_spec (hv'.le f0) (hv.le f0) (Nat.le_trans wt.2.2.1 (by decide)) (Nat.le_trans ws.2.2.1 (by decide)) ht.2.2.1.2 hs.2.2.1.2 fun u A1 d1 d2 => ?_
    rw [← hl6] at d2
    have d0 := c1.trans d1
    have g6' := g6.le d1
    obtain ⟨u', A2, q1, q2, q3⟩ := app_list d0 g6' d2 (by simp only [List.length_append]; omega)
    simp (maxSteps := 1000000) (disch := omega) only [stepS, reduceIte, Nat.reduceBEq, Nat.reduceEqDiff, tupleOf, stepT, stepX, heapR, lensR, Nat.reduceAdd, Nat.reduceLeDiff, g2, g3, g6e, q1]
    exact ⟨q2, q3⟩
  clear g2 g3 g6 g6e c1
  obtain ⟨l7, hl7⟩ : ∃ z, z = (s.lines.filter (lackN t.lines)).map nameD := ⟨_, rfl⟩
  have e7 : l7.length ≤ 2 ^ 20 := by rw [hl7, List.length_map]; exact filter_le _ _ ws.2.2.2
  rintro a B6 ⟨c1, g2, g3, g6⟩
  obtain ⟨z, g6e⟩ : ∃ z, a 6 = z := ⟨_, rfl⟩
  rw [g6e] at g6
  obtain ⟨l0, hl0⟩ : ∃ l0, l0 = (((((l1 ++ l2) ++ l3) ++ l4) ++ l5) ++ l6) := ⟨_, rfl⟩
  have e0 : l0.length ≤ 2 ^ 24 := by rw [hl0]; simp only [List.length_append]; omega
  rw [← hl0] at g6
  refine W_mid (fun a' B' => Le B B' ∧ a' 2 = ptr A.length ∧ a' 3 = ptr (A.length + 1) ∧ OwnD B.length B' (a' 6) (l0 ++ l7)) ?_ ?_
  · have r1' := c1.row r1
    have r2' := c1.row r2
    simp (maxSteps := 1000000) (disch := omega) only [stepS, reduceIte, Nat.reduceBEq, Nat.reduceEqDiff, tupleOf, stepT, stepX, heapR, lensR, Nat.reduceAdd, Nat.reduceLeDiff, g2, g3, g6e]
    refine W_loop (fun a' B' => ∃ k : Nat, k ≤ s.lines.length ∧ Le B B' ∧ a' 2 = ptr A.length ∧ a' 3 = ptr (A.length + 1) ∧ a' 10 = ii k ∧ OwnD B.length B' (a' 6) (l0 ++ ((s.lines.take k).filter (lackN t.lines)).map nameD)) (fun a' _ => s.lines.length - (iv (a' 10)).toNat) ?_ ?_
    · refine ⟨0, by omega, c1, ?_⟩
      simp (maxSteps := 1000000) (disch := omega) only [stepS, reduceIte, Nat.reduceBEq, Nat.reduceEqDiff, tupleOf, stepT, stepX, heapR, lensR, Nat.reduceAdd, Nat.reduceLeDiff, g2, g3, g6e, List.append_nil]
      refine ⟨rfl, ?_⟩
      have : l0 ++ (List.map nameD (List.filter (lackN t.lines) [])) = l0 := by simp
      first
      | exact g6
      | (rw [this]; exact g6)
    · clear g2 g3 g6e g6 r1' r2'
      rintro a2 B2 ⟨k, hk, hle, g2, g3, g7, g6⟩
      obtain ⟨z, g6e⟩ : ∃ z, a2 6 = z := ⟨_, rfl⟩
      rw [g6e] at g6
      have r1' := hle.row r1
      have r2' := hle.row r2
      have f0 := k0.trans hle
      rcases Nat.lt_or_ge k s.lines.length with hlt | hge
      · obtain ⟨w, hw⟩ := get_some hlt
        obtain ⟨p, pq, p1, _, ⟨p3, p4⟩, _⟩ := words_at hl hw
        have p4 := p4 B2 f0
        have hst := filter_step (p := lackN t.lines) (f := nameD) hw
        simp (maxSteps := 1000000) (disch := omega) only [stepS, reduceIte, Nat.reduceBEq, Nat.reduceEqDiff, tupleOf, stepT, stepX, heapR, lensR, Nat.reduceAdd, Nat.reduceLeDiff, g2, g3, g7, g6e, r1', r2', hll, p1, p3, p4]
        refine ref41_named_spec (hl'.le f0) n4' fun n hn => ?_
        have hkeep := lackN_named hn
        by_cases hn0 : n < 0
        · rw [if_pos (hkeep.2 hn0)] at hst
          obtain ⟨q1, u, A', q2, q3, q4⟩ := app_one hle g6 (nameD w) (by rw [List.length_append, List.length_map]; have := filter_le (lackN t.lines) (s.lines.take k) (n := 2 ^ 20) (by rw [List.length_take]; have := ws.2.2.2; omega); omega)
          have q1 : sLit B2 [.int .i64 0, .string ⟨#[]⟩, .string ⟨#[]⟩, .int .i64 0] 4 1 [(0, 4, .agg #[ii 7, .string w.name, .string ⟨#[]⟩, ii 0])] = some (.slice (some ⟨B2.length, 0, none⟩) 1 1, B2 ++ [.row (deltaE (nameD w)) .own 4 true]) := q1
          simp (maxSteps := 1000000) (disch := omega) only [stepS, reduceIte, Nat.reduceBEq, Nat.reduceEqDiff, tupleOf, stepT, stepX, heapR, lensR, Nat.reduceAdd, Nat.reduceLeDiff, g2, g3, g7, g6e, r1', r2', hll, p1, p3, p4, q1, q2]
          refine ⟨⟨k + 1, by omega, q3, rfl, ?_⟩, by omega⟩
          rw [hst, ← List.append_assoc]
          exact q4
        · rw [if_neg (fun e => hn0 (hkeep.1 e)), List.append_nil] at hst
          simp (maxSteps := 1000000) (disch := omega) only [stepS, reduceIte, Nat.reduceBEq, Nat.reduceEqDiff, tupleOf, stepT, stepX, heapR, lensR, Nat.reduceAdd, Nat.reduceLeDiff, g2, g3, g7, g6e, r1', r2', hll, p1, p3, p4]
          refine ⟨⟨k + 1, by omega, hle, rfl, ?_⟩, by omega⟩
          rw [hst]
          exact g6
      · rw [List.take_of_length_le hge, ← hl7] at g6
        simp (maxSteps := 1000000) (disch := omega) only [stepS, reduceIte, Nat.reduceBEq, Nat.reduceEqDiff, tupleOf, stepT, stepX, heapR, lensR, Nat.reduceAdd, Nat.reduceLeDiff, g2, g3, g7, g6e, r1', r2', hll]
        exact ⟨hle, g6⟩
  clear g2 g3 g6 g6e c1
  rintro a B7 ⟨c1, g2, g3, g6⟩
  obtain ⟨z, g6e⟩ : ∃ z, a 6 = z := ⟨_, rfl⟩
  rw [g6e] at g6
  have r1' := c1.row r1
  have r2' := c1.row r2
  have f0 := k0.trans c1
  simp (maxSteps := 1000000) (disch := omega) only [stepS, reduceIte, Nat.reduceBEq, Nat.reduceEqDiff, tupleOf, stepT, stepX, heapR, lensR, Nat.reduceAdd, Nat.reduceLeDiff, g2, g3, g6e, r1', r2']
  refine ref41_words_spec (hl'.le f0) (hl.le f0) (Nat.le_trans wt.2.2.2 (by decide)) (Nat.le_trans ws.2.2.2 (by decide)) ht.2.2.2.2 hs.2.2.2.2 fun u A1 d1 d2 => ?_
  have d0 := c1.trans d1
  have g6' := g6.le d1
  have e8 := wordsD_len (k := 8) (b := s.lines) wt.2.2.2
  obtain ⟨u', A2, q1, q2, q3⟩ := app_list d0 g6' d2 (by simp only [List.length_append]; omega)
  simp (maxSteps := 1000000) (disch := omega) only [stepS, reduceIte, Nat.reduceBEq, Nat.reduceEqDiff, tupleOf, stepT, stepX, heapR, lensR, Nat.reduceAdd, Nat.reduceLeDiff, g2, g3, g6e, q1]
  refine hq1 ts tt _ _ (k0.trans q2) ?_
  have hall : l0 ++ l7 ++ wordsD 8 t.lines s.lines = between s t := by
    unfold between
    rw [hl0, hl1, hl2, hl3, hl4, hl5, hl6, hl7]
    simp only [List.flatten_cons, List.flatten_nil, List.append_nil, List.append_assoc]
  rw [← hall]
  exact OwnD.sl q3
end Go.AS.C


namespace Go.AS.C
open Go Go.Proofs
set_option linter.unusedVariables false
set_option linter.unusedSimpArgs false
set_option maxRecDepth 10000

/-! Rising lists as sets. -/
section
variable {α : Type} {lt eq : α → α → Prop}
theorem pw_of (o : Ord3 lt eq) {l : List α} (h : Adj lt l) : l.Pairwise lt := by
  rw [List.pairwise_iff_getElem]
  intro i j hi hj hij
  exact adj_lt' h o hij (List.getElem?_eq_getElem hi) (List.getElem?_eq_getElem hj)
theorem adj_of {l : List α} (h : l.Pairwise lt) : Adj lt l := by
  rw [List.pairwise_iff_getElem] at h
  intro i x y hx hy
  obtain ⟨hi, rfl⟩ := List.getElem?_eq_some_iff.1 hx
  obtain ⟨hj, rfl⟩ := List.getElem?_eq_some_iff.1 hy
  exact h i (i + 1) hi hj (by omega)
theorem Ord3.irr (o : Ord3 lt eq) (a : α) : ¬ lt a a := o.ne (o.rf a)
theorem pw_ext (o : Ord3 lt eq) : ∀ {l m : List α}, l.Pairwise lt → m.Pairwise lt → (∀ x, x ∈ l ↔ x ∈ m) → l = m
  | [], [], _, _, _ => rfl
  | [], b :: m, _, _, h => absurd ((h b).2 List.mem_cons_self) (by simp)
  | a :: l, [], _, _, h => absurd ((h a).1 List.mem_cons_self) (by simp)
  | a :: l, b :: m, hl, hm, h => by
    rw [List.pairwise_cons] at hl hm
    have hab : a = b := by
      have h1 := (h a).1 List.mem_cons_self
      have h2 := (h b).2 List.mem_cons_self
      rcases List.mem_cons.1 h1 with h1 | h1
      · exact h1
      · rcases List.mem_cons.1 h2 with h2 | h2
        · exact h2.symm
        · exact absurd (o.tr (hm.1 a h1) (hl.1 b h2)) (o.irr b)
    subst hab
    rw [pw_ext o hl.2 hm.2 fun x => ?_]
    constructor
    · intro hx
      rcases List.mem_cons.1 ((h x).1 (List.mem_cons_of_mem _ hx)) with e | e
      · rw [e] at hx; exact absurd (hl.1 a hx) (o.irr a)
      · exact e
    · intro hx
      rcases List.mem_cons.1 ((h x).2 (List.mem_cons_of_mem _ hx)) with e | e
      · rw [e] at hx; exact absurd (hm.1 a hx) (o.irr a)
      · exact e
theorem pw_uniq (o : Ord3 lt eq) {l : List α} (h : l.Pairwise lt) (hsym : ∀ a b, eq a b → eq b a) {x y : α} (hx : x ∈ l) (hy : y ∈ l) (he : eq x y) : x = y := by
  obtain ⟨i, hi⟩ := List.getElem?_of_mem hx
  obtain ⟨j, hj⟩ := List.getElem?_of_mem hy
  have ha := adj_of h
  rcases Nat.lt_trichotomy i j with h1 | h1 | h1
  · exact absurd (adj_lt' ha o h1 hi hj) (o.ne he)
  · subst h1; rw [hi] at hj; injection hj
  · exact absurd (adj_lt' ha o h1 hj hi) (o.ne (hsym _ _ he))
end
theorem notIn_true {α : Type} {b : List α} {x : α} : notIn b x = true ↔ ¬ x ∈ b := by unfold notIn; simp only [decide_eq_true_eq]
theorem lackC_true {b : List CountV} {x : CountV} : lackC b x = true ↔ ¬ ∃ y ∈ b, y.name = x.name := by unfold lackC; simp only [decide_eq_true_eq]; exact Iff.rfl
theorem lackN_true {b : List WordV} {x : WordV} : lackN b x = true ↔ ¬ ∃ y ∈ b, y.name = x.name := by unfold lackN; simp only [decide_eq_true_eq]; exact Iff.rfl
theorem filter_nil {α β : Type} {p : α → Bool} {f : α → β} {l : List α} : (l.filter p).map f = [] ↔ ∀ x ∈ l, ¬ p x = true := by
  rw [List.map_eq_nil_iff, List.filter_eq_nil_iff]
theorem wordsD_nil {k : Int} {a b : List WordV} : wordsD k a b = [] ↔ ∀ x ∈ a, x ∈ b := by
  unfold wordsD
  rw [filter_nil]
  refine forall_congr' fun x => forall_congr' fun _ => ?_
  rw [notIn_true, Classical.not_not]
theorem words_same {a b : List WordV} {j k : Int} (ha : Adj ltWd a) (hb : Adj ltWd b) (h1 : wordsD j a b = []) (h2 : wordsD k b a = []) : a = b :=
  pw_ext ordW (pw_of ordW ha) (pw_of ordW hb) fun x => ⟨wordsD_nil.1 h1 x, wordsD_nil.1 h2 x⟩
theorem counts_same {a b : List CountV} (ha : Adj ltC a) (hb : Adj ltC b) (h1 : ∀ x ∈ a, ¬ lackC b x = true) (h2 : ∀ x ∈ b, ¬ notIn a x = true) : a = b := by
  have pa := pw_of ordC ha
  refine pw_ext ordC pa (pw_of ordC hb) fun x => ⟨fun hx => ?_, fun hx => ?_⟩
  · have h3 := h1 x hx
    rw [lackC_true, Classical.not_not] at h3
    obtain ⟨y, hy, e⟩ := h3
    have h4 := h2 y hy
    rw [notIn_true, Classical.not_not] at h4
    have := pw_uniq ordC pa (fun _ _ h => h.symm) h4 hx e
    rw [← this]; exact hy
  · have h4 := h2 x hx
    rw [notIn_true, Classical.not_not] at h4
    exact h4
theorem lines_same {a b : List WordV} (ha : Adj ltN a) (hb : Adj ltN b) (h1 : ∀ x ∈ a, ¬ lackN b x = true) (h2 : ∀ x ∈ b, ¬ notIn a x = true) : a = b := by
  have pa := pw_of ordN ha
  refine pw_ext ordN pa (pw_of ordN hb) fun x => ⟨fun hx => ?_, fun hx => ?_⟩
  · have h3 := h1 x hx
    rw [lackN_true, Classical.not_not] at h3
    obtain ⟨y, hy, e⟩ := h3
    have h4 := h2 y hy
    rw [notIn_true, Classical.not_not] at h4
    have := pw_uniq ordN pa (fun _ _ h => h.symm) h4 hx e
    rw [← this]; exact hy
  · have h4 := h2 x hx
    rw [notIn_true, Classical.not_not] at h4
    exact h4
theorem wordsD_self {k : Int} (a : List WordV) : wordsD k a a = [] := wordsD_nil.2 fun _ h => h
theorem between_nil {s t : StateV} (hs : TidyS s) (ht : TidyS t) : between s t = [] ↔ s = t := by
  obtain ⟨s1, s2, s3, s4⟩ := hs
  obtain ⟨t1, t2, t3, t4⟩ := ht
  unfold between
  simp only [List.flatten_cons, List.flatten_nil, List.append_nil, List.append_eq_nil_iff]
  constructor
  · rintro ⟨h1, h2, ⟨h3, h4⟩, ⟨h5, h6⟩, h7, h8⟩
    have e1 := counts_same s1 t1 (filter_nil.1 h1) (filter_nil.1 h2)
    have e2 := words_same s2 t2 h3 h4
    have e3 := words_same s3 t3 h5 h6
    have e4 := lines_same s4 t4 (filter_nil.1 h7) (fun x hx => by rw [notIn_true, Classical.not_not]; exact wordsD_nil.1 h8 x hx)
    cases s; cases t
    simp only at e1 e2 e3 e4
    rw [e1, e2, e3, e4]
  · rintro rfl
    refine ⟨filter_nil.2 fun x hx => ?_, filter_nil.2 fun x hx => ?_, ⟨wordsD_self _, wordsD_self _⟩, ⟨wordsD_self _, wordsD_self _⟩, filter_nil.2 fun x hx => ?_, wordsD_self _⟩
    · rw [lackC_true, Classical.not_not]; exact ⟨x, hx, rfl⟩
    · rw [notIn_true, Classical.not_not]; exact hx
    · rw [lackN_true, Classical.not_not]; exact ⟨x, hx, rfl⟩
theorem mem_between {s t : StateV} {d : DeltaV} (h : d ∈ between s t) : (∃ c, (c ∈ s.counts ∨ c ∈ t.counts) ∧ (d = cOutD c ∨ d = cInD c)) ∨ ∃ w k, (w ∈ s.members ∨ w ∈ t.members ∨ w ∈ s.values ∨ w ∈ t.values ∨ w ∈ s.lines ∨ w ∈ t.lines) ∧ 0 ≤ k ∧ k < 10 ∧ (d = wordD k w ∨ d = nameD w) := by
  unfold between at h
  simp only [List.flatten_cons, List.flatten_nil, List.append_nil, List.mem_append, List.mem_map, wordsD, List.mem_filter] at h
  rcases h with ⟨c, ⟨h, _⟩, rfl⟩ | ⟨c, ⟨h, _⟩, rfl⟩ | (⟨w, ⟨h, _⟩, rfl⟩ | ⟨w, ⟨h, _⟩, rfl⟩) | (⟨w, ⟨h, _⟩, rfl⟩ | ⟨w, ⟨h, _⟩, rfl⟩) | ⟨w, ⟨h, _⟩, rfl⟩ | ⟨w, ⟨h, _⟩, rfl⟩
  · exact .inl ⟨c, .inl h, .inl rfl⟩
  · exact .inl ⟨c, .inr h, .inr rfl⟩
  · exact .inr ⟨w, 3, by simp [h], by omega, by omega, .inl rfl⟩
  · exact .inr ⟨w, 4, by simp [h], by omega, by omega, .inl rfl⟩
  · exact .inr ⟨w, 5, by simp [h], by omega, by omega, .inl rfl⟩
  · exact .inr ⟨w, 6, by simp [h], by omega, by omega, .inl rfl⟩
  · exact .inr ⟨w, 0, by simp [h], by omega, by omega, .inr rfl⟩
  · exact .inr ⟨w, 8, by simp [h], by omega, by omega, .inl rfl⟩
end Go.AS.C


namespace Go.AS.C
open Go Go.Proofs
set_option linter.unusedVariables false
set_option linter.unusedSimpArgs false
set_option maxRecDepth 10000

/-! Whether two lists are the same. -/
def FinD (d : DeltaV) : Prop := I64 d.kind ∧ d.name.size ≤ maxLen ∧ d.text.size ≤ maxLen ∧ I64 d.n
theorem deltaE_inj (x y : DeltaV) (h : deltaE x = deltaE y) : x = y := by cases x; cases y; simpa [deltaE] using h
theorem has_delta {d : DeltaV} (h : FinD d) : All2 (fun v k => FK.Has k v) (deltaE d) [.int .i64, .str, .str, .int .i64] := ⟨FK.hasI h.1, h.2.1, h.2.2.1, FK.hasI h.2.2.2, trivial⟩
theorem eqD {A : AH} {a b : DeltaV} (ha : FinD a) (hb : FinD b) : (a = b → sEqagg A true (Try.prog.keyLits 8 35) (.agg #[ii a.kind, .string a.name, .string a.text, ii a.n]) (.agg #[ii b.kind, .string b.name, .string b.text, ii b.n]) = some (.bool false, A)) ∧ (a ≠ b → sEqagg A true (Try.prog.keyLits 8 35) (.agg #[ii a.kind, .string a.name, .string a.text, ii a.n]) (.agg #[ii b.kind, .string b.name, .string b.text, ii b.n]) = some (.bool true, A)) :=
  ⟨fun h => eqagg_flat (b := true) (ks := [.int .i64, .str, .str, .int .i64]) (xs := deltaE a) (ys := deltaE b) (by kernel_rfl) (has_delta ha) (has_delta hb) ⟨fun _ => by rw [h], fun _ => rfl⟩,
   fun h => eqagg_flat (b := false) (ks := [.int .i64, .str, .str, .int .i64]) (xs := deltaE a) (ys := deltaE b) (by kernel_rfl) (has_delta ha) (has_delta hb) ⟨(fun h => by cases h), fun e => absurd (deltaE_inj _ _ e) h⟩⟩
theorem eqC2 {A : AH} {a b : CountV} (ha : FinC a) (hb : FinC b) : (a = b → sEqagg A true (Try.prog.keyLits 8 40) (.agg #[.string a.name, ii a.n]) (.agg #[.string b.name, ii b.n]) = some (.bool false, A)) ∧ (a ≠ b → sEqagg A true (Try.prog.keyLits 8 40) (.agg #[.string a.name, ii a.n]) (.agg #[.string b.name, ii b.n]) = some (.bool true, A)) := eqC ha hb
theorem eqW2 {A : AH} {a b : WordV} (ha : FinW a) (hb : FinW b) : (a = b → sEqagg A true (Try.prog.keyLits 8 42) (.agg #[.string a.name, .string a.text]) (.agg #[.string b.name, .string b.text]) = some (.bool false, A)) ∧ (a ≠ b → sEqagg A true (Try.prog.keyLits 8 42) (.agg #[.string a.name, .string a.text]) (.agg #[.string b.name, .string b.text]) = some (.bool true, A)) := eqW (n := true) ha hb
theorem DeltasA.at {A : AH} {v : Value} {l : List DeltaV} (h : DeltasA A v l) {j : Nat} {w : DeltaV} (hj : l[j]? = some w) : ∃ p, (∀ (B : AH) (n : Int), n = (j : Int) → sIaddr B v (.int .i64 n) 4 = some (p, B)) ∧ ∀ B, Le A B → sLoadn B p 4 = some (.agg #[ii w.kind, .string w.name, .string w.text, ii w.n], B) := by
  obtain ⟨p, _, p1, _, p3⟩ := Sl.el h (deltaE_ok l) (j := j) (e := deltaE w) (by rw [List.getElem?_map, hj]; rfl)
  exact ⟨p, p1, fun B hB => p3 B (fun k b hb _ => hB.get hb)⟩
theorem ref19_Same_spec {A : AH} {v w : Value} {l m : List CountV} {Q : Value → AH → Prop} (hv : CountsA A v l) (hw : CountsA A w m) (rv : ∀ c ∈ l, FinC c) (rw' : ∀ c ∈ m, FinC c) (hl : l.length < 2 ^ 50) (hm : m.length < 2 ^ 50) (hq : ∀ b : Bool, (b = true ↔ l = m) → Q (.bool b) A) : ACalls 0 Try.prog chantryref19_Same [v, w] Q A := by
  refine ACalls.of_fits mixed fits_chantryref19_Same rfl ?_
  unfold ic_chantryref19_Same
  have i0 : initA [v, w] 0 = v := rfl
  have i1 : initA [v, w] 1 = w := rfl
  generalize initA [v, w] = a at i0 i1
  have hvl := hv.len
  have hwl := hw.len
  by_cases hn : l.length = m.length
  · simp (maxSteps := 1000000) (disch := omega) only [stepS, reduceIte, Nat.reduceBEq, Nat.reduceEqDiff, tupleOf, stepT, i0, i1, hvl, hwl]
    refine W_loop (fun a' B => B = A ∧ ∃ k : Nat, k ≤ l.length ∧ l.take k = m.take k ∧ a' 0 = v ∧ a' 1 = w ∧ a' 5 = ii k) (fun a' _ => l.length - (iv (a' 5)).toNat) ?_ ?_
    · refine ⟨rfl, 0, by omega, rfl, ?_⟩
      simp (maxSteps := 1000000) (disch := omega) only [stepS, reduceIte, Nat.reduceBEq, Nat.reduceEqDiff, tupleOf, stepT, i0, i1]
      (all_goals (and_intros <;> first | rfl | assumption | (push_cast; rfl) | (congr 1; omega) | omega | (simp; done)))
    · rintro a2 B ⟨rfl, k, hk, hn2, g0, g1, g5⟩
      rcases Nat.lt_or_ge k l.length with hlt | hge
      · obtain ⟨s, hs⟩ := get_some hlt
        obtain ⟨t, ht⟩ := get_some (l := m) (k := k) (by omega)
        obtain ⟨p, p1, p2⟩ := hv.at hs
        have p3 := p2 B (.refl _)
        obtain ⟨q, q1, q2⟩ := hw.at ht
        have q3 := q2 B (.refl _)
        by_cases hst : s = t
        · have hd := (eqC2 (A := B) (rv s (List.mem_of_getElem? hs)) (rw' t (List.mem_of_getElem? ht))).1 hst
          simp (maxSteps := 1000000) (disch := omega) only [stepS, reduceIte, Nat.reduceBEq, Nat.reduceEqDiff, tupleOf, stepT, g0, g1, g5, hvl, hwl, p1, p3, q1, q3, hd]
          refine ⟨⟨k + 1, by omega, ?_, rfl⟩, by omega⟩
          rw [List.take_add_one, List.take_add_one, hs, ht, hn2, hst]
        · have hd := (eqC2 (A := B) (rv s (List.mem_of_getElem? hs)) (rw' t (List.mem_of_getElem? ht))).2 hst
          simp (maxSteps := 1000000) (disch := omega) only [stepS, reduceIte, Nat.reduceBEq, Nat.reduceEqDiff, tupleOf, stepT, g0, g1, g5, hvl, hwl, p1, p3, q1, q3, hd]
          exact hq false ⟨(fun h => by cases h), fun h => by subst h; rw [hs] at ht; injection ht with ht; exact absurd ht hst⟩
      · rw [List.take_of_length_le hge, List.take_of_length_le (by omega)] at hn2
        simp (maxSteps := 1000000) (disch := omega) only [stepS, reduceIte, Nat.reduceBEq, Nat.reduceEqDiff, tupleOf, stepT, g0, g1, g5, hvl]
        exact hq true ⟨fun _ => hn2, fun _ => rfl⟩
  · simp (maxSteps := 1000000) (disch := omega) only [stepS, reduceIte, Nat.reduceBEq, Nat.reduceEqDiff, tupleOf, stepT, i0, i1, hvl, hwl]
    exact hq false ⟨(fun h => by cases h), fun h => absurd (by rw [h]) hn⟩
theorem ref20_SameWords_spec {A : AH} {v w : Value} {l m : List WordV} {Q : Value → AH → Prop} (hv : WordsA A v l) (hw : WordsA A w m) (rv : ∀ c ∈ l, FinW c) (rw' : ∀ c ∈ m, FinW c) (hl : l.length < 2 ^ 50) (hm : m.length < 2 ^ 50) (hq : ∀ b : Bool, (b = true ↔ l = m) → Q (.bool b) A) : ACalls 0 Try.prog chantryref20_SameWords [v, w] Q A := by
  refine ACalls.of_fits mixed fits_chantryref20_SameWords rfl ?_
  unfold ic_chantryref20_SameWords
  have i0 : initA [v, w] 0 = v := rfl
  have i1 : initA [v, w] 1 = w := rfl
  generalize initA [v, w] = a at i0 i1
  have hvl := hv.len
  have hwl := hw.len
  by_cases hn : l.length = m.length
  · simp (maxSteps := 1000000) (disch := omega) only [stepS, reduceIte, Nat.reduceBEq, Nat.reduceEqDiff, tupleOf, stepT, i0, i1, hvl, hwl]
    refine W_loop (fun a' B => B = A ∧ ∃ k : Nat, k ≤ l.length ∧ l.take k = m.take k ∧ a' 0 = v ∧ a' 1 = w ∧ a' 5 = ii k) (fun a' _ => l.length - (iv (a' 5)).toNat) ?_ ?_
    · refine ⟨rfl, 0, by omega, rfl, ?_⟩
      simp (maxSteps := 1000000) (disch := omega) only [stepS, reduceIte, Nat.reduceBEq, Nat.reduceEqDiff, tupleOf, stepT, i0, i1]
      (all_goals (and_intros <;> first | rfl | assumption | (push_cast; rfl) | (congr 1; omega) | omega | (simp; done)))
    · rintro a2 B ⟨rfl, k, hk, hn2, g0, g1, g5⟩
      rcases Nat.lt_or_ge k l.length with hlt | hge
      · obtain ⟨s, hs⟩ := get_some hlt
        obtain ⟨t, ht⟩ := get_some (l := m) (k := k) (by omega)
        obtain ⟨p, p1, p2⟩ := hv.at hs
        have p3 := p2 B (.refl _)
        obtain ⟨q, q1, q2⟩ := hw.at ht
        have q3 := q2 B (.refl _)
        by_cases hst : s = t
        · have hd := (eqW2 (A := B) (rv s (List.mem_of_getElem? hs)) (rw' t (List.mem_of_getElem? ht))).1 hst
          simp (maxSteps := 1000000) (disch := omega) only [stepS, reduceIte, Nat.reduceBEq, Nat.reduceEqDiff, tupleOf, stepT, g0, g1, g5, hvl, hwl, p1, p3, q1, q3, hd]
          refine ⟨⟨k + 1, by omega, ?_, rfl⟩, by omega⟩
          rw [List.take_add_one, List.take_add_one, hs, ht, hn2, hst]
        · have hd := (eqW2 (A := B) (rv s (List.mem_of_getElem? hs)) (rw' t (List.mem_of_getElem? ht))).2 hst
          simp (maxSteps := 1000000) (disch := omega) only [stepS, reduceIte, Nat.reduceBEq, Nat.reduceEqDiff, tupleOf, stepT, g0, g1, g5, hvl, hwl, p1, p3, q1, q3, hd]
          exact hq false ⟨(fun h => by cases h), fun h => by subst h; rw [hs] at ht; injection ht with ht; exact absurd ht hst⟩
      · rw [List.take_of_length_le hge, List.take_of_length_le (by omega)] at hn2
        simp (maxSteps := 1000000) (disch := omega) only [stepS, reduceIte, Nat.reduceBEq, Nat.reduceEqDiff, tupleOf, stepT, g0, g1, g5, hvl]
        exact hq true ⟨fun _ => hn2, fun _ => rfl⟩
  · simp (maxSteps := 1000000) (disch := omega) only [stepS, reduceIte, Nat.reduceBEq, Nat.reduceEqDiff, tupleOf, stepT, i0, i1, hvl, hwl]
    exact hq false ⟨(fun h => by cases h), fun h => absurd (by rw [h]) hn⟩
theorem ref23_Same_spec {A : AH} {x y : Value} {s t : StateV} {Q : Value → AH → Prop} (hx : StateA A x s) (hy : StateA A y t) (hs : FinS s) (ht : FinS t) (hq : ∀ b : Bool, (b = true ↔ s = t) → Q (.bool b) A) : ACalls 0 Try.prog chantryref23_Same [x, y] Q A := by
  refine ACalls.pure (S := fun v => ∃ b : Bool, v = .bool b ∧ (b = true ↔ s = t)) (fun v ⟨b, e, h⟩ => by rw [e]; exact hq b h) ?_
  obtain ⟨c, m, v, l, rfl, hc, hm, hv, hl⟩ := hx
  obtain ⟨c', m', v', l', rfl, hc', hm', hv', hl'⟩ := hy
  refine ACalls.of_fits mixed fits_chantryref23_Same rfl ?_
  unfold ic_chantryref23_Same
  have i0 : initA [.agg #[c, m, v, l], .agg #[c', m', v', l']] 0 = .agg #[c, m, v, l] := rfl
  have i1 : initA [.agg #[c, m, v, l], .agg #[c', m', v', l']] 1 = .agg #[c', m', v', l'] := rfl
  generalize initA [.agg #[c, m, v, l], .agg #[c', m', v', l']] = a at i0 i1
  have oc := (Sl.one1 hc).2
  have om := (Sl.one1 hm).2
  have ov := (Sl.one1 hv).2
  have ol := (Sl.one1 hl).2
  have oc' := (Sl.one1 hc').2
  have om' := (Sl.one1 hm').2
  have ov' := (Sl.one1 hv').2
  have ol' := (Sl.one1 hl').2
  refine W_mid (fun a B => B = A ++ [.row [c, m, v, l] .own 0 true] ++ [.row [c', m', v', l'] .own 0 true] ∧ a 2 = ptr A.length ∧ a 3 = ptr (A.length + 1)) ?_ ?_
  · simp (maxSteps := 1000000) (disch := omega) only [stepS, reduceIte, Nat.reduceBEq, Nat.reduceEqDiff, tupleOf, stepT, stepX, heapR, lensR, Nat.reduceAdd, Nat.reduceLeDiff, i0, i1, oc, om, ov, ol, oc', om', ov', ol']
  rintro a B0 ⟨hB, g2, g3⟩
  have k0 : Le A B0 := by rw [hB]; exact (Le.push _ _).trans (.push _ _)
  have r1 : rowAt B0 A.length = some ([c, m, v, l], .own, 0, true) := by rw [hB]; exact (Le.push _ _).row (rowAt_own (get_last _ _))
  have r2 : rowAt B0 (A.length + 1) = some ([c', m', v', l'], .own, 0, true) := by
    rw [hB]
    have := rowAt_own (get_last (A ++ [Blk.row [c, m, v, l] .own 0 true]) (.row [c', m', v', l'] .own 0 true))
    simpa using this
  clear i0 i1 hB
  obtain ⟨⟨sc, sc2⟩, ⟨sm, sm2⟩, ⟨sv, sv2⟩, ⟨sl, sl2⟩⟩ := hs
  obtain ⟨⟨tc, tc2⟩, ⟨tm, tm2⟩, ⟨tv, tv2⟩, ⟨tl, tl2⟩⟩ := ht
  have fin : ∀ b1 b2 b3 b4 : Bool, (b1 = true ↔ s.counts = t.counts) → (b2 = true ↔ s.members = t.members) → (b3 = true ↔ s.values = t.values) → (b4 = true ↔ s.lines = t.lines) → ((b1 && b2 && b3 && b4) = true ↔ s = t) := by
    intro b1 b2 b3 b4 h1 h2 h3 h4
    cases s; cases t
    simp only at h1 h2 h3 h4
    simp only [Bool.and_eq_true, h1, h2, h3, h4, StateV.mk.injEq, and_assoc]
  have no : ∀ {p : Prop}, (false = true ↔ p) → (false = true ↔ p) := fun h => h
  have nn : ∀ {α : Type} (f : StateV → α), (false = true ↔ f s = f t) → (false = true ↔ s = t) := fun f h => ⟨(fun h => by cases h), fun e => by rw [e] at h; exact h.2 rfl⟩
  simp (maxSteps := 1000000) (disch := omega) only [stepS, reduceIte, Nat.reduceBEq, Nat.reduceEqDiff, tupleOf, stepT, stepX, heapR, lensR, Nat.reduceAdd, Nat.reduceLeDiff, g2, g3, r1, r2]
  refine ref19_Same_spec (hc.le k0) (hc'.le k0) sc2 tc2 (by omega) (by omega) fun b1 h1 => ?_
  cases b1 with
  | false =>
    simp (maxSteps := 1000000) (disch := omega) only [stepS, reduceIte, Nat.reduceBEq, Nat.reduceEqDiff, tupleOf, stepT, stepX, heapR, lensR, Nat.reduceAdd, Nat.reduceLeDiff, g2, g3, r1, r2]
    exact ⟨k0, rfl, false, rfl, nn StateV.counts h1⟩
  | true =>
  simp (maxSteps := 1000000) (disch := omega) only [stepS, reduceIte, Nat.reduceBEq, Nat.reduceEqDiff, tupleOf, stepT, stepX, heapR, lensR, Nat.reduceAdd, Nat.reduceLeDiff, g2, g3, r1, r2]
  refine ref20_SameWords_spec (hm.le k0) (hm'.le k0) sm2 tm2 (by omega) (by omega) fun b2 h2 => ?_
  cases b2 with
  | false =>
    simp (maxSteps := 1000000) (disch := omega) only [stepS, reduceIte, Nat.reduceBEq, Nat.reduceEqDiff, tupleOf, stepT, stepX, heapR, lensR, Nat.reduceAdd, Nat.reduceLeDiff, g2, g3, r1, r2]
    exact ⟨k0, rfl, false, rfl, nn StateV.members h2⟩
  | true =>
  simp (maxSteps := 1000000) (disch := omega) only [stepS, reduceIte, Nat.reduceBEq, Nat.reduceEqDiff, tupleOf, stepT, stepX, heapR, lensR, Nat.reduceAdd, Nat.reduceLeDiff, g2, g3, r1, r2]
  refine ref20_SameWords_spec (hv.le k0) (hv'.le k0) sv2 tv2 (by omega) (by omega) fun b3 h3 => ?_
  cases b3 with
  | false =>
    simp (maxSteps := 1000000) (disch := omega) only [stepS, reduceIte, Nat.reduceBEq, Nat.reduceEqDiff, tupleOf, stepT, stepX, heapR, lensR, Nat.reduceAdd, Nat.reduceLeDiff, g2, g3, r1, r2]
    exact ⟨k0, rfl, false, rfl, nn StateV.values h3⟩
  | true =>
  simp (maxSteps := 1000000) (disch := omega) only [stepS, reduceIte, Nat.reduceBEq, Nat.reduceEqDiff, tupleOf, stepT, stepX, heapR, lensR, Nat.reduceAdd, Nat.reduceLeDiff, g2, g3, r1, r2]
  refine ref20_SameWords_spec (hl.le k0) (hl'.le k0) sl2 tl2 (by omega) (by omega) fun b4 h4 => ?_
  cases b4 with
  | false =>
    simp (maxSteps := 1000000) (disch := omega) only [stepS, reduceIte, Nat.reduceBEq, Nat.reduceEqDiff, tupleOf, stepT, stepX, heapR, lensR, Nat.reduceAdd, Nat.reduceLeDiff, g2, g3, r1, r2]
    exact ⟨k0, rfl, false, rfl, nn StateV.lines h4⟩
  | true =>
    simp (maxSteps := 1000000) (disch := omega) only [stepS, reduceIte, Nat.reduceBEq, Nat.reduceEqDiff, tupleOf, stepT, stepX, heapR, lensR, Nat.reduceAdd, Nat.reduceLeDiff, g2, g3, r1, r2]
    exact ⟨k0, rfl, true, rfl, fin true true true true h1 h2 h3 h4⟩
theorem ref41_Same_spec {A : AH} {v w : Value} {l m : List DeltaV} {Q : Value → AH → Prop} (hv : DeltasA A v l) (hw : DeltasA A w m) (rv : ∀ c ∈ l, FinD c) (rw' : ∀ c ∈ m, FinD c) (hl : l.length < 2 ^ 50) (hm : m.length < 2 ^ 50) (hq : ∀ b : Bool, (b = true ↔ l = m) → Q (.bool b) A) : ACalls 0 Try.prog chantryref41_Same [v, w] Q A := by
  refine ACalls.of_fits mixed fits_chantryref41_Same rfl ?_
  unfold ic_chantryref41_Same
  have i0 : initA [v, w] 0 = v := rfl
  have i1 : initA [v, w] 1 = w := rfl
  generalize initA [v, w] = a at i0 i1
  have hvl := hv.len
  have hwl := hw.len
  by_cases hn : l.length = m.length
  · simp (maxSteps := 1000000) (disch := omega) only [stepS, reduceIte, Nat.reduceBEq, Nat.reduceEqDiff, tupleOf, stepT, i0, i1, hvl, hwl]
    refine W_loop (fun a' B => B = A ∧ ∃ k : Nat, k ≤ l.length ∧ l.take k = m.take k ∧ a' 0 = v ∧ a' 1 = w ∧ a' 5 = ii k) (fun a' _ => l.length - (iv (a' 5)).toNat) ?_ ?_
    · refine ⟨rfl, 0, by omega, rfl, ?_⟩
      simp (maxSteps := 1000000) (disch := omega) only [stepS, reduceIte, Nat.reduceBEq, Nat.reduceEqDiff, tupleOf, stepT, i0, i1]
      (all_goals (and_intros <;> first | rfl | assumption | (push_cast; rfl) | (congr 1; omega) | omega | (simp; done)))
    · rintro a2 B ⟨rfl, k, hk, hn2, g0, g1, g5⟩
      rcases Nat.lt_or_ge k l.length with hlt | hge
      · obtain ⟨s, hs⟩ := get_some hlt
        obtain ⟨t, ht⟩ := get_some (l := m) (k := k) (by omega)
        obtain ⟨p, p1, p2⟩ := hv.at hs
        have p3 := p2 B (.refl _)
        obtain ⟨q, q1, q2⟩ := hw.at ht
        have q3 := q2 B (.refl _)
        by_cases hst : s = t
        · have hd := (eqD (A := B) (rv s (List.mem_of_getElem? hs)) (rw' t (List.mem_of_getElem? ht))).1 hst
          simp (maxSteps := 1000000) (disch := omega) only [stepS, reduceIte, Nat.reduceBEq, Nat.reduceEqDiff, tupleOf, stepT, g0, g1, g5, hvl, hwl, p1, p3, q1, q3, hd]
          refine ⟨⟨k + 1, by omega, ?_, rfl⟩, by omega⟩
          rw [List.take_add_one, List.take_add_one, hs, ht, hn2, hst]
        · have hd := (eqD (A := B) (rv s (List.mem_of_getElem? hs)) (rw' t (List.mem_of_getElem? ht))).2 hst
          simp (maxSteps := 1000000) (disch := omega) only [stepS, reduceIte, Nat.reduceBEq, Nat.reduceEqDiff, tupleOf, stepT, g0, g1, g5, hvl, hwl, p1, p3, q1, q3, hd]
          exact hq false ⟨(fun h => by cases h), fun h => by subst h; rw [hs] at ht; injection ht with ht; exact absurd ht hst⟩
      · rw [List.take_of_length_le hge, List.take_of_length_le (by omega)] at hn2
        simp (maxSteps := 1000000) (disch := omega) only [stepS, reduceIte, Nat.reduceBEq, Nat.reduceEqDiff, tupleOf, stepT, g0, g1, g5, hvl]
        exact hq true ⟨fun _ => hn2, fun _ => rfl⟩
  · simp (maxSteps := 1000000) (disch := omega) only [stepS, reduceIte, Nat.reduceBEq, Nat.reduceEqDiff, tupleOf, stepT, i0, i1, hvl, hwl]
    exact hq false ⟨(fun h => by cases h), fun h => absurd (by rw [h]) hn⟩
end Go.AS.C


namespace Go.AS.C
open Go Go.Proofs
set_option linter.unusedVariables false
set_option linter.unusedSimpArgs false
set_option maxRecDepth 10000

def SmallW (w : WordV) : Prop := w.name.size ≤ 60 ∧ w.text.size ≤ 100
def SmallS0 (s : StateV) : Prop := (s.counts.length ≤ 20 ∧ ∀ w ∈ s.counts, w.name.size ≤ 60) ∧ (s.members.length ≤ 20 ∧ ∀ w ∈ s.members, SmallW w) ∧ (s.values.length ≤ 20 ∧ ∀ w ∈ s.values, SmallW w) ∧ (s.lines.length ≤ 20 ∧ ∀ w ∈ s.lines, SmallW w)
def LargeA (s : StateV) (v : Value) : Prop := ∃ b, v = .bool b ∧ (b = false → SmallS0 s)
theorem large_spec {A : AH} {x : Value} {s : StateV} {Q : Value → AH → Prop} (hx : StateA A x s) (hq : ∀ b : Bool, (b = false → SmallS0 s) → Q (.bool b) A) : ACalls 0 Try.prog chantrylaw41_large [x] Q A := by
  refine ACalls.pure (S := LargeA s) (fun v ⟨b, e, h⟩ => by rw [e]; exact hq b h) ?_
  have big : LargeA s (.bool true) := ⟨true, rfl, fun h => by cases h⟩
  obtain ⟨c, m, v, l, rfl, hc, hm, hv, hl⟩ := hx
  refine ACalls.of_fits mixed fits_chantrylaw41_large rfl ?_
  unfold ic_chantrylaw41_large
  have i0 : initA [.agg #[c, m, v, l]] 0 = .agg #[c, m, v, l] := rfl
  generalize initA [.agg #[c, m, v, l]] = a at i0
  have oc := (Sl.one1 hc).2
  have om := (Sl.one1 hm).2
  have ov := (Sl.one1 hv).2
  have ol := (Sl.one1 hl).2
  refine W_mid (fun a B => B = A ++ [.row [c, m, v, l] .own 0 true] ∧ a 1 = ptr A.length) ?_ ?_
  · simp (maxSteps := 1000000) (disch := omega) only [stepS, reduceIte, Nat.reduceBEq, Nat.reduceEqDiff, tupleOf, stepT, stepX, heapR, lensR, Nat.reduceAdd, Nat.reduceLeDiff, i0, oc, om, ov, ol]
  rintro a B0 ⟨hB, g1⟩
  have k0 : Le A B0 := by rw [hB]; exact .push _ _
  have r1 : rowAt B0 A.length = some ([c, m, v, l], .own, 0, true) := by rw [hB]; exact rowAt_own (get_last _ _)
  clear i0 hB
  have lc := hc.len
  have lm := hm.len
  have lv := hv.len
  have ll := hl.len
  refine W_midR (fun a B => (s.counts.length ≤ 20 ∧ s.members.length ≤ 20 ∧ s.values.length ≤ 20 ∧ s.lines.length ≤ 20) ∧ B = B0 ∧ a 1 = ptr A.length) ?_ ?_
  · by_cases h1 : s.counts.length ≤ 20
    · by_cases h2 : s.members.length ≤ 20
      · by_cases h3 : s.values.length ≤ 20
        · by_cases h4 : s.lines.length ≤ 20
          · simp (maxSteps := 1000000) (disch := omega) only [stepS, reduceIte, Nat.reduceBEq, Nat.reduceEqDiff, tupleOf, stepT, stepX, heapR, lensR, Nat.reduceAdd, Nat.reduceLeDiff, g1, r1, lc, lm, lv, ll, reduceCtorEq, false_and, or_false, true_and]
            all_goals exact ⟨h1, h2, h3, h4⟩
          · simp (maxSteps := 1000000) (disch := omega) only [stepS, reduceIte, Nat.reduceBEq, Nat.reduceEqDiff, tupleOf, stepT, stepX, heapR, lensR, Nat.reduceAdd, Nat.reduceLeDiff, g1, r1, lc, lm, lv, ll, reduceCtorEq, false_and, false_or, true_and]
            exact ⟨k0, rfl, big⟩
        · simp (maxSteps := 1000000) (disch := omega) only [stepS, reduceIte, Nat.reduceBEq, Nat.reduceEqDiff, tupleOf, stepT, stepX, heapR, lensR, Nat.reduceAdd, Nat.reduceLeDiff, g1, r1, lc, lm, lv, ll, reduceCtorEq, false_and, false_or, true_and]
          exact ⟨k0, rfl, big⟩
      · simp (maxSteps := 1000000) (disch := omega) only [stepS, reduceIte, Nat.reduceBEq, Nat.reduceEqDiff, tupleOf, stepT, stepX, heapR, lensR, Nat.reduceAdd, Nat.reduceLeDiff, g1, r1, lc, lm, lv, ll, reduceCtorEq, false_and, false_or, true_and]
        exact ⟨k0, rfl, big⟩
    · simp (maxSteps := 1000000) (disch := omega) only [stepS, reduceIte, Nat.reduceBEq, Nat.reduceEqDiff, tupleOf, stepT, stepX, heapR, lensR, Nat.reduceAdd, Nat.reduceLeDiff, g1, r1, lc, lm, lv, ll, reduceCtorEq, false_and, false_or, true_and]
      exact ⟨k0, rfl, big⟩
  rintro a B1 ⟨⟨b1, b2, b3, b4⟩, hB, g1⟩
  obtain rfl : B0 = B1 := hB.symm
  clear hB
  refine W_midR (fun a B => (∀ w ∈ s.counts, w.name.size ≤ 60) ∧ B = B0 ∧ a 1 = ptr A.length) ?_ ?_
  · simp (maxSteps := 1000000) (disch := omega) only [stepS, reduceIte, Nat.reduceBEq, Nat.reduceEqDiff, tupleOf, stepT, g1]
    refine W_loop (fun a' D => ∃ j : Nat, j ≤ s.counts.length ∧ D = B0 ∧ a' 1 = ptr A.length ∧ a' 3 = ii j ∧ ∀ w ∈ s.counts.take j, w.name.size ≤ 60) (fun a' _ => s.counts.length - (iv (a' 3)).toNat) ?_ ?_
    · refine ⟨0, Nat.zero_le _, rfl, ?_⟩
      simp (maxSteps := 1000000) (disch := omega) only [stepS, reduceIte, Nat.reduceBEq, Nat.reduceEqDiff, tupleOf, stepT, g1]
      simp
    · rintro a2 D ⟨j, hj, hD, g1, g3, hs⟩
      obtain rfl : B0 = D := hD.symm
      clear hD
      rcases Nat.lt_or_ge j s.counts.length with hlt | hge
      · obtain ⟨w, hw⟩ := get_some hlt
        obtain ⟨p, q, p1, p2, p3⟩ := hc.fld hw (o := 0) (x := .string w.name) rfl
        have p4 := p3 B0 k0
        have htk : s.counts.take (j + 1) = s.counts.take j ++ [w] := by rw [List.take_add_one, hw]; rfl
        by_cases h5 : w.name.size ≤ 60
        · simp (maxSteps := 1000000) (disch := omega) only [stepS, reduceIte, Nat.reduceBEq, Nat.reduceEqDiff, tupleOf, stepT, stepX, heapR, lensR, Nat.reduceAdd, Nat.reduceLeDiff, g1, g3, lc, r1, p1, p2, p4]
          refine ⟨⟨j + 1, by omega, rfl, fun x hx => ?_⟩, by omega⟩
          rw [htk, List.mem_append, List.mem_singleton] at hx
          rcases hx with hx | rfl
          · exact hs x hx
          · exact h5
        · simp (maxSteps := 1000000) (disch := omega) only [stepS, reduceIte, Nat.reduceBEq, Nat.reduceEqDiff, tupleOf, stepT, stepX, heapR, lensR, Nat.reduceAdd, Nat.reduceLeDiff, g1, g3, lc, r1, p1, p2, p4]
          exact .inr ⟨k0, rfl, big⟩
      · simp (maxSteps := 1000000) (disch := omega) only [stepS, reduceIte, Nat.reduceBEq, Nat.reduceEqDiff, tupleOf, stepT, stepX, heapR, lensR, Nat.reduceAdd, Nat.reduceLeDiff, g1, g3, lc, r1]
        rw [List.take_of_length_le hge] at hs
        exact .inl hs
  rintro a B1 ⟨b5, hB, g1⟩
  obtain rfl : B0 = B1 := hB.symm
  clear hB
  have l0 : sLit B0 [.string ⟨#[]⟩, .string ⟨#[]⟩] 2 0 [] = some (.slice (some ⟨B0.length, 0, none⟩) 0 0, B0 ++ [.row [] .own 2 true]) := rfl
  have k1 : Le B0 (B0 ++ [.row [] .own 2 true]) := .push _ _
  have w0 : OwnE B0.length (B0 ++ [.row [] .own 2 true]) 2 (.slice (some ⟨B0.length, 0, none⟩) 0 0) [] :=
    ⟨fun e he => (by cases he), rfl, .inr (.inr ⟨B0.length, 0, 0, [], true, rfl, Nat.le_refl _, Nat.le_refl _, by simp, by simp, fun j hj => by simp at hj⟩)⟩
  obtain ⟨x1, D1, q1, j1, w1, e1⟩ := OwnE.app (bytes := 32) k1 w0 (hm.le (k0.trans k1)) (wordE_ok _) (by decide) (by rw [List.length_map]; simp; omega) (by decide)
  obtain ⟨x2, D2, q2, j2, w2, e2⟩ := OwnE.app (bytes := 32) j1 w1 (hv.le (k0.trans j1)) (wordE_ok _) (by decide) (by simp; omega) (by decide)
  obtain ⟨x3, D3, q3, j3, w3, e3⟩ := OwnE.app (bytes := 32) j2 w2 (hl.le (k0.trans j2)) (wordE_ok _) (by decide) (by simp; omega) (by decide)
  have hA := lt_of_get (rowAt_get r1)
  have low : ∀ {D : AH} {x : Value} {n : Nat} {cs : List Value}, OwnS B0.length D 2 x n cs → ∀ k ∈ [A.length, A.length, A.length], k ∉ blkOf x := fun h k hk hm => by
    have h1 := (OwnS.ge h k hm).1
    simp only [List.mem_cons, List.not_mem_nil, or_false, or_self] at hk
    omega
  have rd1 := e1.rd (low w0.2)
  have rd2 := e2.rd (low w1.2)
  refine W_mid (fun a B => B = D3 ∧ a 4 = x3) ?_ ?_
  · simp (maxSteps := 1000000) (disch := omega) only [stepS, reduceIte, Nat.reduceBEq, Nat.reduceEqDiff, tupleOf, stepT, stepX, heapR, lensR, Nat.reduceAdd, Nat.reduceLeDiff, g1, r1, l0, q1, q2, q3]
    exact ⟨rd1, rd2⟩
  rintro a B ⟨hB, g4⟩
  subst hB
  have hWL : WordsA B x3 (s.members ++ s.values ++ s.lines) := by
    unfold WordsA
    rw [List.map_append, List.map_append]
    exact w3.2.sl
  have lw := hWL.len
  have kB := k0.trans j3
  refine W_midR (fun a B' => B' = B ∧ (∀ w ∈ s.members ++ s.values ++ s.lines, SmallW w)) ?_ ?_
  · simp (maxSteps := 1000000) (disch := omega) only [stepS, reduceIte, Nat.reduceBEq, Nat.reduceEqDiff, tupleOf, stepT, g4]
    generalize hW : s.members ++ s.values ++ s.lines = ws at *
    have hwl : ws.length ≤ 90 := by rw [← hW]; simp; omega
    refine W_loop (fun a' D => ∃ j : Nat, j ≤ ws.length ∧ D = B ∧ a' 4 = x3 ∧ a' 5 = ii j ∧ ∀ w ∈ ws.take j, SmallW w) (fun a' _ => ws.length - (iv (a' 5)).toNat) ?_ ?_
    · refine ⟨0, Nat.zero_le _, rfl, ?_⟩
      simp (maxSteps := 1000000) (disch := omega) only [stepS, reduceIte, Nat.reduceBEq, Nat.reduceEqDiff, tupleOf, stepT, g4]
      simp
    · rintro a2 D ⟨j, hj, hD, g4, g5, hs⟩
      subst hD
      rcases Nat.lt_or_ge j ws.length with hlt | hge
      · obtain ⟨w, hw⟩ := get_some hlt
        obtain ⟨p, q, p1, p2, p3⟩ := hWL.fld hw (o := 0) (x := .string w.name) rfl
        obtain ⟨p', q', u1, u2, u3⟩ := hWL.fld hw (o := 1) (x := .string w.text) rfl
        have e : p' = p := by
          have h1 := p1 D j rfl
          rw [u1 D j rfl] at h1
          injection h1 with h1
          injection h1 with h1 _
        subst e
        have p4 := p3 D (.refl _)
        have u4 := u3 D (.refl _)
        have htk : ws.take (j + 1) = ws.take j ++ [w] := by rw [List.take_add_one, hw]; rfl
        by_cases h5 : w.name.size ≤ 60
        · by_cases h6 : w.text.size ≤ 100
          · simp (maxSteps := 1000000) (disch := omega) only [stepS, reduceIte, Nat.reduceBEq, Nat.reduceEqDiff, tupleOf, stepT, stepX, heapR, lensR, Nat.reduceAdd, Nat.reduceLeDiff, g4, g5, lw, p1, p2, p4, u2, u4]
            refine ⟨⟨j + 1, by omega, rfl, fun x hx => ?_⟩, by omega⟩
            rw [htk, List.mem_append, List.mem_singleton] at hx
            rcases hx with hx | rfl
            · exact hs x hx
            · exact ⟨h5, h6⟩
          · simp (maxSteps := 1000000) (disch := omega) only [stepS, reduceIte, Nat.reduceBEq, Nat.reduceEqDiff, tupleOf, stepT, stepX, heapR, lensR, Nat.reduceAdd, Nat.reduceLeDiff, g4, g5, lw, p1, p2, p4, u2, u4]
            exact .inr ⟨kB, rfl, big⟩
        · simp (maxSteps := 1000000) (disch := omega) only [stepS, reduceIte, Nat.reduceBEq, Nat.reduceEqDiff, tupleOf, stepT, stepX, heapR, lensR, Nat.reduceAdd, Nat.reduceLeDiff, g4, g5, lw, p1, p2, p4]
          exact .inr ⟨kB, rfl, big⟩
      · simp (maxSteps := 1000000) (disch := omega) only [stepS, reduceIte, Nat.reduceBEq, Nat.reduceEqDiff, tupleOf, stepT, stepX, heapR, lensR, Nat.reduceAdd, Nat.reduceLeDiff, g4, g5, lw]
        rw [List.take_of_length_le hge] at hs
        exact .inl hs
  rintro a B' ⟨hB, hall⟩
  subst hB
  simp (maxSteps := 1000000) (disch := omega) only [stepS, reduceIte, Nat.reduceBEq, Nat.reduceEqDiff, tupleOf, stepT]
  exact ⟨kB, rfl, false, rfl, fun _ => ⟨⟨b1, b5⟩, ⟨b2, fun w hw => hall w (by simp [hw])⟩, ⟨b3, fun w hw => hall w (by simp [hw])⟩, b4, fun w hw => hall w (by simp [hw])⟩⟩
end Go.AS.C


-- Printed by tab.py (wip/tools): all abstract codes of the chapter, as one table.
namespace Go.AS.C
open Go Go.Proofs
set_option maxRecDepth 100000
noncomputable def tab : List (Nat × CodeE) := [
  (chantrylaw41_DiffBetween, ⟨ic_chantrylaw41_DiffBetween, [.tmp 4], 2⟩),
  (chantrylaw41_DiffApplies, ⟨ic_chantrylaw41_DiffApplies, [.tmp 6], 3⟩),
  (chantrylaw41_DiffBack, ⟨ic_chantrylaw41_DiffBack, [.tmp 4], 2⟩),
  (chantrylaw41_large, ⟨ic_chantrylaw41_large, [.tmp 2], 1⟩),
  (chantrylaw41_awake, ⟨ic_chantrylaw41_awake, [.tmp 0], 0⟩),
  (diff_Between, ⟨ic_diff_Between, [.tmp 4, .tmp 5], 2⟩),
  (chantryref41_Between, ⟨ic_chantryref41_Between, [.tmp 4, .tmp 5], 2⟩),
  (chantryref41_Same, ⟨ic_chantryref41_Same, [.tmp 4], 2⟩),
  (diff_Tidy, ⟨ic_diff_Tidy, [.tmp 2], 1⟩),
  (chantryref41_Tidy, ⟨ic_chantryref41_Tidy, [.tmp 2], 1⟩),
  (chantryref23_Same, ⟨ic_chantryref23_Same, [.tmp 4], 2⟩),
  (diff_Apply, ⟨ic_diff_Apply, [.many 4 4, .tmp 5], 2⟩),
  (chantryref41_Apply, ⟨ic_chantryref41_Apply, [.many 4 4, .tmp 5], 2⟩),
  (diff_Same, ⟨ic_diff_Same, [.tmp 4], 2⟩),
  (api_Delta, ⟨ic_api_Delta, [.tmp 2], 1⟩),
  (api_Count, ⟨ic_api_Count, [.tmp 10], 5⟩),
  (diff_byCount, ⟨ic_diff_byCount, [.tmp 4], 2⟩),
  (diff_Between_1, ⟨ic_diff_Between_1, [.many 2 4], 1⟩),
  (diff_Between_2, ⟨ic_diff_Between_2, [.many 2 4], 1⟩),
  (diff_words, ⟨ic_diff_words, [.tmp 8], 4⟩),
  (api_Word, ⟨ic_api_Word, [.tmp 10], 5⟩),
  (diff_byName, ⟨ic_diff_byName, [.tmp 4], 2⟩),
  (diff_Between_3, ⟨ic_diff_Between_3, [.many 2 4], 1⟩),
  (diff_Between_4, ⟨ic_diff_Between_4, [.many 2 4], 1⟩),
  (chantryref41_counted, ⟨ic_chantryref41_counted, [.tmp 4], 2⟩),
  (chantryref41_words, ⟨ic_chantryref41_words, [.tmp 6], 3⟩),
  (chantryref41_named, ⟨ic_chantryref41_named, [.tmp 4], 2⟩),
  (api_Count_30, ⟨ic_api_Count_30, [.tmp 4], 2⟩),
  (api_Word_31, ⟨ic_api_Word_31, [.tmp 4], 2⟩),
  (diff_byWord, ⟨ic_diff_byWord, [.tmp 4], 2⟩),
  (chantryref41_rising, ⟨ic_chantryref41_rising, [.tmp 4], 2⟩),
  (chantryref19_Same, ⟨ic_chantryref19_Same, [.tmp 4], 2⟩),
  (chantryref20_SameWords, ⟨ic_chantryref20_SameWords, [.tmp 4], 2⟩),
  (diff_apply, ⟨ic_diff_apply, [.tmp 4], 2⟩),
  (chantryref41_count, ⟨ic_chantryref41_count, [.tmp 4, .tmp 5], 2⟩),
  (chantryref41_turn, ⟨ic_chantryref41_turn, [.tmp 6, .tmp 7], 3⟩),
  (chantryref41_line, ⟨ic_chantryref41_line, [.tmp 4, .tmp 5], 2⟩),
  (api_Delta_40, ⟨ic_api_Delta_40, [.tmp 4], 2⟩),
  (api_Delta_41, ⟨ic_api_Delta_41, [.tmp 4], 2⟩),
  (api_Count_42, ⟨ic_api_Count_42, [.tmp 6, .tmp 7], 3⟩),
  (cmp_Compare_string, ⟨ic_cmp_Compare_string, [.tmp 4], 2⟩),
  (diff_words_1, ⟨ic_diff_words_1, [.tmp 2], 1⟩),
  (diff_words_1_1, ⟨ic_diff_words_1_1, [.many 3 4], 1⟩),
  (api_Word_46, ⟨ic_api_Word_46, [.tmp 6, .tmp 7], 3⟩),
  (chantryref41_has, ⟨ic_chantryref41_has, [.tmp 4], 2⟩),
  (cmp_Or_int, ⟨ic_cmp_Or_int, [.tmp 2], 1⟩),
  (chantryref41_less, ⟨ic_chantryref41_less, [.tmp 4], 2⟩),
  (api_Count_50, ⟨ic_api_Count_50, [.tmp 6, .tmp 7], 3⟩),
  (api_Count_51, ⟨ic_api_Count_51, [.tmp 8, .tmp 9], 4⟩),
  (api_Word_52, ⟨ic_api_Word_52, [.tmp 6, .tmp 7], 3⟩),
  (api_Word_53, ⟨ic_api_Word_53, [.tmp 8, .tmp 9], 4⟩),
  (diff_odd, ⟨ic_diff_odd, [.tmp 2], 1⟩),
  (chantryref41_put, ⟨ic_chantryref41_put, [.tmp 4], 2⟩),
  (chantryref41_cut, ⟨ic_chantryref41_cut, [.tmp 4], 2⟩),
  (cmp_isNaN_string, ⟨ic_cmp_isNaN_string, [.tmp 2], 1⟩),
  (api_Count_58, ⟨ic_api_Count_58, [.tmp 6], 3⟩),
  (api_Count_59, ⟨ic_api_Count_59, [.tmp 2], 1⟩),
  (api_Count_60, ⟨ic_api_Count_60, [.tmp 6], 3⟩),
  (api_Word_61, ⟨ic_api_Word_61, [.tmp 6], 3⟩),
  (api_Word_62, ⟨ic_api_Word_62, [.tmp 2], 1⟩),
  (api_Word_63, ⟨ic_api_Word_63, [.tmp 6], 3⟩),
  (api_Count_65, ⟨ic_api_Count_65, [], 2⟩),
  (api_Word_67, ⟨ic_api_Word_67, [], 2⟩),
  (api_Count_68, ⟨ic_api_Count_68, [], 2⟩),
  (api_Word_69, ⟨ic_api_Word_69, [], 2⟩),
  (api_Count_70, ⟨ic_api_Count_70, [], 1⟩),
  (api_Word_71, ⟨ic_api_Word_71, [], 1⟩)]
theorem tabOk : ∀ p ∈ tab, Fits Try.prog 0 p.1 p.2.ic p.2.rs p.2.np := by
  unfold tab
  exact List.forall_mem_cons.2 ⟨fits_chantrylaw41_DiffBetween, List.forall_mem_cons.2 ⟨fits_chantrylaw41_DiffApplies, List.forall_mem_cons.2 ⟨fits_chantrylaw41_DiffBack, List.forall_mem_cons.2 ⟨fits_chantrylaw41_large, List.forall_mem_cons.2 ⟨fits_chantrylaw41_awake, List.forall_mem_cons.2 ⟨fits_diff_Between, List.forall_mem_cons.2 ⟨fits_chantryref41_Between, List.forall_mem_cons.2 ⟨fits_chantryref41_Same, List.forall_mem_cons.2 ⟨fits_diff_Tidy, List.forall_mem_cons.2 ⟨fits_chantryref41_Tidy, List.forall_mem_cons.2 ⟨fits_chantryref23_Same, List.forall_mem_cons.2 ⟨fits_diff_Apply, List.forall_mem_cons.2 ⟨fits_chantryref41_Apply, List.forall_mem_cons.2 ⟨fits_diff_Same, List.forall_mem_cons.2 ⟨fits_api_Delta, List.forall_mem_cons.2 ⟨fits_api_Count, List.forall_mem_cons.2 ⟨fits_diff_byCount, List.forall_mem_cons.2 ⟨fits_diff_Between_1, List.forall_mem_cons.2 ⟨fits_diff_Between_2, List.forall_mem_cons.2 ⟨fits_diff_words, List.forall_mem_cons.2 ⟨fits_api_Word, List.forall_mem_cons.2 ⟨fits_diff_byName, List.forall_mem_cons.2 ⟨fits_diff_Between_3, List.forall_mem_cons.2 ⟨fits_diff_Between_4, List.forall_mem_cons.2 ⟨fits_chantryref41_counted, List.forall_mem_cons.2 ⟨fits_chantryref41_words, List.forall_mem_cons.2 ⟨fits_chantryref41_named, List.forall_mem_cons.2 ⟨fits_api_Count_30, List.forall_mem_cons.2 ⟨fits_api_Word_31, List.forall_mem_cons.2 ⟨fits_diff_byWord, List.forall_mem_cons.2 ⟨fits_chantryref41_rising, List.forall_mem_cons.2 ⟨fits_chantryref19_Same, List.forall_mem_cons.2 ⟨fits_chantryref20_SameWords, List.forall_mem_cons.2 ⟨fits_diff_apply, List.forall_mem_cons.2 ⟨fits_chantryref41_count, List.forall_mem_cons.2 ⟨fits_chantryref41_turn, List.forall_mem_cons.2 ⟨fits_chantryref41_line, List.forall_mem_cons.2 ⟨fits_api_Delta_40, List.forall_mem_cons.2 ⟨fits_api_Delta_41, List.forall_mem_cons.2 ⟨fits_api_Count_42, List.forall_mem_cons.2 ⟨fits_cmp_Compare_string, List.forall_mem_cons.2 ⟨fits_diff_words_1, List.forall_mem_cons.2 ⟨fits_diff_words_1_1, List.forall_mem_cons.2 ⟨fits_api_Word_46, List.forall_mem_cons.2 ⟨fits_chantryref41_has, List.forall_mem_cons.2 ⟨fits_cmp_Or_int, List.forall_mem_cons.2 ⟨fits_chantryref41_less, List.forall_mem_cons.2 ⟨fits_api_Count_50, List.forall_mem_cons.2 ⟨fits_api_Count_51, List.forall_mem_cons.2 ⟨fits_api_Word_52, List.forall_mem_cons.2 ⟨fits_api_Word_53, List.forall_mem_cons.2 ⟨fits_diff_odd, List.forall_mem_cons.2 ⟨fits_chantryref41_put, List.forall_mem_cons.2 ⟨fits_chantryref41_cut, List.forall_mem_cons.2 ⟨fits_cmp_isNaN_string, List.forall_mem_cons.2 ⟨fits_api_Count_58, List.forall_mem_cons.2 ⟨fits_api_Count_59, List.forall_mem_cons.2 ⟨fits_api_Count_60, List.forall_mem_cons.2 ⟨fits_api_Word_61, List.forall_mem_cons.2 ⟨fits_api_Word_62, List.forall_mem_cons.2 ⟨fits_api_Word_63, List.forall_mem_cons.2 ⟨fits_api_Count_65, List.forall_mem_cons.2 ⟨fits_api_Word_67, List.forall_mem_cons.2 ⟨fits_api_Count_68, List.forall_mem_cons.2 ⟨fits_api_Word_69, List.forall_mem_cons.2 ⟨fits_api_Count_70, List.forall_mem_cons.2 ⟨fits_api_Word_71, fun p h => by cases h⟩⟩⟩⟩⟩⟩⟩⟩⟩⟩⟩⟩⟩⟩⟩⟩⟩⟩⟩⟩⟩⟩⟩⟩⟩⟩⟩⟩⟩⟩⟩⟩⟩⟩⟩⟩⟩⟩⟩⟩⟩⟩⟩⟩⟩⟩⟩⟩⟩⟩⟩⟩⟩⟩⟩⟩⟩⟩⟩⟩⟩⟩⟩⟩⟩⟩⟩
end Go.AS.C


namespace Go.AS.C
open Go Go.Proofs
set_option linter.unusedVariables false
set_option linter.unusedSimpArgs false
set_option maxRecDepth 100000

/-! The law's own example is run. -/
noncomputable def tab2 : List (Nat × CodeE) := (diff_words_1_1, ⟨ic_diff_words_1_1, [.many 3 4], 2⟩) :: tab
theorem tab2Ok : ∀ p ∈ tab2, Fits Try.prog 0 p.1 p.2.ic p.2.rs p.2.np := List.forall_mem_cons.2 ⟨fits_diff_words_1_1.more 2 (by kernel_rfl), tabOk⟩
theorem awake_run : (runO Try.prog tab2 orc0 (fun _ => false) 100000 60 chantrylaw41_awake [] []).map (·.1) = some (.bool true) := by kernel_rfl
theorem wake {A : AH} {Q : Value → AH → Prop} (hq : Q (.bool true) A) : ACalls 0 Try.prog chantrylaw41_awake [] Q A :=
  ACalls.runO (A0 := []) mixed rfl (by decide +kernel) tab2Ok orc0_ok awake_run rfl rfl (Le.of_get (fun k hk => by simp at hk) (by simp)) hq
end Go.AS.C


namespace Go.AS.C
open Go Go.Proofs
set_option linter.unusedVariables false
set_option linter.unusedSimpArgs false
set_option maxRecDepth 10000

/-! DiffBetween. -/
theorem fin_of {s : StateV} (h : SmallS0 s) (hr : RangeS s) : FinS s ∧ FewS s := by
  obtain ⟨⟨a1, a2⟩, ⟨b1, b2⟩, ⟨c1, c2⟩, d1, d2⟩ := h
  have fw : ∀ {w : WordV}, SmallW w → FinW w := fun h => ⟨by have := h.1; omega, by have := h.2; omega⟩
  exact ⟨⟨⟨by omega, fun w hw => ⟨by have := a2 w hw; omega, hr w hw⟩⟩, ⟨by omega, fun w hw => fw (b2 w hw)⟩, ⟨by omega, fun w hw => fw (c2 w hw)⟩, by omega, fun w hw => fw (d2 w hw)⟩, by omega, by omega, by omega, by omega⟩
theorem i64_small {n : Int} (h : 0 ≤ n) (k : n < 10) : I64 n := ⟨by omega, by omega⟩
theorem fin_between {s t : StateV} (hs : FinS s) (ht : FinS t) : ∀ d ∈ between s t, FinD d := by
  intro d hd
  obtain ⟨⟨_, sc⟩, ⟨_, sm⟩, ⟨_, sv⟩, _, sl⟩ := hs
  obtain ⟨⟨_, tc⟩, ⟨_, tm⟩, ⟨_, tv⟩, _, tl⟩ := ht
  have z : (0 : Nat) ≤ maxLen := Nat.zero_le _
  have z0 : I64 0 := ⟨by decide, by decide⟩
  have z1 : I64 1 := ⟨by decide, by decide⟩
  have z2 : I64 2 := ⟨by decide, by decide⟩
  have z7 : I64 7 := ⟨by decide, by decide⟩
  rcases mem_between hd with ⟨c, hc, hd⟩ | ⟨w, k, hw, k1, k2, hd⟩
  · have fc : FinC c := hc.elim (sc c) (tc c)
    rcases hd with rfl | rfl
    · exact ⟨z1, le_max fc.1, z, z0⟩
    · exact ⟨z2, le_max fc.1, z, fc.2⟩
  · have fw : FinW w := hw.elim (sm w) fun h => h.elim (tm w) fun h => h.elim (sv w) fun h => h.elim (tv w) fun h => h.elim (sl w) (tl w)
    rcases hd with rfl | rfl
    · exact ⟨i64_small k1 k2, le_max fw.1, le_max fw.2, z0⟩
    · exact ⟨z7, le_max fw.1, z, z0⟩
theorem deltas_none (A : AH) : DeltasA A (.slice none 0 0) [] := ⟨rfl, .inl ⟨rfl, rfl⟩⟩
set_option maxHeartbeats 2000000 in
theorem DiffBetween_spec {A : AH} {x y : Value} {s t : StateV} {Q : Value → AH → Prop} (hx : StateA A x s) (hy : StateA A y t) (rs : RangeS s) (rt : RangeS t) (hq : ∀ A', Q (.bool true) A') : ACalls 0 Try.prog chantrylaw41_DiffBetween [x, y] Q A := by
  have hx' := hx
  have hy' := hy
  obtain ⟨c, m, v, l, rfl, hc, hm, hv, hl⟩ := hx
  obtain ⟨c', m', v', l', rfl, hc', hm', hv', hl'⟩ := hy
  refine ACalls.of_fits mixed fits_chantrylaw41_DiffBetween rfl ?_
  unfold ic_chantrylaw41_DiffBetween
  have i0 : initA [.agg #[c, m, v, l], .agg #[c', m', v', l']] 0 = .agg #[c, m, v, l] := rfl
  have i1 : initA [.agg #[c, m, v, l], .agg #[c', m', v', l']] 1 = .agg #[c', m', v', l'] := rfl
  generalize initA [.agg #[c, m, v, l], .agg #[c', m', v', l']] = a at i0 i1
  have oc := (Sl.one1 hc).2
  have om := (Sl.one1 hm).2
  have ov := (Sl.one1 hv).2
  have ol := (Sl.one1 hl).2
  have oc' := (Sl.one1 hc').2
  have om' := (Sl.one1 hm').2
  have ov' := (Sl.one1 hv').2
  have ol' := (Sl.one1 hl').2
  refine W_mid (fun a B => B = A ++ [.row [c, m, v, l] .own 0 true] ++ [.row [c', m', v', l'] .own 0 true] ∧ a 2 = ptr A.length ∧ a 3 = ptr (A.length + 1)) ?_ ?_
  · simp (maxSteps := 1000000) (disch := omega) only [stepS, reduceIte, Nat.reduceBEq, Nat.reduceEqDiff, tupleOf, stepT, stepX, heapR, lensR, Nat.reduceAdd, Nat.reduceLeDiff, i0, i1, oc, om, ov, ol, oc', om', ov', ol']
  clear i0 i1
  rintro a B0 ⟨hB, g2, g3⟩
  have k0 : Le A B0 := by rw [hB]; exact (Le.push _ _).trans (.push _ _)
  have r1 : rowAt B0 A.length = some ([c, m, v, l], .own, 0, true) := by rw [hB]; exact (Le.push _ _).row (rowAt_own (get_last _ _))
  have r2 : rowAt B0 (A.length + 1) = some ([c', m', v', l'], .own, 0, true) := by
    have := rowAt_own (get_last (A ++ [Blk.row [c, m, v, l] .own 0 true]) (.row [c', m', v', l'] .own 0 true))
    rw [hB]; simpa using this
  have hbl : B0.length = A.length + 2 := by rw [hB]; simp
  clear hB
  simp (maxSteps := 1000000) (disch := omega) only [stepS, reduceIte, Nat.reduceBEq, Nat.reduceEqDiff, tupleOf, stepT, stepX, heapR, lensR, Nat.reduceAdd, Nat.reduceLeDiff, g2, g3, r1, r2]
  refine large_spec (hx'.le k0) fun b1 h1 => ?_
  cases b1 with
  | true =>
    simp (maxSteps := 1000000) (disch := omega) only [stepS, reduceIte, Nat.reduceBEq, Nat.reduceEqDiff, tupleOf, stepT, stepX, heapR, lensR, Nat.reduceAdd, Nat.reduceLeDiff, g2, g3, r1, r2]
    refine wake ?_
    simp (maxSteps := 1000000) (disch := omega) only [stepS, reduceIte, Nat.reduceBEq, Nat.reduceEqDiff, tupleOf, stepT, stepX, heapR, lensR, Nat.reduceAdd, Nat.reduceLeDiff]
    exact hq _
  | false =>
  simp (maxSteps := 1000000) (disch := omega) only [stepS, reduceIte, Nat.reduceBEq, Nat.reduceEqDiff, tupleOf, stepT, stepX, heapR, lensR, Nat.reduceAdd, Nat.reduceLeDiff, g2, g3, r1, r2]
  refine large_spec (hy'.le k0) fun b2 h2 => ?_
  cases b2 with
  | true =>
    simp (maxSteps := 1000000) (disch := omega) only [stepS, reduceIte, Nat.reduceBEq, Nat.reduceEqDiff, tupleOf, stepT, stepX, heapR, lensR, Nat.reduceAdd, Nat.reduceLeDiff, g2, g3, r1, r2]
    refine wake ?_
    simp (maxSteps := 1000000) (disch := omega) only [stepS, reduceIte, Nat.reduceBEq, Nat.reduceEqDiff, tupleOf, stepT, stepX, heapR, lensR, Nat.reduceAdd, Nat.reduceLeDiff]
    exact hq _
  | false =>
  obtain ⟨fs, ws⟩ := fin_of (h1 rfl) rs
  obtain ⟨ft, wt⟩ := fin_of (h2 rfl) rt
  have fd := fin_between fs ft
  have hlen : (between s t).length < 2 ^ 50 := Nat.lt_of_le_of_lt (between_len ws wt) (by decide)
  simp (maxSteps := 1000000) (disch := omega) only [stepS, reduceIte, Nat.reduceBEq, Nat.reduceEqDiff, tupleOf, stepT, stepX, heapR, lensR, Nat.reduceAdd, Nat.reduceLeDiff, g2, g3, r1, r2]
  by_cases tidy : TidyS s ∧ TidyS t
  · obtain ⟨ts, tt⟩ := tidy
    refine diff_Between_spec (hx'.le k0) (hy'.le k0) fs ft ws wt (fun _ _ u A1 e1 q1 => ?_) (fun h => absurd ⟨ts, tt⟩ h)
    have r1' := e1.row r1
    have r2' := e1.row r2
    simp (maxSteps := 1000000) (disch := omega) only [stepS, reduceIte, Nat.reduceBEq, Nat.reduceEqDiff, tupleOf, stepT, stepX, heapR, lensR, Nat.reduceAdd, Nat.reduceLeDiff, g2, g3, r1', r2']
    refine ref41_Between_spec (hx'.le (k0.trans e1)) (hy'.le (k0.trans e1)) fs ft ws wt (fun _ _ w A2 e2 q2 => ?_) (fun h => absurd ⟨ts, tt⟩ h)
    have r1'' := e2.row r1'
    have r2'' := e2.row r2'
    have kA := (k0.trans e1).trans e2
    simp (maxSteps := 1000000) (disch := omega) only [stepS, reduceIte, Nat.reduceBEq, Nat.reduceEqDiff, tupleOf, stepT, stepX, heapR, lensR, Nat.reduceAdd, Nat.reduceLeDiff, g2, g3, r1'', r2'']
    refine ref41_Same_spec (q1.le e2) q2 fd fd hlen hlen fun b hb => ?_
    obtain rfl : b = true := hb.2 rfl
    simp (maxSteps := 1000000) (disch := omega) only [stepS, reduceIte, Nat.reduceBEq, Nat.reduceEqDiff, tupleOf, stepT, stepX, heapR, lensR, Nat.reduceAdd, Nat.reduceLeDiff, g2, g3, r1'', r2'']
    refine diff_Tidy_spec (hx'.le kA) fs fun b1 h1 => ?_
    obtain rfl : b1 = true := h1.2 ts
    simp (maxSteps := 1000000) (disch := omega) only [stepS, reduceIte, Nat.reduceBEq, Nat.reduceEqDiff, tupleOf, stepT, stepX, heapR, lensR, Nat.reduceAdd, Nat.reduceLeDiff, g2, g3, r1'', r2'']
    refine ref41_Tidy_spec (hx'.le kA) fs fun b2 h2 => ?_
    obtain rfl : b2 = true := h2.2 ts
    have hul := (q1.le e2).len
    simp (maxSteps := 1000000) (disch := omega) only [stepS, reduceIte, Nat.reduceBEq, Nat.reduceEqDiff, tupleOf, stepT, stepX, heapR, lensR, Nat.reduceAdd, Nat.reduceLeDiff, g2, g3, r1'', r2'', hul]
    refine ref23_Same_spec (hx'.le kA) (hy'.le kA) fs ft fun b3 h3 => ?_
    by_cases hst : s = t
    · obtain rfl : b3 = true := h3.2 hst
      have hn : (between s t).length = 0 := by rw [(between_nil ts tt).2 hst]; rfl
      simp (maxSteps := 1000000) (disch := omega) only [stepS, reduceIte, Nat.reduceBEq, Nat.reduceEqDiff, tupleOf, stepT, stepX, heapR, lensR, Nat.reduceAdd, Nat.reduceLeDiff, g2, g3, hn]
      refine wake ?_
      simp (maxSteps := 1000000) (disch := omega) only [stepS, reduceIte, Nat.reduceBEq, Nat.reduceEqDiff, tupleOf, stepT, stepX, heapR, lensR, Nat.reduceAdd, Nat.reduceLeDiff]
      exact hq _
    · obtain rfl : b3 = false := by cases b3 with | false => rfl | true => exact absurd (h3.1 rfl) hst
      have hn : ¬ (between s t).length = 0 := fun e => hst ((between_nil ts tt).1 (List.length_eq_zero_iff.1 e))
      simp (maxSteps := 1000000) (disch := omega) only [stepS, reduceIte, Nat.reduceBEq, Nat.reduceEqDiff, tupleOf, stepT, stepX, heapR, lensR, Nat.reduceAdd, Nat.reduceLeDiff, g2, g3, hn]
      refine wake ?_
      simp (maxSteps := 1000000) (disch := omega) only [stepS, reduceIte, Nat.reduceBEq, Nat.reduceEqDiff, tupleOf, stepT, stepX, heapR, lensR, Nat.reduceAdd, Nat.reduceLeDiff]
      exact hq _
  · refine diff_Between_spec (hx'.le k0) (hy'.le k0) fs ft ws wt (fun ts tt => absurd ⟨ts, tt⟩ tidy) (fun _ A1 e1 => ?_)
    have r1' := e1.row r1
    have r2' := e1.row r2
    simp (maxSteps := 1000000) (disch := omega) only [stepS, reduceIte, Nat.reduceBEq, Nat.reduceEqDiff, tupleOf, stepT, stepX, heapR, lensR, Nat.reduceAdd, Nat.reduceLeDiff, g2, g3, r1', r2']
    refine ref41_Between_spec (hx'.le (k0.trans e1)) (hy'.le (k0.trans e1)) fs ft ws wt (fun ts tt => absurd ⟨ts, tt⟩ tidy) (fun _ A2 e2 => ?_)
    have r1'' := e2.row r1'
    have r2'' := e2.row r2'
    have kA := (k0.trans e1).trans e2
    simp (maxSteps := 1000000) (disch := omega) only [stepS, reduceIte, Nat.reduceBEq, Nat.reduceEqDiff, tupleOf, stepT, stepX, heapR, lensR, Nat.reduceAdd, Nat.reduceLeDiff, g2, g3, r1'', r2'']
    refine ref41_Same_spec (deltas_none _) (deltas_none _) (fun c h => by cases h) (fun c h => by cases h) (by decide) (by decide) fun b hb => ?_
    obtain rfl : b = true := hb.2 rfl
    simp (maxSteps := 1000000) (disch := omega) only [stepS, reduceIte, Nat.reduceBEq, Nat.reduceEqDiff, tupleOf, stepT, stepX, heapR, lensR, Nat.reduceAdd, Nat.reduceLeDiff, g2, g3, r1'', r2'']
    refine diff_Tidy_spec (hx'.le kA) fs fun b1 h1 => ?_
    simp (maxSteps := 1000000) (disch := omega) only [stepS, reduceIte, Nat.reduceBEq, Nat.reduceEqDiff, tupleOf, stepT, stepX, heapR, lensR, Nat.reduceAdd, Nat.reduceLeDiff, g2, g3, r1'', r2'']
    refine ref41_Tidy_spec (hx'.le kA) fs fun b2 h2 => ?_
    obtain rfl : b1 = b2 := by
      have := h1.trans h2.symm
      cases b1 <;> cases b2 <;> simp at this ⊢
    simp (maxSteps := 1000000) (disch := omega) only [stepS, reduceIte, Nat.reduceBEq, Nat.reduceEqDiff, tupleOf, stepT, stepX, heapR, lensR, Nat.reduceAdd, Nat.reduceLeDiff, g2, g3, r1'', r2'', beqB, beq_self_eq_true]
    refine wake ?_
    simp (maxSteps := 1000000) (disch := omega) only [stepS, reduceIte, Nat.reduceBEq, Nat.reduceEqDiff, tupleOf, stepT, stepX, heapR, lensR, Nat.reduceAdd, Nat.reduceLeDiff]
    exact hq _
theorem DiffBetween_law {A : AH} {v0 v1 : Value} (g0 : GoodV Try.prog A 9 25 v0) (g1 : GoodV Try.prog A 9 25 v1) : ACalls 0 Try.prog chantrylaw41_DiffBetween [v0, v1] (fun v _ => v = .bool true) A := by
  obtain ⟨s, hs, rs⟩ := law_state g0
  obtain ⟨t, ht, rt⟩ := law_state g1
  exact DiffBetween_spec hs ht rs rt fun _ => rfl
end Go.AS.C
