/- Lemmas for the proof of a given statement; no conditions. -/
import Derived.Test.YtghagepgphaboaaDoorM5
import Derived.Sort.Grow
import Derived.Sort.EncStr
import Derived.Lib.Join
import Derived.Below
import Derived.Shelf.Strings.FuncGrows
import Derived.Shelf.Strings.Builder1
import Derived.Shelf.Strings.Builder2
import Derived.Shelf.Strings.OnBuilder
import Derived.Shelf.GgClosure.StringsIndexFunc
import Derived.Shelf.GgClosure.StringsIndexFuncTop
set_option maxHeartbeats 1000000

namespace Go.AS.C
open Go Go.Proofs
set_option linter.unusedVariables false
set_option linter.unusedSimpArgs false
set_option maxRecDepth 10000

theorem mixed : Tryd.prog.follows .mixedOrders = true := by kernel_rfl

end Go.AS.C


namespace Go.AS.C
open Go Go.Proofs
set_option linter.unusedVariables false
set_option linter.unusedSimpArgs false
set_option maxRecDepth 10000

theorem num_is_spec {A : AH} {n : Int} {Q : Value → AH → Prop} (hq : Q (.bool (decide (0 ≤ n ∧ n ≤ 2147483647))) A) : ACalls 1 Tryd.prog num_is [ii n] Q A := by
  refine ACalls.of_fits mixed fits_num_is rfl ?_
  unfold ic_num_is
  have i0 : initA [ii n] 0 = ii n := rfl
  generalize initA [ii n] = a at i0
  by_cases h : (0 : Int) ≤ n
  · have h1 : (n ≥ 0) = True := by simp [h]
    simp only [stepS, reduceIte, Nat.reduceBEq, Nat.reduceEqDiff, tupleOf, i0, binA_geq, binA_leq, h1]
    simpa [h] using hq
  · have h1 : (n ≥ 0) = False := by simp; omega
    simp only [stepS, reduceIte, Nat.reduceBEq, Nat.reduceEqDiff, tupleOf, i0, binA_geq, binA_leq, h1]
    simpa [h] using hq

end Go.AS.C


namespace Go.AS.C
open Go Go.Proofs
set_option linter.unusedVariables false
set_option linter.unusedSimpArgs false
set_option maxRecDepth 10000

/-- What Get gives, as a value. -/
def getV (bs : List UInt8) : Value := .tuple #[ii ((getT bs).1 : Nat), ii ((getT bs).2.1 : Nat), ii ((getT bs).2.2 : Nat)]
theorem getV_none {bs : List UInt8} (h : getN bs = none) : getV bs = .tuple #[ii 0, ii 0, ii 5] := by unfold getV getT; rw [h]; rfl
theorem getV_some {bs : List UInt8} {n k : Nat} (h : getN bs = some (n, k)) : getV bs = .tuple #[ii n, ii k, ii 0] := by unfold getV getT; rw [h]; rfl
theorem drop_at {α : Type} {l : List α} {i : Nat} {x : α} (h : l[i]? = some x) : l.drop i = x :: l.drop (i + 1) := by
  rw [List.getElem?_eq_some_iff] at h
  obtain ⟨h1, rfl⟩ := h
  exact List.drop_eq_getElem_cons h1

theorem num_Get_spec {A : AH} {v : Value} {bs : List UInt8} {Q : Value → AH → Prop} (hv : Byt A v bs) (hq : Q (getV bs) A) : ACalls 1 Tryd.prog num_Get [v] Q A := by
  refine ACalls.of_fits mixed fits_num_Get rfl ?_
  unfold ic_num_Get
  have i0 : initA [v] 0 = v := rfl
  generalize initA [v] = a at i0
  obtain ⟨u, u1, u2⟩ := hv.upto (k := min bs.length 5) (by omega)
  have um : min ((bs.length : Nat) : Int) 5 = ((min bs.length 5 : Nat) : Int) := by omega
  have ul := u2.len
  rw [List.length_take, Nat.min_eq_left (Nat.min_le_left _ _)] at ul
  simp (maxSteps := 1000000) (disch := omega) only [stepS, reduceIte, Nat.reduceBEq, Nat.reduceEqDiff, tupleOf, stepT, i0, hv.len, mnI, um, u1, ul]
  refine W_loop (fun a' B => B = A ∧ ∃ i n : Nat, i ≤ min bs.length 5 ∧ n < 128 ^ i ∧ a' 12 = u ∧ a' 13 = ii (min bs.length 5 : Nat) ∧ a' 14 = ii i ∧ a' 5 = ii n ∧ getGo i n (bs.drop i) = getN bs) (fun a' _ => 5 - (iv (a' 14)).toNat) ?_ ?_
  · refine ⟨rfl, 0, 0, by omega, by simp, ?_⟩
    simp (maxSteps := 1000000) (disch := omega) only [stepS, reduceIte, Nat.reduceBEq, Nat.reduceEqDiff, tupleOf, stepT, i0]
    exact ⟨rfl, rfl, rfl⟩
  · rintro a2 B ⟨rfl, i, n, hi, hn, g12, g13, g14, g5, hg⟩
    rcases Nat.lt_or_ge i (min bs.length 5) with hlt | hge
    · obtain ⟨c, hc⟩ : ∃ c, bs[i]? = some c := ⟨_, List.getElem?_eq_getElem (by omega)⟩
      obtain ⟨p, p1, p2⟩ := u2.at1 (j := i) (b := c) (by rw [List.getElem?_take_of_lt (by omega)]; exact hc)
      have hc8 := c.toNat_lt
      have hpow : 128 ^ i ≤ 128 ^ 4 := Nat.pow_le_pow_right (by omega) (by omega)
      have hp2 : 2 ^ (7 * i) = 128 ^ i := by rw [Nat.pow_mul]
      have hmul : c.toNat % 128 * 128 ^ i ≤ 127 * 128 ^ i := Nat.mul_le_mul_right _ (by omega)
      have d1 : binA .shl (.int .i64 ((c.toNat % 128 : Nat) : Int)) (.int .i64 (7 * (i : Int))) = some (ii ((c.toNat % 128 * 128 ^ i : Nat) : Int)) := by
        have := shl_ii (c.toNat % 128) .i64 (7 * i) (by omega) (by rw [hp2]; omega)
        rw [hp2] at this
        exact this
      have d2 : binA .or (ii n) (ii ((c.toNat % 128 * 128 ^ i : Nat) : Int)) = some (ii ((n + c.toNat % 128 * 128 ^ i : Nat) : Int)) := by
        have := or_ii n (c.toNat % 128 * 128 ^ i) (by omega) (by omega)
        rw [← hp2, or_low _ _ _ (by rw [hp2]; exact hn), hp2] at this
        exact this
      rw [drop_at hc] at hg
      by_cases h128 : 128 ≤ c.toNat
      · simp (maxSteps := 1000000) (disch := omega) only [stepS, reduceIte, Nat.reduceBEq, Nat.reduceEqDiff, tupleOf, stepT, g12, g13, g14, g5, p1, p2, b8_127, binA_and8, conv_i64_by8, and127, d1, d2, binA_geq8]
        refine ⟨⟨i + 1, n + c.toNat % 128 * 128 ^ i, by omega, by rw [Nat.pow_succ]; omega, rfl, rfl, ?_⟩, by omega⟩
        rw [← hg]
        conv => rhs; unfold getGo
        rw [if_neg (by omega), if_pos h128]
      · simp (maxSteps := 1000000) (disch := omega) only [stepS, reduceIte, Nat.reduceBEq, Nat.reduceEqDiff, tupleOf, stepT, g12, g13, g14, g5, p1, p2, b8_127, binA_and8, conv_i64_by8, and127, d1, d2, binA_geq8]
        refine num_is_spec ?_
        unfold getGo at hg
        rw [if_neg (by omega), if_neg h128] at hg
        by_cases hbig : 2147483647 < n + c.toNat % 128 * 128 ^ i
        · rw [if_pos (.inl hbig)] at hg
          simp (maxSteps := 1000000) (disch := omega) only [stepS, reduceIte, Nat.reduceBEq, Nat.reduceEqDiff, tupleOf, stepT, g12, g13, g14, g5]
          rw [getV_none hg.symm] at hq
          exact hq
        · by_cases hz : 0 < i ∧ c.toNat = 0
          · rw [if_pos (.inr hz)] at hg
            simp (maxSteps := 1000000) (disch := omega) only [stepS, reduceIte, Nat.reduceBEq, Nat.reduceEqDiff, tupleOf, stepT, g12, g13, g14, g5, binA_eql8]
            rw [getV_none hg.symm] at hq
            exact hq
          · rw [if_neg (by omega)] at hg
            rw [getV_some hg.symm] at hq
            by_cases h0 : 0 < i
            · simp (maxSteps := 1000000) (disch := omega) only [stepS, reduceIte, Nat.reduceBEq, Nat.reduceEqDiff, tupleOf, stepT, g12, g13, g14, g5, binA_eql8]
              exact hq
            · simp (maxSteps := 1000000) (disch := omega) only [stepS, reduceIte, Nat.reduceBEq, Nat.reduceEqDiff, tupleOf, stepT, g12, g13, g14, g5, binA_eql8]
              exact hq
    · simp (maxSteps := 1000000) (disch := omega) only [stepS, reduceIte, Nat.reduceBEq, Nat.reduceEqDiff, tupleOf, stepT, g12, g13, g14, g5]
      have hnone : getN bs = none := by
        rw [← hg]
        by_cases h5 : i < bs.length
        · rw [List.drop_eq_getElem_cons h5]
          unfold getGo
          rw [if_pos (by omega)]
        · rw [List.drop_of_length_le (by omega)]
          rfl
      rw [getV_none hnone] at hq
      exact hq

end Go.AS.C


namespace Go.AS.C
open Go Go.Proofs
set_option linter.unusedVariables false
set_option linter.unusedSimpArgs false
set_option maxRecDepth 10000

theorem slices_Clone_spec {A : AH} {v : Value} {xs : List UInt8} {Q : Value → AH → Prop} (hv : Byt A v xs) (hl : xs.length ≤ 2 ^ 40) (hq : ∀ u A', Le A A' → OwnB A.length A' u xs → Q u A') :
    ACalls 1 Tryd.prog slices_Clone_byte_byte [v] Q A := by
  refine ACalls.of_fits mixed fits_slices_Clone_byte_byte rfl ?_
  unfold ic_slices_Clone_byte_byte
  have i0 : initA [v] 0 = v := rfl
  generalize initA [v] = a at i0
  obtain ⟨p, c, hs, hp⟩ := hv.shape
  cases p with
  | none =>
    have c1 : (if kindOf (.slice 5) v = true then sIsnil A v false else none) = some (.bool true, A) := by subst hs; rfl
    simp only [stepS, reduceIte, Nat.reduceBEq, Nat.reduceEqDiff, tupleOf, i0, c1]
    rw [hp rfl] at hq
    exact hq _ _ (.refl _) (OwnB.nil _ _)
  | some b =>
    have c1 : (if kindOf (.slice 5) v = true then sIsnil A v false else none) = some (.bool false, A) := by subst hs; rfl
    obtain ⟨v', A', q1, q2, q3, _⟩ := app_bytes (A0 := A) (A := A ++ [.row [] .own 1 true]) (v := .slice (some ⟨A.length, 0, none⟩) 0 0) (bs := []) (.push _ _) (own_lit_none (.refl _)) (hv.le (.push _ _)) (by simp; omega)
    simp only [stepS, reduceIte, Nat.reduceBEq, Nat.reduceEqDiff, tupleOf, i0, c1, lit_none, q1]
    exact hq _ _ q2 q3

end Go.AS.C


namespace Go.AS.C
open Go Go.Proofs
set_option linter.unusedVariables false
set_option linter.unusedSimpArgs false
set_option maxRecDepth 10000

/-- A cursor: none: it is bad; else what is left. -/
abbrev CurS := Option (List UInt8)
/-- A cursor behind a pointer. -/
def CurA (a0 : Nat) (A : AH) (i : Nat) (st : CurS) : Prop :=
  ∃ v : Value, (a0 ≤ i ∧ ∀ k ∈ blkOf v, k < i) ∧ A[i]? = some (.row [v, .bool st.isNone] .own 0 true) ∧ (match st with | none => v = .slice none 0 0 | some bs => Byt A v bs ∧ bs.length ≤ 2 ^ 40)
abbrev ptr (i : Nat) : Value := .pointer (some ⟨i, 0, none⟩)
def takeC (st : CurS) (n : Int) : CurS × List UInt8 := match st with
  | none => (none, [])
  | some bs => if 0 ≤ n ∧ n ≤ bs.length then (some (bs.drop n.toNat), bs.take n.toNat) else (none, [])
def numC (st : CurS) : CurS × Nat := match st with
  | none => (none, 0)
  | some bs => match getN bs with | some (n, k) => (some (bs.drop k), n) | none => (none, 0)
def byteC (st : CurS) : CurS × Nat := match st with
  | none => (none, 0)
  | some [] => (none, 0)
  | some (b :: r) => (some r, b.toNat)
def textC (st : CurS) : CurS × List UInt8 := match st with
  | none => (none, [])
  | some bs => match getN bs with | some (n, k) => if n ≤ 262144 then takeC (some (bs.drop k)) n else (none, []) | none => (none, [])
def leftC (st : CurS) : Nat := match st with | none => 0 | some bs => bs.length

theorem CurA.keep {a0 i j : Nat} {A B : AH} {st : CurS} (h : CurA a0 A i st) (hk : Keep A j B) (hij : i ≠ j) (hj : ∀ c, A[j]? = some c → ∃ cs t sz ex, c = .row cs t sz ex ∧ sz ≠ 1) : CurA a0 B i st := by
  obtain ⟨v, h1, h2, h3⟩ := h
  refine ⟨v, h1, hk.2 i _ hij h2, ?_⟩
  cases st with
  | none => exact h3
  | some bs =>
    refine ⟨?_, h3.2⟩
    cases hc : A[j]? with
    | some c =>
      obtain ⟨cs, t, sz, ex, rfl, hsz⟩ := hj c hc
      exact Sl.kp h3.1 hk hc hsz
    | none =>
      refine Sl.keep h3.1 (fun k b hb _ => hk.2 k b ?_ hb)
      rintro rfl
      rw [hc] at hb; cases hb
theorem CurA.le {a0 i : Nat} {A B : AH} {st : CurS} (h : CurA a0 A i st) (hl : Le A B) : CurA a0 B i st := by
  obtain ⟨v, h1, h2, h3⟩ := h
  refine ⟨v, h1, hl.get h2, ?_⟩
  cases st with
  | none => exact h3
  | some bs => exact ⟨h3.1.le hl, h3.2⟩

/-- What a cursor leads to stands ahead of it. -/
theorem CurA.keepB {a0 i : Nat} {A B : AH} {st : CurS} (h : CurA a0 A i st) (hk : ∀ j b, A[j]? = some b → j ≤ i → B[j]? = some b) : CurA a0 B i st := by
  obtain ⟨v, h1, h2, h3⟩ := h
  refine ⟨v, h1, hk i _ h2 (Nat.le_refl _), ?_⟩
  cases st with
  | none => exact h3
  | some bs => exact ⟨h3.1.keepB fun j b hb hj => hk j b hb (Nat.le_of_lt (h1.2 j hj)), h3.2⟩
theorem CurA.lt {a0 i : Nat} {A : AH} {st : CurS} (h : CurA a0 A i st) : i < A.length := by
  obtain ⟨v, _, h2, _⟩ := h
  exact lt_of_get h2

theorem num_From_spec {A : AH} {v : Value} {bs : List UInt8} {Q : Value → AH → Prop} (hv : Byt A v bs) (hl : bs.length ≤ 2 ^ 40) (hq : ∀ A' i, Le A A' → CurA A.length A' i (some bs) → Q (ptr i) A') : ACalls 1 Tryd.prog num_From [v] Q A := by
  refine ACalls.of_fits mixed fits_num_From rfl ?_
  unfold ic_num_From
  have i0 : initA [v] 0 = v := rfl
  generalize initA [v] = a at i0
  simp (maxSteps := 1000000) (disch := omega) only [stepS, reduceIte, Nat.reduceBEq, Nat.reduceEqDiff, tupleOf, stepT, i0]
  refine slices_Clone_spec hv hl fun u A1 h1 o1 => ?_
  have hb : sBuild A1 [.slice none 0 0, .bool false] [(0, 1, u)] = some (.agg #[u, .bool false], A1) := by
    obtain ⟨p, c, hs, _⟩ := o1.byt.shape
    rw [hs]; rfl
  have hx : sBox A1 (.agg #[u, .bool false]) = some (.pointer (some ⟨A1.length, 0, none⟩), A1 ++ [.row [u, .bool false] .own 0 true]) := by
    obtain ⟨p, c, hs, _⟩ := o1.byt.shape
    rw [hs]; rfl
  simp (maxSteps := 1000000) (disch := omega) only [stepS, reduceIte, Nat.reduceBEq, Nat.reduceEqDiff, tupleOf, stepT, i0, hb, hx]
  have k1 : Le A1 (A1 ++ [.row [u, .bool false] .own 0 true]) := .push _ _
  exact hq _ _ (h1.trans k1) ⟨u, ⟨h1.len, fun k hk => (OwnS.ge o1 k hk).2⟩, get_last _ _, o1.byt.le k1, hl⟩

section
variable {A A0 : AH} {i : Nat} {st : CurS} {Q : Value → AH → Prop}
theorem cur_Bad_spec (hc : CurA A0.length A i st) (hq : Q (.bool st.isNone) A) : ACalls 1 Tryd.prog num_Cursor_Bad [ptr i] Q A := by
  refine ACalls.of_fits mixed fits_num_Cursor_Bad rfl ?_
  unfold ic_num_Cursor_Bad
  have i0 : initA [ptr i] 0 = ptr i := rfl
  generalize initA [ptr i] = a at i0
  obtain ⟨v, h1, h2, h3⟩ := hc
  have d1 := row_load h2 (by simp) (o := 0 + 1) (v := .bool st.isNone) rfl
  simp (maxSteps := 1000000) (disch := omega) only [stepS, reduceIte, Nat.reduceBEq, Nat.reduceEqDiff, tupleOf, stepT, i0, isnil_ptr, nilc_ptr, faddr_ptr, d1]
  exact hq

theorem cur_fail_spec (hl : Le A0 A) (hc : CurA A0.length A i st) (hq : ∀ A', Le A0 A' → Keep A i A' → CurA A0.length A' i none → Q (.tuple #[]) A') : ACalls 1 Tryd.prog num_Cursor_fail [ptr i] Q A := by
  refine ACalls.of_fits mixed fits_num_Cursor_fail rfl ?_
  unfold ic_num_Cursor_fail
  have i0 : initA [ptr i] 0 = ptr i := rfl
  generalize initA [ptr i] = a at i0
  obtain ⟨v, h1, h2, h3⟩ := hc
  have d1 := row_store h2 (o := 0 + 0) (v := .slice none 0 0) (by simp) (one1_sl _ _ _)
  have h4 := set_get (b' := .row ([v, .bool st.isNone].set (0 + 0) (.slice none 0 0)) .own 0 true) h2
  have d2 := row_store h4 (o := 0 + 1) (v := .bool true) (by simp) ⟨rfl, rfl⟩
  simp (maxSteps := 1000000) (disch := omega) only [stepS, reduceIte, Nat.reduceBEq, Nat.reduceEqDiff, tupleOf, stepT, i0, isnil_ptr, nilc_ptr, faddr_ptr, d1, d2]
  refine hq _ ((hl.set h1.1).set h1.1) ((Keep.set _ _ _).trans (Keep.set _ _ _)) ⟨.slice none 0 0, ⟨h1.1, fun k hk => by cases hk⟩, ?_, rfl⟩
  rw [set_get h4]
  rfl

theorem cur_Left_spec (hc : CurA A0.length A i st) (hq : Q (ii (leftC st : Nat)) A) : ACalls 1 Tryd.prog num_Cursor_Left [ptr i] Q A := by
  refine ACalls.of_fits mixed fits_num_Cursor_Left rfl ?_
  unfold ic_num_Cursor_Left
  have i0 : initA [ptr i] 0 = ptr i := rfl
  generalize initA [ptr i] = a at i0
  simp (maxSteps := 1000000) (disch := omega) only [stepS, reduceIte, Nat.reduceBEq, Nat.reduceEqDiff, tupleOf, stepT, i0]
  refine cur_Bad_spec hc ?_
  obtain ⟨v, h1, h2, h3⟩ := hc
  cases st with
  | none =>
    have e : (none : CurS).isNone = true := rfl
    rw [e]
    simp (maxSteps := 1000000) (disch := omega) only [stepS, reduceIte, Nat.reduceBEq, Nat.reduceEqDiff, tupleOf, stepT, i0]
    exact hq
  | some bs =>
    have e : (some bs).isNone = false := rfl
    have d1 := row_load h2 (by simp) (o := 0 + 0) (v := v) rfl
    rw [e]
    simp (maxSteps := 1000000) (disch := omega) only [stepS, reduceIte, Nat.reduceBEq, Nat.reduceEqDiff, tupleOf, stepT, i0, nilc_ptr, faddr_ptr, d1, h3.1.len]
    exact hq

theorem cur_Take_spec {n : Int} (hl : Le A0 A) (hc : CurA A0.length A i st) (hq : ∀ A' v, Le A0 A' → Keep A i A' → CurA A0.length A' i (takeC st n).1 → OwnB A.length A' v (takeC st n).2 → Q v A') : ACalls 1 Tryd.prog num_Cursor_Take [ptr i, ii n] Q A := by
  refine ACalls.of_fits mixed fits_num_Cursor_Take rfl ?_
  unfold ic_num_Cursor_Take
  have i0 : initA [ptr i, ii n] 0 = ptr i := rfl
  have i1 : initA [ptr i, ii n] 1 = ii n := rfl
  generalize initA [ptr i, ii n] = a at i0 i1
  simp (maxSteps := 1000000) (disch := omega) only [stepS, reduceIte, Nat.reduceBEq, Nat.reduceEqDiff, tupleOf, stepT, i0, i1]
  refine cur_Bad_spec hc ?_
  cases st with
  | none =>
    have e : (none : CurS).isNone = true := rfl
    rw [e]
    simp (maxSteps := 1000000) (disch := omega) only [stepS, reduceIte, Nat.reduceBEq, Nat.reduceEqDiff, tupleOf, stepT, i0, i1]
    refine cur_fail_spec hl hc fun A' k1 k2 k3 => ?_
    simp (maxSteps := 1000000) (disch := omega) only [stepS, reduceIte, Nat.reduceBEq, Nat.reduceEqDiff, tupleOf, stepT]
    exact hq _ _ k1 k2 k3 (OwnB.nil _ _)
  | some bs =>
    obtain ⟨v, h1, h2, h3, h40⟩ := hc
    have hc : CurA A0.length A i (some bs) := ⟨v, h1, h2, h3, h40⟩
    have e : (some bs).isNone = false := rfl
    have d1 := row_load h2 (by simp) (o := 0 + 0) (v := v) rfl
    rw [e] at h2 ⊢
    by_cases hn : n < 0
    · simp (maxSteps := 1000000) (disch := omega) only [stepS, reduceIte, Nat.reduceBEq, Nat.reduceEqDiff, tupleOf, stepT, i0, i1]
      refine cur_fail_spec hl hc fun A' k1 k2 k3 => ?_
      have et : takeC (some bs) n = (none, []) := by unfold takeC; simp only; rw [if_neg (by omega)]
      rw [et] at hq
      simp (maxSteps := 1000000) (disch := omega) only [stepS, reduceIte, Nat.reduceBEq, Nat.reduceEqDiff, tupleOf, stepT]
      exact hq _ _ k1 k2 k3 (OwnB.nil _ _)
    · by_cases hbig : n ≤ bs.length
      · obtain ⟨m, rfl⟩ : ∃ m : Nat, n = m := ⟨n.toNat, by omega⟩
        have et : takeC (some bs) m = (some (bs.drop m), bs.take m) := by unfold takeC; simp only; rw [if_pos ⟨by omega, hbig⟩, Int.toNat_natCast]
        rw [et] at hq
        have k0 : Le A (A ++ [.row ((List.replicate m (0 : UInt8)).map by8) .own 1 true]) := .push _ _
        have h2' := k0.get h2
        have h3' := h3.le k0
        have d1' := row_load h2' (by simp) (o := 0 + 0) (v := v) rfl
        -- the copy
        have hcp : ∃ A2, sCopy (A ++ [.row ((List.replicate m (0 : UInt8)).map by8) .own 1 true]) (.slice (some ⟨A.length, 0, none⟩) m m) v 1 = some (.int .i64 m, A2) ∧ A2 = A ++ [.row ((bs.take m).map by8) .own 1 true] := by
          obtain ⟨p, c, hs, _⟩ := h3'.shape
          have hr := h3'.rd
          subst hs
          unfold sCopy
          simp only [hr, Option.bind_some]
          have em : min bs.length m = m := by omega
          rw [em]
          unfold copyTo
          by_cases hm0 : m = 0
          · subst hm0
            exact ⟨_, rfl, by simp⟩
          · rw [if_neg hm0]
            simp only
            unfold wr
            simp only [get_last]
            rw [if_pos ⟨by simp; omega, by rw [Nat.mul_one, ← List.map_take]; exact Byt.ones8 _⟩]
            refine ⟨_, rfl, ?_⟩
            rw [set_last]
            congr 3
            unfold setAll
            rw [Nat.mul_one, ← List.map_take]
            simp
            omega
        obtain ⟨A2, hcp, rfl⟩ := hcp
        have k1 : Le A (A ++ [.row ((bs.take m).map by8) .own 1 true]) := .push _ _
        have h2'' := k1.get h2
        have h3'' := h3.le k1
        have d1'' := row_load h2'' (by simp) (o := 0 + 0) (v := v) rfl
        obtain ⟨u, u1, u2⟩ := h3''.from (l := m) (by omega)
        obtain ⟨p, c, hs, _⟩ := u2.shape
        have d2 := row_store h2'' (o := 0 + 0) (v := u) (by simp) (by rw [hs]; exact one1_sl _ _ _)
        have lm : sMk A [.int .u8 0] 1 (ii m) (ii m) = _ := mk_bytes A m (by omega)
        simp (maxSteps := 1000000) (disch := omega) only [stepS, reduceIte, Nat.reduceBEq, Nat.reduceEqDiff, tupleOf, stepT, i0, i1, nilc_ptr, faddr_ptr, d1, h3.len, lm, d1', hcp, d1'', u1, d2]
        have hset : Keep (A ++ [Blk.row ((bs.take m).map by8) .own 1 true]) i ((A ++ [Blk.row ((bs.take m).map by8) .own 1 true]).set i (Blk.row ([v, .bool false].set (0 + 0) u) .own 0 true)) := Keep.set _ _ _
        refine hq _ _ ((hl.trans k1).set h1.1) ((k1.kp i).trans hset) ⟨u, ⟨h1.1, fun k hk => h1.2 k (sll_blk u1 k hk)⟩, set_get h2'', ?_⟩ ?_
        · exact ⟨u2.kp hset h2'', by simp; omega⟩
        · exact OwnB.kp (own_row (get_last _ _) (by simp; omega) (Nat.le_refl _) (Nat.le_refl _)) hset h2''
      · simp (maxSteps := 1000000) (disch := omega) only [stepS, reduceIte, Nat.reduceBEq, Nat.reduceEqDiff, tupleOf, stepT, i0, i1, nilc_ptr, faddr_ptr, d1, h3.len]
        refine cur_fail_spec hl hc fun A' k1 k2 k3 => ?_
        have et : takeC (some bs) n = (none, []) := by unfold takeC; simp only; rw [if_neg (by omega)]
        rw [et] at hq
        simp (maxSteps := 1000000) (disch := omega) only [stepS, reduceIte, Nat.reduceBEq, Nat.reduceEqDiff, tupleOf, stepT]
        exact hq _ _ k1 k2 k3 (OwnB.nil _ _)

theorem byteC_take (st : CurS) : byteC st = ((takeC st 1).1, match (takeC st 1).2 with | [] => 0 | b :: _ => b.toNat) := by
  cases st with
  | none => rfl
  | some bs =>
    cases bs with
    | nil => rfl
    | cons b r =>
      unfold byteC takeC
      simp only
      rw [if_pos ⟨by omega, by simp; omega⟩]
      rfl
theorem cur_Num_spec (hl : Le A0 A) (hc : CurA A0.length A i st) (hq : ∀ A', Le A0 A' → Keep A i A' → CurA A0.length A' i (numC st).1 → Q (ii ((numC st).2 : Nat)) A') : ACalls 1 Tryd.prog num_Cursor_Num [ptr i] Q A := by
  refine ACalls.of_fits mixed fits_num_Cursor_Num rfl ?_
  unfold ic_num_Cursor_Num
  have i0 : initA [ptr i] 0 = ptr i := rfl
  generalize initA [ptr i] = a at i0
  simp (maxSteps := 1000000) (disch := omega) only [stepS, reduceIte, Nat.reduceBEq, Nat.reduceEqDiff, tupleOf, stepT, i0]
  refine cur_Bad_spec hc ?_
  cases st with
  | none =>
    have e : (none : CurS).isNone = true := rfl
    rw [e]
    simp (maxSteps := 1000000) (disch := omega) only [stepS, reduceIte, Nat.reduceBEq, Nat.reduceEqDiff, tupleOf, stepT, i0]
    exact hq _ hl (Keep.refl _ _) hc
  | some bs =>
    obtain ⟨v, h1, h2, h3, h40⟩ := hc
    have hc : CurA A0.length A i (some bs) := ⟨v, h1, h2, h3, h40⟩
    have e : (some bs).isNone = false := rfl
    have d1 := row_load h2 (by simp) (o := 0 + 0) (v := v) rfl
    rw [e] at h2 ⊢
    simp (maxSteps := 1000000) (disch := omega) only [stepS, reduceIte, Nat.reduceBEq, Nat.reduceEqDiff, tupleOf, stepT, i0, nilc_ptr, faddr_ptr, d1]
    refine num_Get_spec h3 ?_
    cases hg : getN bs with
    | none =>
      rw [getV_none hg]
      have et : numC (some bs) = (none, 0) := by unfold numC; simp only [hg]
      rw [et] at hq
      simp (maxSteps := 1000000) (disch := omega) only [stepS, reduceIte, Nat.reduceBEq, Nat.reduceEqDiff, tupleOf, stepT, i0]
      refine cur_fail_spec hl hc fun A' k1 k2 k3 => ?_
      simp (maxSteps := 1000000) (disch := omega) only [stepS, reduceIte, Nat.reduceBEq, Nat.reduceEqDiff, tupleOf, stepT]
      exact hq _ k1 k2 k3
    | some r =>
      obtain ⟨n, k⟩ := r
      rw [getV_some hg]
      obtain ⟨g1, g2, g3, g4, g5⟩ := getN_ok hg
      have et : numC (some bs) = (some (bs.drop k), n) := by unfold numC; simp only [hg]
      rw [et] at hq
      obtain ⟨u, u1, u2⟩ := h3.from (l := k) g2
      obtain ⟨p, c, hs, _⟩ := u2.shape
      have d2 := row_store h2 (o := 0 + 0) (v := u) (by simp) (by rw [hs]; exact one1_sl _ _ _)
      simp (maxSteps := 1000000) (disch := omega) only [stepS, reduceIte, Nat.reduceBEq, Nat.reduceEqDiff, tupleOf, stepT, i0, nilc_ptr, faddr_ptr, d1, u1, d2]
      have hset : Keep A i (A.set i (.row ([v, .bool false].set (0 + 0) u) .own 0 true)) := Keep.set _ _ _
      exact hq _ (hl.set h1.1) hset ⟨u, ⟨h1.1, fun k hk => h1.2 k (sll_blk u1 k hk)⟩, set_get h2, u2.kp hset h2, by simp; omega⟩

theorem textC_num (st : CurS) : textC st = match (numC st).1 with | none => (none, []) | some r => if (numC st).2 ≤ 262144 then takeC (some r) (numC st).2 else (none, []) := by
  cases st with
  | none => rfl
  | some bs =>
    unfold textC numC
    simp only
    cases getN bs with
    | none => rfl
    | some r => rfl
theorem cur_Text_spec (hl : Le A0 A) (hc : CurA A0.length A i st) (hq : ∀ A' v, Le A0 A' → Keep A i A' → CurA A0.length A' i (textC st).1 → OwnB A.length A' v (textC st).2 → Q v A') : ACalls 1 Tryd.prog num_Cursor_Text [ptr i] Q A := by
  refine ACalls.of_fits mixed fits_num_Cursor_Text rfl ?_
  unfold ic_num_Cursor_Text
  have i0 : initA [ptr i] 0 = ptr i := rfl
  generalize initA [ptr i] = a at i0
  simp (maxSteps := 1000000) (disch := omega) only [stepS, reduceIte, Nat.reduceBEq, Nat.reduceEqDiff, tupleOf, stepT, i0]
  refine cur_Num_spec hl hc fun A1 k1 k2 k3 => ?_
  rw [textC_num] at hq
  generalize numC st = r at k3 hq ⊢
  obtain ⟨st1, n⟩ := r
  simp only at k3 hq ⊢
  cases st1 with
  | none =>
    have e : (none : CurS).isNone = true := rfl
    by_cases hb : n ≤ 262144
    · simp (maxSteps := 1000000) (disch := omega) only [stepS, reduceIte, Nat.reduceBEq, Nat.reduceEqDiff, tupleOf, stepT, i0]
      refine cur_Bad_spec k3 ?_
      rw [e]
      simp (maxSteps := 1000000) (disch := omega) only [stepS, reduceIte, Nat.reduceBEq, Nat.reduceEqDiff, tupleOf, stepT, i0]
      exact hq _ _ k1 k2 k3 (OwnB.nil _ _)
    · simp (maxSteps := 1000000) (disch := omega) only [stepS, reduceIte, Nat.reduceBEq, Nat.reduceEqDiff, tupleOf, stepT, i0]
      refine cur_Bad_spec k3 ?_
      rw [e]
      simp (maxSteps := 1000000) (disch := omega) only [stepS, reduceIte, Nat.reduceBEq, Nat.reduceEqDiff, tupleOf, stepT, i0]
      exact hq _ _ k1 k2 k3 (OwnB.nil _ _)
  | some bs =>
    have e : (some bs).isNone = false := rfl
    by_cases hb : n ≤ 262144
    · simp (maxSteps := 1000000) (disch := omega) only [stepS, reduceIte, Nat.reduceBEq, Nat.reduceEqDiff, tupleOf, stepT, i0]
      refine cur_Bad_spec k3 ?_
      rw [e]
      simp (maxSteps := 1000000) (disch := omega) only [stepS, reduceIte, Nat.reduceBEq, Nat.reduceEqDiff, tupleOf, stepT, i0]
      refine cur_Take_spec (n := n) k1 k3 fun A2 v m1 m2 m3 m4 => ?_
      simp (maxSteps := 1000000) (disch := omega) only [stepS, reduceIte, Nat.reduceBEq, Nat.reduceEqDiff, tupleOf, stepT]
      simp only [if_pos hb] at hq
      exact hq _ _ m1 (k2.trans m2) m3 (OwnS.mono m4 k2.1)
    · simp (maxSteps := 1000000) (disch := omega) only [stepS, reduceIte, Nat.reduceBEq, Nat.reduceEqDiff, tupleOf, stepT, i0]
      refine cur_Bad_spec k3 ?_
      rw [e]
      simp (maxSteps := 1000000) (disch := omega) only [stepS, reduceIte, Nat.reduceBEq, Nat.reduceEqDiff, tupleOf, stepT, i0]
      refine cur_Take_spec (n := -1) k1 k3 fun A2 v m1 m2 m3 m4 => ?_
      simp (maxSteps := 1000000) (disch := omega) only [stepS, reduceIte, Nat.reduceBEq, Nat.reduceEqDiff, tupleOf, stepT]
      simp only [if_neg hb] at hq
      have et : takeC (some bs) (-1) = (none, []) := by unfold takeC; simp only; rw [if_neg (by omega)]
      rw [et] at m3 m4
      exact hq _ _ m1 (k2.trans m2) m3 (OwnS.mono m4 k2.1)
end
end Go.AS.C


namespace Go.AS
open Go
set_option linter.unusedVariables false
set_option linter.unusedSimpArgs false

/-! Slices of elements of some cells each, of the call's own: read, written, swapped. -/

/-- All but the row at which v leads is as it was. -/
def KeepV (A : AH) (v : Value) (A' : AH) : Prop := A.length ≤ A'.length ∧ ∀ k b, A[k]? = some b → k ∉ blkOf v → A'[k]? = some b
def OwnE (a0 : Nat) (A : AH) (sz : Nat) (v : Value) (es : List (List Value)) : Prop := (∀ e ∈ es, e.length = sz ∧ ones e = true) ∧ OwnS a0 A sz v es.length es.flatten

section
variable {A B C A0 : AH} {v w : Value} {sz n a0 : Nat} {cs : List Value} {es fs : List (List Value)}
theorem KeepV.refl (A : AH) (v : Value) : KeepV A v A := ⟨Nat.le_refl _, fun _ _ h _ => h⟩
theorem KeepV.trans (h : KeepV A v B) (k : KeepV B v C) : KeepV A v C := ⟨Nat.le_trans h.1 k.1, fun j b hb hj => k.2 j b (h.2 j b hb hj) hj⟩
theorem KeepV.le (h : KeepV A v B) (hl : Le A0 A) (hi : ∀ k ∈ blkOf v, A0.length ≤ k) : Le A0 B := by
  refine Le.of_get (fun k hk => ?_) (Nat.le_trans hl.len h.1)
  have hb : A0[k]? = some A0[k] := List.getElem?_eq_getElem hk
  rw [hb, h.2 k _ (hl.get hb) (fun hm => by have := hi k hm; omega)]
theorem iaddr_any {x i p : Value} {A' : AH} (h : sIaddr A x i sz = some (p, A')) (B : AH) : sIaddr B x i sz = some (p, B) := by
  unfold sIaddr at h ⊢
  split at h
  · rw [Option.bind_eq_some_iff] at h
    obtain ⟨j, h1, h⟩ := h
    split at h
    · rename_i hc
      injection h with h; injection h with h2 h3; subst h2
      simp only [h1, Option.bind_some]
      rw [if_pos hc]
    · cases h
  · cases h
theorem ones_flatten (h : ∀ e ∈ es, e.length = sz ∧ ones e = true) : ones es.flatten = true := by
  unfold ones
  rw [List.all_eq_true]
  intro x hx
  obtain ⟨e, he, hx⟩ := List.mem_flatten.1 hx
  have := (h e he).2
  unfold ones at this
  rw [List.all_eq_true] at this
  exact this x hx
theorem flat_len' (h : ∀ e ∈ es, e.length = sz ∧ ones e = true) : es.flatten.length = es.length * sz := flat_len es sz (fun j c hc => (h c (List.mem_of_getElem? hc)).1)
theorem flat_cut (h : ∀ e ∈ es, e.length = sz ∧ ones e = true) {j : Nat} {e : List Value} (hj : es[j]? = some e) : (es.flatten.drop (j * sz)).take sz = e := by
  have h1 := flat_part es j e hj
  have h2 := flat_len_take es sz (fun j c hc => (h c (List.mem_of_getElem? hc)).1) j (Nat.le_of_lt (lt_of_get hj))
  rw [h2, (h e (List.mem_of_getElem? hj)).1] at h1
  exact h1
theorem flat_at (h : ∀ e ∈ es, e.length = sz ∧ ones e = true) {j o : Nat} {e : List Value} (hj : es[j]? = some e) (ho : o < sz) : es.flatten[j * sz + o]? = e[o]? := by
  have := flat_cut h hj
  rw [← this, List.getElem?_take_of_lt ho, List.getElem?_drop]
/-- An element is read. -/
theorem Sl.el (h : Sl A sz v es.length es.flatten) (he : ∀ e ∈ es, e.length = sz ∧ ones e = true) {j : Nat} {e : List Value} (hj : es[j]? = some e) :
    ∃ p, blkOf p = blkOf v ∧ (∀ (B : AH) (n : Int), n = (j : Int) → sIaddr B v (.int .i64 n) sz = some (p, B)) ∧ sLoadn A p sz = some (.agg e.toArray, A) ∧ ∀ B, (∀ k b, A[k]? = some b → k ∈ blkOf v → B[k]? = some b) → sLoadn B p sz = some (.agg e.toArray, B) := by
  obtain ⟨p, p1, p2⟩ := h.atn (lt_of_get hj)
  rw [flat_cut he hj] at p2
  refine ⟨p, iaddr_blk p1, ?_, p2, fun B hB => ?_⟩
  · rintro B n rfl; exact iaddr_any p1 B
  · have hb := iaddr_blk p1
    unfold sLoadn at p2 ⊢
    split at p2
    · rename_i i o
      rw [Option.bind_eq_some_iff] at p2
      obtain ⟨r, q1, q2⟩ := p2
      rw [Option.map_eq_some_iff] at q2
      obtain ⟨l, q2, q3⟩ := q2
      injection q3 with q3 q4
      obtain ⟨r1, r2, r3, r4⟩ := r
      obtain ⟨g1, g2⟩ := getRow_some q1
      have g3 := hB i _ g1 (by rw [← hb]; simp [blkOf])
      have : getRow B i = some (r1, r2, r3, r4) := by unfold getRow; simp only [g3, if_neg g2]
      simp only [this, Option.bind_some, q2, Option.map_some, q3]
    · cases p2
theorem OwnE.el (h : OwnE a0 A sz v es) {j : Nat} {e : List Value} (hj : es[j]? = some e) :
    ∃ p, blkOf p = blkOf v ∧ (∀ (B : AH) (n : Int), n = (j : Int) → sIaddr B v (.int .i64 n) sz = some (p, B)) ∧ sLoadn A p sz = some (.agg e.toArray, A) ∧ ∀ B, (∀ k b, A[k]? = some b → k ∈ blkOf v → B[k]? = some b) → sLoadn B p sz = some (.agg e.toArray, B) := Sl.el h.2.sl h.1 hj
/-- An element is written. -/
theorem OwnE.put (h : OwnE a0 A sz v es) {j : Nat} {e : List Value} (hj : j < es.length) (h1 : e.length = sz) (h2 : ones e = true) {p : Value} (hp : sIaddr A v (.int .i64 (j : Int)) sz = some (p, A)) :
    ∃ A', sStore A p (.agg e.toArray) sz = some (undef, A') ∧ OwnE a0 A' sz v (es.set j e) ∧ KeepV A v A' := by
  obtain ⟨he, hs⟩ := h
  have hfl := flat_len' he
  have hm : j * sz + sz ≤ es.length * sz := by
    have := Nat.mul_le_mul_right sz (show j + 1 ≤ es.length by omega)
    rw [Nat.add_mul, Nat.one_mul] at this
    exact this
  obtain ⟨h0, hs⟩ := hs
  rcases hs with ⟨rfl, hz⟩ | ⟨rfl, hz⟩ | ⟨i, o, c, rc, ex, rfl, k2, k3, k4, k5, k6⟩
  · omega
  · omega
  · have e1 : sIaddr A (.slice (some ⟨i, o, none⟩) es.length c) (.int .i64 (j : Int)) sz = some (.pointer (some ⟨i, o + j * sz, none⟩), A) := by
      unfold sIaddr
      simp only [asI, Option.bind_some]
      rw [if_pos ⟨by omega, by omega⟩]
      simp
    rw [e1] at hp
    injection hp with hp; injection hp with hp _; subst hp
    have ec : (Value.agg e.toArray).cells = e.toArray := rfl
    refine ⟨A.set i (.row (setAll rc (o + j * sz) e) .own sz ex), ?_, ⟨?_, ?_⟩, ?_⟩
    · unfold sStore
      rw [ec]
      simp only [List.size_toArray]
      rw [if_pos h1]
      unfold wr
      simp only [k4]
      rw [if_pos ⟨by omega, h2⟩]
      rfl
    · intro x hx
      rcases List.mem_or_eq_of_mem_set hx with hx | rfl
      · exact he x hx
      · exact ⟨h1, h2⟩
    · have he' : ∀ x ∈ es.set j e, x.length = sz ∧ ones x = true := by
        intro x hx
        rcases List.mem_or_eq_of_mem_set hx with hx | rfl
        · exact he x hx
        · exact ⟨h1, h2⟩
      have hl2 : (es.set j e).length = es.length := List.length_set ..
      refine ⟨by rw [flat_len' he'], .inr (.inr ⟨i, o, c, setAll rc (o + j * sz) e, ex, by rw [hl2], by rw [hl2]; exact k2, k3, by rw [List.getElem?_set_self (lt_of_get k4)], ?_, ?_⟩)⟩
      · rw [setAll_length _ _ _ (by omega), hl2]; exact k5
      · intro m hm2
        rw [hl2] at hm2
        have hsz : 0 < sz := by
          rcases Nat.eq_zero_or_pos sz with h | h
          · subst h; omega
          · exact h
        rw [setAll_get _ _ _ (by omega)]
        obtain ⟨q, r, rfl, hr⟩ : ∃ q r, m = q * sz + r ∧ r < sz := ⟨m / sz, m % sz, by rw [Nat.mul_comm]; exact (Nat.div_add_mod m sz).symm, Nat.mod_lt _ hsz⟩
        have hq : q < es.length := by
          rcases Nat.lt_or_ge q es.length with h | h
          · exact h
          · have := Nat.mul_le_mul_right sz h; omega
        by_cases hqj : q = j
        · subst hqj
          rw [if_pos ⟨by omega, by omega⟩, flat_at he' (j := q) (o := r) (e := e) (List.getElem?_set_self hq) hr]
          congr 1; omega
        · obtain ⟨x, hx⟩ : ∃ x, es[q]? = some x := ⟨_, List.getElem?_eq_getElem hq⟩
          have hne : ¬ (o + j * sz ≤ o + (q * sz + r) ∧ o + (q * sz + r) < o + j * sz + e.length) := by
            rintro ⟨u1, u2⟩
            rcases Nat.lt_or_gt_of_ne hqj with hlt | hgt
            · have := Nat.mul_le_mul_right sz (show q + 1 ≤ j by omega)
              rw [Nat.add_mul, Nat.one_mul] at this; omega
            · have := Nat.mul_le_mul_right sz (show j + 1 ≤ q by omega)
              rw [Nat.add_mul, Nat.one_mul] at this; omega
          rw [if_neg hne, k6 _ hm2, flat_at he hx hr, flat_at he' (e := x) (by rw [List.getElem?_set_ne (by omega)]; exact hx) hr]
    · refine ⟨by rw [List.length_set]; exact Nat.le_refl _, fun k b hb hk => ?_⟩
      rw [List.getElem?_set_ne (fun h => hk (by subst h; simp [blkOf]))]
      exact hb
theorem OwnE.le (h : OwnE a0 A sz v es) (hl : Le A B) : OwnE a0 B sz v es := ⟨h.1, h.2.le hl⟩
theorem OwnE.ge (h : OwnE a0 A sz v es) : ∀ k ∈ blkOf v, a0 ≤ k ∧ k < A.length := h.2.ge
theorem OwnE.len (h : OwnE a0 A sz v es) : sLens A false v = some (.int .i64 es.length, A) := h.2.sl.len
end
end Go.AS


namespace Go.AS
open Go
set_option linter.unusedVariables false
set_option linter.unusedSimpArgs false

/-! Lists in order by a key; rearrangements that keep what has one key in its order. -/

theorem bytesLess_lt : ∀ (x y : List UInt8), Op.bytesLess x y = decide (x < y)
  | [], [] => by simp [Op.bytesLess]
  | _ :: _, [] => by simp [Op.bytesLess]
  | [], _ :: _ => by simp [Op.bytesLess]
  | a :: x, b :: y => by
    rw [Op.bytesLess, bytesLess_lt x y]
    simp only [List.cons_lt_cons_iff]
    by_cases h1 : a < b <;> by_cases h2 : a = b <;> by_cases h3 : x < y <;> simp [h1, h2, h3]

theorem kl_irr (a : List UInt8) : ¬ a < a := List.lt_irrefl a
theorem kl_tr {a b c : List UInt8} (h : a < b) (k : b < c) : a < c := List.lt_trans h k
section
variable {α : Type} {key : α → List UInt8}
/-- A stable rearrangement. -/
def Rk (key : α → List UInt8) (l l' : List α) : Prop := l'.length = l.length ∧ ∀ k, l'.filter (fun e => decide (key e = k)) = l.filter (fun e => decide (key e = k))
/-- In order. -/
def Srt (key : α → List UInt8) (l : List α) : Prop := l.Pairwise fun a b => ¬ key b < key a

theorem Rk.refl (l : List α) : Rk key l l := ⟨rfl, fun _ => rfl⟩
theorem Rk.trans {a b c : List α} (h : Rk key a b) (k : Rk key b c) : Rk key a c := ⟨k.1.trans h.1, fun x => (k.2 x).trans (h.2 x)⟩
theorem Rk.app {a b c d : List α} (h : Rk key a b) (k : Rk key c d) : Rk key (a ++ c) (b ++ d) :=
  ⟨by simp [h.1, k.1], fun x => by simp [List.filter_append, h.2 x, k.2 x]⟩
theorem Rk.mem {a b : List α} (h : Rk key a b) {x : α} : x ∈ b ↔ x ∈ a := by
  have := h.2 (key x)
  have e : ∀ l : List α, x ∈ l.filter (fun e => decide (key e = key x)) ↔ x ∈ l := fun l => by simp
  rw [← e b, this, e a]
theorem Srt.app {a b : List α} (ha : Srt key a) (hb : Srt key b) (h : ∀ x ∈ a, ∀ y ∈ b, ¬ key y < key x) : Srt key (a ++ b) :=
  List.pairwise_append.2 ⟨ha, hb, h⟩
theorem Srt.left {a b : List α} (h : Srt key (a ++ b)) : Srt key a := (List.pairwise_append.1 h).1
theorem Srt.right {a b : List α} (h : Srt key (a ++ b)) : Srt key b := (List.pairwise_append.1 h).2.1
theorem Srt.get {l : List α} (h : Srt key l) {i j : Nat} {x y : α} (hi : l[i]? = some x) (hj : l[j]? = some y) (hij : i ≤ j) : ¬ key y < key x := by
  rcases Nat.lt_or_ge i j with hlt | hge
  · obtain ⟨h1, h2⟩ := List.getElem?_eq_some_iff.1 hi
    obtain ⟨h3, h4⟩ := List.getElem?_eq_some_iff.1 hj
    have := List.pairwise_iff_getElem.1 h i j h1 h3 hlt
    rw [h2, h4] at this
    exact this
  · have : i = j := by omega
    subst this
    rw [hi] at hj
    obtain rfl := Option.some.inj hj
    exact kl_irr _
theorem Srt.one (x : α) : Srt key [x] := by simp [Srt]
theorem Srt.nil : Srt key ([] : List α) := by simp [Srt]
end
end Go.AS


namespace Go.AS
open Go
set_option maxRecDepth 100000
/-! Codes of library functions that are alike in many chapters (printed by geni.py). -/
end Go.AS


namespace Go.AS
open Go
set_option linter.unusedVariables false
set_option linter.unusedSimpArgs false
set_option maxRecDepth 10000

section
variable {G : Nat} {P : Program} (hm : P.follows .mixedOrders = true) {sz a0 : Nat} {A : AH} {v fv : Value} {Q : Value → AH → Prop}
include hm
end
end Go.AS


namespace Go.AS
open Go
set_option linter.unusedVariables false
set_option linter.unusedSimpArgs false
set_option maxRecDepth 10000

section
variable {G : Nat} {P : Program} (hm : P.follows .mixedOrders = true) {sz a0 : Nat} {A : AH} {v fv : Value} {Q : Value → AH → Prop} {dom : List Value → Prop} {key : List Value → List UInt8}
include hm
end
end Go.AS


namespace Go.AS
open Go
set_option linter.unusedVariables false
set_option linter.unusedSimpArgs false

section
variable {α : Type} {key : α → List UInt8}
theorem get_some {l : List α} {k : Nat} (h : k < l.length) : ∃ x, l[k]? = some x := ⟨_, List.getElem?_eq_getElem h⟩
end
end Go.AS


namespace Go.AS
open Go
set_option linter.unusedVariables false
set_option linter.unusedSimpArgs false
set_option maxRecDepth 10000

section
variable {G : Nat} {P : Program} (hm : P.follows .mixedOrders = true) {sz : Nat} {fv : Value} {dom : List Value → Prop} {key : List Value → List UInt8}

section
variable {A : AH} {v : Value} {a0 : Nat} {X Y : List (List Value)} {r : AT} {R : Exit → AT → AH → Prop}
include hm in
end
end
end Go.AS


namespace Go.AS
open Go
set_option linter.unusedVariables false
set_option linter.unusedSimpArgs false
set_option maxRecDepth 10000

section
variable {G : Nat} {P : Program} (hm : P.follows .mixedOrders = true) {sz : Nat} {fv : Value} {dom : List Value → Prop} {key : List Value → List UInt8}
include hm in
end
end Go.AS


namespace Go.AS
open Go
set_option linter.unusedVariables false
set_option linter.unusedSimpArgs false
set_option maxRecDepth 10000

section
variable {α : Type} {key : α → List UInt8}
/-- In order in parts of so many. -/
def ChS (key : α → List UInt8) (bs : Nat) (l : List α) : Prop := ∀ i, Srt key ((l.drop (i * bs)).take bs)
theorem ChS.nil {bs : Nat} : ChS key bs ([] : List α) := fun i => by simp [Srt]
theorem ChS.push {bs i : Nat} {D S : List α} (h : ChS key bs D) (hD : D.length = i * bs) (hS : S.length ≤ bs) (hs : Srt key S) : ChS key bs (D ++ S) := by
  intro j
  rcases Nat.lt_trichotomy j i with hj | hj | hj
  · have : j * bs + bs ≤ D.length := by
      rw [hD]
      have := Nat.mul_le_mul_right bs (show j + 1 ≤ i by omega)
      rw [Nat.add_mul, Nat.one_mul] at this; exact this
    rw [List.drop_append_of_le_length (by omega), List.take_append_of_le_length (by rw [List.length_drop]; omega)]
    exact h j
  · subst hj
    rw [← hD, List.drop_left, List.take_of_length_le hS]
    exact hs
  · have : (D ++ S).length ≤ j * bs := by
      rw [List.length_append, hD]
      have := Nat.mul_le_mul_right bs (show i + 1 ≤ j by omega)
      rw [Nat.add_mul, Nat.one_mul] at this; omega
    rw [List.drop_of_length_le this]
    simp [Srt]
theorem ChS.all {bs : Nat} {l : List α} (h : ChS key bs l) (hl : l.length ≤ bs) : Srt key l := by
  have := h 0
  rw [Nat.zero_mul, List.drop_zero, List.take_of_length_le hl] at this
  exact this
end

section
variable {G : Nat} {P : Program} (hm : P.follows .mixedOrders = true) {sz a0 : Nat} {A : AH} {v fv : Value} {Q : Value → AH → Prop} {dom : List Value → Prop} {key : List Value → List UInt8}
include hm
end
end Go.AS


namespace Go.AS
open Go
set_option linter.unusedVariables false
set_option linter.unusedSimpArgs false

/-! Slices of elements: cut, cleared, appended to. -/
section
variable {A B C A0 : AH} {v w u : Value} {sz n a0 l k : Nat} {cs e z : List Value} {es fs : List (List Value)} {lo hi : Option Value}

theorem flatten_cut (h : ∀ e ∈ es, e.length = sz ∧ ones e = true) (hlk : l ≤ k) (hk : k ≤ es.length) : ((es.take k).drop l).flatten = (es.flatten.drop (l * sz)).take ((k - l) * sz) := by
  have ht : ∀ j, j ≤ es.length → (es.take j).flatten.length = j * sz := fun j hj => flat_len_take es sz (fun j c hc => (h c (List.mem_of_getElem? hc)).1) j hj
  have e1 : es.flatten = ((es.take k).take l).flatten ++ (((es.take k).drop l).flatten ++ (es.drop k).flatten) := by
    rw [← List.append_assoc, ← List.flatten_append, List.take_append_drop, ← List.flatten_append, List.take_append_drop]
  have l1 : ((es.take k).take l).flatten.length = l * sz := by
    rw [List.take_take, Nat.min_eq_left hlk]; exact ht l (by omega)
  have l2 : ((es.take k).drop l).flatten.length = (k - l) * sz := by
    have := ht k hk
    rw [← List.take_append_drop l (es.take k), List.flatten_append, List.length_append, l1] at this
    rw [Nat.sub_mul]; omega
  rw [e1, ← l1, List.drop_left, ← l2, List.take_left]
/-- A part of a slice. -/
theorem OwnE.cut (h : OwnE a0 A sz v es) (hlk : l ≤ k) (hk : k ≤ es.length) (hb : ∀ c, es.length ≤ c → boundsA es.length c lo hi none = some (l, k, c)) :
    ∃ u, (∀ j ∈ blkOf u, j ∈ blkOf v) ∧ (∃ p c, u = .slice p (k - l) c) ∧ ∀ B fs, OwnE a0 B sz v fs → fs.length = es.length → sSll B v lo hi none sz = some (u, B) ∧ OwnE a0 B sz u ((fs.take k).drop l) := by
  obtain ⟨he, h0, h⟩ := h
  have mem : ∀ fs : List (List Value), (∀ e ∈ fs, e.length = sz ∧ ones e = true) → ∀ e ∈ (fs.take k).drop l, e.length = sz ∧ ones e = true := fun fs hf e hx => hf e (List.mem_of_mem_take (List.mem_of_mem_drop hx))
  rcases h with ⟨rfl, hz⟩ | ⟨rfl, hz⟩ | ⟨i, o, c, rc, ex, rfl, h2, h3, h4, h5, h6⟩
  · have : l = 0 := by omega
    have : k = 0 := by omega
    subst l k
    refine ⟨.slice none 0 0, fun j hj => hj, ⟨_, _, rfl⟩, fun B fs hf hl => ⟨?_, ?_⟩⟩
    · rw [hz] at hb
      unfold sSll
      simp only [hb 0 (Nat.le_refl _)]
      rfl
    · exact ⟨fun e hx => by simp at hx, OwnS.nil _ _ _⟩
  · have : l = 0 := by omega
    have : k = 0 := by omega
    subst l k
    refine ⟨.slice (some zmk) 0 0, fun j hj => hj, ⟨_, _, rfl⟩, fun B fs hf hl => ⟨?_, ?_⟩⟩
    · rw [hz] at hb
      unfold sSll zmk
      simp only [hb 0 (Nat.le_refl _)]
      rfl
    · exact ⟨fun e hx => by simp at hx, by simp, .inr (.inl ⟨rfl, rfl⟩)⟩
  · refine ⟨.slice (some ⟨i, o + l * sz, none⟩) (k - l) (c - l), fun j hj => hj, ⟨_, _, rfl⟩, fun B fs hf hl => ?_⟩
    obtain ⟨hf1, hf0, hf⟩ := hf
    have hlen : ((fs.take k).drop l).length = k - l := by rw [List.length_drop, List.length_take]; omega
    have hmul : l * sz + (k - l) * sz ≤ es.length * sz := by rw [← Nat.add_mul]; exact Nat.mul_le_mul_right _ (by omega)
    rcases hf with ⟨q, _⟩ | ⟨q, _⟩ | ⟨i', o', c', rc', ex', q, q2, q3, q4, q5, q6⟩
    · cases q
    · cases q
    · injection q with q q7 q8
      injection q with q
      injection q with q9 q10
      subst q9 q10 q8
      constructor
      · unfold sSll
        simp only [hb c h2, Option.bind_some]
        unfold rowSz
        rw [q4]
        simp
      · refine ⟨mem fs hf1, by rw [flat_len' (mem fs hf1)], .inr (.inr ⟨i, o + l * sz, c - l, rc', ex', by rw [hlen], by rw [hlen]; omega, q3, q4, by rw [hlen]; rw [hl] at q5; omega, ?_⟩)⟩
        intro j hj
        rw [hlen] at hj
        rw [flatten_cut hf1 hlk (by omega), List.getElem?_take_of_lt hj, List.getElem?_drop, Nat.add_assoc, q6 _ (by rw [hl]; omega)]
theorem ones_rep (hz : ones z = true) (m : Nat) : ones ((List.replicate m z).flatten) = true := by
  unfold ones at *
  rw [List.all_eq_true] at *
  intro x hx
  obtain ⟨l, h1, h2⟩ := List.mem_flatten.1 hx
  rw [List.mem_replicate] at h1
  rw [h1.2] at h2
  exact hz x h2
/-- What stands from l on is cleared. -/
theorem OwnE.clr (h : OwnE a0 A sz v es) (hl : l ≤ es.length) (hz : z.length = sz) (hz1 : ones z = true) (hu : sSll A v (some (.int .i64 (l : Int))) none none sz = some (u, A)) :
    ∃ A', sClr A u z = some (undef, A') ∧ OwnE a0 A' sz v (es.take l ++ List.replicate (es.length - l) z) ∧ KeepV A v A' := by
  have hE := h
  obtain ⟨he, h0, h⟩ := h
  have hb : ∀ c, es.length ≤ c → boundsA es.length c (some (ii l)) none none = some (l, es.length, c) := fun c hc => bnd_lo hl hc
  rcases h with ⟨rfl, hzz⟩ | ⟨rfl, hzz⟩ | ⟨i, o, c, rc, ex, rfl, h2, h3, h4, h5, h6⟩
  · have : l = 0 := by omega
    subst l
    have hes : es = [] := List.length_eq_zero_iff.1 hzz
    subst hes
    have : sSll A (.slice none 0 0) (some (ii (0 : Nat))) none none sz = some (.slice none 0 0, A) := rfl
    rw [show (Value.int .i64 ((0 : Nat) : Int)) = ii (0 : Nat) from rfl, this] at hu
    injection hu with hu; injection hu with hu; subst hu
    exact ⟨A, rfl, hE, .refl _ _⟩
  · have : l = 0 := by omega
    subst l
    have hes : es = [] := List.length_eq_zero_iff.1 hzz
    subst hes
    have : sSll A (.slice (some zmk) 0 0) (some (ii (0 : Nat))) none none sz = some (.slice (some zmk) 0 0, A) := rfl
    rw [show (Value.int .i64 ((0 : Nat) : Int)) = ii (0 : Nat) from rfl, this] at hu
    injection hu with hu; injection hu with hu; subst hu
    exact ⟨A, rfl, hE, .refl _ _⟩
  · have e : sSll A (.slice (some ⟨i, o, none⟩) es.length c) (some (.int .i64 (l : Int))) none none sz = some (.slice (some ⟨i, o + l * sz, none⟩) (es.length - l) (c - l), A) := by
      unfold sSll
      have := hb c h2
      unfold ii at this
      simp only [this, Option.bind_some]
      unfold rowSz
      rw [h4]
      simp
    rw [e] at hu
    injection hu with hu; injection hu with hu _; subst hu
    by_cases hm : es.length - l = 0
    · rw [hm]
      have : l = es.length := by omega
      subst this
      refine ⟨A, rfl, ?_, .refl _ _⟩
      rw [List.take_length]
      simpa using hE
    · obtain ⟨m, hm'⟩ : ∃ m, es.length - l = m + 1 := ⟨es.length - l - 1, by omega⟩
      have hmul : l * sz + (es.length - l) * sz = es.length * sz := by rw [← Nat.add_mul]; congr 1; omega
      have hrl : ((List.replicate (m + 1) z).flatten).length = (m + 1) * sz := by rw [rep_length, hz]
      rw [hm'] at hmul ⊢
      refine ⟨A.set i (.row (setAll rc (o + l * sz) ((List.replicate (m + 1) z).flatten)) .own sz ex), ?_, ⟨?_, ?_⟩, ?_⟩
      · show (wr A i (o + l * sz) _).map _ = _
        unfold wr
        simp only [h4]
        rw [if_pos ⟨by rw [hrl]; omega, ones_rep hz1 _⟩]
        rfl
      · intro x hx
        rcases List.mem_append.1 hx with hx | hx
        · exact he x (List.mem_of_mem_take hx)
        · rw [(List.mem_replicate.1 hx).2]; exact ⟨hz, hz1⟩
      · have hll : (es.take l ++ List.replicate (m + 1) z).length = es.length := by simp; omega
        have hfl : (es.take l).flatten.length = l * sz := flat_len_take es sz (fun j c hc => (he c (List.mem_of_getElem? hc)).1) l hl
        refine ⟨by rw [hll, List.flatten_append, List.length_append, hfl, hrl]; omega, .inr (.inr ⟨i, o, c, _, ex, by rw [hll], by rw [hll]; exact h2, h3, by rw [List.getElem?_set_self (lt_of_get h4)], ?_, ?_⟩)⟩
        · rw [setAll_length _ _ _ (by rw [hrl]; omega), hll]; exact h5
        · intro j hj
          rw [hll] at hj
          rw [setAll_get _ _ _ (by rw [hrl]; omega), List.flatten_append, hrl]
          rcases Nat.lt_or_ge j (l * sz) with hlt | hge
          · rw [if_neg (by omega), h6 _ hj, List.getElem?_append_left (by omega)]
            conv => lhs; rw [← List.take_append_drop l es, List.flatten_append]
            rw [List.getElem?_append_left (by omega)]
          · rw [if_pos (by omega), List.getElem?_append_right (by omega), hfl]
            congr 1; omega
      · refine ⟨by rw [List.length_set]; exact Nat.le_refl _, fun k b hb' hk => ?_⟩
        rw [List.getElem?_set_ne (fun h => hk (by subst h; simp [blkOf]))]
        exact hb'
theorem OwnE.nil (a0 : Nat) (A : AH) (sz : Nat) : OwnE a0 A sz (.slice none 0 0) [] := ⟨(fun e h => by cases h), OwnS.nil _ _ _⟩
/-- One more element. -/
theorem OwnE.push {bytes : Nat} (hl : Le A0 A) (h : OwnE A0.length A sz v es) (hsz : 0 < sz) (he : e.length = sz) (ho : ones e = true) (hb : 2 * ((es.length + 1) * bytes) ≤ 2 ^ 48) (hb0 : 0 < bytes) :
    ∃ v' A', sApp (A ++ [.row e .own sz true]) v (.slice (some ⟨A.length, 0, none⟩) 1 1) sz bytes = some (v', A') ∧ Le A0 A' ∧ OwnE A0.length A' sz v' (es ++ [e]) ∧ KeepV A v A' ∧ (blkOf v' = [A.length + 1] ∨ blkOf v' = blkOf v) := by
  have k1 : Le A (A ++ [.row e .own sz true]) := .push _ _
  have hs : Sl (A ++ [.row e .own sz true]) sz (.slice (some ⟨A.length, 0, none⟩) 1 1) 1 e :=
    ⟨by simp [he], .inr (.inr ⟨A.length, 0, 1, e, .own, true, rfl, by omega, by simp, by simp, by simp [he], fun j _ => by rw [Nat.zero_add]⟩)⟩
  obtain ⟨v', A', e1, e2, e3, e4⟩ := app_cells (bytes := bytes) (hl.trans k1) (h.2.le k1) hs ho hsz hb hb0
  have hf := app_fresh rfl (by simp) e1
  have hle := k1.len
  refine ⟨v', A', e1, e2, ⟨?_, ?_⟩, ⟨?_, fun i b hb hi => e4 i b (k1.get hb) (fun o c q => hi (by rw [q]; simp [blkOf]))⟩, by simpa using hf⟩
  · intro x hx
    rcases List.mem_append.1 hx with hx | hx
    · exact h.1 x hx
    · rw [List.mem_singleton.1 hx]; exact ⟨he, ho⟩
  · simpa using e3
  · refine Nat.le_trans hle ?_
    have : ∀ i, i < (A ++ [Blk.row e .own sz true]).length → i ∉ blkOf v → i < A'.length := by
      intro i hi hv
      exact lt_of_get (e4 i _ (List.getElem?_eq_getElem hi) (fun o c q => hv (by rw [q]; simp [blkOf])))
    have hlast := this A.length (by simp) (fun hv => by have := (h.2.ge A.length hv).2; omega)
    simp
    omega
end
end Go.AS


namespace Go.AS
open Go
set_option maxRecDepth 100000
/-! Codes of library functions that are alike in many chapters (printed by geni.py). -/
end Go.AS


namespace Go.AS
open Go
set_option linter.unusedVariables false
set_option linter.unusedSimpArgs false
set_option maxRecDepth 10000

section
variable {α : Type} {key : α → List UInt8}
/-- What keeps the order of what has one key keeps the first with each. -/
theorem Rk.find {a b : List α} (h : Rk key a b) (k : List UInt8) : b.find? (fun e => decide (key e = k)) = a.find? (fun e => decide (key e = k)) := by
  rw [← List.head?_filter, ← List.head?_filter, h.2 k]
end

section
variable {G : Nat} {P : Program} (hm : P.follows .mixedOrders = true) {sz a0 : Nat} {A : AH} {v fv : Value} {Q : Value → AH → Prop} {dom : List Value → Prop} {key : List Value → List UInt8}
include hm
end
end Go.AS


namespace Go.AS
open Go
set_option linter.unusedVariables false
set_option linter.unusedSimpArgs false

/-! One by one into a list that rises; what has the key of one that is there goes. -/
section
variable {α β : Type} {key : α → List UInt8}
theorem Rk.map {f : β → α} {kb : β → List UInt8} {a b : List β} (h : Rk kb a b) (hk : ∀ x ∈ a, kb x = key (f x)) : Rk key (a.map f) (b.map f) := by
  refine ⟨by simp [h.1], fun k => ?_⟩
  have aux : ∀ l : List β, (∀ x ∈ l, kb x = key (f x)) → (l.map f).filter (fun e => decide (key e = k)) = (l.filter (fun e => decide (kb e = k))).map f := by
    intro l hl
    rw [List.filter_map]
    congr 1
    apply List.filter_congr
    intro x hx
    simp [hl x hx]
  rw [aux b (fun x hx => hk x (h.mem.1 hx)), aux a hk, h.2 k]
theorem Srt.map {f : β → α} {kb : β → List UInt8} {a : List β} (h : Srt kb a) (hk : ∀ x ∈ a, kb x = key (f x)) : Srt key (a.map f) := by
  unfold Srt at *
  rw [List.pairwise_map]
  exact h.imp_of_mem (fun {x y} hx hy hxy => by rw [← hk x hx, ← hk y hy]; exact hxy)
end
end Go.AS


namespace Go.AS
open Go
set_option linter.unusedVariables false
set_option linter.unusedSimpArgs false

/-! Texts: their order. -/
abbrev bl (s : ByteArray) : List UInt8 := s.data.toList
theorem geS (a b : ByteArray) : binA .geq (.string a) (.string b) = some (.bool (decide (¬ bl a < bl b))) := by
  simp only [binA, toList_data, bytesLess_lt]
  congr 2
  by_cases h : bl a < bl b <;> simp [h]
section
variable {A B : AH} {sz n : Nat} {v x : Value} {cs : List Value}
end
end Go.AS


namespace Go.AS.C
open Go Go.Proofs
set_option linter.unusedVariables false
set_option linter.unusedSimpArgs false
set_option maxRecDepth 10000

/-! Operations, as plain data. -/
theorem textC_text {t : List UInt8} (h : t.length ≤ 262144) (r : List UInt8) : textC (some (textN t ++ r)) = (some r, t) := by
  unfold textC textN
  rw [List.append_assoc]
  simp only [getN_put (n := t.length) (by omega), List.drop_left]
  rw [if_pos h]
  unfold takeC
  simp only [Int.toNat_natCast]
  rw [if_pos ⟨by omega, by rw [List.length_append]; omega⟩, List.drop_left, List.take_left]
theorem textC_ok {l l1 t : List UInt8} (h : textC (some l) = (some l1, t)) : l = textN t ++ l1 := by
  unfold textC at h
  simp only at h
  split at h
  · rename_i n k hg
    obtain ⟨_, _, _, _, h5⟩ := getN_ok hg
    split at h
    · unfold takeC at h
      simp only [Int.toNat_natCast] at h
      split at h
      · rename_i hn
        injection h with h1 h2
        injection h1 with h1
        subst h1 h2
        have ht : ((l.drop k).take n).length = n := by rw [List.length_take]; omega
        unfold textN
        rw [ht, h5, List.append_assoc, List.take_append_drop, List.take_append_drop]
      · injection h with h1 _
        cases h1
    · injection h with h1 _
      cases h1
  · injection h with h1 _
    cases h1
theorem takeC_all {l r : List UInt8} {n : Nat} (h : l.length = n) : takeC (some (l ++ r)) n = (some r, l) := by
  subst h
  unfold takeC
  simp only [Int.toNat_natCast]
  rw [if_pos ⟨by omega, by rw [List.length_append]; omega⟩, List.drop_left, List.take_left]
theorem takeC_ok {l r t : List UInt8} {n : Nat} (h : takeC (some l) n = (some r, t)) : l = t ++ r ∧ t.length = n := by
  unfold takeC at h
  simp only [Int.toNat_natCast] at h
  split at h
  · injection h with h1 h2
    injection h1 with h1
    subst h1 h2
    exact ⟨(List.take_append_drop ..).symm, by rw [List.length_take]; omega⟩
  · injection h with h1 _; cases h1
theorem leB_leN : ∀ l : List UInt8, leB (leN l) l.length = l
  | [] => rfl
  | b :: r => by
    have e : leB (leN (b :: r)) (r.length + 1) = UInt8.ofNat (leN (b :: r)) :: leB (leN (b :: r) / 256) r.length := by
      unfold leB
      rw [List.range_succ_eq_map, List.map_cons, List.map_map]
      congr 1
      · simp
      apply List.map_congr_left
      intro k _
      show UInt8.ofNat (_ / 2 ^ (8 * (k + 1))) = UInt8.ofNat (_ / 256 / 2 ^ (8 * k))
      rw [Nat.div_div_eq_div_mul, show 2 ^ (8 * (k + 1)) = 256 * 2 ^ (8 * k) by rw [Nat.mul_add, Nat.pow_add, Nat.mul_comm]]
    have hb := b.toNat_lt
    rw [List.length_cons, e]
    simp only [leN]
    rw [show (b.toNat + 256 * leN r) / 256 = leN r by omega, leB_leN r]
    congr 1
    apply UInt8.toNat_inj.1
    rw [UInt8.toNat_ofNat']
    omega

structure OpV where
  k : Int
  name : ByteArray
  text : ByteArray
  n : Int
  place : ByteArray
  deriving DecidableEq
abbrev bA (l : List UInt8) : ByteArray := ⟨l.toArray⟩
abbrev e0 : ByteArray := ⟨#[]⟩
theorem bA_bl (s : ByteArray) : bA (bl s) = s := by cases s; rfl
theorem bl_bA (l : List UInt8) : bl (bA l) = l := rfl
theorem bl_size (s : ByteArray) : (bl s).length = s.size := byt_str
def OpV.cs (o : OpV) : List Value := [ii o.k, .string o.name, .string o.text, ii o.n, .string o.place]
abbrev OpV.v (o : OpV) : Value := .agg o.cs.toArray
def OpV.zero : OpV := ⟨0, e0, e0, 0, e0⟩

/-- An operation that a machine holds. -/
def OpV.Fin (o : OpV) : Prop := (-9223372036854775808 ≤ o.k ∧ o.k < 9223372036854775808) ∧ (-9223372036854775808 ≤ o.n ∧ o.n < 9223372036854775808) ∧ o.name.size < 2 ^ 50 ∧ o.text.size < 2 ^ 50 ∧ o.place.size < 2 ^ 50
def hK (k : Int) : Bool := decide (1 ≤ k ∧ k ≤ 7)
def hN (k : Int) : Bool := decide (1 ≤ k ∧ k ≤ 6)
def hT (k : Int) : Bool := decide (2 ≤ k ∧ k ≤ 5)
def hI (k : Int) : Bool := decide (k = 1)
def hA (k : Int) : Bool := decide (5 ≤ k ∧ k ≤ 6)
def hasO (k : Int) : Int := if k = 1 then 5 else if k = 2 ∨ k = 3 ∨ k = 4 then 3 else if k = 5 then 11 else if k = 6 then 9 else if k = 7 then 0 else -1
def nameB (b : UInt8) : Bool := decide (97 ≤ b.toNat ∧ b.toNat ≤ 122 ∨ 48 ≤ b.toNat ∧ b.toNat ≤ 57 ∨ b.toNat = 45)
def nameOk (s : ByteArray) : Bool := (bl s).all nameB && decide (1 ≤ s.size ∧ s.size ≤ 12)
def opOk (o : OpV) : Bool := hK o.k && (if hN o.k then nameOk o.name else decide (o.name = e0)) && decide (o.text.size ≤ 48) && (hT o.k || decide (o.text = e0)) && (hI o.k || decide (o.n = 0)) && (hA o.k || decide (o.place = e0)) &&
  decide (-2147483647 ≤ o.n ∧ o.n ≤ 2147483647) && (decide (o.place = e0) || decide (o.place.size = 32)) && !(decide (o.k = 5) && decide (o.text = e0)) && !(decide (o.k = 6) && decide (o.place = e0))
def bareO (o : OpV) : OpV := ⟨o.k, if hN o.k then o.name else e0, if hT o.k then o.text else e0, if hI o.k then o.n else 0, if hA o.k then o.place else e0⟩
def numO (n : Int) : List UInt8 := (if n < 0 then 1 else 0) :: leB n.natAbs 4
/-- An operation's bytes. -/
def putO (o : OpV) : List UInt8 := UInt8.ofNat o.k.toNat :: ((if hN o.k then textN (bl o.name) else []) ++ ((if hT o.k then textN (bl o.text) else []) ++ ((if hI o.k then numO o.n else []) ++ ((if o.k = 5 then [if o.place = e0 then 0 else 1] else []) ++ bl o.place))))

def tIf (b : Bool) (st : CurS) : CurS × List UInt8 := if b then textC st else (st, [])
def numS (st : CurS) : CurS × Int × Bool :=
  ((takeC (byteC st).1 4).1, if 1 < (byteC st).2 ∨ ((byteC st).2 = 1 ∧ (unfixN (takeC (byteC st).1 4).2).1 = 0) then (0, false) else (((unfixN (takeC (byteC st).1 4).2).1 : Int) * (1 - 2 * ((byteC st).2 : Int)), decide ((unfixN (takeC (byteC st).1 4).2).2 = 0)))
def nIf (b : Bool) (st : CurS) : CurS × Int × Bool := if b then numS st else (st, 0, true)
def plS (k : Int) (st : CurS) : CurS × List UInt8 × Bool :=
  if k = 5 then (if (byteC st).2 = 0 then ((byteC st).1, [], true) else if (byteC st).2 = 1 then ((takeC (byteC st).1 32).1, (takeC (byteC st).1 32).2, true) else ((byteC st).1, [], false)) else ((takeC st 32).1, (takeC st 32).2, true)
def pIf (b : Bool) (k : Int) (st : CurS) : CurS × List UInt8 × Bool := if b then plS k st else (st, [], true)
/-- What op.Get takes, whether numbers and places are right. -/
def parseP (st0 : CurS) : OpV × CurS × Bool :=
  let k : Int := (byteC st0).2
  let s1 := tIf (hN k) (byteC st0).1
  let s2 := tIf (hT k) s1.1
  let s3 := nIf (hI k) s2.1
  let s4 := pIf (hA k) k s3.1
  (⟨k, bA s1.2, bA s2.2, s3.2.1, bA s4.2.1⟩, s4.1, s3.2.2 && s4.2.2)
def getP (bs : List UInt8) : Option (OpV × Nat) :=
  if (parseP (some bs)).2.1.isSome && (parseP (some bs)).2.2 && opOk (parseP (some bs)).1 then some ((parseP (some bs)).1, bs.length - leftC (parseP (some bs)).2.1) else none
theorem opOk_iff {o : OpV} : opOk o = true ↔ hK o.k = true ∧ (if hN o.k then nameOk o.name = true else o.name = e0) ∧ o.text.size ≤ 48 ∧ (hT o.k = true ∨ o.text = e0) ∧ (hI o.k = true ∨ o.n = 0) ∧ (hA o.k = true ∨ o.place = e0) ∧
    (-2147483647 ≤ o.n ∧ o.n ≤ 2147483647) ∧ (o.place = e0 ∨ o.place.size = 32) ∧ ¬ (o.k = 5 ∧ o.text = e0) ∧ ¬ (o.k = 6 ∧ o.place = e0) := by
  unfold opOk
  simp only [Bool.and_eq_true, Bool.or_eq_true, decide_eq_true_eq, Bool.not_eq_true', Bool.and_eq_false_imp, decide_eq_false_iff_not, not_and, and_assoc]
  cases hN o.k <;> simp
theorem nameOk_size {s : ByteArray} (h : nameOk s = true) : 1 ≤ s.size ∧ s.size ≤ 12 := by
  unfold nameOk at h
  rw [Bool.and_eq_true, decide_eq_true_eq] at h
  exact h.2
theorem byteC_cons (b : UInt8) (r : List UInt8) : byteC (some (b :: r)) = (some r, b.toNat) := rfl
theorem numS_num {n : Int} (h : -2147483647 ≤ n ∧ n ≤ 2147483647) (r : List UInt8) : numS (some (numO n ++ r)) = (some r, n, true) := by
  have hu : unfixN (leB n.natAbs 4) = (n.natAbs, 0) := by
    unfold unfixN
    rw [leB_length, if_neg (by omega), leN_leB _ _ (by omega), if_pos (by omega)]
  unfold numS numO
  rw [List.cons_append, byteC_cons]
  have e : takeC (some (leB n.natAbs 4 ++ r)) (4 : Int) = (some r, leB n.natAbs 4) := takeC_all (n := 4) (leB_length _ _)
  simp only [e, hu]
  by_cases hn : n < 0
  · rw [if_pos hn]
    have e1 : (1 : UInt8).toNat = 1 := rfl
    rw [e1, if_neg (by omega)]
    simp
    omega
  · rw [if_neg hn]
    have e1 : (0 : UInt8).toNat = 0 := rfl
    rw [e1, if_neg (by omega)]
    simp
    omega
theorem numS_ok {l r : List UInt8} {n : Int} (h : numS (some l) = (some r, n, true)) : l = numO n ++ r := by
  unfold numS at h
  cases l with
  | nil => injection h with h1 _; cases h1
  | cons s l =>
    rw [byteC_cons] at h
    simp only at h
    cases ht : takeC (some l) 4 with
    | mk st t =>
      rw [ht] at h
      simp only at h
      cases st with
      | none => injection h with h1 _; cases h1
      | some r' =>
        obtain ⟨e1, e2⟩ := takeC_ok (n := 4) ht
        injection h with h1 h2
        injection h1 with h1
        subst h1
        split at h2
        · injection h2 with _ h2; cases h2
        · rename_i hc
          injection h2 with h2 h3
          rw [decide_eq_true_eq] at h3
          have hu : unfixN t = (leN t, 0) := by
            unfold unfixN at h3 ⊢
            rw [if_neg (by omega)] at h3 ⊢
            split at h3
            · rename_i h; rw [if_pos h]
            · cases h3
          rw [hu] at h2 hc
          simp only at h2 hc
          have hl := leB_leN t
          rw [e2] at hl
          unfold numO
          have hs := s.toNat_lt
          rw [List.cons_append, e1]
          rcases Nat.lt_or_ge s.toNat 1 with h0 | h0
          · have e3 : s.toNat = 0 := by omega
            have e4 : n = leN t := by rw [← h2, e3]; simp
            have e5 : s = 0 := UInt8.toNat_inj.1 e3
            rw [if_neg (by omega), e4, Int.natAbs_natCast, hl, e5]
          · have e3 : s.toNat = 1 := by omega
            have e4 : n = -(leN t : Int) := by rw [← h2, e3]; simp
            have e5 : s = 1 := UInt8.toNat_inj.1 e3
            rw [if_pos (by omega), e4, Int.natAbs_neg, Int.natAbs_natCast, hl, e5]
theorem plS_five {s : ByteArray} (h : s = e0 ∨ s.size = 32) (r : List UInt8) : plS 5 (some ((if s = e0 then (0 : UInt8) else 1) :: (bl s ++ r))) = (some r, bl s, true) := by
  unfold plS
  rw [if_pos rfl, byteC_cons]
  by_cases h0 : s = e0
  · rw [if_pos h0, h0]; rfl
  · rw [if_neg h0]
    have e : takeC (some (bl s ++ r)) (32 : Int) = (some r, bl s) := takeC_all (n := 32) (by rw [bl_size]; exact h.resolve_left h0)
    simp only [e]; rfl
theorem opKind {k : Int} (h : hK k = true) : k = 1 ∨ k = 2 ∨ k = 3 ∨ k = 4 ∨ k = 5 ∨ k = 6 ∨ k = 7 := by
  unfold hK at h
  rw [decide_eq_true_eq] at h
  omega
theorem parseP_put {o : OpV} (h : opOk o = true) (r : List UInt8) : parseP (some (putO o ++ r)) = (o, some r, true) := by
  obtain ⟨h1, h2, h3, h4, h5, h6, h7, h8, h9, h10⟩ := opOk_iff.1 h
  obtain ⟨k, name, text, n, place⟩ := o
  simp only at h1 h2 h3 h4 h5 h6 h7 h8 h9 h10
  have ht := fun r => textC_text (t := bl text) (by rw [bl_size]; omega) r
  have hp6 : k = 6 → ∀ r, takeC (some (bl place ++ r)) (32 : Int) = (some r, bl place) := fun hk r => takeC_all (n := 32) (by rw [bl_size]; exact h8.resolve_left (fun h => h10 ⟨hk, h⟩))
  have hp5 := fun r => plS_five h8 r
  have hnn := fun r => numS_num h7 r
  have hname : hN k = true → ∀ r, textC (some (textN (bl name) ++ r)) = (some r, bl name) := fun hk r => textC_text (by rw [hk, if_pos rfl] at h2; have := nameOk_size h2; rw [bl_size]; omega) r
  unfold parseP putO
  rcases opKind h1 with rfl | rfl | rfl | rfl | rfl | rfl | rfl
  all_goals (
    rw [List.cons_append, byteC_cons]
    simp only [hN, hT, hI, hA, tIf, nIf, pIf, decide_true, decide_false, if_true, if_false, Bool.false_eq_true, List.append_assoc, List.nil_append, Int.reduceToNat, Int.reduceEq, Int.reduceLE, and_true, true_and, false_and, and_false, List.cons_append] at hname h2 h4 h5 h6 h9 h10 ⊢)
  · obtain rfl := h4.resolve_left (by simp)
    obtain rfl := h6.resolve_left (by simp)
    simp [hname, hnn, bA_bl]
  · obtain rfl := h5.resolve_left (by simp)
    obtain rfl := h6.resolve_left (by simp)
    simp [hname, ht, bA_bl]
  · obtain rfl := h5.resolve_left (by simp)
    obtain rfl := h6.resolve_left (by simp)
    simp [hname, ht, bA_bl]
  · obtain rfl := h5.resolve_left (by simp)
    obtain rfl := h6.resolve_left (by simp)
    simp [hname, ht, bA_bl]
  · obtain rfl := h5.resolve_left (by simp)
    simp [hname, ht, hp5, bA_bl]
  · obtain rfl := h4.resolve_left (by simp)
    obtain rfl := h5.resolve_left (by simp)
    simp [hname, plS, hp6, bA_bl]
  · obtain rfl := h4.resolve_left (by simp)
    obtain rfl := h5.resolve_left (by simp)
    obtain rfl := h6.resolve_left (by simp)
    subst h2
    simp
theorem tIf_none {b : Bool} {r : List UInt8} {st : CurS} {t : List UInt8} (h : tIf b st = (some r, t)) : ∃ l, st = some l ∧ l = (if b = true then textN t else []) ++ r ∧ (b = false → t = []) := by
  cases st with
  | none => unfold tIf at h; cases b <;> simp [textC] at h
  | some l =>
    refine ⟨l, rfl, ?_⟩
    unfold tIf at h
    cases b with
    | true => exact ⟨by simpa using textC_ok h, fun h => by cases h⟩
    | false =>
      simp only [Bool.false_eq_true, if_false] at h
      injection h with h1 h2
      injection h1 with h1
      subst h1 h2
      exact ⟨by simp, fun _ => rfl⟩
theorem nIf_ok {b : Bool} {r : List UInt8} {st : CurS} {n : Int} (h : nIf b st = (some r, n, true)) : ∃ l, st = some l ∧ l = (if b = true then numO n else []) ++ r ∧ (b = false → n = 0) := by
  cases st with
  | none => unfold nIf at h; cases b <;> simp [numS, byteC, takeC] at h
  | some l =>
    refine ⟨l, rfl, ?_⟩
    unfold nIf at h
    cases b with
    | true => exact ⟨by simpa using numS_ok h, fun h => by cases h⟩
    | false =>
      simp only [Bool.false_eq_true, if_false] at h
      injection h with h1 h2
      injection h1 with h1
      injection h2 with h2 _
      subst h1 h2
      exact ⟨by simp, fun _ => rfl⟩
theorem plS_ok {k : Int} {r l t : List UInt8} (h : plS k (some l) = (some r, t, true)) : l = (if k = 5 then [if bA t = e0 then (0 : UInt8) else 1] else []) ++ t ++ r := by
  unfold plS at h
  split at h
  · rename_i hk
    rw [if_pos hk]
    cases l with
    | nil => simp [byteC] at h
    | cons s l =>
      rw [byteC_cons] at h
      simp only at h
      split at h
      · rename_i h0
        injection h with h1 h2
        injection h1 with h1
        injection h2 with h2 _
        subst h1 h2
        have : s = 0 := UInt8.toNat_inj.1 h0
        subst this
        rfl
      · split at h
        · rename_i h0 h1
          cases ht : takeC (some l) 32 with
          | mk st t' =>
            rw [ht] at h
            simp only at h
            injection h with h2 h3
            injection h3 with h3 _
            subst h2 h3
            obtain ⟨e1, e2⟩ := takeC_ok (n := 32) ht
            have : s = 1 := UInt8.toNat_inj.1 h1
            subst this
            have hne : bA t' ≠ e0 := fun e => by
              have := congrArg bl e
              rw [bl_bA] at this
              rw [this] at e2
              simp at e2
            rw [if_neg hne, e1]
            rfl
        · injection h with _ h; injection h with _ h; cases h
  · rename_i hk
    rw [if_neg hk]
    cases ht : takeC (some l) 32 with
    | mk st t' =>
      rw [ht] at h
      simp only at h
      injection h with h2 h3
      injection h3 with h3 _
      subst h2 h3
      obtain ⟨e1, e2⟩ := takeC_ok (n := 32) ht
      rw [e1]; rfl
theorem plS_none {k : Int} {r t : List UInt8} {b : Bool} : plS k none = (some r, t, b) → False := by
  unfold plS
  intro h
  split at h
  · simp [byteC] at h
  · simp [takeC] at h
theorem pIf_ok {b : Bool} {k : Int} {r : List UInt8} {st : CurS} {t : List UInt8} (hb : b = false → k ≠ 5) (h : pIf b k st = (some r, t, true)) : ∃ l, st = some l ∧ l = (if k = 5 then [if bA t = e0 then (0 : UInt8) else 1] else []) ++ t ++ r := by
  unfold pIf at h
  cases b with
  | true =>
    simp only [if_true] at h
    cases st with
    | none => exact (plS_none h).elim
    | some l => exact ⟨l, rfl, plS_ok h⟩
  | false =>
    simp only [Bool.false_eq_true, if_false] at h
    injection h with h1 h2
    injection h2 with h2 _
    subst h1 h2
    exact ⟨r, rfl, by rw [if_neg (hb rfl)]; rfl⟩
theorem parseP_ok {bs r : List UInt8} {o : OpV} (h : parseP (some bs) = (o, some r, true)) (ho : opOk o = true) : bs = putO o ++ r := by
  obtain ⟨h1, -⟩ := opOk_iff.1 ho
  unfold parseP at h
  simp only [Prod.mk.injEq, Bool.and_eq_true] at h
  obtain ⟨e1, e2, e3, e4⟩ := h
  cases bs with
  | nil =>
    subst e1
    simp [byteC, hK] at h1
  | cons b l =>
    rw [byteC_cons] at e1 e2 e3 e4
    simp only at e1 e2 e3 e4
    generalize hk : (b.toNat : Int) = k at e1 e2 e3 e4
    generalize hs1 : tIf (hN k) (some l) = s1 at e1 e2 e3 e4
    generalize hs2 : tIf (hT k) s1.1 = s2 at e1 e2 e3 e4
    generalize hs3 : nIf (hI k) s2.1 = s3 at e1 e2 e3 e4
    generalize hs4 : pIf (hA k) k s3.1 = s4 at e1 e2 e3 e4
    obtain ⟨c1, t1⟩ := s1
    obtain ⟨c2, t2⟩ := s2
    obtain ⟨c3, n3, b3⟩ := s3
    obtain ⟨c4, t4, b4⟩ := s4
    simp only at e1 e2 e3 e4 hs2 hs3 hs4
    subst e2 e3 e4
    obtain ⟨l3, rfl, q4⟩ := pIf_ok (fun hf h5 => by subst h5; simp [hA] at hf) hs4
    obtain ⟨l2, rfl, q3, z3⟩ := nIf_ok hs3
    obtain ⟨l1, rfl, q2, z2⟩ := tIf_none hs2
    obtain ⟨l0, e, q1, z1⟩ := tIf_none hs1
    injection e with e
    subst e1 e
    unfold putO
    simp only [bl_bA, List.cons_append]
    have hb : UInt8.ofNat k.toNat = b := by
      rw [← hk, Int.toNat_natCast, UInt8.ofNat_toNat]
    rw [hb, q1, q2, q3, q4]
    simp only [List.append_assoc]
theorem getP_iff {bs : List UInt8} {o : OpV} {n : Nat} : getP bs = some (o, n) ↔ opOk o = true ∧ n = (putO o).length ∧ ∃ r, bs = putO o ++ r := by
  constructor
  · intro h
    unfold getP at h
    split at h
    · rename_i hc
      rw [Bool.and_eq_true, Bool.and_eq_true] at hc
      obtain ⟨⟨c1, c2⟩, c3⟩ := hc
      generalize hp : parseP (some bs) = p at h c1 c2 c3
      obtain ⟨o', st, b⟩ := p
      cases st with
      | none => cases c1
      | some r =>
        simp only at c2 c3 h
        subst c2
        have hb := parseP_ok hp c3
        injection h with h
        injection h with h2 h3
        subst h2
        refine ⟨c3, ?_, r, hb⟩
        have : leftC (some r) = r.length := rfl
        rw [this, hb, List.length_append] at h3
        omega
    · cases h
  · rintro ⟨h1, rfl, r, rfl⟩
    unfold getP
    rw [parseP_put h1]
    simp only [Option.isSome_some, h1, Bool.and_self, if_true]
    have : leftC (some r) = r.length := rfl
    rw [this, List.length_append]
    congr 2
    omega
/-- What Get gives. -/
def getOV (bs : List UInt8) : Value := match getP bs with | some (o, n) => .tuple #[o.v, ii n, ii 0] | none => .tuple #[OpV.zero.v, ii 0, ii 5]
theorem getOV_flat (bs : List UInt8) : flatU (getOV bs) = true := by
  unfold getOV
  split <;> rfl
theorem takeC_len (st : CurS) (n : Int) : (takeC st n).2.length ≤ leftC st ∧ leftC (takeC st n).1 ≤ leftC st := by
  unfold takeC
  cases st with
  | none => simp [leftC]
  | some l =>
    simp only
    split
    · simp [leftC]; omega
    · simp [leftC]
theorem byteC_left (st : CurS) : leftC (byteC st).1 ≤ leftC st := by rw [byteC_take]; exact (takeC_len st 1).2
theorem textC_len (st : CurS) : (textC st).2.length ≤ leftC st ∧ leftC (textC st).1 ≤ leftC st := by
  cases st with
  | none => simp [textC, leftC]
  | some l =>
    unfold textC
    simp only
    split
    · rename_i n k hg
      split
      · have := takeC_len (some (l.drop k)) n
        have e : leftC (some (l.drop k)) ≤ leftC (some l) := by simp [leftC]
        exact ⟨Nat.le_trans this.1 e, Nat.le_trans this.2 e⟩
      · simp [leftC]
    · simp [leftC]
theorem bA_size (l : List UInt8) : (bA l).size = l.length := by simp [ByteArray.size]
theorem unfixN_lt (bs : List UInt8) : (unfixN bs).1 ≤ 2147483647 := by
  unfold unfixN
  split
  · simp
  · split
    · assumption
    · simp
theorem numS_range (st : CurS) : -2147483647 ≤ (numS st).2.1 ∧ (numS st).2.1 ≤ 2147483647 := by
  unfold numS
  have := unfixN_lt (takeC (byteC st).1 4).2
  simp only
  split
  · simp
  · rename_i h
    have h1 : (byteC st).2 = 0 ∨ (byteC st).2 = 1 := by omega
    rcases h1 with h1 | h1 <;> rw [h1] <;> simp only <;> omega
theorem numS_left (st : CurS) : leftC (numS st).1 ≤ leftC st := Nat.le_trans (takeC_len _ _).2 (byteC_left st)
theorem plS_len (k : Int) (st : CurS) : (plS k st).2.1.length ≤ leftC st := by
  unfold plS
  split
  · split
    · simp
    · split
      · exact Nat.le_trans (takeC_len _ _).1 (byteC_left st)
      · simp
  · exact (takeC_len _ _).1
theorem byteC_255 (st : CurS) : (byteC st).2 ≤ 255 := by
  unfold byteC
  split
  · simp
  · simp
  · rename_i b r; have := b.toNat_lt; simp only; omega
theorem parseP_fin {bs : List UInt8} (h : bs.length ≤ 2 ^ 40) : (parseP (some bs)).1.Fin := by
  have e0 : leftC (some bs) = bs.length := rfl
  have h0 := byteC_left (some bs)
  have hk := byteC_255 (some bs)
  have t1 : ∀ b st, (tIf b st).2.length ≤ leftC st ∧ leftC (tIf b st).1 ≤ leftC st := fun b st => by
    unfold tIf; cases b
    · simp
    · exact textC_len st
  have t3 : ∀ b st, (-2147483647 ≤ (nIf b st).2.1 ∧ (nIf b st).2.1 ≤ 2147483647) ∧ leftC (nIf b st).1 ≤ leftC st := fun b st => by
    unfold nIf; cases b
    · simp
    · exact ⟨numS_range st, numS_left st⟩
  have t4 : ∀ b k st, (pIf b k st).2.1.length ≤ leftC st := fun b k st => by
    unfold pIf; cases b
    · simp
    · exact plS_len k st
  unfold parseP OpV.Fin
  simp only [bA_size]
  generalize hs0 : (byteC (some bs)).1 = s0 at h0
  generalize (byteC (some bs)).2 = k at hk
  have a1 := t1 (hN (k : Int)) s0
  generalize tIf (hN (k : Int)) s0 = s1 at a1
  have a2 := t1 (hT (k : Int)) s1.1
  generalize tIf (hT (k : Int)) s1.1 = s2 at a2
  have a3 := t3 (hI (k : Int)) s2.1
  generalize nIf (hI (k : Int)) s2.1 = s3 at a3
  have a4 := t4 (hA (k : Int)) (k : Int) s3.1
  omega
end Go.AS.C


namespace Go.AS.C
open Go Go.Proofs
set_option linter.unusedVariables false
set_option linter.unusedSimpArgs false
set_option maxRecDepth 10000

theorem ids_Right_spec {A : AH} {s : ByteArray} {Q : Value → AH → Prop} (hq : Q (.bool (decide (s.size = 32))) A) : ACalls 1 Tryd.prog ids_Right [.string s] Q A := by
  refine ACalls.of_fits mixed fits_ids_Right rfl ?_
  unfold ic_ids_Right
  have i0 : initA [.string s] 0 = .string s := rfl
  generalize initA [.string s] = a at i0
  by_cases h : s.size = 32
  · rw [decide_eq_true h] at hq
    simp (maxSteps := 1000000) (disch := omega) only [stepS, reduceIte, Nat.reduceBEq, Nat.reduceEqDiff, tupleOf, stepT, i0]
    exact hq
  · rw [decide_eq_false h] at hq
    simp (maxSteps := 1000000) (disch := omega) only [stepS, reduceIte, Nat.reduceBEq, Nat.reduceEqDiff, tupleOf, stepT, i0]
    exact hq
end Go.AS.C


namespace Go.AS.C
open Go Go.Proofs
set_option linter.unusedVariables false
set_option linter.unusedSimpArgs false
set_option maxRecDepth 10000

theorem ref04_Right_spec {A : AH} {s : ByteArray} {Q : Value → AH → Prop} (hq : Q (.bool (decide (s.size = 32))) A) : ACalls 1 Tryd.prog chantryref04_Right [.string s] Q A := by
  refine ACalls.of_fits mixed fits_chantryref04_Right rfl ?_
  unfold ic_chantryref04_Right
  have i0 : initA [.string s] 0 = .string s := rfl
  generalize initA [.string s] = a at i0
  by_cases h : s.size = 32
  · rw [decide_eq_true h] at hq
    simp (maxSteps := 1000000) (disch := omega) only [stepS, reduceIte, Nat.reduceBEq, Nat.reduceEqDiff, tupleOf, stepT, i0]
    exact hq
  · rw [decide_eq_false h] at hq
    simp (maxSteps := 1000000) (disch := omega) only [stepS, reduceIte, Nat.reduceBEq, Nat.reduceEqDiff, tupleOf, stepT, i0]
    exact hq
end Go.AS.C


namespace Go.AS
open Go
set_option linter.unusedVariables false
set_option linter.unusedSimpArgs false

/-! Slices of one's own that stand apart; structs that are copied. -/
section
variable {A B C A0 : AH} {v w u x : Value} {sz s2 n m a0 b0 i : Nat} {cs ds e z : List Value} {es fs : List (List Value)}
theorem OwnS.apart (h : OwnS a0 A sz v n cs) (k : OwnS b0 A s2 w m ds) (hs : sz ≠ s2) : ∀ j ∈ blkOf w, j ∉ blkOf v := by
  obtain ⟨_, h⟩ := h
  obtain ⟨_, k⟩ := k
  intro j hj hv
  rcases k with ⟨rfl, _⟩ | ⟨rfl, _⟩ | ⟨i, o, c, rc, ex, rfl, k2, k3, k4, _⟩
  · cases hj
  · cases hj
  · simp only [blkOf, List.mem_singleton] at hj
    subst hj
    rcases h with ⟨rfl, _⟩ | ⟨rfl, _⟩ | ⟨i', o', c', rc', ex', rfl, h2, h3, h4, _⟩
    · cases hv
    · cases hv
    · simp only [blkOf, List.mem_singleton] at hv
      subst hv
      rw [h4] at k4
      injection k4 with k4
      injection k4 with _ _ k4 _
      exact hs k4
theorem OwnE.mono (h : OwnE a0 A sz v es) (hb : b0 ≤ a0) : OwnE b0 A sz v es := ⟨h.1, h.2.mono hb⟩
theorem OwnB.le {bs : List UInt8} (h : OwnB a0 A v bs) (hl : Le A B) : OwnB a0 B v bs := OwnS.le h hl
theorem OwnB.mono {bs : List UInt8} (h : OwnB a0 A v bs) (hb : b0 ≤ a0) : OwnB b0 A v bs := OwnS.mono h hb
theorem Sl.lenB (h : Sl A sz v n cs) (B : AH) : sLens B false v = some (.int .i64 n, B) := by
  obtain ⟨_, h⟩ := h
  rcases h with ⟨rfl, rfl⟩ | ⟨rfl, rfl⟩ | ⟨_, _, _, _, _, _, rfl, _⟩ <;> rfl
theorem KeepV.of_own (h : OwnS a0 A sz v n cs) (hl : A.length ≤ B.length) (hk : ∀ i b, A[i]? = some b → (∀ o c, v ≠ .slice (some ⟨i, o, none⟩) n c) → B[i]? = some b) : KeepV A v B :=
  ⟨hl, fun i b hb hi => hk i b hb (fun o c q => hi (by rw [q]; simp [blkOf]))⟩
theorem appI_len {s : Value} {new : List Value} {k bytes : Nat} {r : Value × AH} (h : appA A s new k sz bytes = some r) : A.length ≤ r.2.length := by
  unfold appA at h
  cases hi : appI A s new k sz bytes with
  | some q =>
    rw [hi] at h
    obtain rfl := Option.some.inj h
    unfold appI at hi
    split at hi
    · split at hi
      · split at hi
        · injection hi with hi; subst hi; simp
        · cases hi
      · cases hi
    · cases hi
  | none =>
  rw [hi, Option.none_or] at h
  unfold appA1 at h
  cases hf : appF A s new k sz bytes with
  | some q =>
    rw [hf] at h
    obtain rfl := Option.some.inj h
    unfold appF at hf
    split at hf
    · split at hf
      · split at hf
        · injection hf with hf; subst hf; simp
        · cases hf
      · cases hf
    · cases hf
  | none =>
  rw [hf, Option.none_or] at h
  unfold appA0 at h
  split at h
  · split at h
    · injection h with h; subst h; exact Nat.le_refl _
    · injection h with h; subst h; exact Nat.le_refl _
    · cases h
  · rw [Option.bind_eq_some_iff] at h
    obtain ⟨q, h1, h⟩ := h
    split at h
    · injection h with h; subst h
      simp only [List.length_append]
      rw [appBase_len h1]; omega
    · cases h
theorem sApp_len {s x : Value} {bytes : Nat} {v' : Value} {A' : AH} (h : sApp A s x sz bytes = some (v', A')) : A.length ≤ A'.length := by
  unfold sApp at h
  split at h
  · rw [Option.bind_eq_some_iff] at h
    obtain ⟨new, _, h⟩ := h
    exact appI_len h
  · cases h
/-- append(v, x...): bytes. -/
theorem OwnB.app {bs xs : List UInt8} (hl : Le A0 A) (h : OwnB A0.length A v bs) (hx : Byt A x xs) (hb : bs.length + xs.length ≤ 2 ^ 47) :
    ∃ v' A', sApp A v x 1 1 = some (v', A') ∧ Le A0 A' ∧ OwnB A0.length A' v' (bs ++ xs) ∧ KeepV A v A' := by
  obtain ⟨v', A', h1, h2, h3, h4⟩ := app_bytes hl h hx hb
  exact ⟨v', A', h1, h2, h3, KeepV.of_own h (sApp_len h1) h4⟩
/-- append(v, s...): a text's bytes. -/
theorem OwnB.apps {bs : List UInt8} {s : ByteArray} (hl : Le A0 A) (h : OwnB A0.length A v bs) (hb : bs.length + s.size ≤ 2 ^ 47) :
    ∃ v' A', sApps A v (.string s) 1 = some (v', A') ∧ Le A0 A' ∧ OwnB A0.length A' v' (bs ++ bl s) ∧ KeepV A v A' := by
  have he : u8s s = (bl s).map by8 := rfl
  have hls : (bl s).length = s.size := by simp
  obtain ⟨v', A', h1, h2, h3, h4⟩ := app_own (new := u8s s) (k := s.size) (bytes := 1) hl h (by omega) (by omega) (by omega) (by rw [he, List.length_map, hls, Nat.mul_one]) (by rw [he]; exact Byt.ones8 _)
  refine ⟨v', A', h1, h2, ?_, KeepV.of_own h (appI_len h1) h4⟩
  unfold OwnB
  rw [List.length_append, List.map_append, hls, ← he]
  exact h3
/-- One more text. -/
theorem app_str {l : List ByteArray} (s : ByteArray) (hl : Le A0 A) (h : OwnS A0.length A 1 w l.length (l.map .string)) (hb : l.length ≤ 2 ^ 40) :
    sLit A [.string ⟨#[]⟩] 1 1 [(0, 1, .string s)] = some (.slice (some ⟨A.length, 0, none⟩) 1 1, A ++ [.row [.string s] .own 1 true]) ∧
    ∃ w' A', sApp (A ++ [.row [.string s] .own 1 true]) w (.slice (some ⟨A.length, 0, none⟩) 1 1) 1 16 = some (w', A') ∧ Le A0 A' ∧ OwnS A0.length A' 1 w' (l ++ [s]).length ((l ++ [s]).map .string) ∧ KeepV A w A' := by
  have l1 := lit1 (A := A) (z := .string ⟨#[]⟩) (len := 1) (ps := [(0, 1, .string s)]) [.string s] rfl rfl (by
    intro y hy
    rw [List.mem_singleton] at hy
    subst hy; exact one1_str _)
  have k1 : Le A (A ++ [.row [.string s] .own 1 true]) := .push _ _
  obtain ⟨v2, A2, p1, p2, p3, p4⟩ := app_cells (bytes := 16) (hl.trans k1) (OwnS.le h k1) (sl_last A (cs := [.string s]) (st := .own) (ex := true) (c := 1) (by simp) (by simp)) rfl (by omega) (by simp; omega) (by omega)
  rw [List.length_singleton] at l1 p1
  refine ⟨l1, v2, A2, p1, p2, by simpa using p3, ⟨Nat.le_trans k1.len (sApp_len p1), fun i b hb hi => p4 i b (k1.get hb) (fun o c q => hi (by rw [q]; simp [blkOf]))⟩⟩
theorem KeepV.get (h : KeepV A v B) {j : Nat} {b : Blk} (hb : A[j]? = some b) (hj : j ∉ blkOf v) : B[j]? = some b := h.2 j b hb hj
theorem KeepV.rd (h : KeepV A v B) {R : List Nat} (hR : ∀ k ∈ R, k ∉ blkOf v) : RdOk R A B := fun k hk b hb => h.2 k b hb (hR k hk)
theorem Byt.one1 {bs : List UInt8} (h : Byt A v bs) : AS.one1 v := by
  obtain ⟨p, c, hs, _⟩ := h.shape
  rw [hs]; exact one1_sl _ _ _
theorem Sl.one1 (h : Sl A sz v n cs) : AS.one1 v := by
  obtain ⟨_, h⟩ := h
  rcases h with ⟨rfl, _⟩ | ⟨rfl, _⟩ | ⟨_, _, _, _, _, _, rfl, _⟩ <;> exact one1_sl _ _ _
end
end Go.AS


namespace Go.AS
open Go
set_option linter.unusedVariables false
set_option linter.unusedSimpArgs false

section
variable {A B C A0 : AH} {v w u x : Value} {sz s2 n m a0 b0 i k : Nat} {cs ds e z : List Value} {es fs : List (List Value)}
theorem load1_keep {p x : Value} (h : sLoad1 A p = some (x, A)) (hB : ∀ k b, A[k]? = some b → k ∈ blkOf p → B[k]? = some b) : sLoad1 B p = some (x, B) := by
  unfold sLoad1 at h ⊢
  split at h
  · rename_i i o
    rw [Option.bind_eq_some_iff] at h
    obtain ⟨r, q1, q2⟩ := h
    rw [Option.map_eq_some_iff] at q2
    obtain ⟨l, q2, q3⟩ := q2
    injection q3 with q3 q4
    obtain ⟨r1, r2, r3, r4⟩ := r
    obtain ⟨g1, g2⟩ := getRow_some q1
    have g3 := hB i _ g1 (by simp [blkOf])
    have : getRow B i = some (r1, r2, r3, r4) := by unfold getRow; simp only [g3, if_neg g2]
    simp only [this, Option.bind_some, q2, Option.map_some, q3]
  · cases h
/-- An element of one cell is read. -/
theorem Sl.at1L (h : Sl A 1 v n cs) {j : Nat} {x : Value} (hj : cs[j]? = some x) : ∃ p, (∀ (B : AH) (n : Int), n = (j : Int) → sIaddr B v (.int .i64 n) 1 = some (p, B)) ∧ ∀ B, Le A B → sLoad1 B p = some (x, B) := by
  obtain ⟨p, p1, p2⟩ := h.at1 hj
  exact ⟨p, by rintro B n rfl; exact iaddr_any p1 B, fun B hB => load1_keep p2 (fun k b hb _ => hB.get hb)⟩
/-- Two values lead to blocks apart. -/
def Ap (v w : Value) : Prop := ∀ j ∈ blkOf v, j ∉ blkOf w
theorem Ap.symm (h : Ap v w) : Ap w v := fun j hj hk => h j hk hj
theorem Ap.grow {v' : Value} {n : Nat} (h : Ap v w) (hb : ∀ j ∈ blkOf v', j ∈ blkOf v ∨ n ≤ j) (hw : ∀ j ∈ blkOf w, j < n) : Ap v' w := fun j hj hk => by
  rcases hb j hj with h1 | h1
  · exact h j h1 hk
  · have := hw j hk; omega
theorem Ap.nil {n c : Nat} : Ap (.slice none n c) w := fun j hj => by cases hj
theorem OwnS.lt {sz n : Nat} {cs : List Value} (h : OwnS a0 A sz v n cs) : ∀ j ∈ blkOf v, j < A.length := fun j hj => (h.ge j hj).2
theorem sApp_blk {s x : Value} {bytes : Nat} {v' : Value} {A' : AH} (h : sApp A s x sz bytes = some (v', A')) : ∀ j ∈ blkOf v', j ∈ blkOf s ∨ A.length ≤ j := by
  intro j hj
  have hx : ∃ p k c, x = .slice p k c := by
    unfold sApp at h
    split at h
    · exact ⟨_, _, _, rfl⟩
    · cases h
  obtain ⟨p, k, c, rfl⟩ := hx
  by_cases hk : k = 0
  · subst hk
    unfold sApp at h
    simp only [Option.bind_eq_some_iff] at h
    obtain ⟨new, _, h⟩ := h
    unfold appA at h
    rw [appI_zero, Option.none_or] at h
    unfold appA1 at h
    rw [appF_zero, Option.none_or] at h
    unfold appA0 at h
    rw [if_pos rfl] at h
    split at h
    · injection h with h; injection h with h _; subst h; exact .inl hj
    · injection h with h; injection h with h _; subst h; exact .inl hj
    · cases h
  · rcases app_fresh rfl hk h with e | e
    · rw [e, List.mem_singleton] at hj; exact .inr (by omega)
    · rw [e] at hj; exact .inl hj
/-- Elements of another slice are appended. -/
theorem OwnE.app {bytes : Nat} (hl : Le A0 A) (h : OwnE A0.length A sz v es) (hx : Sl A sz x fs.length fs.flatten) (hf : ∀ e ∈ fs, e.length = sz ∧ ones e = true) (hsz : 0 < sz) (hb : 2 * ((es.length + fs.length) * bytes) ≤ 2 ^ 48) (hb0 : 0 < bytes) :
    ∃ v' A', sApp A v x sz bytes = some (v', A') ∧ Le A0 A' ∧ OwnE A0.length A' sz v' (es ++ fs) ∧ KeepV A v A' := by
  obtain ⟨v', A', e1, e2, e3, e4⟩ := app_cells (bytes := bytes) hl h.2 hx (ones_flatten hf) hsz hb hb0
  refine ⟨v', A', e1, e2, ⟨?_, by simpa using e3⟩, KeepV.of_own h.2 (sApp_len e1) e4⟩
  intro y hy
  rcases List.mem_append.1 hy with hy | hy
  · exact h.1 y hy
  · exact hf y hy
end
section
variable {α : Type} {key : α → List UInt8}
end
end Go.AS


namespace Go.AS
open Go
set_option maxRecDepth 100000
/-! Codes of library functions that are alike in many chapters (printed by geni.py). -/
end Go.AS


namespace Go.AS
open Go
set_option linter.unusedVariables false
set_option linter.unusedSimpArgs false
set_option maxRecDepth 10000

/-! Slices of texts of the call's own. -/
def strE (l : List ByteArray) : List (List Value) := l.map fun s => [.string s]
theorem strE_flat (l : List ByteArray) : (strE l).flatten = l.map .string := by
  unfold strE
  induction l with
  | nil => rfl
  | cons s l ih => rw [List.map_cons, List.flatten_cons, ih]; rfl
theorem strE_len (l : List ByteArray) : (strE l).length = l.length := by simp [strE]
theorem strE_ok (l : List ByteArray) : ∀ e ∈ strE l, e.length = 1 ∧ ones e = true := by
  intro e he
  obtain ⟨s, _, rfl⟩ := List.mem_map.1 he
  exact ⟨rfl, rfl⟩
/-- A slice of texts, of the call's own. -/
def OwnT (a0 : Nat) (A : AH) (v : Value) (l : List ByteArray) : Prop := OwnS a0 A 1 v l.length (l.map .string)
def SlT (A : AH) (v : Value) (l : List ByteArray) : Prop := Sl A 1 v l.length (l.map .string)
section
variable {A B A0 : AH} {v : Value} {a0 b0 : Nat} {l m : List ByteArray} {lo hi : Option Value}
theorem OwnT.e (h : OwnT a0 A v l) : OwnE a0 A 1 v (strE l) := ⟨strE_ok l, by rw [strE_flat, strE_len]; exact h⟩
theorem OwnE.t (h : OwnE a0 A 1 v (strE l)) : OwnT a0 A v l := by
  have := h.2
  rw [strE_flat, strE_len] at this
  exact this
theorem OwnT.sl (h : OwnT a0 A v l) : SlT A v l := OwnS.sl h
theorem OwnT.le (h : OwnT a0 A v l) (hl : Le A B) : OwnT a0 B v l := OwnS.le h hl
theorem OwnT.mono (h : OwnT a0 A v l) (hb : b0 ≤ a0) : OwnT b0 A v l := OwnS.mono h hb
theorem OwnT.nil (a0 : Nat) (A : AH) : OwnT a0 A (.slice none 0 0) [] := OwnS.nil _ _ _
theorem SlT.le (h : SlT A v l) (hl : Le A B) : SlT B v l := Sl.le h hl
theorem SlT.len (h : SlT A v l) (B : AH) : sLens B false v = some (.int .i64 l.length, B) := Sl.lenB h B
theorem SlT.one (h : SlT A v l) : one1 v := Sl.one1 h
theorem SlT.at (h : SlT A v l) {j : Nat} {s : ByteArray} (hj : l[j]? = some s) : ∃ p, (∀ (B : AH) (n : Int), n = (j : Int) → sIaddr B v (.int .i64 n) 1 = some (p, B)) ∧ ∀ B, Le A B → sLoad1 B p = some (.string s, B) :=
  Sl.at1L h (j := j) (x := .string s) (by rw [List.getElem?_map, hj]; rfl)
theorem OwnT.at (h : OwnT a0 A v l) {j : Nat} {s : ByteArray} (hj : l[j]? = some s) : ∃ p, blkOf p = blkOf v ∧ (∀ (B : AH) (n : Int), n = (j : Int) → sIaddr B v (.int .i64 n) 1 = some (p, B)) ∧ sLoad1 A p = some (.string s, A) := by
  obtain ⟨p, p1, p2⟩ := Sl.at1 (OwnS.sl h) (j := j) (v0 := .string s) (by rw [List.getElem?_map, hj]; rfl)
  exact ⟨p, iaddr_blk p1, by rintro B n rfl; exact iaddr_any p1 B, p2⟩
theorem OwnT.put (h : OwnT a0 A v l) {j : Nat} (s : ByteArray) (hj : j < l.length) {p : Value} (hp : sIaddr A v (.int .i64 (j : Int)) 1 = some (p, A)) : ∃ A', sStore A p (.string s) 1 = some (undef, A') ∧ OwnT a0 A' v (l.set j s) ∧ KeepV A v A' := by
  obtain ⟨A', s1, s2, s3⟩ := h.e.put (e := [.string s]) (by rw [strE_len]; exact hj) rfl rfl hp
  refine ⟨A', s1, ?_, s3⟩
  have e : (strE l).set j [.string s] = strE (l.set j s) := by simp [strE, List.map_set]
  rw [e] at s2
  exact s2.t
theorem OwnT.cut (h : OwnT a0 A v l) {i k : Nat} (hlk : i ≤ k) (hk : k ≤ l.length) (hb : ∀ c, l.length ≤ c → boundsA l.length c lo hi none = some (i, k, c)) :
    ∃ u, (∀ j ∈ blkOf u, j ∈ blkOf v) ∧ (∃ p c, u = .slice p (k - i) c) ∧ ∀ B m, OwnT a0 B v m → m.length = l.length → sSll B v lo hi none 1 = some (u, B) ∧ OwnT a0 B u ((m.take k).drop i) := by
  obtain ⟨u, u1, u2, u3⟩ := h.e.cut (l := i) (k := k) (lo := lo) (hi := hi) hlk (by rw [strE_len]; exact hk) (by rw [strE_len]; exact hb)
  refine ⟨u, u1, u2, fun B m hm hl => ?_⟩
  obtain ⟨e1, e2⟩ := u3 B (strE m) hm.e (by rw [strE_len, strE_len]; exact hl)
  refine ⟨e1, ?_⟩
  have e : ((strE m).take k).drop i = strE ((m.take k).drop i) := by simp [strE, List.map_take, List.map_drop]
  rw [e] at e2
  exact e2.t
theorem OwnT.clr (h : OwnT a0 A v l) {i : Nat} {u : Value} (hl : i ≤ l.length) (hu : sSll A v (some (.int .i64 (i : Int))) none none 1 = some (u, A)) :
    ∃ A', sClr A u [.string ⟨#[]⟩] = some (undef, A') ∧ OwnT a0 A' v (l.take i ++ List.replicate (l.length - i) ⟨#[]⟩) ∧ KeepV A v A' := by
  obtain ⟨A', s1, s2, s3⟩ := h.e.clr (l := i) (z := [.string ⟨#[]⟩]) (by rw [strE_len]; exact hl) rfl rfl hu
  refine ⟨A', s1, ?_, s3⟩
  have e : (strE l).take i ++ List.replicate ((strE l).length - i) [.string ⟨#[]⟩] = strE (l.take i ++ List.replicate (l.length - i) ⟨#[]⟩) := by simp [strE, List.map_take]
  rw [e] at s2
  exact s2.t
theorem OwnT.push (s : ByteArray) (hl : Le A0 A) (h : OwnT A0.length A v l) (hb : l.length ≤ 2 ^ 40) :
    sLit A [.string ⟨#[]⟩] 1 1 [(0, 1, .string s)] = some (.slice (some ⟨A.length, 0, none⟩) 1 1, A ++ [.row [.string s] .own 1 true]) ∧
    ∃ w' A', sApp (A ++ [.row [.string s] .own 1 true]) v (.slice (some ⟨A.length, 0, none⟩) 1 1) 1 16 = some (w', A') ∧ Le A0 A' ∧ OwnT A0.length A' w' (l ++ [s]) ∧ KeepV A v A' ∧ ∀ j ∈ blkOf w', j ∈ blkOf v ∨ A.length ≤ j := by
  obtain ⟨l1, w', A', e1, e2, e3, e4⟩ := app_str s hl h hb
  refine ⟨l1, w', A', e1, e2, e3, e4, fun j hj => ?_⟩
  rcases sApp_blk e1 j hj with h | h
  · exact .inl h
  · simp at h; exact .inr (by omega)
theorem OwnT.app {x : Value} (hl : Le A0 A) (h : OwnT A0.length A v l) (hx : SlT A x m) (hb : l.length + m.length ≤ 2 ^ 40) :
    ∃ w' A', sApp A v x 1 16 = some (w', A') ∧ Le A0 A' ∧ OwnT A0.length A' w' (l ++ m) ∧ KeepV A v A' := by
  obtain ⟨w', A', e1, e2, e3, e4⟩ := h.e.app (x := x) (fs := strE m) (bytes := 16) hl (by rw [strE_flat, strE_len]; exact hx) (strE_ok m) (by omega) (by rw [strE_len, strE_len]; omega) (by omega)
  refine ⟨w', A', e1, e2, ?_, e4⟩
  have e : strE l ++ strE m = strE (l ++ m) := by simp [strE]
  rw [e] at e3
  exact e3.t
end

section
variable {G : Nat} {P : Program} (hm : P.follows .mixedOrders = true) {a0 : Nat} {A : AH} {v : Value} {Q : Value → AH → Prop}
include hm
end
end Go.AS


namespace Go.AS.C
open Go Go.Proofs
set_option linter.unusedVariables false
set_option linter.unusedSimpArgs false
set_option maxRecDepth 10000

def Ris (l : List ByteArray) : Prop := l.Pairwise fun a b => bl a < bl b
/-- All right, and rising. -/
def RiseP (l : List ByteArray) : Prop := (∀ x ∈ l, x.size = 32) ∧ Ris l
theorem RiseP.nil : RiseP [] := ⟨by simp, .nil⟩
theorem RiseP.take {l : List ByteArray} (h : RiseP l) (k : Nat) : RiseP (l.take k) := ⟨fun x hx => h.1 x (List.mem_of_mem_take hx), h.2.sublist (List.take_sublist ..)⟩
theorem RiseP.at {l : List ByteArray} (h : RiseP l) {k : Nat} {p s : ByteArray} (hp : l[k]? = some p) (hs : l[k + 1]? = some s) : bl p < bl s := by
  obtain ⟨h1, e1⟩ := List.getElem?_eq_some_iff.1 hp
  obtain ⟨h2, e2⟩ := List.getElem?_eq_some_iff.1 hs
  rw [← e1, ← e2]
  exact List.pairwise_iff_getElem.1 h.2 k (k + 1) h1 h2 (by omega)
theorem RiseP.one {l : List ByteArray} {s : ByteArray} (hs : l[0]? = some s) (h : s.size = 32) : RiseP (l.take 1) := by
  rw [List.take_add_one, hs]
  refine ⟨?_, List.pairwise_singleton ..⟩
  intro x hx
  simp only [List.take_zero, Option.toList_some, List.nil_append, List.mem_singleton] at hx
  rw [hx]; exact h
theorem RiseP.next {l : List ByteArray} {k : Nat} {p s : ByteArray} (h : RiseP (l.take (k + 1))) (hp : l[k]? = some p) (hs : l[k + 1]? = some s) (h1 : s.size = 32) (h2 : bl p < bl s) : RiseP (l.take (k + 1 + 1)) := by
  rw [List.take_add_one, hs, Option.toList_some]
  refine ⟨fun x hx => ?_, List.pairwise_append.2 ⟨h.2, List.pairwise_singleton .., fun y hy z hz => ?_⟩⟩
  · rcases List.mem_append.1 hx with hx | hx
    · exact h.1 x hx
    · rw [List.mem_singleton.1 hx]; exact h1
  · rw [List.mem_singleton.1 hz]
    have h3 := h.2
    rw [List.take_add_one, hp, Option.toList_some] at h3 hy
    rcases List.mem_append.1 hy with hy | hy
    · exact kl_tr ((List.pairwise_append.1 h3).2.2 y hy p (by simp)) h2
    · rw [List.mem_singleton.1 hy]; exact h2

section
variable {A : AH} {v : Value} {l : List ByteArray} {Q : Value → AH → Prop} (hv : SlT A v l) (hl : l.length < 2 ^ 50) (hq : ∀ b : Bool, (b = true ↔ RiseP l) → Q (.bool b) A)
include hv hl hq
theorem ids_Rising_spec : ACalls 1 Tryd.prog ids_Rising [v] Q A := by
  refine ACalls.of_fits mixed fits_ids_Rising rfl ?_
  unfold ic_ids_Rising
  have i0 : initA [v] 0 = v := rfl
  generalize initA [v] = a at i0
  have hvl := hv.len
  simp (maxSteps := 1000000) (disch := omega) only [stepS, reduceIte, Nat.reduceBEq, Nat.reduceEqDiff, tupleOf, stepT, i0, hvl]
  refine W_loop (fun a' B => B = A ∧ ∃ k : Nat, k ≤ l.length ∧ RiseP (l.take k) ∧ a' 0 = v ∧ a' 5 = v ∧ a' 6 = ii l.length ∧ a' 7 = ii k) (fun a' _ => l.length - (iv (a' 7)).toNat) ?_ ?_
  · refine ⟨rfl, 0, by omega, RiseP.nil, ?_⟩
    simp (maxSteps := 1000000) (disch := omega) only [stepS, reduceIte, Nat.reduceBEq, Nat.reduceEqDiff, tupleOf, stepT, i0]
    (all_goals (and_intros <;> first | rfl | assumption | (push_cast; rfl) | (congr 1; omega) | omega | (simp; done)))
  · rintro a2 B ⟨rfl, k, hk, hr, g0, g5, g6, g7⟩
    rcases Nat.lt_or_ge k l.length with hlt | hge
    · obtain ⟨s, hs⟩ := get_some hlt
      obtain ⟨p, p1, p2⟩ := hv.at hs
      have p3 := p2 B (.refl _)
      simp (maxSteps := 1000000) (disch := omega) only [stepS, reduceIte, Nat.reduceBEq, Nat.reduceEqDiff, tupleOf, stepT, g0, g5, g6, g7, p1, p3]
      refine ids_Right_spec ?_
      by_cases hz : s.size = 32
      · have hd : decide (s.size = 32) = true := decide_eq_true hz
        cases k with
        | zero =>
          simp (maxSteps := 1000000) (disch := omega) only [stepS, reduceIte, Nat.reduceBEq, Nat.reduceEqDiff, tupleOf, stepT, g0, g5, g6, g7, p1, p3, hd]
          refine ⟨⟨1, by omega, RiseP.one hs hz, rfl⟩, by omega⟩
        | succ k =>
          obtain ⟨t, ht⟩ := get_some (l := l) (k := k) (by omega)
          obtain ⟨q, q1, q2⟩ := hv.at ht
          have q3 := q2 B (.refl _)
          by_cases hlt2 : bl t < bl s
          · have hd2 : decide (¬ bl t < bl s) = false := decide_eq_false (fun h => h hlt2)
            simp (maxSteps := 1000000) (disch := omega) only [stepS, reduceIte, Nat.reduceBEq, Nat.reduceEqDiff, tupleOf, stepT, g0, g5, g6, g7, p1, p3, hd, q1, q3, geS, hd2]
            refine ⟨⟨k + 1 + 1, by omega, hr.next ht hs hz hlt2, rfl⟩, by omega⟩
          · have hd2 : decide (¬ bl t < bl s) = true := decide_eq_true hlt2
            simp (maxSteps := 1000000) (disch := omega) only [stepS, reduceIte, Nat.reduceBEq, Nat.reduceEqDiff, tupleOf, stepT, g0, g5, g6, g7, p1, p3, hd, q1, q3, geS, hd2]
            exact hq false ⟨(fun h => by cases h), fun h => absurd (h.at ht hs) hlt2⟩
      · have hd : decide (s.size = 32) = false := decide_eq_false hz
        simp (maxSteps := 1000000) (disch := omega) only [stepS, reduceIte, Nat.reduceBEq, Nat.reduceEqDiff, tupleOf, stepT, g0, g5, g6, g7, p1, p3, hd]
        exact hq false ⟨(fun h => by cases h), fun h => absurd (h.1 s (List.mem_of_getElem? hs)) hz⟩
    · rw [List.take_of_length_le hge] at hr
      simp (maxSteps := 1000000) (disch := omega) only [stepS, reduceIte, Nat.reduceBEq, Nat.reduceEqDiff, tupleOf, stepT, g0, g5, g6, g7]
      exact hq true ⟨fun _ => hr, fun _ => rfl⟩
theorem ref04_Rising_spec : ACalls 1 Tryd.prog chantryref04_Rising [v] Q A := by
  refine ACalls.of_fits mixed fits_chantryref04_Rising rfl ?_
  unfold ic_chantryref04_Rising
  have i0 : initA [v] 0 = v := rfl
  generalize initA [v] = a at i0
  have hvl := hv.len
  simp (maxSteps := 1000000) (disch := omega) only [stepS, reduceIte, Nat.reduceBEq, Nat.reduceEqDiff, tupleOf, stepT, i0, hvl]
  refine W_loop (fun a' B => B = A ∧ ∃ k : Nat, k ≤ l.length ∧ RiseP (l.take k) ∧ a' 0 = v ∧ a' 3 = ii k) (fun a' _ => l.length - (iv (a' 3)).toNat) ?_ ?_
  · refine ⟨rfl, 0, by omega, RiseP.nil, ?_⟩
    simp (maxSteps := 1000000) (disch := omega) only [stepS, reduceIte, Nat.reduceBEq, Nat.reduceEqDiff, tupleOf, stepT, i0]
    (all_goals (and_intros <;> first | rfl | assumption | (push_cast; rfl) | (congr 1; omega) | omega | (simp; done)))
  · rintro a2 B ⟨rfl, k, hk, hr, g0, g3⟩
    rcases Nat.lt_or_ge k l.length with hlt | hge
    · obtain ⟨s, hs⟩ := get_some hlt
      obtain ⟨p, p1, p2⟩ := hv.at hs
      have p3 := p2 B (.refl _)
      simp (maxSteps := 1000000) (disch := omega) only [stepS, reduceIte, Nat.reduceBEq, Nat.reduceEqDiff, tupleOf, stepT, g0, g3, hvl, p1, p3]
      refine ref04_Right_spec ?_
      by_cases hz : s.size = 32
      · have hd : decide (s.size = 32) = true := decide_eq_true hz
        cases k with
        | zero =>
          simp (maxSteps := 1000000) (disch := omega) only [stepS, reduceIte, Nat.reduceBEq, Nat.reduceEqDiff, tupleOf, stepT, g0, g3, hvl, p1, p3, hd]
          refine ⟨⟨1, by omega, RiseP.one hs hz, rfl⟩, by omega⟩
        | succ k =>
          obtain ⟨t, ht⟩ := get_some (l := l) (k := k) (by omega)
          obtain ⟨q, q1, q2⟩ := hv.at ht
          have q3 := q2 B (.refl _)
          by_cases hlt2 : bl t < bl s
          · have hd2 : decide (¬ bl t < bl s) = false := decide_eq_false (fun h => h hlt2)
            simp (maxSteps := 1000000) (disch := omega) only [stepS, reduceIte, Nat.reduceBEq, Nat.reduceEqDiff, tupleOf, stepT, g0, g3, hvl, p1, p3, hd, q1, q3, geS, hd2]
            refine ⟨⟨k + 1 + 1, by omega, hr.next ht hs hz hlt2, rfl⟩, by omega⟩
          · have hd2 : decide (¬ bl t < bl s) = true := decide_eq_true hlt2
            simp (maxSteps := 1000000) (disch := omega) only [stepS, reduceIte, Nat.reduceBEq, Nat.reduceEqDiff, tupleOf, stepT, g0, g3, hvl, p1, p3, hd, q1, q3, geS, hd2]
            exact hq false ⟨(fun h => by cases h), fun h => absurd (h.at ht hs) hlt2⟩
      · have hd : decide (s.size = 32) = false := decide_eq_false hz
        simp (maxSteps := 1000000) (disch := omega) only [stepS, reduceIte, Nat.reduceBEq, Nat.reduceEqDiff, tupleOf, stepT, g0, g3, hvl, p1, p3, hd]
        exact hq false ⟨(fun h => by cases h), fun h => absurd (h.1 s (List.mem_of_getElem? hs)) hz⟩
    · rw [List.take_of_length_le hge] at hr
      simp (maxSteps := 1000000) (disch := omega) only [stepS, reduceIte, Nat.reduceBEq, Nat.reduceEqDiff, tupleOf, stepT, g0, g3, hvl]
      exact hq true ⟨fun _ => hr, fun _ => rfl⟩
end
end Go.AS.C


namespace Go.AS
open Go Go.Sort Go.RowKit Go.Proofs
set_option linter.unusedVariables false
set_option linter.unusedSimpArgs false

/-! The kit's contract of slices.Sort at texts, told of abstract states. -/
section
variable {G : Nat} {P : Program} {μ : Mu} {A A0 B : AH} {w : World} {v : Value} {a0 : Nat}
theorem grow_old (w : World) (os : Array Obj) {i : Nat} (h : i < w.heap.size) : (grow w os).heap[i]? = w.heap[i]? := by
  show (w.heap ++ os)[i]? = _
  rw [Array.getElem?_append, if_pos h]
/-- New blocks of which nothing is known. -/
theorem Rel.grown (h : Rel G μ A w) (os : Array Obj) : Rel G μ A (grow w os) ∧ Stp μ A w μ A (grow w os) := by
  have hs : (grow w os).heap.size = w.heap.size + os.size := by simp [grow]
  refine ⟨⟨h.len, h.glo, fun i e he => by have := h.lt i e he; omega, ?_, h.szs, ?_, ?_, h.apart⟩, ?_⟩
  · intro i cs st sz ex e hb he hst
    obtain ⟨rc, T, fr, g1, g2⟩ := h.row i cs st sz ex e hb he hst
    exact ⟨rc, T, fr, by rw [grow_old _ _ (h.lt i e he)]; exact g1, g2⟩
  · intro i s p e hb he
    rw [grow_old _ _ (h.lt i e he)]; exact h.sit i s p e hb he
  · intro i es e hb he
    rw [grow_old _ _ (h.lt i e he)]; exact h.mp i es e hb he
  · exact ⟨⟨[], by simp⟩, rfl, rfl, rfl, by omega, fun r hr _ => grow_old _ _ hr, fun i b e h1 h2 h3 _ => ⟨i, b, e, h1, h2, h3, rfl⟩⟩
end
end Go.AS


namespace Go.AS
open Go Go.RowKit Go.Proofs
set_option linter.unusedVariables false
set_option linter.unusedSimpArgs false

/-! The kit's contract of strings.Join, told of abstract states. -/
section
variable {G : Nat} {P : Program} {μ : Mu} {A : AH} {w w' : World} {v : Value}
/-- New blocks, and draws, of which nothing is known. -/
theorem Rel.below (h : Rel G μ A w) (hb : Below w.heap.size w w') : Rel G μ A w' ∧ Stp μ A w μ A w' := by
  have hk : ∀ i, i < w.heap.size → w'.heap[i]? = w.heap[i]? := fun i hi => hb.block i hi
  refine ⟨⟨h.len, h.glo, fun i e he => Nat.lt_of_lt_of_le (h.lt i e he) hb.size, ?_, h.szs, ?_, ?_, h.apart⟩, ?_⟩
  · intro i cs st sz ex e hb he hst
    obtain ⟨rc, T, fr, g1, g2⟩ := h.row i cs st sz ex e hb he hst
    exact ⟨rc, T, fr, by rw [hk _ (h.lt i e he)]; exact g1, g2⟩
  · intro i s p e hb he
    rw [hk _ (h.lt i e he)]; exact h.sit i s p e hb he
  · intro i es e hb he
    rw [hk _ (h.lt i e he)]; exact h.mp i es e hb he
  · exact ⟨⟨[], by simp⟩, hb.os, hb.tape, hb.output, hb.size, fun r hr _ => hk r hr, fun i b e h1 h2 h3 _ => ⟨i, b, e, h1, h2, h3, rfl⟩⟩
/-- What a machine's function must do to join texts. -/
def JoinsTexts (P : Program) (f : FuncId) : Prop :=
  (∀ (bk o c : Nat) (xs : List ByteArray) (sep : ByteArray) (w : World), (∀ (j : Nat) x, xs[j]? = some x → w.cell? ⟨bk, o + j, none⟩ = some (.string x)) → bk < w.heap.size → xs.length ≤ 140737488355328 → xs.length ≤ c →
    (Lib.join (xs.map (·.data.toList)) sep.data.toList).length ≤ 140737488355328 →
    Calls P f #[.slice (some ⟨bk, o, none⟩) xs.length c, .string sep] w fun e w' => e = .returned (.string ⟨(Lib.join (xs.map (·.data.toList)) sep.data.toList).toArray⟩) ∧ Below w.heap.size w w') ∧
  (∀ (a : Option Addr) (c : Nat) (sep : ByteArray) (w : World), Calls P f #[.slice a 0 c, .string sep] w fun e w' => e = .returned (.string ⟨#[]⟩) ∧ w' = w)
/-- Texts, one behind the other, what stands between them. -/
def joinT (l : List ByteArray) (sep : ByteArray) : ByteArray := ⟨(Lib.join (l.map (·.data.toList)) sep.data.toList).toArray⟩
theorem join_spec {f : FuncId} (hf : JoinsTexts P f) {l : List ByteArray} {sep : ByteArray} {Q : Value → AH → Prop} (h : SlT A v l) (hl : l.length ≤ 140737488355328) (hj : (joinT l sep).size ≤ 140737488355328)
    (hq : Q (.string (joinT l sep)) A) : ACalls G P f [v, .string sep] Q A := by
  intro μ args' w hr h1 h2
  obtain ⟨v', s', rfl⟩ : ∃ v' s', args' = #[v', s'] := by
    have : args'.size = 2 := by simpa using h1
    exact ⟨args'[0], args'[1], by apply Array.ext (by simpa using this); intro i hi1 hi2; simp at hi2; match i with | 0 => rfl | 1 => rfl⟩
  have hv := h2 0 v v' rfl rfl
  have hs := (h2 1 _ s' rfl rfl).string
  subst hs
  by_cases h0 : l.length = 0
  · have hl0 : l = [] := List.length_eq_zero_iff.1 h0
    subst hl0
    have hn : ∃ p c, v' = .slice p 0 c := by
      obtain ⟨_, h⟩ := h
      rcases h with ⟨rfl, _⟩ | ⟨rfl, _⟩ | ⟨_, _, _, _, _, _, rfl, _⟩
      · obtain ⟨a', c', e, _⟩ := hv.sl_inv; exact ⟨a', c', e⟩
      · obtain ⟨a', c', e, _⟩ := hv.sl_inv; exact ⟨a', c', e⟩
      · obtain ⟨a', c', e, _⟩ := hv.sl_inv; exact ⟨a', c', e⟩
    obtain ⟨p, c, rfl⟩ := hn
    refine (hf.2 p c sep w).mono ?_
    rintro e w' ⟨rfl, rfl⟩
    exact ⟨_, _, μ, A, rfl, .flat rfl, hr, Stp.refl _ _ _, hq⟩
  · obtain ⟨hc0, h⟩ := h
    rcases h with ⟨_, hz⟩ | ⟨_, hz⟩ | ⟨i, o, c, rc, st, ex, rfl, k2, k3, k4, k5, k6⟩
    · exact absurd hz h0
    · exact absurd hz h0
    obtain ⟨e, he, c', hcc, rfl⟩ : ∃ (e : Ent), μ[i]? = some e ∧ ∃ c', l.length ≤ c' ∧ v' = .slice (some ⟨e.blk, e.off + o, none⟩) l.length c' := by
      generalize l.length = nn at hv h0
      cases hv with
      | flat h => cases h
      | slc h g1 g2 g4 => exact ⟨_, h, _, by omega, rfl⟩
      | sle h => exact absurd rfl h0
    obtain ⟨mc, T, fr, g1, g2, g3, g4⟩ := hr.row i rc st 1 ex e k3 he k4
    refine (hf.1 e.blk (e.off + o) c' l sep w ?_ (hr.lt i e he) hl hcc ?_).mono ?_
    · intro j x hx
      have hjl := lt_of_get hx
      have hrc := k6 j (by omega)
      rw [List.getElem?_map, hx, Option.map_some] at hrc
      obtain ⟨_, u, u1, u2⟩ := g2 (o + j) _ hrc
      rw [u2.string] at u1
      simp [World.cell?, g1, Nat.add_assoc, u1]
    · have : (joinT l sep).size = (Lib.join (l.map (·.data.toList)) sep.data.toList).length := by
        unfold joinT
        show (Array.size _) = _
        simp
      omega
    · rintro en w' ⟨rfl, hb⟩
      obtain ⟨hr1, hs1⟩ := hr.below hb
      exact ⟨_, _, μ, A, rfl, .flat rfl, hr1, hs1, hq⟩
end
end Go.AS


namespace Go.AS.C
open Go Go.Proofs
set_option linter.unusedVariables false
set_option linter.unusedSimpArgs false
set_option maxRecDepth 10000

/-! Updates, as plain data. -/
structure UpdV where
  author : Int
  preds : List ByteArray
  op : OpV
def UpdV.zero : UpdV := ⟨0, [], OpV.zero⟩
def UpdV.Fin (u : UpdV) : Prop := (-9223372036854775808 ≤ u.author ∧ u.author < 9223372036854775808) ∧ u.preds.length < 2 ^ 50 ∧ (∀ s ∈ u.preds, s.size < 2 ^ 50) ∧ u.op.Fin
/-- An update, as a value, of which the list stands in the heap. -/
def UpdA (A : AH) (x : Value) (u : UpdV) : Prop := ∃ p : Value, x = .agg #[ii u.author, p, ii u.op.k, .string u.op.name, .string u.op.text, ii u.op.n, .string u.op.place] ∧ SlT A p u.preds
theorem UpdA.le {A B : AH} {x : Value} {u : UpdV} (h : UpdA A x u) (hl : Le A B) : UpdA B x u := by
  obtain ⟨p, h1, h2⟩ := h
  exact ⟨p, h1, h2.le hl⟩
/-- Whether a list rises. -/
noncomputable def riseB (l : List ByteArray) : Bool := @decide (RiseP l) (Classical.propDecidable _)
theorem riseB_iff {l : List ByteArray} : riseB l = true ↔ RiseP l := @decide_eq_true_iff _ (Classical.propDecidable _)
/-- What is wrong with an update. -/
noncomputable def updE (u : UpdV) : Nat := if u.author < 0 ∨ 256 ≤ u.author then 1 else if 8 < u.preds.length then 4 else if riseB u.preds = false then 1 else if opOk u.op = true then 0 else 1
theorem updE_zero {u : UpdV} : updE u = 0 ↔ (0 ≤ u.author ∧ u.author < 256) ∧ u.preds.length ≤ 8 ∧ RiseP u.preds ∧ opOk u.op = true := by
  unfold updE
  rw [← riseB_iff]
  constructor
  · intro h
    split at h
    · cases h
    · split at h
      · cases h
      · split at h
        · cases h
        · split at h
          · rename_i h1 h2 h3 h4
            exact ⟨by omega, by omega, by simpa using h3, h4⟩
          · cases h
  · rintro ⟨h1, h2, h3, h4⟩
    rw [if_neg (by omega), if_neg (by omega), if_neg (by simp [h3]), if_pos h4]
def flatT (l : List ByteArray) : List UInt8 := l.flatMap bl
/-- An update's bytes. -/
def putU (u : UpdV) : List UInt8 := UInt8.ofNat u.author.toNat :: UInt8.ofNat u.preds.length :: (flatT u.preds ++ putO u.op)
theorem join_flat : ∀ l : List (List UInt8), Lib.join l [] = l.flatten
  | [] => Lib.join_nil _
  | x :: l => by
    rw [Lib.join_cons]
    unfold Lib.joinTail
    simp
theorem joinT_nil (l : List ByteArray) : joinT l e0 = bA (flatT l) := by
  unfold joinT
  have : e0.data.toList = [] := rfl
  rw [this, join_flat]
  unfold flatT
  rw [List.flatMap_def]
/-- So many texts of 32 bytes. -/
def takesC : Nat → CurS → List ByteArray × CurS
  | 0, st => ([], st)
  | n + 1, st => (bA (takeC st 32).2 :: (takesC n (takeC st 32).1).1, (takesC n (takeC st 32).1).2)
theorem takesC_none : ∀ n, (takesC n none).2 = none
  | 0 => rfl
  | n + 1 => takesC_none n
theorem takesC_len : ∀ n st, (takesC n st).1.length = n
  | 0, _ => rfl
  | n + 1, st => by simp [takesC, takesC_len n]
theorem takesC_put : ∀ (l : List ByteArray) (r : List UInt8), (∀ s ∈ l, s.size = 32) → takesC l.length (some (flatT l ++ r)) = (l, some r)
  | [], r, _ => rfl
  | s :: l, r, h => by
    have hs : (bl s).length = 32 := by rw [bl_size]; exact h s (by simp)
    have e : flatT (s :: l) ++ r = bl s ++ (flatT l ++ r) := by simp [flatT]
    have et : takeC (some (bl s ++ (flatT l ++ r))) (32 : Int) = (some (flatT l ++ r), bl s) := takeC_all (n := 32) hs
    rw [List.length_cons, e]
    simp only [takesC, et]
    rw [takesC_put l r fun x hx => h x (by simp [hx]), bA_bl]
theorem takesC_ok : ∀ (n : Nat) (l r : List UInt8) (ts : List ByteArray), takesC n (some l) = (ts, some r) → l = flatT ts ++ r ∧ ∀ s ∈ ts, s.size = 32
  | 0, l, r, ts, h => by
    injection h with h1 h2
    injection h2 with h2
    subst h1 h2
    exact ⟨rfl, by simp⟩
  | n + 1, l, r, ts, h => by
    simp only [takesC] at h
    cases ht : takeC (some l) 32 with
    | mk st t =>
      rw [ht] at h
      simp only at h
      cases st with
      | none => injection h with _ h; rw [takesC_none] at h; cases h
      | some l1 =>
        obtain ⟨e1, e2⟩ := takeC_ok (n := 32) ht
        injection h with h1 h2
        obtain ⟨q1, q2⟩ := takesC_ok n l1 r (takesC n (some l1)).1 (by rw [← h2])
        subst h1
        refine ⟨?_, ?_⟩
        · rw [e1]
          conv => lhs; rw [q1]
          simp [flatT]
        · intro s hs
          rcases List.mem_cons.1 hs with rfl | hs
          · rw [bA_size]; exact e2
          · exact q2 s hs
/-- What Get gives: the update, what is wrong. -/
noncomputable def getU (bs : List UInt8) : UpdV × Nat :=
  if 384 < bs.length then (.zero, 3) else
  match (takesC (byteC (byteC (some bs)).1).2 (byteC (byteC (some bs)).1).1).2 with
  | none => (.zero, 5)
  | some r => match getP r with
    | none => (.zero, 5)
    | some (o, n) => if n < r.length ∨ updE ⟨(byteC (some bs)).2, (takesC (byteC (byteC (some bs)).1).2 (byteC (byteC (some bs)).1).1).1, o⟩ ≠ 0 then (.zero, 5) else (⟨(byteC (some bs)).2, (takesC (byteC (byteC (some bs)).1).2 (byteC (byteC (some bs)).1).1).1, o⟩, 0)
theorem putO_len2 {o : OpV} (h : opOk o = true) : (putO o).length ≤ 101 := by
  obtain ⟨h1, h2, h3, h4, h5, h6, h7, h8, h9, h10⟩ := opOk_iff.1 h
  have tl : ∀ s : ByteArray, s.size ≤ 48 → (textN (bl s)).length = s.size + 1 := fun s hs => by
    unfold textN
    rw [putN_small (by rw [bl_size]; omega)]
    simp
  have a1 : (if hN o.k then textN (bl o.name) else []).length ≤ 13 := by
    split
    · rename_i hk; rw [if_pos hk] at h2; have := nameOk_size h2; rw [tl _ (by omega)]; omega
    · simp
  have a2 : (if hT o.k then textN (bl o.text) else []).length ≤ 49 := by
    split
    · rw [tl _ h3]; omega
    · simp
  have a3 : (if hI o.k then numO o.n else []).length ≤ 5 := by
    split
    · simp [numO, leB_length]
    · simp
  have a4 : (if o.k = 5 then [if o.place = e0 then (0 : UInt8) else 1] else []).length ≤ 1 := by split <;> simp
  have a5 : (bl o.place).length ≤ 32 := by
    rw [bl_size]
    rcases h8 with h | h
    · rw [h]; decide
    · omega
  unfold putO
  simp only [List.length_cons, List.length_append]
  omega
theorem flatT_len : ∀ {l : List ByteArray}, (∀ s ∈ l, s.size = 32) → (flatT l).length = 32 * l.length
  | [], _ => rfl
  | s :: l, h => by
    have e : flatT (s :: l) = bl s ++ flatT l := by simp [flatT]
    rw [e, List.length_append, bl_size, h s (by simp), flatT_len fun x hx => h x (by simp [hx]), List.length_cons]
    omega
theorem putU_len {u : UpdV} (h : updE u = 0) : (putU u).length ≤ 384 := by
  obtain ⟨h1, h2, h3, h4⟩ := updE_zero.1 h
  have := putO_len2 h4
  have := flatT_len h3.1
  unfold putU
  simp only [List.length_cons, List.length_append]
  omega
theorem getU_put {u : UpdV} (h : updE u = 0) : getU (putU u) = (u, 0) := by
  obtain ⟨h1, h2, h3, h4⟩ := updE_zero.1 h
  have hl := putU_len h
  have ha : (UInt8.ofNat u.author.toNat).toNat = u.author.toNat := by rw [UInt8.toNat_ofNat']; omega
  have hn : (UInt8.ofNat u.preds.length).toNat = u.preds.length := by rw [UInt8.toNat_ofNat']; omega
  have hg : getP (putO u.op) = some (u.op, (putO u.op).length) := getP_iff.2 ⟨h4, rfl, [], by simp⟩
  have ht := takesC_put u.preds (putO u.op) h3.1
  unfold getU
  rw [if_neg (by omega)]
  unfold putU
  rw [byteC_cons, byteC_cons]
  simp only [hn, ht, hg, ha]
  obtain ⟨author, preds, op⟩ := u
  simp only at *
  rw [show ((author.toNat : Nat) : Int) = author by omega, if_neg]
  rintro (h' | h')
  · omega
  · exact h' h
theorem getU_ok {bs : List UInt8} {u : UpdV} (h : getU bs = (u, 0)) : updE u = 0 ∧ bs = putU u := by
  unfold getU at h
  split at h
  · injection h with _ h; cases h
  rename_i hlen
  cases bs with
  | nil =>
    simp only [byteC, takesC] at h
    injection h with _ h; cases h
  | cons a bs =>
    rw [byteC_cons] at h
    simp only at h
    cases bs with
    | nil =>
      simp only [byteC, takesC] at h
      injection h with _ h; cases h
    | cons b bs =>
      rw [byteC_cons] at h
      simp only at h
      cases ht : takesC b.toNat (some bs) with
      | mk ts st =>
        rw [ht] at h
        simp only at h
        cases st with
        | none => injection h with _ h; cases h
        | some r =>
          simp only at h
          obtain ⟨e1, e2⟩ := takesC_ok _ _ _ _ ht
          have e3 := takesC_len b.toNat (some bs)
          rw [ht] at e3
          simp only at e3
          cases hp : getP r with
          | none => rw [hp] at h; injection h with _ h; cases h
          | some x =>
            obtain ⟨o, n⟩ := x
            rw [hp] at h
            simp only at h
            split at h
            · injection h with _ h; cases h
            · rename_i hc
              injection h with h _
              subst h
              have hu := Decidable.not_not.1 (fun h => hc (.inr h))
              refine ⟨hu, ?_⟩
              obtain ⟨q1, q2, r', q3⟩ := getP_iff.1 hp
              have hr : r' = [] := by
                rw [q3, List.length_append] at hc
                exact List.length_eq_zero_iff.1 (by omega)
              subst hr
              rw [List.append_nil] at q3
              unfold putU
              rw [e1, ← q3]
              simp only [e3, Int.toNat_natCast, UInt8.ofNat_toNat]
/-- The end of Get: what is left, behind a list of texts. -/
noncomputable def endU (au : Int) (ts : List ByteArray) (st : CurS) : UpdV × Nat := match st with
  | none => (.zero, 5)
  | some r => match getP r with
    | none => (.zero, 5)
    | some (o, n) => if n < r.length ∨ updE ⟨au, ts, o⟩ ≠ 0 then (.zero, 5) else (⟨au, ts, o⟩, 0)
theorem getU_end (bs : List UInt8) : getU bs = if 384 < bs.length then (.zero, 3) else endU (byteC (some bs)).2 (takesC (byteC (byteC (some bs)).1).2 (byteC (byteC (some bs)).1).1).1 (takesC (byteC (byteC (some bs)).1).2 (byteC (byteC (some bs)).1).1).2 := rfl
theorem takesC_left : ∀ n st, leftC (takesC n st).2 ≤ leftC st
  | 0, st => Nat.le_refl _
  | n + 1, st => Nat.le_trans (takesC_left n _) (takeC_len st 32).2
theorem takesC_fin : ∀ (n : Nat) (st : CurS), ∀ s ∈ (takesC n st).1, s.size ≤ 32
  | 0, st, s, h => by cases h
  | n + 1, st, s, h => by
    simp only [takesC, List.mem_cons] at h
    rcases h with rfl | h
    · rw [bA_size]
      unfold takeC
      cases st with
      | none => simp
      | some l =>
        simp only
        split
        · rw [List.length_take]; show min 32 _ ≤ 32; omega
        · simp
    · exact takesC_fin n _ s h
end Go.AS.C


namespace Go.AS
open Go Go.RowKit Go.Proofs
set_option linter.unusedVariables false
set_option linter.unusedSimpArgs false

/-! The kit's contract of strings.IndexFunc, told of abstract states. -/
section
variable {G : Nat} {P : Program} {A : AH} {w : World}
/-- A function over runes that needs no memory. -/
theorem pred_grows {g : FuncId} {p : Nat → Bool} (h : ∀ x : Nat, x ≤ 1114111 → ACalls 0 P g [.int .i32 x] (fun v _ => v = .bool (p x)) []) (w : World) : PredGrows P g #[] p w := by
  intro W x hx _
  have h1 := (h x hx).apply (μ := []) (w := W) (args' := #[.int .i32 x]) rel_none rfl (fun j v v' hv hv' => by
    match j with
    | 0 =>
      simp at hv hv'
      subst hv hv'
      exact .flat rfl
    | j + 1 => simp at hv)
  refine h1.mono ?_
  rintro e w' ⟨v, v', μ', A', rfl, hv, hr, hs, rfl⟩
  rw [hv.bool]
  exact ⟨rfl, hs.os, hs.tape, hs.output, hs.size, fun k hk => hs.keep k hk (fun i b e hb => by simp at hb)⟩
/-- What a machine's function must do to find a rune. -/
def IdxFuncs (P : Program) (f : FuncId) : Prop :=
  ∀ (g : Nat) (p : Nat → Bool) (s : ByteArray) (w : World), (∀ args w, (callFunc g args).run P w = .ok (.enter g args) w) → PredGrows P g #[] p w →
    Calls P f #[.string s, .func (.func g) #[] #[]] w fun e w' => e = .returned (.int .i64 (Lib.idxFunc p true s)) ∧ Below w.heap.size w w'
theorem idxfunc_spec {f g : FuncId} (hf : IdxFuncs P f) {p : Nat → Bool} (hok : calleeOk P g = true) (h : ∀ x : Nat, x ≤ 1114111 → ACalls 0 P g [.int .i32 x] (fun v _ => v = .bool (p x)) []) {s : ByteArray} {Q : Value → AH → Prop}
    (hq : Q (.int .i64 (Lib.idxFunc p true s)) A) : ACalls G P f [.string s, .func (.func g) #[] #[]] Q A := by
  intro μ args' w hr h1 h2
  obtain ⟨s', v', rfl⟩ : ∃ s' v', args' = #[s', v'] := by
    have : args'.size = 2 := by simpa using h1
    exact ⟨args'[0], args'[1], by apply Array.ext (by simpa using this); intro i hi1 hi2; simp at hi2; match i with | 0 => rfl | 1 => rfl⟩
  have hs := (h2 0 _ s' rfl rfl).string
  have hv := h2 1 _ v' rfl rfl
  subst hs
  have hv' : v' = .func (.func g) #[] #[] := by
    cases hv with
    | flat h => cases h
    | func hpl k1 _ k3 _ =>
      rename_i a' b' _ _
      have e1 : a' = #[] := Array.eq_empty_of_size_eq_zero (by rw [← k1]; rfl)
      have e2 : b' = #[] := Array.eq_empty_of_size_eq_zero (by rw [← k3]; rfl)
      rw [e1, e2]
  subst hv'
  refine (hf g p s w (fun args w => run_callFunc hok args w) (pred_grows h w)).mono ?_
  rintro en w' ⟨rfl, hb⟩
  obtain ⟨hr1, hs1⟩ := hr.below hb
  exact ⟨_, _, μ, A, rfl, .flat rfl, hr1, hs1, hq⟩
end
end Go.AS


/-
  DERIVED: THE SHELF's CONTRACTS AT THIS DUMP, IN PLAIN WORDS (tools/lay-plain.mjs out of 'TrydShelf.lean', which tools/lay-shelf.mjs wrote): THE SAME DECLARATIONS UNDER THE SAME NAMES: 'import', 'namespace', 'open', 'def', 'theorem' AND NOTHING ELSE: no command of the shelf's: FOR A HAND-IN. Each laying: the table of numbers ('.._ren') and one theorem, a field a fact of the dump's own or the kernel's comparison; each contract: ONE APPLICATION.
-/
namespace Go.Proofs
open Go.Shelf
def Tryd.lays156_ren : Go.Shelf.Ren := ⟨fun | 156 => 22 | 165 => 54 | 166 => 55 | 169 => 56 | 240 => 79 | 241 => 80 | 276 => 90 | 277 => 91 | n => n, fun | 31 => 22 | 9 => 9 | 3 => 3 | 4 => 4 | 0 => 0 | 20 => 20 | 72 => 82 | 76 => 86 | 70 => 80 | 37 => 29 | 75 => 85 | 127 => 110 | 164 => 117 | 5 => 5 | 80 => 52 | n => n, fun | n => n⟩
theorem Tryd.lays156 : Go.Proofs.Lays.n156 Tryd.prog Tryd.lays156_ren := {
  mixed := by kernel_rfl
  f156 := Tryd.func22.trans (congrArg some (by kernel_rfl))
  f165 := Tryd.func54.trans (congrArg some (by kernel_rfl))
  f166 := Tryd.func55.trans (congrArg some (by kernel_rfl))
  f169 := Tryd.func56.trans (congrArg some (by kernel_rfl))
  f240 := Tryd.func79.trans (congrArg some (by kernel_rfl))
  f241 := Tryd.func80.trans (congrArg some (by kernel_rfl))
  f276 := Tryd.func90.trans (congrArg some (by kernel_rfl))
  f277 := Tryd.func91.trans (congrArg some (by kernel_rfl))
  t0 := Tryd.underlying0
  a0 := Tryd.isAgg0
  z0 := Tryd.sizeOf0
  v0 := Tryd.zeroValue0
  t3 := Tryd.underlying3
  a3 := Tryd.isAgg3
  z3 := Tryd.sizeOf3
  v3 := Tryd.zeroValue3
  t4 := Tryd.underlying4
  a4 := Tryd.isAgg4
  z4 := Tryd.sizeOf4
  v4 := Tryd.zeroValue4
  t9 := Tryd.underlying9
  a9 := Tryd.isAgg9
  z9 := Tryd.sizeOf9
  v9 := Tryd.zeroValue9
  t20 := Tryd.underlying20
  a20 := Tryd.isAgg20
  z20 := Tryd.sizeOf20
  v20 := Tryd.zeroValue20
  t31 := Tryd.underlying22
  a31 := Tryd.isAgg22
  z31 := Tryd.sizeOf22
  v31 := Tryd.zeroValue22
  t37 := Tryd.underlying29
  a37 := Tryd.isAgg29
  z37 := Tryd.sizeOf29
  v37 := Tryd.zeroValue29
  t70 := Tryd.underlying80
  a70 := Tryd.isAgg80
  z70 := Tryd.sizeOf80
  v70 := Tryd.zeroValue80
  t72 := Tryd.underlying82
  a72 := Tryd.isAgg82
  z72 := Tryd.sizeOf82
  v72 := Tryd.zeroValue82
  t75 := Tryd.underlying85
  a75 := Tryd.isAgg85
  z75 := Tryd.sizeOf85
  v75 := Tryd.zeroValue85
  t76 := Tryd.underlying86
  a76 := Tryd.isAgg86
  z76 := Tryd.sizeOf86
  v76 := Tryd.zeroValue86
  t127 := Tryd.underlying110
  a127 := Tryd.isAgg110
  z127 := Tryd.sizeOf110
  v127 := Tryd.zeroValue110
  t164 := Tryd.underlying117
  a164 := Tryd.isAgg117
  z164 := Tryd.sizeOf117
  v164 := Tryd.zeroValue117 }
theorem Tryd.Builder_Extra_156 : Builder.Extra Tryd.prog Tryd.lays156_ren := {
  sizeBuilder := by kernel_rfl
  liesBuilder := by kernel_rfl
  t5 := Tryd.underlying5
  a5 := Tryd.isAgg5
  z5 := Tryd.sizeOf5
  v5 := Tryd.zeroValue5
  infoByte := by kernel_rfl
  cellsByte := by kernel_rfl
  sizeByte := by kernel_rfl
  neB5 := by decide }
open Go.RowKit in
/-- No element: the empty string; the world is as it was. (Whatever the slice's address and capacity: a nil slice too.) (LAID: no walk: one application.) -/
theorem Tryd.strings_Join_none (a : Option Addr) (c : Nat) (sep : ByteArray) (w : World) :
    Calls Tryd.prog 22 #[.slice a 0 c, .string sep] w fun e w' => e = .returned (.string ⟨#[]⟩) ∧ w' = w := Any.strings_Join_none Tryd.lays156 Tryd.Builder_Extra_156 a c sep w
open Go.RowKit in
/-- strings.Join: "Join concatenates the elements of its first argument to create a single string. The separator string sep is placed between elements in the resulting string.": HOWEVER MANY ELEMENTS. Below the heap's end the world is as it was. (LAID: no walk: one application.) -/
theorem Tryd.strings_Join (bk o c : Nat) (xs : List ByteArray) (sep : ByteArray) (w : World) (hcells : ∀ (j : Nat) x, xs[j]? = some x → w.cell? ⟨bk, o + j, none⟩ = some (.string x)) (hbk : bk < w.heap.size) (hN : xs.length ≤ 140737488355328) (hcap : xs.length ≤ c) (hlen : (Lib.join (xs.map (·.data.toList)) sep.data.toList).length ≤ 140737488355328) :
    Calls Tryd.prog 22 #[.slice (some ⟨bk, o, none⟩) xs.length c, .string sep] w fun e w' => e = .returned (.string ⟨(Lib.join (xs.map (·.data.toList)) sep.data.toList).toArray⟩) ∧ Below w.heap.size w w' := Any.strings_Join Tryd.lays156 Tryd.Builder_Extra_156 bk o c xs sep w hcells hbk hN hcap hlen
def Tryd.laysGw15_ren : Go.Shelf.Ren := ⟨fun | 15 => 84 | 20 => 93 | n => n, fun | 9 => 9 | 23 => 112 | 3 => 3 | 4 => 4 | 0 => 0 | 21 => 21 | n => n, fun | n => n⟩
theorem Tryd.laysGw15 : Go.Proofs.LaysGw.n15 Tryd.prog Tryd.laysGw15_ren := {
  mixed := by kernel_rfl
  f15 := Tryd.func84.trans (congrArg some (by kernel_rfl))
  f20 := Tryd.func93.trans (congrArg some (by kernel_rfl))
  t0 := Tryd.underlying0
  a0 := Tryd.isAgg0
  z0 := Tryd.sizeOf0
  v0 := Tryd.zeroValue0
  i0 := by kernel_rfl
  t3 := Tryd.underlying3
  a3 := Tryd.isAgg3
  z3 := Tryd.sizeOf3
  v3 := Tryd.zeroValue3
  i3 := by kernel_rfl
  t4 := Tryd.underlying4
  a4 := Tryd.isAgg4
  z4 := Tryd.sizeOf4
  v4 := Tryd.zeroValue4
  i4 := by kernel_rfl
  t9 := Tryd.underlying9
  a9 := Tryd.isAgg9
  z9 := Tryd.sizeOf9
  v9 := Tryd.zeroValue9
  i9 := by kernel_rfl
  t21 := Tryd.underlying21
  a21 := Tryd.isAgg21
  z21 := Tryd.sizeOf21
  v21 := Tryd.zeroValue21
  i21 := by kernel_rfl
  t23 := Tryd.underlying112
  a23 := Tryd.isAgg112
  z23 := Tryd.sizeOf112
  v23 := Tryd.zeroValue112
  i23 := by kernel_rfl }
open Go.RowKit Go.Lib in
theorem Tryd.strings_IndexFunc_grows (g : Nat) (lb : Array Value) (eg : ∀ args w, (callFunc g args).run Tryd.prog w = .ok (.enter g args) w) (p : Nat → Bool) (s : ByteArray) (w : World) (hp : PredGrows Tryd.prog g lb p w) :
    Calls Tryd.prog 84 #[.string s, .func (.func g) #[] lb] w fun e w' => e = .returned (.int .i64 (Lib.idxFunc p true s)) ∧ Below w.heap.size w w' := Any.strings_IndexFunc_grows Tryd.laysGw15 g lb eg p s w hp
end Go.Proofs


namespace Go.AS.C
open Go Go.Proofs
/-! The kit's contracts, told of abstract states. -/
/-- The type of operations. -/
abbrev opT : TypeId := 24
theorem opU : type_of% @Tryd.underlying24 := Tryd.underlying24
/-- The type of updates, of lists of texts. -/
abbrev updT : TypeId := 26
theorem updU : type_of% @Tryd.underlying26 := Tryd.underlying26
abbrev strsT : TypeId := 22
theorem strsU : type_of% @Tryd.underlying22 := Tryd.underlying22
theorem joinsTexts : JoinsTexts Tryd.prog strings_Join :=
  ⟨fun bk o c xs sep w h1 h2 h3 h4 h5 => Tryd.strings_Join bk o c xs sep w h1 h2 h3 h4 h5, fun a c sep w => Tryd.strings_Join_none a c sep w⟩
theorem idxFuncs : IdxFuncs Tryd.prog strings_IndexFunc :=
  fun g p s w eg hp => Tryd.strings_IndexFunc_grows g #[] eg p s w hp
end Go.AS.C


namespace Go.AS.C
open Go Go.Proofs
set_option linter.unusedVariables false
set_option linter.unusedSimpArgs false
set_option maxRecDepth 10000

/-! op.has, op.Name, op.bare, op.Check; the reference's Has, Name, Check. -/
theorem op_has_spec {A : AH} {k : Int} {Q : Value → AH → Prop} (hq : Q (ii (hasO k)) A) : ACalls 1 Tryd.prog op_has [ii k] Q A := by
  refine ACalls.of_fits mixed fits_op_has rfl ?_
  unfold ic_op_has
  have i0 : initA [ii k] 0 = ii k := rfl
  generalize initA [ii k] = a at i0
  by_cases h1 : k = 1
  · subst h1; simp (maxSteps := 1000000) (disch := omega) only [stepS, reduceIte, Nat.reduceBEq, Nat.reduceEqDiff, tupleOf, stepT, i0]; exact hq
  by_cases h2 : k = 2
  · subst h2; simp (maxSteps := 1000000) (disch := omega) only [stepS, reduceIte, Nat.reduceBEq, Nat.reduceEqDiff, tupleOf, stepT, i0]; exact hq
  by_cases h3 : k = 3
  · subst h3; simp (maxSteps := 1000000) (disch := omega) only [stepS, reduceIte, Nat.reduceBEq, Nat.reduceEqDiff, tupleOf, stepT, i0]; exact hq
  by_cases h4 : k = 4
  · subst h4; simp (maxSteps := 1000000) (disch := omega) only [stepS, reduceIte, Nat.reduceBEq, Nat.reduceEqDiff, tupleOf, stepT, i0]; exact hq
  by_cases h5 : k = 5
  · subst h5; simp (maxSteps := 1000000) (disch := omega) only [stepS, reduceIte, Nat.reduceBEq, Nat.reduceEqDiff, tupleOf, stepT, i0]; exact hq
  by_cases h6 : k = 6
  · subst h6; simp (maxSteps := 1000000) (disch := omega) only [stepS, reduceIte, Nat.reduceBEq, Nat.reduceEqDiff, tupleOf, stepT, i0]; exact hq
  by_cases h7 : k = 7
  · subst h7; simp (maxSteps := 1000000) (disch := omega) only [stepS, reduceIte, Nat.reduceBEq, Nat.reduceEqDiff, tupleOf, stepT, i0]; exact hq
  have e : hasO k = -1 := by unfold hasO; simp [h1, h2, h3, h4, h5, h6, h7]
  rw [e] at hq
  simp (maxSteps := 1000000) (disch := omega) only [stepS, reduceIte, Nat.reduceBEq, Nat.reduceEqDiff, tupleOf, stepT, i0]
  exact hq

def oddR (r : Nat) : Bool := !decide (97 ≤ r ∧ r ≤ 122 ∨ 48 ≤ r ∧ r ≤ 57 ∨ r = 45)
theorem geq32 (a b : Int) : binA .geq (.int .i32 a) (.int .i32 b) = some (.bool (decide (a ≥ b))) := by simp [binA]
theorem leq32 (a b : Int) : binA .leq (.int .i32 a) (.int .i32 b) = some (.bool (decide (a ≤ b))) := by simp [binA]
theorem fits0_op_Name_1 : Fits Tryd.prog (0) op_Name_1 ic_op_Name_1 [.tmp 2] 1 := by
  have h : ((Tryd.prog.funcs[op_Name_1]?).bind fun fn => fn.body.bind (cCode Tryd.prog (0) fn.ntmps)) = some ic_op_Name_1 := by kernel_rfl
  obtain ⟨fn, h1, h2, h3, h4⟩ := fits_op_Name_1
  rw [h1] at h
  exact ⟨fn, h1, h2, h, h4⟩
theorem op_Name_1_spec (r : Nat) : ACalls (0) Tryd.prog op_Name_1 [.int .i32 r] (fun v _ => v = .bool (oddR r)) [] := by
  refine ACalls.of_fits mixed fits0_op_Name_1 rfl ?_
  unfold ic_op_Name_1
  have i0 : initA [.int .i32 r] 0 = .int .i32 r := rfl
  generalize initA [.int .i32 r] = a at i0
  unfold oddR
  by_cases h1 : 97 ≤ r
  · by_cases h2 : r ≤ 122
    · simp (maxSteps := 1000000) (disch := omega) only [stepS, reduceIte, Nat.reduceBEq, Nat.reduceEqDiff, tupleOf, stepT, i0, geq32, leq32]
      try (simp [*]; done)
      try (simp; omega)
    · simp (maxSteps := 1000000) (disch := omega) only [stepS, reduceIte, Nat.reduceBEq, Nat.reduceEqDiff, tupleOf, stepT, i0, geq32, leq32]
      try (simp [*]; done)
      try (simp; omega)
  · by_cases h3 : 48 ≤ r
    · by_cases h4 : r ≤ 57
      · simp (maxSteps := 1000000) (disch := omega) only [stepS, reduceIte, Nat.reduceBEq, Nat.reduceEqDiff, tupleOf, stepT, i0, geq32, leq32]
        try (simp [*]; done)
        try (simp; omega)
      · simp (maxSteps := 1000000) (disch := omega) only [stepS, reduceIte, Nat.reduceBEq, Nat.reduceEqDiff, tupleOf, stepT, i0, geq32, leq32]
        try (simp [*]; done)
        try (simp; omega)
    · by_cases h5 : r = 45
      · subst h5
        simp (maxSteps := 1000000) (disch := omega) only [stepS, reduceIte, Nat.reduceBEq, Nat.reduceEqDiff, tupleOf, stepT, i0, geq32, leq32]
        try (simp [*]; done)
        try (simp; omega)
      · simp (maxSteps := 1000000) (disch := omega) only [stepS, reduceIte, Nat.reduceBEq, Nat.reduceEqDiff, tupleOf, stepT, i0, geq32, leq32]
        try (simp [*]; done)
        try (simp; omega)
theorem decode_hi {s : ByteArray} {i : Nat} (h : 128 ≤ (s.get! i).toNat) : 128 ≤ (Utf8.decode s i).1 := by
  unfold Utf8.decode
  simp only [Nat.add_zero]
  rw [if_neg (by omega)]
  unfold Utf8.runeError
  repeat' split
  all_goals simp only []
  all_goals first | omega | (rename_i h; simp only [Bool.and_eq_true, decide_eq_true_eq] at h; omega) | skip
theorem decode_lo {s : ByteArray} {i : Nat} (h : (s.get! i).toNat < 128) : Utf8.decode s i = ((s.get! i).toNat, 1) := by
  unfold Utf8.decode
  simp only [Nat.add_zero]
  rw [if_pos (by omega)]
theorem idx_from {s : ByteArray} : ∀ (f pos : Nat), s.size ≤ pos + f → (Lib.idxFuncFrom oddR true s f pos < 0 ↔ ∀ b ∈ (bl s).drop pos, nameB b = true)
  | f, pos, hf => by
    by_cases hp : pos < s.size
    · obtain ⟨f, rfl⟩ : ∃ f', f = f' + 1 := ⟨f - 1, by omega⟩
      unfold Lib.idxFuncFrom
      rw [if_pos hp]
      have hl : pos < (bl s).length := by rw [bl_size]; exact hp
      have hg : s.get! pos = (bl s)[pos] := by
        cases s with
        | mk d =>
          show d[pos]! = _
          simp only [bl] at hl ⊢
          rw [getElem!_pos d pos (by simpa using hl)]
          simp
      rw [List.drop_eq_getElem_cons hl]
      simp only [List.mem_cons, forall_eq_or_imp]
      rcases Nat.lt_or_ge (s.get! pos).toNat 128 with h | h
      · rw [decode_lo h]
        simp only
        have ih := idx_from (s := s) f (pos + 1) (by omega)
        have hn : nameB (bl s)[pos] = !oddR (s.get! pos).toNat := by
          rw [← hg]; unfold nameB oddR; simp
        cases ho : oddR (s.get! pos).toNat with
        | true =>
          rw [ho] at hn
          rw [if_pos rfl, hn]
          simp
        | false =>
          rw [ho] at hn
          rw [if_neg (by simp), hn, ih]
          simp
      · have hr := decode_hi h
        have ho : oddR (Utf8.decode s pos).1 = true := by
          unfold oddR
          all_goals (first | (simp; done) | (simp; omega))
        rw [ho, if_pos rfl]
        have hn : nameB (bl s)[pos] = false := by
          rw [← hg]; unfold nameB; simp; omega
        rw [hn]
        simp
    · rw [Lib.idxFuncFrom_end _ _ _ _ _ hp, List.drop_of_length_le (by rw [bl_size]; omega)]
      simp
theorem idx_name (s : ByteArray) : (Lib.idxFunc oddR true s < 0) ↔ (bl s).all nameB = true := by
  unfold Lib.idxFunc
  rw [idx_from s.size 0 (by omega), List.drop_zero, List.all_eq_true]
theorem op_Name_1_ok : calleeOk Tryd.prog op_Name_1 = true := by kernel_rfl
theorem op_Name_spec {A : AH} {s : ByteArray} {Q : Value → AH → Prop} (hq : Q (.bool (nameOk s)) A) : ACalls 1 Tryd.prog op_Name [.string s] Q A := by
  refine ACalls.of_fits mixed fits_op_Name rfl ?_
  unfold ic_op_Name
  have i0 : initA [.string s] 0 = .string s := rfl
  generalize initA [.string s] = a at i0
  simp (maxSteps := 1000000) (disch := omega) only [stepS, reduceIte, Nat.reduceBEq, Nat.reduceEqDiff, tupleOf, stepT, i0]
  refine idxfunc_spec idxFuncs (p := oddR) op_Name_1_ok (fun x _ => ?_) ?_
  · exact op_Name_1_spec x
  have hx := idx_name s
  generalize Lib.idxFunc oddR true s = x at hx
  unfold nameOk at hq
  by_cases h1 : x < 0
  · rw [hx.1 h1, Bool.true_and] at hq
    by_cases h2 : 1 ≤ s.size
    · by_cases h3 : s.size ≤ 12
      · rw [decide_eq_true ⟨h2, h3⟩] at hq
        simp (maxSteps := 1000000) (disch := omega) only [stepS, reduceIte, Nat.reduceBEq, Nat.reduceEqDiff, tupleOf, stepT, i0]
        exact hq
      · rw [decide_eq_false (fun h => h3 h.2)] at hq
        simp (maxSteps := 1000000) (disch := omega) only [stepS, reduceIte, Nat.reduceBEq, Nat.reduceEqDiff, tupleOf, stepT, i0]
        exact hq
    · rw [decide_eq_false (fun h => h2 h.1)] at hq
      simp (maxSteps := 1000000) (disch := omega) only [stepS, reduceIte, Nat.reduceBEq, Nat.reduceEqDiff, tupleOf, stepT, i0]
      exact hq
  · rw [Bool.eq_false_iff.2 (fun h => h1 (hx.2 h)), Bool.false_and] at hq
    simp (maxSteps := 1000000) (disch := omega) only [stepS, reduceIte, Nat.reduceBEq, Nat.reduceEqDiff, tupleOf, stepT, i0]
    exact hq

theorem andH : (∀ m : Int, m = 1 ∨ m = 2 ∨ m = 4 ∨ m = 8 → binA .and (ii (-1)) (ii m) = some (ii m)) ∧ (binA .and (ii 5) (ii 1) = some (ii 1) ∧ binA .and (ii 5) (ii 2) = some (ii 0) ∧ binA .and (ii 5) (ii 4) = some (ii 4) ∧ binA .and (ii 5) (ii 8) = some (ii 0)) ∧
    (binA .and (ii 3) (ii 1) = some (ii 1) ∧ binA .and (ii 3) (ii 2) = some (ii 2) ∧ binA .and (ii 3) (ii 4) = some (ii 0) ∧ binA .and (ii 3) (ii 8) = some (ii 0)) ∧ (binA .and (ii 11) (ii 1) = some (ii 1) ∧ binA .and (ii 11) (ii 2) = some (ii 2) ∧ binA .and (ii 11) (ii 4) = some (ii 0) ∧ binA .and (ii 11) (ii 8) = some (ii 8)) ∧
    (binA .and (ii 9) (ii 1) = some (ii 1) ∧ binA .and (ii 9) (ii 2) = some (ii 0) ∧ binA .and (ii 9) (ii 4) = some (ii 0) ∧ binA .and (ii 9) (ii 8) = some (ii 8)) ∧ (binA .and (ii 0) (ii 1) = some (ii 0) ∧ binA .and (ii 0) (ii 2) = some (ii 0) ∧ binA .and (ii 0) (ii 4) = some (ii 0) ∧ binA .and (ii 0) (ii 8) = some (ii 0)) := by
  refine ⟨?_, ⟨rfl, rfl, rfl, rfl⟩, ⟨rfl, rfl, rfl, rfl⟩, ⟨rfl, rfl, rfl, rfl⟩, ⟨rfl, rfl, rfl, rfl⟩, rfl, rfl, rfl, rfl⟩
  rintro m (rfl | rfl | rfl | rfl) <;> rfl
/-- What a kind has, as the bits tell. -/
theorem and_has {k : Int} (h : hK k = true) : binA .and (ii (hasO k)) (ii 1) = some (ii (if hN k then 1 else 0)) ∧ binA .and (ii (hasO k)) (ii 2) = some (ii (if hT k then 2 else 0)) ∧ binA .and (ii (hasO k)) (ii 4) = some (ii (if hI k then 4 else 0)) ∧
    binA .and (ii (hasO k)) (ii 8) = some (ii (if hA k then 8 else 0)) ∧ 0 ≤ hasO k := by
  rcases opKind h with rfl | rfl | rfl | rfl | rfl | rfl | rfl <;> exact ⟨rfl, rfl, rfl, rfl, by decide⟩
theorem OpV.v_eq (o : OpV) : o.v = .agg #[ii o.k, .string o.name, .string o.text, ii o.n, .string o.place] := rfl
theorem op_bare_spec {A : AH} {o : OpV} {Q : Value → AH → Prop} (hk : hK o.k = true) (hq : Q (bareO o).v A) : ACalls 1 Tryd.prog op_bare [o.v] Q A := by
  refine ACalls.pure1 _ rfl hq fun Q hq => ?_
  refine ACalls.of_fits mixed fits_op_bare rfl ?_
  unfold ic_op_bare
  have i0 : initA [o.v] 0 = o.v := rfl
  generalize initA [o.v] = a at i0
  obtain ⟨k, name, text, n, place⟩ := o
  rw [OpV.v_eq] at i0 hq
  simp only [bareO] at i0 hk hq
  rcases opKind hk with rfl | rfl | rfl | rfl | rfl | rfl | rfl
  all_goals (
    simp only [hN, hT, hI, hA, Int.reduceLE, and_true, true_and, and_false, false_and, decide_true, decide_false, if_true, if_false, Bool.false_eq_true, Int.reduceEq] at hq
    simp (maxSteps := 1000000) (disch := omega) only [stepS, reduceIte, Nat.reduceBEq, Nat.reduceEqDiff, tupleOf, stepT, stepX, heapR, lensR, Nat.reduceAdd, Nat.reduceLeDiff, i0]
    refine W_alt ?_ ?_
    · simp (maxSteps := 1000000) (disch := omega) only [stepS, reduceIte, Nat.reduceBEq, Nat.reduceEqDiff, tupleOf, stepT, stepX, heapR, lensR, Nat.reduceAdd, Nat.reduceLeDiff]
      refine op_has_spec ?_
      simp only [hasO, if_true, if_false, Int.reduceEq, or_true, true_or, or_false, Int.reduceNeg]
      simp (maxSteps := 1000000) (disch := omega) only [stepS, reduceIte, Nat.reduceBEq, Nat.reduceEqDiff, tupleOf, stepT, stepX, heapR, lensR, Nat.reduceAdd, Nat.reduceLeDiff, andH]
      exact hq _ (by (repeat first | exact Le.refl _ | assumption | refine Le.app ?_ _ | refine Le.set ?_ ?_ | omega | (simp only [List.length_append, List.length_singleton, List.length_set]; omega)))
    · simp (maxSteps := 1000000) (disch := omega) only [stepS, reduceIte, Nat.reduceBEq, Nat.reduceEqDiff, tupleOf, stepT, stepX, heapR, lensR, Nat.reduceAdd, Nat.reduceLeDiff]
      refine op_has_spec ?_
      simp only [hasO, if_true, if_false, Int.reduceEq, or_true, true_or, or_false, Int.reduceNeg]
      simp (maxSteps := 1000000) (disch := omega) only [stepS, reduceIte, Nat.reduceBEq, Nat.reduceEqDiff, tupleOf, stepT, stepX, heapR, lensR, Nat.reduceAdd, Nat.reduceLeDiff, andH]
      exact hq _ (by (repeat first | exact Le.refl _ | assumption | refine Le.app ?_ _ | refine Le.set ?_ ?_ | omega | (simp only [List.length_append, List.length_singleton, List.length_set]; omega))))
def opKs : List FK := [.int .i64, .str, .str, .int .i64, .str]
theorem flat_op : flatS Tryd.prog opT opKs = true := by kernel_rfl
theorem OpV.Fin.has {o : OpV} (h : o.Fin) : All2 (fun v k => FK.Has k v) o.cs opKs := by
  obtain ⟨h1, h2, h3, h4, h5⟩ := h
  have hm : maxLen = 9223372036854775807 := by decide
  exact ⟨FK.hasI h1, show _ ≤ maxLen by omega, show _ ≤ maxLen by omega, FK.hasI h2, show _ ≤ maxLen by omega, trivial⟩
theorem eqop (A : AH) (neg : Bool) {a b : OpV} (ha : a.Fin) (hb : b.Fin) : sEqagg A neg (Tryd.prog.keyLits 8 opT) a.v b.v = some (.bool (decide (a = b) != neg), A) := by
  refine eqagg_flat flat_op ha.has hb.has ?_
  rw [decide_eq_true_eq]
  cases a; cases b
  simp [OpV.cs]
theorem bareO_fin {o : OpV} (h : o.Fin) : (bareO o).Fin := by
  obtain ⟨h1, h2, h3, h4, h5⟩ := h
  unfold bareO
  have e : e0.size = 0 := rfl
  refine ⟨h1, ?_, ?_, ?_, ?_⟩ <;> simp only <;> split <;> first | assumption | omega
theorem bare_ok {o : OpV} : bareO o = o ↔ (hN o.k = true ∨ o.name = e0) ∧ (hT o.k = true ∨ o.text = e0) ∧ (hI o.k = true ∨ o.n = 0) ∧ (hA o.k = true ∨ o.place = e0) := by
  obtain ⟨k, name, text, n, place⟩ := o
  unfold bareO
  simp only [OpV.mk.injEq, true_and]
  cases hN k <;> cases hT k <;> cases hI k <;> cases hA k <;> simp [eq_comm]
def checkO (o : OpV) : Int := if opOk o then 0 else 1
theorem op_Check_spec {A : AH} {o : OpV} {Q : Value → AH → Prop} (hs : o.Fin) (hq : Q (ii (checkO o)) A) : ACalls 1 Tryd.prog op_Check [o.v] Q A := by
  refine ACalls.pure1 _ rfl hq fun Q hq => ?_
  have hbad : opOk o = false → ∀ A', Le A A' → Q (ii 1) A' := fun h A' k => by have := hq A' k; unfold checkO at this; rw [h] at this; exact this
  have hgood : opOk o = true → ∀ A', Le A A' → Q (ii 0) A' := fun h A' k => by have := hq A' k; unfold checkO at this; rw [h] at this; exact this
  have hiff := @opOk_iff o
  have hbare := @bare_ok o
  have hs2 := hs.2.1
  have hs3 := hs.2.2.2.1
  refine ACalls.of_fits mixed fits_op_Check rfl ?_
  unfold ic_op_Check
  have i0 : initA [o.v] 0 = o.v := rfl
  generalize initA [o.v] = a at i0
  rw [OpV.v_eq] at i0
  have eb : ∀ A, sEqagg A true (Tryd.prog.keyLits 8 opT) (bareO o).v (.agg #[ii o.k, .string o.name, .string o.text, ii o.n, .string o.place]) = some (.bool (decide (bareO o = o) != true), A) := fun A => eqop A true (bareO_fin hs) hs
  have hA : ∀ {B : AH}, B = A ++ [.row [ii o.k, .string o.name, .string o.text, ii o.n, .string o.place] .own 0 true] → rowAt B A.length = some ([ii o.k, .string o.name, .string o.text, ii o.n, .string o.place], .own, 0, true) := fun h => by subst h; simp (maxSteps := 1000000) (disch := omega) only [stepS, reduceIte, Nat.reduceBEq, Nat.reduceEqDiff, tupleOf, stepT, stepX, heapR, lensR, Nat.reduceAdd, Nat.reduceLeDiff]
  refine W_mid (fun a B => B = A ++ [.row [ii o.k, .string o.name, .string o.text, ii o.n, .string o.place] .own 0 true] ∧ a 1 = ptr A.length) ?_ ?_
  · simp (maxSteps := 1000000) (disch := omega) only [stepS, reduceIte, Nat.reduceBEq, Nat.reduceEqDiff, tupleOf, stepT, stepX, heapR, lensR, Nat.reduceAdd, Nat.reduceLeDiff, i0]
  rintro a B ⟨hB, g1⟩
  have r1 := hA hB
  have hl : Le A B := by rw [hB]; exact .push _ _
  clear hA i0 hB
  refine W_mid (fun a B' => B' = B ∧ a 1 = ptr A.length ∧ a 3 = ii (hasO o.k)) ?_ ?_
  · simp (maxSteps := 1000000) (disch := omega) only [stepS, reduceIte, Nat.reduceBEq, Nat.reduceEqDiff, tupleOf, stepT, stepX, heapR, lensR, Nat.reduceAdd, Nat.reduceLeDiff, g1, r1]
    refine op_has_spec ?_
    simp (maxSteps := 1000000) (disch := omega) only [stepS, reduceIte, Nat.reduceBEq, Nat.reduceEqDiff, tupleOf, stepT, stepX, heapR, lensR, Nat.reduceAdd, Nat.reduceLeDiff, g1]
  rintro a B ⟨rfl, g1, g3⟩
  by_cases hk : hK o.k = true
  · obtain ⟨b1, b2, b4, b8, hp⟩ := and_has hk
    have hlt : ¬ hasO o.k < 0 := by omega
    refine W_mid (fun a B' => B' = B ∧ a 1 = ptr A.length ∧ a 3 = ii (hasO o.k) ∧ a 4 = .bool (!hN o.k || nameOk o.name)) ?_ ?_
    · by_cases hn : hN o.k = true
      · rw [if_pos hn] at b1
        simp (maxSteps := 1000000) (disch := omega) only [stepS, reduceIte, Nat.reduceBEq, Nat.reduceEqDiff, tupleOf, stepT, stepX, heapR, lensR, Nat.reduceAdd, Nat.reduceLeDiff, g1, g3, r1, b1]
        refine op_Name_spec ?_
        simp (maxSteps := 1000000) (disch := omega) only [stepS, reduceIte, Nat.reduceBEq, Nat.reduceEqDiff, tupleOf, stepT, stepX, heapR, lensR, Nat.reduceAdd, Nat.reduceLeDiff, g1, g3]
        simp [hn]
      · rw [if_neg hn] at b1
        simp (maxSteps := 1000000) (disch := omega) only [stepS, reduceIte, Nat.reduceBEq, Nat.reduceEqDiff, tupleOf, stepT, stepX, heapR, lensR, Nat.reduceAdd, Nat.reduceLeDiff, g1, g3, r1, b1]
        simp [hn]
    rintro a B ⟨rfl, g1, g3, g4⟩
    refine W_mid (fun a B' => B' = B ∧ a 1 = ptr A.length ∧ a 3 = ii (hasO o.k) ∧ a 4 = .bool (!hN o.k || nameOk o.name) ∧ a 5 = .bool (decide (o.text.size ≤ 48 ∧ -2147483647 ≤ o.n ∧ o.n ≤ 2147483647))) ?_ ?_
    · by_cases w1 : o.text.size ≤ 48
      · by_cases w2 : o.n ≥ -2147483647
        · simp (maxSteps := 1000000) (disch := omega) only [stepS, reduceIte, Nat.reduceBEq, Nat.reduceEqDiff, tupleOf, stepT, stepX, heapR, lensR, Nat.reduceAdd, Nat.reduceLeDiff, g1, g3, g4, r1]
          simp [w1, w2]
        · simp (maxSteps := 1000000) (disch := omega) only [stepS, reduceIte, Nat.reduceBEq, Nat.reduceEqDiff, tupleOf, stepT, stepX, heapR, lensR, Nat.reduceAdd, Nat.reduceLeDiff, g1, g3, g4, r1]
          all_goals (first | (simp; done) | (simp; omega))
      · simp (maxSteps := 1000000) (disch := omega) only [stepS, reduceIte, Nat.reduceBEq, Nat.reduceEqDiff, tupleOf, stepT, stepX, heapR, lensR, Nat.reduceAdd, Nat.reduceLeDiff, g1, g3, g4, r1]
        all_goals (first | (simp; done) | (simp; omega))
    rintro a B ⟨rfl, g1, g3, g4, g5⟩
    refine W_mid (fun a B' => B' = B ∧ a 1 = ptr A.length ∧ a 3 = ii (hasO o.k) ∧ a 4 = .bool (!hN o.k || nameOk o.name) ∧ a 5 = .bool (decide (o.text.size ≤ 48 ∧ -2147483647 ≤ o.n ∧ o.n ≤ 2147483647)) ∧ a 6 = .bool (decide (o.place = e0 ∨ o.place.size = 32))) ?_ ?_
    · by_cases hpl : o.place = e0
      · simp (maxSteps := 1000000) (disch := omega) only [stepS, reduceIte, Nat.reduceBEq, Nat.reduceEqDiff, tupleOf, stepT, stepX, heapR, lensR, Nat.reduceAdd, Nat.reduceLeDiff, g1, g3, g4, g5, r1, hpl]
        simp
      · simp (maxSteps := 1000000) (disch := omega) only [stepS, reduceIte, Nat.reduceBEq, Nat.reduceEqDiff, tupleOf, stepT, stepX, heapR, lensR, Nat.reduceAdd, Nat.reduceLeDiff, g1, g3, g4, g5, r1, hpl]
        refine ids_Right_spec ?_
        simp (maxSteps := 1000000) (disch := omega) only [stepS, reduceIte, Nat.reduceBEq, Nat.reduceEqDiff, tupleOf, stepT, stepX, heapR, lensR, Nat.reduceAdd, Nat.reduceLeDiff, g1, g3, g4, g5]
        simp [hpl]
    rintro a B ⟨rfl, g1, g3, g4, g5, g6⟩
    have fail : opOk o = false → Q (ii 1) B := fun h => hbad h _ hl
    by_cases hb : bareO o = o
    · rw [decide_eq_true hb] at eb
      change ∀ A, _ = some (Value.bool false, A) at eb
      have hb2 := hbare.1 hb
      by_cases q1 : (!hN o.k || nameOk o.name) = true
      · rw [q1] at g4
        by_cases q2 : o.text.size ≤ 48 ∧ -2147483647 ≤ o.n ∧ o.n ≤ 2147483647
        · rw [decide_eq_true q2] at g5
          by_cases q3 : o.place = e0 ∨ o.place.size = 32
          · rw [decide_eq_true q3] at g6
            by_cases q4 : o.k = 5
            · by_cases q5 : o.text = e0
              · skip
                simp (maxSteps := 1000000) (disch := omega) only [stepS, reduceIte, Nat.reduceBEq, Nat.reduceEqDiff, tupleOf, stepT, stepX, heapR, lensR, Nat.reduceAdd, Nat.reduceLeDiff, g1, g3, g4, g5, g6, r1, hlt]
                refine op_bare_spec hk ?_
                simp (maxSteps := 1000000) (disch := omega) only [stepS, reduceIte, Nat.reduceBEq, Nat.reduceEqDiff, tupleOf, stepT, stepX, heapR, lensR, Nat.reduceAdd, Nat.reduceLeDiff, g1, g4, g5, g6, r1, eb, decide_eq_true q5]
                exact fail (by rw [← Bool.not_eq_true, hiff]; exact fun h => h.2.2.2.2.2.2.2.2.1 ⟨q4, q5⟩)
              · skip
                simp (maxSteps := 1000000) (disch := omega) only [stepS, reduceIte, Nat.reduceBEq, Nat.reduceEqDiff, tupleOf, stepT, stepX, heapR, lensR, Nat.reduceAdd, Nat.reduceLeDiff, g1, g3, g4, g5, g6, r1, hlt]
                refine op_bare_spec hk ?_
                simp (maxSteps := 1000000) (disch := omega) only [stepS, reduceIte, Nat.reduceBEq, Nat.reduceEqDiff, tupleOf, stepT, stepX, heapR, lensR, Nat.reduceAdd, Nat.reduceLeDiff, g1, g4, g5, g6, r1, eb, decide_eq_false q5]
                refine hgood (hiff.2 ⟨hk, ?_, q2.1, hb2.2.1, hb2.2.2.1, hb2.2.2.2, q2.2, q3, fun h => q5 h.2, fun h => by omega⟩) _ hl
                split
                · rename_i hn; rw [hn] at q1; simpa using q1
                · rename_i hn; exact hb2.1.resolve_left hn
            · by_cases q6 : o.k = 6
              · by_cases q7 : o.place = e0
                · skip
                  simp (maxSteps := 1000000) (disch := omega) only [stepS, reduceIte, Nat.reduceBEq, Nat.reduceEqDiff, tupleOf, stepT, stepX, heapR, lensR, Nat.reduceAdd, Nat.reduceLeDiff, g1, g3, g4, g5, g6, r1, hlt]
                  refine op_bare_spec hk ?_
                  simp (maxSteps := 1000000) (disch := omega) only [stepS, reduceIte, Nat.reduceBEq, Nat.reduceEqDiff, tupleOf, stepT, stepX, heapR, lensR, Nat.reduceAdd, Nat.reduceLeDiff, g1, g4, g5, g6, r1, eb, decide_eq_true q7]
                  exact fail (by rw [← Bool.not_eq_true, hiff]; exact fun h => h.2.2.2.2.2.2.2.2.2 ⟨q6, q7⟩)
                · skip
                  simp (maxSteps := 1000000) (disch := omega) only [stepS, reduceIte, Nat.reduceBEq, Nat.reduceEqDiff, tupleOf, stepT, stepX, heapR, lensR, Nat.reduceAdd, Nat.reduceLeDiff, g1, g3, g4, g5, g6, r1, hlt]
                  refine op_bare_spec hk ?_
                  simp (maxSteps := 1000000) (disch := omega) only [stepS, reduceIte, Nat.reduceBEq, Nat.reduceEqDiff, tupleOf, stepT, stepX, heapR, lensR, Nat.reduceAdd, Nat.reduceLeDiff, g1, g4, g5, g6, r1, eb, decide_eq_false q7]
                  refine hgood (hiff.2 ⟨hk, ?_, q2.1, hb2.2.1, hb2.2.2.1, hb2.2.2.2, q2.2, q3, fun h => by omega, fun h => q7 h.2⟩) _ hl
                  split
                  · rename_i hn; rw [hn] at q1; simpa using q1
                  · rename_i hn; exact hb2.1.resolve_left hn
              · skip
                simp (maxSteps := 1000000) (disch := omega) only [stepS, reduceIte, Nat.reduceBEq, Nat.reduceEqDiff, tupleOf, stepT, stepX, heapR, lensR, Nat.reduceAdd, Nat.reduceLeDiff, g1, g3, g4, g5, g6, r1, hlt]
                refine op_bare_spec hk ?_
                simp (maxSteps := 1000000) (disch := omega) only [stepS, reduceIte, Nat.reduceBEq, Nat.reduceEqDiff, tupleOf, stepT, stepX, heapR, lensR, Nat.reduceAdd, Nat.reduceLeDiff, g1, g4, g5, g6, r1, eb]
                refine hgood (hiff.2 ⟨hk, ?_, q2.1, hb2.2.1, hb2.2.2.1, hb2.2.2.2, q2.2, q3, fun h => q4 h.1, fun h => q6 h.1⟩) _ hl
                split
                · rename_i hn; rw [hn] at q1; simpa using q1
                · rename_i hn; exact hb2.1.resolve_left hn
          · rw [decide_eq_false q3] at g6
            simp (maxSteps := 1000000) (disch := omega) only [stepS, reduceIte, Nat.reduceBEq, Nat.reduceEqDiff, tupleOf, stepT, stepX, heapR, lensR, Nat.reduceAdd, Nat.reduceLeDiff, g1, g3, g4, g5, g6, r1, hlt]
            refine op_bare_spec hk ?_
            simp (maxSteps := 1000000) (disch := omega) only [stepS, reduceIte, Nat.reduceBEq, Nat.reduceEqDiff, tupleOf, stepT, stepX, heapR, lensR, Nat.reduceAdd, Nat.reduceLeDiff, g1, g4, g5, g6, r1, eb]
            exact fail (by rw [← Bool.not_eq_true, hiff]; exact fun h => q3 h.2.2.2.2.2.2.2.1)
        · rw [decide_eq_false q2] at g5
          simp (maxSteps := 1000000) (disch := omega) only [stepS, reduceIte, Nat.reduceBEq, Nat.reduceEqDiff, tupleOf, stepT, stepX, heapR, lensR, Nat.reduceAdd, Nat.reduceLeDiff, g1, g3, g4, g5, g6, r1, hlt]
          refine op_bare_spec hk ?_
          simp (maxSteps := 1000000) (disch := omega) only [stepS, reduceIte, Nat.reduceBEq, Nat.reduceEqDiff, tupleOf, stepT, stepX, heapR, lensR, Nat.reduceAdd, Nat.reduceLeDiff, g1, g4, g5, g6, r1, eb]
          exact fail (by rw [← Bool.not_eq_true, hiff]; exact fun h => q2 ⟨h.2.2.1, h.2.2.2.2.2.2.1⟩)
      · rw [Bool.not_eq_true] at q1
        rw [q1] at g4
        simp (maxSteps := 1000000) (disch := omega) only [stepS, reduceIte, Nat.reduceBEq, Nat.reduceEqDiff, tupleOf, stepT, stepX, heapR, lensR, Nat.reduceAdd, Nat.reduceLeDiff, g1, g3, g4, g5, g6, r1, hlt]
        refine op_bare_spec hk ?_
        simp (maxSteps := 1000000) (disch := omega) only [stepS, reduceIte, Nat.reduceBEq, Nat.reduceEqDiff, tupleOf, stepT, stepX, heapR, lensR, Nat.reduceAdd, Nat.reduceLeDiff, g1, g4, g5, g6, r1, eb]
        refine fail ?_
        rw [← Bool.not_eq_true, hiff]
        intro h
        rw [Bool.or_eq_false_iff] at q1
        have hn : hN o.k = true := by simpa using q1.1
        have := h.2.1
        rw [if_pos hn, q1.2] at this
        cases this
    · rw [decide_eq_false hb] at eb
      change ∀ A, _ = some (Value.bool true, A) at eb
      simp (maxSteps := 1000000) (disch := omega) only [stepS, reduceIte, Nat.reduceBEq, Nat.reduceEqDiff, tupleOf, stepT, stepX, heapR, lensR, Nat.reduceAdd, Nat.reduceLeDiff, g1, g3, g4, g5, g6, r1, hlt]
      refine op_bare_spec hk ?_
      simp (maxSteps := 1000000) (disch := omega) only [stepS, reduceIte, Nat.reduceBEq, Nat.reduceEqDiff, tupleOf, stepT, stepX, heapR, lensR, Nat.reduceAdd, Nat.reduceLeDiff, g1, g4, g5, g6, r1, eb]
      refine fail ?_
      rw [← Bool.not_eq_true, hiff]
      intro h
      refine hb (hbare.2 ⟨?_, h.2.2.2.1, h.2.2.2.2.1, h.2.2.2.2.2.1⟩)
      have h2 := h.2.1
      by_cases hn : hN o.k = true
      · exact .inl hn
      · rw [if_neg hn] at h2; exact .inr h2
  · have fail : Q (ii 1) B := hbad (by rw [← Bool.not_eq_true, hiff]; exact fun h => hk h.1) _ hl
    have hh : hasO o.k = -1 := by
      unfold hK at hk
      rw [decide_eq_true_eq] at hk
      unfold hasO
      rw [if_neg (by omega), if_neg (by omega), if_neg (by omega), if_neg (by omega), if_neg (by omega)]
    rw [hh] at g3
    refine W_mid (fun a B' => B' = B ∧ a 1 = ptr A.length ∧ a 3 = ii (-1)) ?_ ?_
    · simp (maxSteps := 1000000) (disch := omega) only [stepS, reduceIte, Nat.reduceBEq, Nat.reduceEqDiff, tupleOf, stepT, stepX, heapR, lensR, Nat.reduceAdd, Nat.reduceLeDiff, g1, g3, r1, andH]
      refine op_Name_spec ?_
      simp (maxSteps := 1000000) (disch := omega) only [stepS, reduceIte, Nat.reduceBEq, Nat.reduceEqDiff, tupleOf, stepT, stepX, heapR, lensR, Nat.reduceAdd, Nat.reduceLeDiff, g1, g3]
    rintro a B ⟨rfl, g1, g3⟩
    refine W_mid (fun a B' => B' = B ∧ a 1 = ptr A.length ∧ a 3 = ii (-1)) ?_ ?_
    · by_cases w1 : o.text.size ≤ 48
      · by_cases w2 : o.n ≥ -2147483647
        · simp (maxSteps := 1000000) (disch := omega) only [stepS, reduceIte, Nat.reduceBEq, Nat.reduceEqDiff, tupleOf, stepT, stepX, heapR, lensR, Nat.reduceAdd, Nat.reduceLeDiff, g1, g3, r1]
        · simp (maxSteps := 1000000) (disch := omega) only [stepS, reduceIte, Nat.reduceBEq, Nat.reduceEqDiff, tupleOf, stepT, stepX, heapR, lensR, Nat.reduceAdd, Nat.reduceLeDiff, g1, g3, r1]
      · simp (maxSteps := 1000000) (disch := omega) only [stepS, reduceIte, Nat.reduceBEq, Nat.reduceEqDiff, tupleOf, stepT, stepX, heapR, lensR, Nat.reduceAdd, Nat.reduceLeDiff, g1, g3, r1]
    rintro a B ⟨rfl, g1, g3⟩
    refine W_mid (fun a B' => B' = B ∧ a 1 = ptr A.length ∧ a 3 = ii (-1)) ?_ ?_
    · by_cases hpl : o.place = e0
      · simp (maxSteps := 1000000) (disch := omega) only [stepS, reduceIte, Nat.reduceBEq, Nat.reduceEqDiff, tupleOf, stepT, stepX, heapR, lensR, Nat.reduceAdd, Nat.reduceLeDiff, g1, g3, r1, hpl]
      · simp (maxSteps := 1000000) (disch := omega) only [stepS, reduceIte, Nat.reduceBEq, Nat.reduceEqDiff, tupleOf, stepT, stepX, heapR, lensR, Nat.reduceAdd, Nat.reduceLeDiff, g1, g3, r1, hpl]
        refine ids_Right_spec ?_
        simp (maxSteps := 1000000) (disch := omega) only [stepS, reduceIte, Nat.reduceBEq, Nat.reduceEqDiff, tupleOf, stepT, stepX, heapR, lensR, Nat.reduceAdd, Nat.reduceLeDiff, g1, g3]
    rintro a B ⟨rfl, g1, g3⟩
    simp (maxSteps := 1000000) (disch := omega) only [stepS, reduceIte, Nat.reduceBEq, Nat.reduceEqDiff, tupleOf, stepT, stepX, heapR, lensR, Nat.reduceAdd, Nat.reduceLeDiff, g1, g3, r1]
    exact fail
end Go.AS.C


namespace Go.AS.C
open Go Go.Proofs
set_option linter.unusedVariables false
set_option linter.unusedSimpArgs false
set_option maxRecDepth 10000

/-! The reference's Has, Name, Check of operations. -/
theorem idx_byte {A : AH} {s : ByteArray} {j : Nat} {b : UInt8} (h : (bl s)[j]? = some b) : sIdxs A (.string s) (.int .i64 (j : Int)) = some (.int .u8 (b.toNat : Int), A) := by
  unfold sIdxs asI
  simp only [Option.bind_some, Int.toNat_natCast]
  rw [if_pos (by omega)]
  have e : s[j]? = some b := by
    cases s with
    | mk d =>
      have h' : d.toList[j]? = some b := h
      rw [Array.getElem?_toList] at h'
      have hj := (Array.getElem?_eq_some_iff.1 h').1
      show (if h : j < d.size then some d[j] else none) = _
      rw [dif_pos hj]
      rw [Array.getElem?_eq_getElem hj] at h'
      exact h'
  rw [e]; rfl
theorem ref14_Name_spec {A : AH} {s : ByteArray} {Q : Value → AH → Prop} (hs : s.size < 2 ^ 50) (hq : Q (.bool (nameOk s)) A) : ACalls 1 Tryd.prog chantryref14_Name [.string s] Q A := by
  refine ACalls.of_fits mixed fits_chantryref14_Name rfl ?_
  unfold ic_chantryref14_Name
  have i0 : initA [.string s] 0 = .string s := rfl
  generalize initA [.string s] = a at i0
  simp (maxSteps := 1000000) (disch := omega) only [stepS, reduceIte, Nat.reduceBEq, Nat.reduceEqDiff, tupleOf, stepT, i0]
  refine W_loop (fun a' B => B = A ∧ ∃ k : Nat, k ≤ s.size ∧ ((bl s).take k).all nameB = true ∧ a' 0 = .string s ∧ a' 3 = ii k) (fun a' _ => s.size - (iv (a' 3)).toNat) ?_ ?_
  · refine ⟨rfl, 0, by omega, ?_⟩
    simp (maxSteps := 1000000) (disch := omega) only [stepS, reduceIte, Nat.reduceBEq, Nat.reduceEqDiff, tupleOf, stepT, i0]
    simp
  · rintro a2 B ⟨rfl, k, hk, hall, g0, g3⟩
    rcases Nat.lt_or_ge k s.size with hlt | hge
    · obtain ⟨b, hb⟩ : ∃ b, (bl s)[k]? = some b := ⟨_, List.getElem?_eq_getElem (by rw [bl_size]; exact hlt)⟩
      have e1 := idx_byte (A := B) hb
      have htk : (bl s).take (k + 1) = (bl s).take k ++ [b] := by rw [List.take_add_one, hb]; rfl
      have good : nameB b = true → ((bl s).take (k + 1)).all nameB = true := fun h => by rw [htk, List.all_append, hall]; simp [h]
      have bad : nameB b = false → Q (.bool false) B := fun h => by
        have : (bl s).all nameB = false := by
          rw [← Bool.not_eq_true, List.all_eq_true]
          intro h2
          rw [h2 b (List.mem_of_getElem? hb)] at h
          cases h
        unfold nameOk at hq
        rw [this] at hq
        exact hq
      by_cases h1 : 97 ≤ b.toNat
      · by_cases h2 : b.toNat ≤ 122
        · simp (maxSteps := 1000000) (disch := omega) only [stepS, reduceIte, Nat.reduceBEq, Nat.reduceEqDiff, tupleOf, stepT, g0, g3, e1]
          exact ⟨⟨k + 1, by omega, good (by simp [nameB, h1, h2]), rfl⟩, by omega⟩
        · simp (maxSteps := 1000000) (disch := omega) only [stepS, reduceIte, Nat.reduceBEq, Nat.reduceEqDiff, tupleOf, stepT, g0, g3, e1]
          exact bad (by simp [nameB]; omega)
      · by_cases h3 : 48 ≤ b.toNat
        · by_cases h4 : b.toNat ≤ 57
          · simp (maxSteps := 1000000) (disch := omega) only [stepS, reduceIte, Nat.reduceBEq, Nat.reduceEqDiff, tupleOf, stepT, g0, g3, e1]
            exact ⟨⟨k + 1, by omega, good (by simp [nameB]; omega), rfl⟩, by omega⟩
          · simp (maxSteps := 1000000) (disch := omega) only [stepS, reduceIte, Nat.reduceBEq, Nat.reduceEqDiff, tupleOf, stepT, g0, g3, e1]
            exact bad (by simp [nameB]; omega)
        · by_cases h5 : b.toNat = 45
          · simp (maxSteps := 1000000) (disch := omega) only [stepS, reduceIte, Nat.reduceBEq, Nat.reduceEqDiff, tupleOf, stepT, g0, g3, e1]
            exact ⟨⟨k + 1, by omega, good (by simp [nameB, h5]), rfl⟩, by omega⟩
          · simp (maxSteps := 1000000) (disch := omega) only [stepS, reduceIte, Nat.reduceBEq, Nat.reduceEqDiff, tupleOf, stepT, g0, g3, e1]
            exact bad (by simp [nameB]; omega)
    · have hall2 : (bl s).all nameB = true := by rw [List.take_of_length_le (by rw [bl_size]; omega)] at hall; exact hall
      unfold nameOk at hq
      rw [hall2, Bool.true_and] at hq
      by_cases h2 : 1 ≤ s.size
      · by_cases h3 : s.size ≤ 12
        · rw [decide_eq_true ⟨h2, h3⟩] at hq
          simp (maxSteps := 1000000) (disch := omega) only [stepS, reduceIte, Nat.reduceBEq, Nat.reduceEqDiff, tupleOf, stepT, g0, g3]
          exact hq
        · rw [decide_eq_false (fun h => h3 h.2)] at hq
          simp (maxSteps := 1000000) (disch := omega) only [stepS, reduceIte, Nat.reduceBEq, Nat.reduceEqDiff, tupleOf, stepT, g0, g3]
          exact hq
      · rw [decide_eq_false (fun h => h2 h.1)] at hq
        simp (maxSteps := 1000000) (disch := omega) only [stepS, reduceIte, Nat.reduceBEq, Nat.reduceEqDiff, tupleOf, stepT, g0, g3]
        exact hq
theorem ref14_Has_spec {A : AH} {k : Int} {Q : Value → AH → Prop} (hq : Q (.tuple #[.bool (hN k), .bool (hT k), .bool (hI k), .bool (hA k), .bool (hK k)]) A) : ACalls 1 Tryd.prog chantryref14_Has [ii k] Q A := by
  refine ACalls.of_fits mixed fits_chantryref14_Has rfl ?_
  unfold ic_chantryref14_Has
  have i0 : initA [ii k] 0 = ii k := rfl
  generalize initA [ii k] = a at i0
  by_cases h1 : k = 1
  · subst h1; simp (maxSteps := 1000000) (disch := omega) only [stepS, reduceIte, Nat.reduceBEq, Nat.reduceEqDiff, tupleOf, stepT, i0]; exact hq
  by_cases h2 : k = 2
  · subst h2; simp (maxSteps := 1000000) (disch := omega) only [stepS, reduceIte, Nat.reduceBEq, Nat.reduceEqDiff, tupleOf, stepT, i0]; exact hq
  by_cases h3 : k = 3
  · subst h3; simp (maxSteps := 1000000) (disch := omega) only [stepS, reduceIte, Nat.reduceBEq, Nat.reduceEqDiff, tupleOf, stepT, i0]; exact hq
  by_cases h4 : k = 4
  · subst h4; simp (maxSteps := 1000000) (disch := omega) only [stepS, reduceIte, Nat.reduceBEq, Nat.reduceEqDiff, tupleOf, stepT, i0]; exact hq
  by_cases h5 : k = 5
  · subst h5; simp (maxSteps := 1000000) (disch := omega) only [stepS, reduceIte, Nat.reduceBEq, Nat.reduceEqDiff, tupleOf, stepT, i0]; exact hq
  by_cases h6 : k = 6
  · subst h6; simp (maxSteps := 1000000) (disch := omega) only [stepS, reduceIte, Nat.reduceBEq, Nat.reduceEqDiff, tupleOf, stepT, i0]; exact hq
  by_cases h7 : k = 7
  · subst h7; simp (maxSteps := 1000000) (disch := omega) only [stepS, reduceIte, Nat.reduceBEq, Nat.reduceEqDiff, tupleOf, stepT, i0]; exact hq
  have e : hN k = false ∧ hT k = false ∧ hI k = false ∧ hA k = false ∧ hK k = false := by
    unfold hN hT hI hA hK
    simp only [decide_eq_false_iff_not]
    omega
  rw [e.1, e.2.1, e.2.2.1, e.2.2.2.1, e.2.2.2.2] at hq
  simp (maxSteps := 1000000) (disch := omega) only [stepS, reduceIte, Nat.reduceBEq, Nat.reduceEqDiff, tupleOf, stepT, i0]
  exact hq
def ck1 (o : OpV) : Bool := hK o.k
def ck2 (o : OpV) : Bool := ck1 o && (!hN o.k || nameOk o.name)
def ck3 (o : OpV) : Bool := ck2 o && (hN o.k || decide (o.name = e0))
def ck4 (o : OpV) : Bool := ck3 o && decide (o.text.size ≤ 48)
def ck5 (o : OpV) : Bool := ck4 o && (hT o.k || decide (o.text = e0))
def ck6 (o : OpV) : Bool := ck5 o && (hI o.k || decide (o.n = 0))
def ck7 (o : OpV) : Bool := ck6 o && (hA o.k || decide (o.place = e0))
theorem ck_ok {o : OpV} : opOk o = true ↔ ck7 o = true ∧ (-2147483647 ≤ o.n ∧ o.n ≤ 2147483647) ∧ (o.place = e0 ∨ o.place.size = 32) ∧ ¬ (o.k = 5 ∧ o.text = e0) ∧ ¬ (o.k = 6 ∧ o.place = e0) := by
  rw [opOk_iff]
  unfold ck7 ck6 ck5 ck4 ck3 ck2 ck1
  simp only [Bool.and_eq_true, Bool.or_eq_true, decide_eq_true_eq, Bool.not_eq_true']
  cases hN o.k <;> simp <;> constructor <;> (intro h; simp only [h, not_false_eq_true, and_self, and_true, true_and, imp_self]) <;> grind
theorem ref14_Check_spec {A : AH} {o : OpV} {Q : Value → AH → Prop} (hs : o.Fin) (hq : Q (.bool (opOk o)) A) : ACalls 1 Tryd.prog chantryref14_Check [o.v] Q A := by
  refine ACalls.pure1 _ rfl hq fun Q hq => ?_
  obtain ⟨hs1, hs2, hs3, hs4, hs5⟩ := hs
  refine ACalls.of_fits mixed fits_chantryref14_Check rfl ?_
  unfold ic_chantryref14_Check
  have i0 : initA [o.v] 0 = o.v := rfl
  generalize initA [o.v] = a at i0
  rw [OpV.v_eq] at i0
  have hA : ∀ {B : AH}, B = A ++ [.row [ii o.k, .string o.name, .string o.text, ii o.n, .string o.place] .own 0 true] → rowAt B A.length = some ([ii o.k, .string o.name, .string o.text, ii o.n, .string o.place], .own, 0, true) := fun h => by subst h; simp (maxSteps := 1000000) (disch := omega) only [stepS, reduceIte, Nat.reduceBEq, Nat.reduceEqDiff, tupleOf, stepT, stepX, heapR, lensR, Nat.reduceAdd, Nat.reduceLeDiff]
  refine W_mid (fun a B => B = A ++ [.row [ii o.k, .string o.name, .string o.text, ii o.n, .string o.place] .own 0 true] ∧ a 1 = ptr A.length) ?_ ?_
  · simp (maxSteps := 1000000) (disch := omega) only [stepS, reduceIte, Nat.reduceBEq, Nat.reduceEqDiff, tupleOf, stepT, stepX, heapR, lensR, Nat.reduceAdd, Nat.reduceLeDiff, i0]
  rintro a B ⟨hB, g1⟩
  have r1 := hA hB
  have hl : Le A B := by rw [hB]; exact .push _ _
  clear hA i0 hB
  refine W_mid (fun a B' => B' = B ∧ a 1 = ptr A.length ∧ a 3 = .bool (hN o.k) ∧ a 4 = .bool (hT o.k) ∧ a 5 = .bool (hI o.k) ∧ a 6 = .bool (hA o.k) ∧ a 7 = .bool (hK o.k)) ?_ ?_
  · simp (maxSteps := 1000000) (disch := omega) only [stepS, reduceIte, Nat.reduceBEq, Nat.reduceEqDiff, tupleOf, stepT, stepX, heapR, lensR, Nat.reduceAdd, Nat.reduceLeDiff, g1, r1]
    refine ref14_Has_spec ?_
    simp (maxSteps := 1000000) (disch := omega) only [stepS, reduceIte, Nat.reduceBEq, Nat.reduceEqDiff, tupleOf, stepT, stepX, heapR, lensR, Nat.reduceAdd, Nat.reduceLeDiff, g1, sExt, List.getElem?_toArray]
  rintro a B ⟨rfl, g1, g3, g4, g5, g6, g7⟩
  have fin : ∀ b, opOk o = b → Q (.bool b) B := fun b h => by rw [← h]; exact hq _ hl
  clear hq
  rw [W_seq, W_seq, W_ops]
  refine Wops_cut 3 (fun a B' => B' = B ∧ a 1 = ptr A.length ∧ a 3 = .bool (hN o.k) ∧ a 4 = .bool (hT o.k) ∧ a 5 = .bool (hI o.k) ∧ a 6 = .bool (hA o.k) ∧ a 19 = .bool (!ck1 o)) rfl ?_ ?_
  · simp (maxSteps := 1000000) (disch := omega) only [stepS, reduceIte, Nat.reduceBEq, Nat.reduceEqDiff, tupleOf, stepT, stepX, heapR, lensR, Nat.reduceAdd, Nat.reduceLeDiff, g1, g3, g4, g5, g6, g7]
    rfl
  rintro a B' ⟨rfl, g1, g3, g4, g5, g6, g7⟩
  simp only [List.drop_succ_cons, List.drop_zero]
  refine Wops_cut 9 (fun a B => B = B' ∧ a 1 = ptr A.length ∧ a 3 = .bool (hN o.k) ∧ a 4 = .bool (hT o.k) ∧ a 5 = .bool (hI o.k) ∧ a 6 = .bool (hA o.k) ∧ a 28 = .bool (!ck2 o)) rfl ?_ ?_
  · cases hc : ck1 o with
    | false =>
      rw [hc] at g7
      change _ = Value.bool true at g7
      simp (maxSteps := 1000000) (disch := omega) only [stepS, reduceIte, Nat.reduceBEq, Nat.reduceEqDiff, tupleOf, stepT, stepX, heapR, lensR, Nat.reduceAdd, Nat.reduceLeDiff, g1, g3, g4, g5, g6, g7]
      simp [ck2, hc]
    | true =>
      rw [hc] at g7
      change _ = Value.bool false at g7
      skip
      · cases hn : hN o.k with
        | true =>
          rw [hn] at g3
          simp (maxSteps := 1000000) (disch := omega) only [stepS, reduceIte, Nat.reduceBEq, Nat.reduceEqDiff, tupleOf, stepT, stepX, heapR, lensR, Nat.reduceAdd, Nat.reduceLeDiff, g1, g3, g4, g5, g6, g7, r1]
          refine ref14_Name_spec (by omega) ?_
          simp (maxSteps := 1000000) (disch := omega) only [stepS, reduceIte, Nat.reduceBEq, Nat.reduceEqDiff, tupleOf, stepT, stepX, heapR, lensR, Nat.reduceAdd, Nat.reduceLeDiff, g1, g3, g4, g5, g6, g7]
          simp [ck2, hc, hn]
        | false =>
          rw [hn] at g3
          simp (maxSteps := 1000000) (disch := omega) only [stepS, reduceIte, Nat.reduceBEq, Nat.reduceEqDiff, tupleOf, stepT, stepX, heapR, lensR, Nat.reduceAdd, Nat.reduceLeDiff, g1, g3, g4, g5, g6, g7]
          simp [ck2, hc, hn]
  rintro a B' ⟨rfl, g1, g3, g4, g5, g6, g7⟩
  simp only [List.drop_succ_cons, List.drop_zero]
  refine Wops_cut 9 (fun a B => B = B' ∧ a 1 = ptr A.length ∧ a 3 = .bool (hN o.k) ∧ a 4 = .bool (hT o.k) ∧ a 5 = .bool (hI o.k) ∧ a 6 = .bool (hA o.k) ∧ a 37 = .bool (!ck3 o)) rfl ?_ ?_
  · cases hc : ck2 o with
    | false =>
      rw [hc] at g7
      change _ = Value.bool true at g7
      simp (maxSteps := 1000000) (disch := omega) only [stepS, reduceIte, Nat.reduceBEq, Nat.reduceEqDiff, tupleOf, stepT, stepX, heapR, lensR, Nat.reduceAdd, Nat.reduceLeDiff, g1, g3, g4, g5, g6, g7]
      simp [ck3, hc]
    | true =>
      rw [hc] at g7
      change _ = Value.bool false at g7
      skip
      · cases hn : hN o.k with
        | true =>
          rw [hn] at g3
          simp (maxSteps := 1000000) (disch := omega) only [stepS, reduceIte, Nat.reduceBEq, Nat.reduceEqDiff, tupleOf, stepT, stepX, heapR, lensR, Nat.reduceAdd, Nat.reduceLeDiff, g1, g3, g4, g5, g6, g7, r1]
          simp [ck3, hc, hn]
        | false =>
          rw [hn] at g3
          simp (maxSteps := 1000000) (disch := omega) only [stepS, reduceIte, Nat.reduceBEq, Nat.reduceEqDiff, tupleOf, stepT, stepX, heapR, lensR, Nat.reduceAdd, Nat.reduceLeDiff, g1, g3, g4, g5, g6, g7, r1]
          simp [ck3, hc, hn]
  rintro a B' ⟨rfl, g1, g3, g4, g5, g6, g7⟩
  simp only [List.drop_succ_cons, List.drop_zero]
  refine Wops_cut 6 (fun a B => B = B' ∧ a 1 = ptr A.length ∧ a 3 = .bool (hN o.k) ∧ a 4 = .bool (hT o.k) ∧ a 5 = .bool (hI o.k) ∧ a 6 = .bool (hA o.k) ∧ a 43 = .bool (!ck4 o)) rfl ?_ ?_
  · cases hc : ck3 o with
    | false =>
      rw [hc] at g7
      change _ = Value.bool true at g7
      simp (maxSteps := 1000000) (disch := omega) only [stepS, reduceIte, Nat.reduceBEq, Nat.reduceEqDiff, tupleOf, stepT, stepX, heapR, lensR, Nat.reduceAdd, Nat.reduceLeDiff, g1, g3, g4, g5, g6, g7]
      simp [ck4, hc]
    | true =>
      rw [hc] at g7
      change _ = Value.bool false at g7
      skip
      · by_cases hn : o.text.size ≤ 48
        · simp (maxSteps := 1000000) (disch := omega) only [stepS, reduceIte, Nat.reduceBEq, Nat.reduceEqDiff, tupleOf, stepT, stepX, heapR, lensR, Nat.reduceAdd, Nat.reduceLeDiff, g1, g3, g4, g5, g6, g7, r1]
          simp [ck4, hc, hn]
        · simp (maxSteps := 1000000) (disch := omega) only [stepS, reduceIte, Nat.reduceBEq, Nat.reduceEqDiff, tupleOf, stepT, stepX, heapR, lensR, Nat.reduceAdd, Nat.reduceLeDiff, g1, g3, g4, g5, g6, g7, r1]
          simp [ck4, hc, hn]
  rintro a B' ⟨rfl, g1, g3, g4, g5, g6, g7⟩
  simp only [List.drop_succ_cons, List.drop_zero]
  refine Wops_cut 9 (fun a B => B = B' ∧ a 1 = ptr A.length ∧ a 3 = .bool (hN o.k) ∧ a 4 = .bool (hT o.k) ∧ a 5 = .bool (hI o.k) ∧ a 6 = .bool (hA o.k) ∧ a 52 = .bool (!ck5 o)) rfl ?_ ?_
  · cases hc : ck4 o with
    | false =>
      rw [hc] at g7
      change _ = Value.bool true at g7
      simp (maxSteps := 1000000) (disch := omega) only [stepS, reduceIte, Nat.reduceBEq, Nat.reduceEqDiff, tupleOf, stepT, stepX, heapR, lensR, Nat.reduceAdd, Nat.reduceLeDiff, g1, g3, g4, g5, g6, g7]
      simp [ck5, hc]
    | true =>
      rw [hc] at g7
      change _ = Value.bool false at g7
      skip
      · cases hn : hT o.k with
        | true =>
          rw [hn] at g4
          simp (maxSteps := 1000000) (disch := omega) only [stepS, reduceIte, Nat.reduceBEq, Nat.reduceEqDiff, tupleOf, stepT, stepX, heapR, lensR, Nat.reduceAdd, Nat.reduceLeDiff, g1, g3, g4, g5, g6, g7, r1]
          simp [ck5, hc, hn]
        | false =>
          rw [hn] at g4
          simp (maxSteps := 1000000) (disch := omega) only [stepS, reduceIte, Nat.reduceBEq, Nat.reduceEqDiff, tupleOf, stepT, stepX, heapR, lensR, Nat.reduceAdd, Nat.reduceLeDiff, g1, g3, g4, g5, g6, g7, r1]
          simp [ck5, hc, hn]
  rintro a B' ⟨rfl, g1, g3, g4, g5, g6, g7⟩
  simp only [List.drop_succ_cons, List.drop_zero]
  refine Wops_cut 9 (fun a B => B = B' ∧ a 1 = ptr A.length ∧ a 3 = .bool (hN o.k) ∧ a 4 = .bool (hT o.k) ∧ a 5 = .bool (hI o.k) ∧ a 6 = .bool (hA o.k) ∧ a 61 = .bool (!ck6 o)) rfl ?_ ?_
  · cases hc : ck5 o with
    | false =>
      rw [hc] at g7
      change _ = Value.bool true at g7
      simp (maxSteps := 1000000) (disch := omega) only [stepS, reduceIte, Nat.reduceBEq, Nat.reduceEqDiff, tupleOf, stepT, stepX, heapR, lensR, Nat.reduceAdd, Nat.reduceLeDiff, g1, g3, g4, g5, g6, g7]
      simp [ck6, hc]
    | true =>
      rw [hc] at g7
      change _ = Value.bool false at g7
      skip
      · cases hn : hI o.k with
        | true =>
          rw [hn] at g5
          simp (maxSteps := 1000000) (disch := omega) only [stepS, reduceIte, Nat.reduceBEq, Nat.reduceEqDiff, tupleOf, stepT, stepX, heapR, lensR, Nat.reduceAdd, Nat.reduceLeDiff, g1, g3, g4, g5, g6, g7, r1]
          simp [ck6, hc, hn]
        | false =>
          rw [hn] at g5
          simp (maxSteps := 1000000) (disch := omega) only [stepS, reduceIte, Nat.reduceBEq, Nat.reduceEqDiff, tupleOf, stepT, stepX, heapR, lensR, Nat.reduceAdd, Nat.reduceLeDiff, g1, g3, g4, g5, g6, g7, r1]
          simp [ck6, hc, hn]
  rintro a B ⟨rfl, g1, g3, g4, g5, g6, g7⟩
  simp only [List.drop_succ_cons, List.drop_zero]
  cases hc : ck6 o with
  | false =>
    rw [hc] at g7
    change _ = Value.bool true at g7
    simp (maxSteps := 1000000) (disch := omega) only [stepS, reduceIte, Nat.reduceBEq, Nat.reduceEqDiff, tupleOf, stepT, stepX, heapR, lensR, Nat.reduceAdd, Nat.reduceLeDiff, g1, g3, g4, g5, g6, g7]
    refine fin _ ?_
    rw [← Bool.not_eq_true, ck_ok]
    intro h
    have := h.1
    unfold ck7 at this
    rw [hc] at this
    cases this
  | true =>
    rw [hc] at g7
    change _ = Value.bool false at g7
    have bad : ck7 o = false → Q (.bool false) B := fun h => fin _ (by rw [← Bool.not_eq_true, ck_ok, h]; intro k; cases k.1)
    have good : ck7 o = true → (opOk o = true ↔ (-2147483647 ≤ o.n ∧ o.n ≤ 2147483647) ∧ (o.place = e0 ∨ o.place.size = 32) ∧ ¬ (o.k = 5 ∧ o.text = e0) ∧ ¬ (o.k = 6 ∧ o.place = e0)) := fun h => by rw [ck_ok, h]; simp
    by_cases hn : ck7 o = true
    · have hopt := good hn
      have hh : hA o.k = true ∨ (hA o.k = false ∧ decide (o.place ≠ e0) = false) := by
        unfold ck7 at hn
        rw [hc] at hn
        cases hq : hA o.k with
        | true => exact .inl rfl
        | false => rw [hq] at hn; exact .inr ⟨rfl, by simpa using hn⟩
      rcases hh with hh | ⟨hh, hz⟩
      · rw [hh] at g6
        have hz : True := trivial
        have hp' : o.place = e0 ∨ (True ∧ ¬ o.place = e0) := by by_cases h : o.place = e0; exact .inl h; exact .inr ⟨trivial, h⟩
        by_cases w1 : o.n < -2147483647
        · simp (maxSteps := 1000000) (disch := omega) only [stepS, reduceIte, Nat.reduceBEq, Nat.reduceEqDiff, tupleOf, stepT, stepX, heapR, lensR, Nat.reduceAdd, Nat.reduceLeDiff, g1, g6, g7, r1, hz]
          exact fin _ (by rw [← Bool.not_eq_true, hopt]; intro h; omega)
        · by_cases w2 : o.n > 2147483647
          · simp (maxSteps := 1000000) (disch := omega) only [stepS, reduceIte, Nat.reduceBEq, Nat.reduceEqDiff, tupleOf, stepT, stepX, heapR, lensR, Nat.reduceAdd, Nat.reduceLeDiff, g1, g6, g7, r1, hz]
            exact fin _ (by rw [← Bool.not_eq_true, hopt]; intro h; omega)
          · rcases hp' with p | ⟨hh2, p⟩
            · by_cases k5 : o.k = 5
              · by_cases t0 : o.text = e0
                · simp (maxSteps := 1000000) (disch := omega) only [stepS, reduceIte, Nat.reduceBEq, Nat.reduceEqDiff, tupleOf, stepT, stepX, heapR, lensR, Nat.reduceAdd, Nat.reduceLeDiff, g1, g6, g7, r1, hz, decide_eq_false (fun h => h p : ¬ o.place ≠ e0), decide_eq_true p, decide_eq_true t0]
                  exact fin _ (by rw [← Bool.not_eq_true, hopt]; intro h; exact h.2.2.1 ⟨k5, t0⟩)
                · simp (maxSteps := 1000000) (disch := omega) only [stepS, reduceIte, Nat.reduceBEq, Nat.reduceEqDiff, tupleOf, stepT, stepX, heapR, lensR, Nat.reduceAdd, Nat.reduceLeDiff, g1, g6, g7, r1, hz, decide_eq_false (fun h => h p : ¬ o.place ≠ e0), decide_eq_true p, decide_eq_false t0]
                  exact fin _ (hopt.2 ⟨by omega, .inl p, fun h => t0 h.2, fun h => by omega⟩)
              · by_cases k6 : o.k = 6
                · simp (maxSteps := 1000000) (disch := omega) only [stepS, reduceIte, Nat.reduceBEq, Nat.reduceEqDiff, tupleOf, stepT, stepX, heapR, lensR, Nat.reduceAdd, Nat.reduceLeDiff, g1, g6, g7, r1, hz, decide_eq_false (fun h => h p : ¬ o.place ≠ e0), decide_eq_true p]
                  exact fin _ (by rw [← Bool.not_eq_true, hopt]; intro h; exact h.2.2.2 ⟨k6, p⟩)
                · simp (maxSteps := 1000000) (disch := omega) only [stepS, reduceIte, Nat.reduceBEq, Nat.reduceEqDiff, tupleOf, stepT, stepX, heapR, lensR, Nat.reduceAdd, Nat.reduceLeDiff, g1, g6, g7, r1, hz, decide_eq_false (fun h => h p : ¬ o.place ≠ e0), decide_eq_true p]
                  exact fin _ (hopt.2 ⟨by omega, .inl p, fun h => k5 h.1, fun h => k6 h.1⟩)
            · by_cases s32 : o.place.size = 32
              · by_cases k5 : o.k = 5
                · by_cases t0 : o.text = e0
                  · simp (maxSteps := 1000000) (disch := omega) only [stepS, reduceIte, Nat.reduceBEq, Nat.reduceEqDiff, tupleOf, stepT, stepX, heapR, lensR, Nat.reduceAdd, Nat.reduceLeDiff, g1, g6, g7, r1, hz, decide_eq_true (show o.place ≠ e0 from p), decide_eq_false p, decide_eq_true t0]
                    exact fin _ (by rw [← Bool.not_eq_true, hopt]; intro h; exact h.2.2.1 ⟨k5, t0⟩)
                  · simp (maxSteps := 1000000) (disch := omega) only [stepS, reduceIte, Nat.reduceBEq, Nat.reduceEqDiff, tupleOf, stepT, stepX, heapR, lensR, Nat.reduceAdd, Nat.reduceLeDiff, g1, g6, g7, r1, hz, decide_eq_true (show o.place ≠ e0 from p), decide_eq_false p, decide_eq_false t0]
                    first | exact hh2.elim | exact fin _ (hopt.2 ⟨by omega, .inr s32, fun h => t0 h.2, fun h => by omega⟩)
                · by_cases k6 : o.k = 6
                  · simp (maxSteps := 1000000) (disch := omega) only [stepS, reduceIte, Nat.reduceBEq, Nat.reduceEqDiff, tupleOf, stepT, stepX, heapR, lensR, Nat.reduceAdd, Nat.reduceLeDiff, g1, g6, g7, r1, hz, decide_eq_true (show o.place ≠ e0 from p), decide_eq_false p]
                    first | exact hh2.elim | exact fin _ (hopt.2 ⟨by omega, .inr s32, fun h => k5 h.1, fun h => p h.2⟩)
                  · simp (maxSteps := 1000000) (disch := omega) only [stepS, reduceIte, Nat.reduceBEq, Nat.reduceEqDiff, tupleOf, stepT, stepX, heapR, lensR, Nat.reduceAdd, Nat.reduceLeDiff, g1, g6, g7, r1, hz, decide_eq_true (show o.place ≠ e0 from p), decide_eq_false p]
                    first | exact hh2.elim | exact fin _ (hopt.2 ⟨by omega, .inr s32, fun h => k5 h.1, fun h => k6 h.1⟩)
              · simp (maxSteps := 1000000) (disch := omega) only [stepS, reduceIte, Nat.reduceBEq, Nat.reduceEqDiff, tupleOf, stepT, stepX, heapR, lensR, Nat.reduceAdd, Nat.reduceLeDiff, g1, g6, g7, r1, hz, decide_eq_true (show o.place ≠ e0 from p), decide_eq_false p]
                exact fin _ (by rw [← Bool.not_eq_true, hopt]; intro h; exact h.2.1.elim p s32)
      · rw [hh] at g6
        have hp' : o.place = e0 ∨ (False ∧ ¬ o.place = e0) := .inl (by simpa using hz)
        by_cases w1 : o.n < -2147483647
        · simp (maxSteps := 1000000) (disch := omega) only [stepS, reduceIte, Nat.reduceBEq, Nat.reduceEqDiff, tupleOf, stepT, stepX, heapR, lensR, Nat.reduceAdd, Nat.reduceLeDiff, g1, g6, g7, r1, hz]
          exact fin _ (by rw [← Bool.not_eq_true, hopt]; intro h; omega)
        · by_cases w2 : o.n > 2147483647
          · simp (maxSteps := 1000000) (disch := omega) only [stepS, reduceIte, Nat.reduceBEq, Nat.reduceEqDiff, tupleOf, stepT, stepX, heapR, lensR, Nat.reduceAdd, Nat.reduceLeDiff, g1, g6, g7, r1, hz]
            exact fin _ (by rw [← Bool.not_eq_true, hopt]; intro h; omega)
          · rcases hp' with p | ⟨hh2, p⟩
            · by_cases k5 : o.k = 5
              · by_cases t0 : o.text = e0
                · simp (maxSteps := 1000000) (disch := omega) only [stepS, reduceIte, Nat.reduceBEq, Nat.reduceEqDiff, tupleOf, stepT, stepX, heapR, lensR, Nat.reduceAdd, Nat.reduceLeDiff, g1, g6, g7, r1, hz, decide_eq_false (fun h => h p : ¬ o.place ≠ e0), decide_eq_true p, decide_eq_true t0]
                  exact fin _ (by rw [← Bool.not_eq_true, hopt]; intro h; exact h.2.2.1 ⟨k5, t0⟩)
                · simp (maxSteps := 1000000) (disch := omega) only [stepS, reduceIte, Nat.reduceBEq, Nat.reduceEqDiff, tupleOf, stepT, stepX, heapR, lensR, Nat.reduceAdd, Nat.reduceLeDiff, g1, g6, g7, r1, hz, decide_eq_false (fun h => h p : ¬ o.place ≠ e0), decide_eq_true p, decide_eq_false t0]
                  exact fin _ (hopt.2 ⟨by omega, .inl p, fun h => t0 h.2, fun h => by omega⟩)
              · by_cases k6 : o.k = 6
                · simp (maxSteps := 1000000) (disch := omega) only [stepS, reduceIte, Nat.reduceBEq, Nat.reduceEqDiff, tupleOf, stepT, stepX, heapR, lensR, Nat.reduceAdd, Nat.reduceLeDiff, g1, g6, g7, r1, hz, decide_eq_false (fun h => h p : ¬ o.place ≠ e0), decide_eq_true p]
                  exact fin _ (by rw [← Bool.not_eq_true, hopt]; intro h; exact h.2.2.2 ⟨k6, p⟩)
                · simp (maxSteps := 1000000) (disch := omega) only [stepS, reduceIte, Nat.reduceBEq, Nat.reduceEqDiff, tupleOf, stepT, stepX, heapR, lensR, Nat.reduceAdd, Nat.reduceLeDiff, g1, g6, g7, r1, hz, decide_eq_false (fun h => h p : ¬ o.place ≠ e0), decide_eq_true p]
                  exact fin _ (hopt.2 ⟨by omega, .inl p, fun h => k5 h.1, fun h => k6 h.1⟩)
            · by_cases s32 : o.place.size = 32
              · by_cases k5 : o.k = 5
                · by_cases t0 : o.text = e0
                  · simp (maxSteps := 1000000) (disch := omega) only [stepS, reduceIte, Nat.reduceBEq, Nat.reduceEqDiff, tupleOf, stepT, stepX, heapR, lensR, Nat.reduceAdd, Nat.reduceLeDiff, g1, g6, g7, r1, hz, decide_eq_true (show o.place ≠ e0 from p), decide_eq_false p, decide_eq_true t0]
                    exact fin _ (by rw [← Bool.not_eq_true, hopt]; intro h; exact h.2.2.1 ⟨k5, t0⟩)
                  · simp (maxSteps := 1000000) (disch := omega) only [stepS, reduceIte, Nat.reduceBEq, Nat.reduceEqDiff, tupleOf, stepT, stepX, heapR, lensR, Nat.reduceAdd, Nat.reduceLeDiff, g1, g6, g7, r1, hz, decide_eq_true (show o.place ≠ e0 from p), decide_eq_false p, decide_eq_false t0]
                    first | exact hh2.elim | exact fin _ (hopt.2 ⟨by omega, .inr s32, fun h => t0 h.2, fun h => by omega⟩)
                · by_cases k6 : o.k = 6
                  · simp (maxSteps := 1000000) (disch := omega) only [stepS, reduceIte, Nat.reduceBEq, Nat.reduceEqDiff, tupleOf, stepT, stepX, heapR, lensR, Nat.reduceAdd, Nat.reduceLeDiff, g1, g6, g7, r1, hz, decide_eq_true (show o.place ≠ e0 from p), decide_eq_false p]
                    first | exact hh2.elim | exact fin _ (hopt.2 ⟨by omega, .inr s32, fun h => k5 h.1, fun h => p h.2⟩)
                  · simp (maxSteps := 1000000) (disch := omega) only [stepS, reduceIte, Nat.reduceBEq, Nat.reduceEqDiff, tupleOf, stepT, stepX, heapR, lensR, Nat.reduceAdd, Nat.reduceLeDiff, g1, g6, g7, r1, hz, decide_eq_true (show o.place ≠ e0 from p), decide_eq_false p]
                    first | exact hh2.elim | exact fin _ (hopt.2 ⟨by omega, .inr s32, fun h => k5 h.1, fun h => k6 h.1⟩)
              · simp (maxSteps := 1000000) (disch := omega) only [stepS, reduceIte, Nat.reduceBEq, Nat.reduceEqDiff, tupleOf, stepT, stepX, heapR, lensR, Nat.reduceAdd, Nat.reduceLeDiff, g1, g6, g7, r1, hz, decide_eq_true (show o.place ≠ e0 from p), decide_eq_false p]
                exact fin _ (by rw [← Bool.not_eq_true, hopt]; intro h; exact h.2.1.elim p s32)
    · have hn : ck7 o = false := by simpa using hn
      have hz : hA o.k = false ∧ decide (o.place ≠ e0) = true := by
        unfold ck7 at hn
        rw [hc] at hn
        cases hq : hA o.k with
        | true => rw [hq] at hn; cases hn
        | false => rw [hq] at hn; exact ⟨rfl, by simpa using hn⟩
      rw [hz.1] at g6
      simp (maxSteps := 1000000) (disch := omega) only [stepS, reduceIte, Nat.reduceBEq, Nat.reduceEqDiff, tupleOf, stepT, stepX, heapR, lensR, Nat.reduceAdd, Nat.reduceLeDiff, g1, g3, g4, g5, g6, g7, r1, hz]
      exact bad hn
end Go.AS.C


namespace Go.AS.C
open Go Go.Proofs
set_option linter.unusedVariables false
set_option linter.unusedSimpArgs false
set_option maxRecDepth 10000

/-- slices.Equal of texts. -/
theorem slices_EqualT_spec {A : AH} {u v : Value} {l m : List ByteArray} {Q : Value → AH → Prop} (hu : SlT A u l) (hv : SlT A v m) (hl : l.length < 2 ^ 50) (hm : m.length < 2 ^ 50) (hq : ∀ b : Bool, (b = true ↔ l = m) → Q (.bool b) A) : ACalls 1 Tryd.prog slices_Equal_string_string [u, v] Q A := by
  refine ACalls.of_fits mixed fits_slices_Equal_string_string rfl ?_
  unfold ic_slices_Equal_string_string
  have i0 : initA [u, v] 0 = u := rfl
  have i1 : initA [u, v] 1 = v := rfl
  generalize initA [u, v] = a at i0 i1
  have hvl := hu.len
  have hwl := hv.len
  by_cases hn : l.length = m.length
  · simp (maxSteps := 1000000) (disch := omega) only [stepS, reduceIte, Nat.reduceBEq, Nat.reduceEqDiff, tupleOf, stepT, i0, i1, hvl, hwl]
    refine W_loop (fun a' B => B = A ∧ ∃ k : Nat, k ≤ l.length ∧ l.take k = m.take k ∧ a' 0 = u ∧ a' 1 = v ∧ a' 12 = ii l.length ∧ a' 13 = ii k) (fun a' _ => l.length - (iv (a' 13)).toNat) ?_ ?_
    · refine ⟨rfl, 0, by omega, rfl, ?_⟩
      simp (maxSteps := 1000000) (disch := omega) only [stepS, reduceIte, Nat.reduceBEq, Nat.reduceEqDiff, tupleOf, stepT, i0, i1]
      (all_goals (and_intros <;> first | rfl | assumption | (push_cast; rfl) | (congr 1; omega) | omega | (simp; done)))
    · rintro a2 B ⟨rfl, k, hk, hn2, g0, g1, g12, g13⟩
      rcases Nat.lt_or_ge k l.length with hlt | hge
      · obtain ⟨s, hs⟩ := get_some hlt
        obtain ⟨t, ht⟩ := get_some (l := m) (k := k) (by omega)
        obtain ⟨p, p1, p2⟩ := hu.at hs
        have p3 := p2 B (.refl _)
        obtain ⟨q, q1, q2⟩ := hv.at ht
        have q3 := q2 B (.refl _)
        by_cases hst : s = t
        · have hd : decide (s ≠ t) = false := decide_eq_false (fun h => h hst)
          simp (maxSteps := 1000000) (disch := omega) only [stepS, reduceIte, Nat.reduceBEq, Nat.reduceEqDiff, tupleOf, stepT, g0, g1, g12, g13, hvl, hwl, p1, p3, q1, q3, hd]
          refine ⟨⟨k + 1, by omega, ?_, rfl⟩, by omega⟩
          rw [List.take_add_one, List.take_add_one, hs, ht, hn2, hst]
        · have hd : decide (s ≠ t) = true := decide_eq_true hst
          simp (maxSteps := 1000000) (disch := omega) only [stepS, reduceIte, Nat.reduceBEq, Nat.reduceEqDiff, tupleOf, stepT, g0, g1, g12, g13, hvl, hwl, p1, p3, q1, q3, hd]
          exact hq false ⟨(fun h => by cases h), fun h => by subst h; rw [hs] at ht; injection ht with ht; exact absurd ht hst⟩
      · rw [List.take_of_length_le hge, List.take_of_length_le (by omega)] at hn2
        simp (maxSteps := 1000000) (disch := omega) only [stepS, reduceIte, Nat.reduceBEq, Nat.reduceEqDiff, tupleOf, stepT, g0, g1, g12, g13, hvl]
        exact hq true ⟨fun _ => hn2, fun _ => rfl⟩
  · simp (maxSteps := 1000000) (disch := omega) only [stepS, reduceIte, Nat.reduceBEq, Nat.reduceEqDiff, tupleOf, stepT, i0, i1, hvl, hwl]
    exact hq false ⟨(fun h => by cases h), fun h => absurd (by rw [h]) hn⟩
end Go.AS.C


namespace Go.AS.C
open Go Go.Proofs
set_option linter.unusedVariables false
set_option linter.unusedSimpArgs false
set_option maxRecDepth 10000

theorem ref01_Texts_spec {A : AH} {v w : Value} {l m : List ByteArray} {Q : Value → AH → Prop} (hv : SlT A v l) (hw : SlT A w m) (hl : l.length < 2 ^ 50) (hm : m.length < 2 ^ 50) (hq : ∀ b : Bool, (b = true ↔ l = m) → Q (.bool b) A) : ACalls 1 Tryd.prog chantryref01_Texts [v, w] Q A := by
  refine ACalls.of_fits mixed fits_chantryref01_Texts rfl ?_
  unfold ic_chantryref01_Texts
  have i0 : initA [v, w] 0 = v := rfl
  have i1 : initA [v, w] 1 = w := rfl
  generalize initA [v, w] = a at i0 i1
  have hvl := hv.len
  have hwl := hw.len
  by_cases hn : l.length = m.length
  · simp (maxSteps := 1000000) (disch := omega) only [stepS, reduceIte, Nat.reduceBEq, Nat.reduceEqDiff, tupleOf, stepT, i0, i1, hvl, hwl]
    refine W_loop (fun a' B => B = A ∧ ∃ k : Nat, k ≤ l.length ∧ l.take k = m.take k ∧ a' 0 = v ∧ a' 1 = w ∧ a' 5 = ii k) (fun a' _ => l.length - (iv (a' 5)).toNat) ?_ ?_
    · refine ⟨rfl, 0, by omega, rfl, ?_⟩
      simp (maxSteps := 1000000) (disch := omega) only [stepS, reduceIte, Nat.reduceBEq, Nat.reduceEqDiff, tupleOf, stepT, i0, i1]
      (all_goals (and_intros <;> first | rfl | assumption | (push_cast; rfl) | (congr 1; omega) | omega | (simp; done)))
    · rintro a2 B ⟨rfl, k, hk, hn2, g0, g1, g5⟩
      rcases Nat.lt_or_ge k l.length with hlt | hge
      · obtain ⟨s, hs⟩ := get_some hlt
        obtain ⟨t, ht⟩ := get_some (l := m) (k := k) (by omega)
        obtain ⟨p, p1, p2⟩ := hv.at hs
        have p3 := p2 B (.refl _)
        obtain ⟨q, q1, q2⟩ := hw.at ht
        have q3 := q2 B (.refl _)
        by_cases hst : s = t
        · have hd : decide (s ≠ t) = false := decide_eq_false (fun h => h hst)
          simp (maxSteps := 1000000) (disch := omega) only [stepS, reduceIte, Nat.reduceBEq, Nat.reduceEqDiff, tupleOf, stepT, g0, g1, g5, hvl, hwl, p1, p3, q1, q3, hd]
          refine ⟨⟨k + 1, by omega, ?_, rfl⟩, by omega⟩
          rw [List.take_add_one, List.take_add_one, hs, ht, hn2, hst]
        · have hd : decide (s ≠ t) = true := decide_eq_true hst
          simp (maxSteps := 1000000) (disch := omega) only [stepS, reduceIte, Nat.reduceBEq, Nat.reduceEqDiff, tupleOf, stepT, g0, g1, g5, hvl, hwl, p1, p3, q1, q3, hd]
          exact hq false ⟨(fun h => by cases h), fun h => by subst h; rw [hs] at ht; injection ht with ht; exact absurd ht hst⟩
      · rw [List.take_of_length_le hge, List.take_of_length_le (by omega)] at hn2
        simp (maxSteps := 1000000) (disch := omega) only [stepS, reduceIte, Nat.reduceBEq, Nat.reduceEqDiff, tupleOf, stepT, g0, g1, g5, hvl]
        exact hq true ⟨fun _ => hn2, fun _ => rfl⟩
  · simp (maxSteps := 1000000) (disch := omega) only [stepS, reduceIte, Nat.reduceBEq, Nat.reduceEqDiff, tupleOf, stepT, i0, i1, hvl, hwl]
    exact hq false ⟨(fun h => by cases h), fun h => absurd (by rw [h]) hn⟩
end Go.AS.C


namespace Go.AS.C
open Go Go.Proofs
set_option linter.unusedVariables false
set_option linter.unusedSimpArgs false
set_option maxRecDepth 10000

/-! update.Check, Same; the reference's. -/
theorem slT_one {A : AH} {p : Value} {l : List ByteArray} (h : SlT A p l) : one1 p := by
  rcases h with ⟨_, ⟨rfl, _⟩ | ⟨rfl, _⟩ | ⟨i, o, c, rc, st, ex, rfl, _⟩⟩ <;> exact one1_sl _ _ _
theorem updE_int (u : UpdV) : (updE u : Int) = if u.author < 0 ∨ 256 ≤ u.author then 1 else if 8 < u.preds.length then 4 else if riseB u.preds = false then 1 else checkO u.op := by
  unfold updE checkO
  split
  · rfl
  · split
    · rfl
    · split
      · rfl
      · split <;> rfl
theorem update_Check_spec {A : AH} {x : Value} {u : UpdV} {Q : Value → AH → Prop} (hx : UpdA A x u) (hf : u.Fin) (hq : Q (ii (updE u)) A) : ACalls 1 Tryd.prog update_Check [x] Q A := by
  refine ACalls.pure1 _ rfl hq fun Q hq => ?_
  obtain ⟨p, rfl, hp⟩ := hx
  obtain ⟨f1, f2, f3, f4⟩ := hf
  refine ACalls.of_fits mixed fits_update_Check rfl ?_
  unfold ic_update_Check
  have i0 : initA [.agg #[ii u.author, p, ii u.op.k, .string u.op.name, .string u.op.text, ii u.op.n, .string u.op.place]] 0 = .agg #[ii u.author, p, ii u.op.k, .string u.op.name, .string u.op.text, ii u.op.n, .string u.op.place] := rfl
  generalize initA [.agg #[ii u.author, p, ii u.op.k, .string u.op.name, .string u.op.text, ii u.op.n, .string u.op.place]] = a at i0
  have hp2 := (slT_one hp).2
  have hpl := fun B hl => (hp.le hl : SlT B p u.preds).len
  have k1 : Le A (A ++ [.row [ii u.author, p, ii u.op.k, .string u.op.name, .string u.op.text, ii u.op.n, .string u.op.place] .own 0 true]) := .push _ _
  have hpl := (hp.le k1).len
  rw [updE_int] at hq
  by_cases h1 : u.author < 0
  · rw [if_pos (.inl h1)] at hq
    simp (maxSteps := 1000000) (disch := omega) only [stepS, reduceIte, Nat.reduceBEq, Nat.reduceEqDiff, tupleOf, stepT, stepX, heapR, lensR, Nat.reduceAdd, Nat.reduceLeDiff, i0, hp2]
    exact hq _ k1
  · by_cases h2 : u.author ≥ 256
    · rw [if_pos (.inr h2)] at hq
      simp (maxSteps := 1000000) (disch := omega) only [stepS, reduceIte, Nat.reduceBEq, Nat.reduceEqDiff, tupleOf, stepT, stepX, heapR, lensR, Nat.reduceAdd, Nat.reduceLeDiff, i0, hp2]
      exact hq _ k1
    · rw [if_neg (by omega)] at hq
      by_cases h3 : 8 < u.preds.length
      · rw [if_pos h3] at hq
        simp (maxSteps := 1000000) (disch := omega) only [stepS, reduceIte, Nat.reduceBEq, Nat.reduceEqDiff, tupleOf, stepT, stepX, heapR, lensR, Nat.reduceAdd, Nat.reduceLeDiff, i0, hp2, hpl]
        exact hq _ k1
      · rw [if_neg h3] at hq
        simp (maxSteps := 1000000) (disch := omega) only [stepS, reduceIte, Nat.reduceBEq, Nat.reduceEqDiff, tupleOf, stepT, stepX, heapR, lensR, Nat.reduceAdd, Nat.reduceLeDiff, i0, hp2, hpl]
        refine ids_Rising_spec (hp.le k1) f2 fun b hb => ?_
        have hr : riseB u.preds = b := by rw [Bool.eq_iff_iff, riseB_iff, hb]
        rw [hr] at hq
        cases b with
        | false =>
          simp (maxSteps := 1000000) (disch := omega) only [stepS, reduceIte, Nat.reduceBEq, Nat.reduceEqDiff, tupleOf, stepT, stepX, heapR, lensR, Nat.reduceAdd, Nat.reduceLeDiff, i0, hp2, hpl]
          exact hq _ k1
        | true =>
          simp only [Bool.true_eq_false, if_false] at hq
          simp (maxSteps := 1000000) (disch := omega) only [stepS, reduceIte, Nat.reduceBEq, Nat.reduceEqDiff, tupleOf, stepT, stepX, heapR, lensR, Nat.reduceAdd, Nat.reduceLeDiff, i0, hp2, hpl]
          refine op_Check_spec f4 ?_
          simp (maxSteps := 1000000) (disch := omega) only [stepS, reduceIte, Nat.reduceBEq, Nat.reduceEqDiff, tupleOf, stepT, stepX, heapR, lensR, Nat.reduceAdd, Nat.reduceLeDiff, i0, hp2, hpl]
          exact hq _ k1
theorem ref15_Check_spec {A : AH} {x : Value} {u : UpdV} {Q : Value → AH → Prop} (hx : UpdA A x u) (hf : u.Fin) (hq : Q (ii (updE u)) A) : ACalls 1 Tryd.prog chantryref15_Check [x] Q A := by
  refine ACalls.pure1 _ rfl hq fun Q hq => ?_
  obtain ⟨p, rfl, hp⟩ := hx
  obtain ⟨f1, f2, f3, f4⟩ := hf
  refine ACalls.of_fits mixed fits_chantryref15_Check rfl ?_
  unfold ic_chantryref15_Check
  have i0 : initA [.agg #[ii u.author, p, ii u.op.k, .string u.op.name, .string u.op.text, ii u.op.n, .string u.op.place]] 0 = .agg #[ii u.author, p, ii u.op.k, .string u.op.name, .string u.op.text, ii u.op.n, .string u.op.place] := rfl
  generalize initA [.agg #[ii u.author, p, ii u.op.k, .string u.op.name, .string u.op.text, ii u.op.n, .string u.op.place]] = a at i0
  have hp2 := (slT_one hp).2
  have k1 : Le A (A ++ [.row [ii u.author, p, ii u.op.k, .string u.op.name, .string u.op.text, ii u.op.n, .string u.op.place] .own 0 true]) := .push _ _
  have hpl := (hp.le k1).len
  rw [updE_int] at hq
  by_cases h1 : u.author < 0
  · rw [if_pos (.inl h1)] at hq
    simp (maxSteps := 1000000) (disch := omega) only [stepS, reduceIte, Nat.reduceBEq, Nat.reduceEqDiff, tupleOf, stepT, stepX, heapR, lensR, Nat.reduceAdd, Nat.reduceLeDiff, i0, hp2]
    exact hq _ k1
  · by_cases h2 : u.author > 255
    · rw [if_pos (.inr (by omega))] at hq
      simp (maxSteps := 1000000) (disch := omega) only [stepS, reduceIte, Nat.reduceBEq, Nat.reduceEqDiff, tupleOf, stepT, stepX, heapR, lensR, Nat.reduceAdd, Nat.reduceLeDiff, i0, hp2]
      exact hq _ k1
    · rw [if_neg (by omega)] at hq
      by_cases h3 : 8 < u.preds.length
      · rw [if_pos h3] at hq
        simp (maxSteps := 1000000) (disch := omega) only [stepS, reduceIte, Nat.reduceBEq, Nat.reduceEqDiff, tupleOf, stepT, stepX, heapR, lensR, Nat.reduceAdd, Nat.reduceLeDiff, i0, hp2, hpl]
        exact hq _ k1
      · rw [if_neg h3] at hq
        simp (maxSteps := 1000000) (disch := omega) only [stepS, reduceIte, Nat.reduceBEq, Nat.reduceEqDiff, tupleOf, stepT, stepX, heapR, lensR, Nat.reduceAdd, Nat.reduceLeDiff, i0, hp2, hpl]
        refine ref04_Rising_spec (hp.le k1) f2 fun b hb => ?_
        have hr : riseB u.preds = b := by rw [Bool.eq_iff_iff, riseB_iff, hb]
        rw [hr] at hq
        cases b with
        | false =>
          simp (maxSteps := 1000000) (disch := omega) only [stepS, reduceIte, Nat.reduceBEq, Nat.reduceEqDiff, tupleOf, stepT, stepX, heapR, lensR, Nat.reduceAdd, Nat.reduceLeDiff, i0, hp2, hpl]
          exact hq _ k1
        | true =>
          simp only [Bool.true_eq_false, if_false] at hq
          simp (maxSteps := 1000000) (disch := omega) only [stepS, reduceIte, Nat.reduceBEq, Nat.reduceEqDiff, tupleOf, stepT, stepX, heapR, lensR, Nat.reduceAdd, Nat.reduceLeDiff, i0, hp2, hpl]
          refine ref14_Check_spec f4 ?_
          unfold checkO at hq
          cases ho : opOk u.op with
          | true =>
            rw [ho] at hq
            simp (maxSteps := 1000000) (disch := omega) only [stepS, reduceIte, Nat.reduceBEq, Nat.reduceEqDiff, tupleOf, stepT, stepX, heapR, lensR, Nat.reduceAdd, Nat.reduceLeDiff, i0, hp2, hpl]
            exact hq _ k1
          | false =>
            rw [ho] at hq
            simp (maxSteps := 1000000) (disch := omega) only [stepS, reduceIte, Nat.reduceBEq, Nat.reduceEqDiff, tupleOf, stepT, stepX, heapR, lensR, Nat.reduceAdd, Nat.reduceLeDiff, i0, hp2, hpl]
            exact hq _ k1
theorem update_Same_spec {A : AH} {x y : Value} {u w : UpdV} {Q : Value → AH → Prop} (hx : UpdA A x u) (hy : UpdA A y w) (hf : u.Fin) (hg : w.Fin) (hq : ∀ b : Bool, (b = true ↔ u = w) → Q (.bool b) A) : ACalls 1 Tryd.prog update_Same [x, y] Q A := by
  refine ACalls.pureU (S := fun v => ∃ b : Bool, v = .bool b ∧ (b = true ↔ u = w)) (fun v ⟨b, h1, h2⟩ => by subst h1; exact hq b h2) ?_
  obtain ⟨p, rfl, hp⟩ := hx
  obtain ⟨q, rfl, hw⟩ := hy
  obtain ⟨f1, f2, f3, f4⟩ := hf
  obtain ⟨e1, e2, e3, e4⟩ := hg
  obtain ⟨author, preds, op⟩ := u
  obtain ⟨author2, preds2, op2⟩ := w
  simp only at *
  refine ACalls.of_fits mixed fits_update_Same rfl ?_
  unfold ic_update_Same
  generalize hv0 : Value.agg #[ii author, p, ii op.k, .string op.name, .string op.text, ii op.n, .string op.place] = v0
  generalize hv1 : Value.agg #[ii author2, q, ii op2.k, .string op2.name, .string op2.text, ii op2.n, .string op2.place] = v1
  have i0 : initA [v0, v1] 0 = v0 := rfl
  have i1 : initA [v0, v1] 1 = v1 := rfl
  generalize initA [v0, v1] = a at i0 i1
  subst hv0 hv1
  have hp2 := (slT_one hp).2
  have hw2 := (slT_one hw).2
  have k1 : Le A (A ++ [.row [ii author, p, ii op.k, .string op.name, .string op.text, ii op.n, .string op.place] .own 0 true]) := .push _ _
  have k2 : Le A (A ++ [.row [ii author, p, ii op.k, .string op.name, .string op.text, ii op.n, .string op.place] .own 0 true] ++ [.row [ii author2, q, ii op2.k, .string op2.name, .string op2.text, ii op2.n, .string op2.place] .own 0 true]) := k1.trans (.push _ _)
  have eo : ∀ A, sEqagg A false (Tryd.prog.keyLits 8 opT) (.agg #[ii op.k, .string op.name, .string op.text, ii op.n, .string op.place]) (.agg #[ii op2.k, .string op2.name, .string op2.text, ii op2.n, .string op2.place]) = some (.bool (decide (op = op2)), A) := fun A => by
    have := eqop A false f4 e4
    rw [Bool.bne_false] at this
    exact this
  by_cases h1 : author = author2
  · by_cases h2 : op = op2
    · rw [decide_eq_true h2] at eo
      simp (maxSteps := 1000000) (disch := omega) only [stepS, reduceIte, Nat.reduceBEq, Nat.reduceEqDiff, tupleOf, stepT, stepX, heapR, lensR, Nat.reduceAdd, Nat.reduceLeDiff, i0, i1, hp2, hw2, eo]
      refine slices_EqualT_spec (hp.le k2) (hw.le k2) f2 e2 fun b hb => ?_
      simp (maxSteps := 1000000) (disch := omega) only [stepS, reduceIte, Nat.reduceBEq, Nat.reduceEqDiff, tupleOf, stepT, stepX, heapR, lensR, Nat.reduceAdd, Nat.reduceLeDiff, i0, i1, hp2, hw2]
      refine ⟨k2, rfl, b, rfl, ?_⟩
      rw [hb, UpdV.mk.injEq]
      exact ⟨fun h => ⟨h1, h, h2⟩, fun h => h.2.1⟩
    · rw [decide_eq_false h2] at eo
      simp (maxSteps := 1000000) (disch := omega) only [stepS, reduceIte, Nat.reduceBEq, Nat.reduceEqDiff, tupleOf, stepT, stepX, heapR, lensR, Nat.reduceAdd, Nat.reduceLeDiff, i0, i1, hp2, hw2, eo]
      refine ⟨k2, rfl, false, rfl, ?_⟩
      rw [UpdV.mk.injEq]
      exact ⟨(fun h => by cases h), fun h => absurd h.2.2 h2⟩
  · simp (maxSteps := 1000000) (disch := omega) only [stepS, reduceIte, Nat.reduceBEq, Nat.reduceEqDiff, tupleOf, stepT, stepX, heapR, lensR, Nat.reduceAdd, Nat.reduceLeDiff, i0, i1, hp2, hw2, eo]
    refine ⟨k2, rfl, false, rfl, ?_⟩
    rw [UpdV.mk.injEq]
    exact ⟨(fun h => by cases h), fun h => absurd h.1 h1⟩
theorem ref15_Same_spec {A : AH} {x y : Value} {u w : UpdV} {Q : Value → AH → Prop} (hx : UpdA A x u) (hy : UpdA A y w) (hf : u.Fin) (hg : w.Fin) (hq : ∀ b : Bool, (b = true ↔ u = w) → Q (.bool b) A) : ACalls 1 Tryd.prog chantryref15_Same [x, y] Q A := by
  refine ACalls.pureU (S := fun v => ∃ b : Bool, v = .bool b ∧ (b = true ↔ u = w)) (fun v ⟨b, h1, h2⟩ => by subst h1; exact hq b h2) ?_
  obtain ⟨p, rfl, hp⟩ := hx
  obtain ⟨q, rfl, hw⟩ := hy
  obtain ⟨f1, f2, f3, f4⟩ := hf
  obtain ⟨e1, e2, e3, e4⟩ := hg
  obtain ⟨author, preds, op⟩ := u
  obtain ⟨author2, preds2, op2⟩ := w
  simp only at *
  refine ACalls.of_fits mixed fits_chantryref15_Same rfl ?_
  unfold ic_chantryref15_Same
  generalize hv0 : Value.agg #[ii author, p, ii op.k, .string op.name, .string op.text, ii op.n, .string op.place] = v0
  generalize hv1 : Value.agg #[ii author2, q, ii op2.k, .string op2.name, .string op2.text, ii op2.n, .string op2.place] = v1
  have i0 : initA [v0, v1] 0 = v0 := rfl
  have i1 : initA [v0, v1] 1 = v1 := rfl
  generalize initA [v0, v1] = a at i0 i1
  subst hv0 hv1
  have hp2 := (slT_one hp).2
  have hw2 := (slT_one hw).2
  have k1 : Le A (A ++ [.row [ii author, p, ii op.k, .string op.name, .string op.text, ii op.n, .string op.place] .own 0 true]) := .push _ _
  have k2 : Le A (A ++ [.row [ii author, p, ii op.k, .string op.name, .string op.text, ii op.n, .string op.place] .own 0 true] ++ [.row [ii author2, q, ii op2.k, .string op2.name, .string op2.text, ii op2.n, .string op2.place] .own 0 true]) := k1.trans (.push _ _)
  have eo : ∀ A, sEqagg A false (Tryd.prog.keyLits 8 opT) (.agg #[ii op.k, .string op.name, .string op.text, ii op.n, .string op.place]) (.agg #[ii op2.k, .string op2.name, .string op2.text, ii op2.n, .string op2.place]) = some (.bool (decide (op = op2)), A) := fun A => by
    have := eqop A false f4 e4
    rw [Bool.bne_false] at this
    exact this
  by_cases h1 : author = author2
  · simp (maxSteps := 1000000) (disch := omega) only [stepS, reduceIte, Nat.reduceBEq, Nat.reduceEqDiff, tupleOf, stepT, stepX, heapR, lensR, Nat.reduceAdd, Nat.reduceLeDiff, i0, i1, hp2, hw2]
    refine ref01_Texts_spec (hp.le k2) (hw.le k2) f2 e2 fun b hb => ?_
    cases b with
    | false =>
      simp (maxSteps := 1000000) (disch := omega) only [stepS, reduceIte, Nat.reduceBEq, Nat.reduceEqDiff, tupleOf, stepT, stepX, heapR, lensR, Nat.reduceAdd, Nat.reduceLeDiff, i0, i1, hp2, hw2]
      refine ⟨k2, rfl, false, rfl, ?_⟩
      rw [UpdV.mk.injEq]
      exact ⟨(fun h => by cases h), fun h => hb.2 h.2.1⟩
    | true =>
      simp (maxSteps := 1000000) (disch := omega) only [stepS, reduceIte, Nat.reduceBEq, Nat.reduceEqDiff, tupleOf, stepT, stepX, heapR, lensR, Nat.reduceAdd, Nat.reduceLeDiff, i0, i1, hp2, hw2, eo]
      refine ⟨k2, rfl, decide (op = op2), rfl, ?_⟩
      rw [UpdV.mk.injEq, decide_eq_true_eq]
      exact ⟨fun h => ⟨h1, hb.1 rfl, h⟩, fun h => h.2.2⟩
  · simp (maxSteps := 1000000) (disch := omega) only [stepS, reduceIte, Nat.reduceBEq, Nat.reduceEqDiff, tupleOf, stepT, stepX, heapR, lensR, Nat.reduceAdd, Nat.reduceLeDiff, i0, i1, hp2, hw2, eo]
    refine ⟨k2, rfl, false, rfl, ?_⟩
    rw [UpdV.mk.injEq]
    exact ⟨(fun h => by cases h), fun h => absurd h.1 h1⟩
end Go.AS.C


namespace Go.AS.C
open Go Go.Proofs
set_option linter.unusedVariables false
set_option linter.unusedSimpArgs false
set_option maxRecDepth 10000

theorem num_Put_spec {A : AH} {n : Int} {Q : Value → AH → Prop} (hok : ∀ t A', 0 ≤ n → n ≤ 2147483647 → Le A A' → OwnB A.length A' t (putN n.toNat) → Q (.tuple #[t, ii 0]) A')
    (hbad : ¬ (0 ≤ n ∧ n ≤ 2147483647) → Q (.tuple #[.slice none 0 0, ii 1]) A) : ACalls 1 Tryd.prog num_Put [ii n] Q A := by
  refine ACalls.of_fits mixed fits_num_Put rfl ?_
  unfold ic_num_Put
  have i0 : initA [ii n] 0 = ii n := rfl
  generalize initA [ii n] = a at i0
  simp (maxSteps := 1000000) (disch := omega) only [stepS, reduceIte, Nat.reduceBEq, Nat.reduceEqDiff, tupleOf, stepT, i0]
  refine num_is_spec ?_
  by_cases h : 0 ≤ n ∧ n ≤ 2147483647
  · obtain ⟨m, rfl⟩ : ∃ m : Nat, n = m := ⟨n.toNat, by omega⟩
    simp (maxSteps := 1000000) (disch := omega) only [stepS, reduceIte, Nat.reduceBEq, Nat.reduceEqDiff, tupleOf, stepT, i0]
    refine W_loop (fun a' B => ∃ (k : Nat) (z : List UInt8), Le A B ∧ k ≤ m ∧ z.length ≤ 5 ∧ a' 0 = ii k ∧ OwnB A.length B (a' 4) z ∧ z ++ putN k = putN m) (fun a' _ => (iv (a' 0)).toNat) ?_ ?_
    · refine ⟨m, [], .refl _, Nat.le_refl _, by simp, ?_⟩
      simp (maxSteps := 1000000) (disch := omega) only [stepS, reduceIte, Nat.reduceBEq, Nat.reduceEqDiff, tupleOf, stepT, i0]
      exact OwnB.nil _ _
    · rintro a2 B ⟨k, z, hle, hk, hz5, g0, g4, hz⟩
      by_cases hge : 128 ≤ k
      · have l1 := litB B [UInt8.ofNat k ||| 128] (len := 1) (ps := [(0, 1, by8 (UInt8.ofNat k ||| 128))]) rfl rfl
        have k1 : Le B (B ++ [.row (List.map by8 [UInt8.ofNat k ||| 128]) .own 1 true]) := .push _ _
        obtain ⟨v2, A2, p1, p2, p3, _⟩ := app_bytes (hle.trans k1) (OwnS.le g4 k1) (byt_last B [UInt8.ofNat k ||| 128]) (by simp; omega)
        rw [List.length_singleton] at p1
        simp only [List.map_cons, List.map_nil, List.length_singleton] at l1 p1
        simp (maxSteps := 1000000) (disch := omega) only [stepS, reduceIte, Nat.reduceBEq, Nat.reduceEqDiff, tupleOf, stepT, g0, conv_u8_ii, b8_128, binA_or8, l1, p1]
        have hlen := congrArg List.length hz
        rw [List.length_append] at hlen
        have h5 := putN_len5 (n := m) (by omega)
        have h1 := putN_pos k
        refine ⟨⟨k / 128, z ++ [UInt8.ofNat k ||| 128], p2, by omega, by simp; omega, by simp, p3, ?_⟩, by first | omega | (simp; omega)⟩
        rw [← hz, putN_big hge, or128]
        simp
      · have l1 := litB B [UInt8.ofNat k] (len := 1) (ps := [(0, 1, by8 (UInt8.ofNat k))]) rfl rfl
        have k1 : Le B (B ++ [.row (List.map by8 [UInt8.ofNat k]) .own 1 true]) := .push _ _
        obtain ⟨v2, A2, p1, p2, p3, _⟩ := app_bytes (hle.trans k1) (OwnS.le g4 k1) (byt_last B [UInt8.ofNat k]) (by simp; omega)
        rw [List.length_singleton] at p1
        simp only [List.map_cons, List.map_nil, List.length_singleton] at l1 p1
        simp (maxSteps := 1000000) (disch := omega) only [stepS, reduceIte, Nat.reduceBEq, Nat.reduceEqDiff, tupleOf, stepT, g0, conv_u8_ii, l1, p1]
        refine hok _ _ (by omega) (by omega) p2 ?_
        rw [putN_small (by omega)] at hz
        rw [hz] at p3
        exact p3
  · simp (maxSteps := 1000000) (disch := omega) only [stepS, reduceIte, Nat.reduceBEq, Nat.reduceEqDiff, tupleOf, stepT, i0]
    exact hbad h

theorem ref01_Put_spec {A : AH} {n : Int} {Q : Value → AH → Prop} (hok : ∀ t A', 0 ≤ n → n ≤ 2147483647 → Le A A' → OwnB A.length A' t (putN n.toNat) → Q (.tuple #[t, ii 0]) A')
    (hbad : ¬ (0 ≤ n ∧ n ≤ 2147483647) → Q (.tuple #[.slice none 0 0, ii 1]) A) : ACalls 1 Tryd.prog chantryref01_Put [ii n] Q A := by
  refine ACalls.of_fits mixed fits_chantryref01_Put rfl ?_
  unfold ic_chantryref01_Put
  have i0 : initA [ii n] 0 = ii n := rfl
  generalize initA [ii n] = a at i0
  by_cases h : 0 ≤ n ∧ n ≤ 2147483647
  · obtain ⟨m, rfl⟩ : ∃ m : Nat, n = m := ⟨n.toNat, by omega⟩
    simp (maxSteps := 1000000) (disch := omega) only [stepS, reduceIte, Nat.reduceBEq, Nat.reduceEqDiff, tupleOf, stepT, i0]
    refine W_loop (fun a' B => ∃ (k : Nat) (z : List UInt8), Le A B ∧ k ≤ m ∧ z.length ≤ 5 ∧ a' 0 = ii k ∧ OwnB A.length B (a' 4) z ∧ z ++ putN k = putN m) (fun a' _ => (iv (a' 0)).toNat) ?_ ?_
    · refine ⟨m, [], .refl _, Nat.le_refl _, by simp, ?_⟩
      simp (maxSteps := 1000000) (disch := omega) only [stepS, reduceIte, Nat.reduceBEq, Nat.reduceEqDiff, tupleOf, stepT, i0]
      exact OwnB.nil _ _
    · rintro a2 B ⟨k, z, hle, hk, hz5, g0, g4, hz⟩
      by_cases hge : 128 ≤ k
      · have e8 : ∀ A, sConv A .u8 (.int .i64 ((k : Int) % 128 + 128)) = some (by8 (UInt8.ofNat (k % 128 + 128)), A) := fun A => conv_u8_ii A (k % 128 + 128)
        have l1 := litB B [UInt8.ofNat (k % 128 + 128)] (len := 1) (ps := [(0, 1, by8 (UInt8.ofNat (k % 128 + 128)))]) rfl rfl
        have k1 : Le B (B ++ [.row (List.map by8 [UInt8.ofNat (k % 128 + 128)]) .own 1 true]) := .push _ _
        obtain ⟨v2, A2, p1, p2, p3, _⟩ := app_bytes (hle.trans k1) (OwnS.le g4 k1) (byt_last B [UInt8.ofNat (k % 128 + 128)]) (by simp; omega)
        rw [List.length_singleton] at p1
        simp only [List.map_cons, List.map_nil, List.length_singleton] at l1 p1
        simp (maxSteps := 1000000) (disch := omega) only [stepS, reduceIte, Nat.reduceBEq, Nat.reduceEqDiff, tupleOf, stepT, g0, e8, l1, p1]
        have hlen := congrArg List.length hz
        rw [List.length_append] at hlen
        have h5 := putN_len5 (n := m) (by omega)
        have h1 := putN_pos k
        refine ⟨⟨k / 128, z ++ [UInt8.ofNat (k % 128 + 128)], p2, by omega, by simp; omega, by simp, p3, ?_⟩, by first | omega | (simp; omega)⟩
        rw [← hz, putN_big hge]
        simp
      · have l1 := litB B [UInt8.ofNat k] (len := 1) (ps := [(0, 1, by8 (UInt8.ofNat k))]) rfl rfl
        have k1 : Le B (B ++ [.row (List.map by8 [UInt8.ofNat k]) .own 1 true]) := .push _ _
        obtain ⟨v2, A2, p1, p2, p3, _⟩ := app_bytes (hle.trans k1) (OwnS.le g4 k1) (byt_last B [UInt8.ofNat k]) (by simp; omega)
        rw [List.length_singleton] at p1
        simp only [List.map_cons, List.map_nil, List.length_singleton] at l1 p1
        simp (maxSteps := 1000000) (disch := omega) only [stepS, reduceIte, Nat.reduceBEq, Nat.reduceEqDiff, tupleOf, stepT, g0, conv_u8_ii, l1, p1]
        refine hok _ _ (by omega) (by omega) p2 ?_
        rw [putN_small (by omega)] at hz
        rw [hz] at p3
        exact p3
  · by_cases h0 : n < 0
    · simp (maxSteps := 1000000) (disch := omega) only [stepS, reduceIte, Nat.reduceBEq, Nat.reduceEqDiff, tupleOf, stepT, i0]
      exact hbad h
    · simp (maxSteps := 1000000) (disch := omega) only [stepS, reduceIte, Nat.reduceBEq, Nat.reduceEqDiff, tupleOf, stepT, i0]
      exact hbad h
end Go.AS.C


namespace Go.AS.C
open Go Go.Proofs
set_option linter.unusedVariables false
set_option linter.unusedSimpArgs false
set_option maxRecDepth 10000

theorem slices_Grow_nil {A : AH} {n : Nat} {Q : Value → AH → Prop} (hn : n ≤ 2 ^ 40) (hq : ∀ v A', Le A A' → OwnB A.length A' v [] → Q v A') : ACalls 1 Tryd.prog slices_Grow_byte_byte [.slice none 0 0, ii n] Q A := by
  refine ACalls.of_fits mixed fits_slices_Grow_byte_byte rfl ?_
  unfold ic_slices_Grow_byte_byte
  have i0 : initA [.slice none 0 0, ii n] 0 = .slice none 0 0 := rfl
  have i1 : initA [.slice none 0 0, ii n] 1 = ii n := rfl
  generalize initA [.slice none 0 0, ii n] = a at i0 i1
  have c1 : ((n : Int) < 0) = False := by simp
  have c2 : sCapn A (.slice none 0 0) = some (ii 0, A) := rfl
  have c3 : binA .sub (ii 0) (ii ((0 : Nat) : Int)) = some (ii 0) := by rw [binA_subi _ _ (by omega) (by omega)]; rfl
  have c4 : binA .sub (ii n) (ii 0) = some (ii n) := by rw [binA_subi _ _ (by omega) (by omega)]; simp
  by_cases h0 : n = 0
  · subst h0
    have c5 : (((0 : Nat) : Int) > 0) = False := by simp
    simp only [stepS, reduceIte, Nat.reduceBEq, Nat.reduceEqDiff, tupleOf, i0, i1, binA_lss, c1, c2, lens_sl, c3, c4, binA_gtr, c5]
    exact hq _ _ (.refl _) (OwnB.nil _ _)
  · have c5 : ((n : Int) > 0) = True := by simp; omega
    have c6 : sSll A (.slice none 0 0) none (some (ii 0)) none 1 = some (.slice none 0 0, A) := rfl
    obtain ⟨v', A', e1, e2, e3, _⟩ := app_own (A0 := A) (A := A) (v := .slice none 0 0) (new := (List.replicate n [Value.int .u8 0]).flatten) (k := n) (bytes := 1) (.refl _) (OwnS.nil A.length A 1) (by omega) (by omega) (by omega) (by simp) (by
      unfold ones
      rw [List.all_eq_true]
      intro x hx
      rw [List.mem_flatten] at hx
      obtain ⟨l, hl, hx⟩ := hx
      obtain rfl := List.eq_of_mem_replicate hl
      rw [List.mem_singleton] at hx
      subst hx; rfl)
    have c7 : sAppz A (.slice none 0 0) (ii n) [.int .u8 0] 1 = some (v', A') := by
      rw [appz_eq (by omega), Int.toNat_natCast]
      exact e1
    have c8 : ∃ u, sSll A' v' none (some (ii ((0 : Nat) : Int))) none 1 = some (u, A') ∧ OwnB A.length A' u [] := by
      obtain ⟨f0, f⟩ := e3
      rcases f with ⟨rfl, f⟩ | ⟨rfl, f⟩ | ⟨i, o, c, rc, ex, rfl, f1, f2, f3, f4, f5⟩
      · omega
      · omega
      · refine ⟨.slice (some ⟨i, o, none⟩) 0 c, ?_, ⟨by simp, .inr (.inr ⟨i, o, c, rc, ex, rfl, by simp, f2, f3, by simp; omega, fun j hj => by simp at hj⟩)⟩⟩
        unfold sSll boundsA rowSz
        simp only [f3]
        simp [asI]
    obtain ⟨u, c8, c9⟩ := c8
    simp only [stepS, reduceIte, Nat.reduceBEq, Nat.reduceEqDiff, tupleOf, i0, i1, binA_lss, c1, c2, lens_sl, c3, c4, binA_gtr, c5, c6, c7, c8]
    exact hq _ _ e2 c9

theorem slices_Concat_spec {A : AH} {v : Value} {vs : List Value} {bss : List (List UInt8)} {Q : Value → AH → Prop} (hv : Sl A 1 v vs.length vs) (hn : vs.length = bss.length)
    (hb : ∀ (j : Nat) x bs, vs[j]? = some x → bss[j]? = some bs → Byt A x bs) (hl : bss.flatten.length ≤ 2 ^ 40) (hc : bss.length ≤ 2 ^ 40) (hq : ∀ v A', Le A A' → OwnB A.length A' v bss.flatten → Q v A') :
    ACalls 1 Tryd.prog slices_Concat_byte_byte [v] Q A := by
  refine ACalls.of_fits mixed fits_slices_Concat_byte_byte rfl ?_
  unfold ic_slices_Concat_byte_byte
  have i0 : initA [v] 0 = v := rfl
  generalize initA [v] = a at i0
  simp only [stepS, reduceIte, Nat.reduceBEq, Nat.reduceEqDiff, tupleOf, i0, hv.len]
  refine W_loop (fun a' A' => A' = A ∧ ∃ k : Nat, k ≤ bss.length ∧ a' 0 = v ∧ a' 9 = v ∧ a' 10 = ii vs.length ∧ a' 11 = ii k ∧ a' 3 = ii (((bss.take k).flatten.length : Nat) : Int)) (fun a' _ => (bss.length - (iv (a' 11)).toNat)) ?_ ?_
  · refine ⟨rfl, 0, by omega, ?_⟩
    simp only [stepS, reduceIte, Nat.reduceBEq, Nat.reduceEqDiff, tupleOf, i0]
    simp
  · rintro a A' ⟨rfl, k, hk, g0, g9, g10, g11, g3⟩
    rcases Nat.lt_or_ge k bss.length with hlt | hge
    · have hc1 : ((k : Int) < (vs.length : Int)) = True := by simp; omega
      obtain ⟨x, hx⟩ : ∃ b, vs[k]? = some b := ⟨_, List.getElem?_eq_getElem (by omega)⟩
      obtain ⟨bs, hbs⟩ : ∃ b, bss[k]? = some b := ⟨_, List.getElem?_eq_getElem hlt⟩
      obtain ⟨p, hp1, hp2⟩ := hv.at1 hx
      have hle := flat_take_le bss (k + 1)
      have hsu := flat_take_succ bss hbs
      rw [hsu, List.length_append] at hle
      have hadd : binA .add (ii (((bss.take k).flatten.length : Nat) : Int)) (ii (bs.length : Nat)) = some (ii (((bss.take (k + 1)).flatten.length : Nat) : Int)) := by
        rw [binA_addi _ _ (by omega) (by omega), hsu, List.length_append]
        simp
      have hc2 : ((((bss.take (k + 1)).flatten.length : Nat) : Int) < 0) = False := by simp
      simp only [stepS, reduceIte, Nat.reduceBEq, Nat.reduceEqDiff, tupleOf, g0, g9, g10, g11, g3, binA_lss, hc1, hp1, hp2, (hb k x bs hx hbs).len, hadd, hc2, binA_add1 k (by omega)]
      exact ⟨⟨k + 1, by omega, rfl, rfl⟩, by omega⟩
    · have hc1 : ((k : Int) < (vs.length : Int)) = False := by simp; omega
      have hk : k = bss.length := by omega
      subst hk
      simp only [stepS, reduceIte, Nat.reduceBEq, Nat.reduceEqDiff, tupleOf, g0, g9, g10, g11, g3, binA_lss, hc1]
      rw [List.take_length]
      refine slices_Grow_nil hl fun u A1 hle1 hown => ?_
      simp only [stepS, reduceIte, Nat.reduceBEq, Nat.reduceEqDiff, tupleOf, g0, (hv.le hle1).len]
      refine W_loop (fun a' B => ∃ k : Nat, k ≤ bss.length ∧ Le A' B ∧ a' 25 = v ∧ a' 26 = ii vs.length ∧ a' 27 = ii k ∧ OwnB A'.length B (a' 6) (bss.take k).flatten) (fun a' _ => (bss.length - (iv (a' 27)).toNat)) ?_ ?_
      · refine ⟨0, by omega, hle1, ?_⟩
        simp only [stepS, reduceIte, Nat.reduceBEq, Nat.reduceEqDiff, tupleOf]
        simpa using hown
      · rintro a2 B ⟨k, hk, hle2, f25, f26, f27, f6⟩
        rcases Nat.lt_or_ge k bss.length with hlt | hge
        · have hc1 : ((k : Int) < (vs.length : Int)) = True := by simp; omega
          obtain ⟨x, hx⟩ : ∃ b, vs[k]? = some b := ⟨_, List.getElem?_eq_getElem (by omega)⟩
          obtain ⟨bs, hbs⟩ : ∃ b, bss[k]? = some b := ⟨_, List.getElem?_eq_getElem hlt⟩
          obtain ⟨p, hp1, hp2⟩ := (hv.le hle2).at1 hx
          have hle := flat_take_le bss (k + 1)
          have hsu := flat_take_succ bss hbs
          rw [hsu, List.length_append] at hle
          obtain ⟨v', B', q1, q2, q3, _⟩ := app_bytes hle2 f6 ((hb k x bs hx hbs).le hle2) (by omega)
          rw [← hsu] at q3
          simp only [stepS, reduceIte, Nat.reduceBEq, Nat.reduceEqDiff, tupleOf, f25, f26, f27, binA_lss, hc1, hp1, hp2, q1, binA_add1 k (by omega)]
          exact ⟨⟨k + 1, by omega, q2, rfl, q3⟩, by omega⟩
        · have hc1 : ((k : Int) < (vs.length : Int)) = False := by simp; omega
          have hk : k = bss.length := by omega
          subst hk
          simp only [stepS, reduceIte, Nat.reduceBEq, Nat.reduceEqDiff, tupleOf, f25, f26, f27, binA_lss, hc1]
          rw [List.take_length] at f6
          exact hq _ _ hle2 f6

end Go.AS.C


namespace Go.AS.C
open Go Go.Proofs
set_option linter.unusedVariables false
set_option linter.unusedSimpArgs false
set_option maxRecDepth 10000

theorem num_Text_spec {A : AH} {v : Value} {bs : List UInt8} {Q : Value → AH → Prop} (hv : Byt A v bs) (hok : ∀ t A', bs.length ≤ 262144 → Le A A' → OwnB A.length A' t (textN bs) → Q (.tuple #[t, ii 0]) A')
    (hbad : 262144 < bs.length → Q (.tuple #[.slice none 0 0, ii 3]) A) : ACalls 1 Tryd.prog num_Text [v] Q A := by
  refine ACalls.of_fits mixed fits_num_Text rfl ?_
  unfold ic_num_Text
  have i0 : initA [v] 0 = v := rfl
  generalize initA [v] = a at i0
  by_cases h : bs.length ≤ 262144
  · simp (maxSteps := 1000000) (disch := omega) only [stepS, reduceIte, Nat.reduceBEq, Nat.reduceEqDiff, tupleOf, stepT, i0, hv.len]
    refine num_Put_spec (fun t A1 _ _ h1 o1 => ?_) (fun h => absurd h (by omega))
    rw [Int.toNat_natCast] at o1
    have l1 := lit1 (A := A1) (z := .slice none 0 0) (len := 2) (ps := [(0, 1, t), (1, 1, v)]) [t, v] rfl rfl (by
      intro x hx
      simp only [List.mem_cons, List.not_mem_nil, or_false] at hx
      rcases hx with rfl | rfl
      · obtain ⟨p, c, hs, _⟩ := o1.byt.shape
        rw [hs]; exact one1_sl _ _ _
      · obtain ⟨p, c, hs, _⟩ := hv.shape
        rw [hs]; exact one1_sl _ _ _)
    have k1 : Le A1 (A1 ++ [.row [t, v] .own 1 true]) := .push _ _
    simp (maxSteps := 1000000) (disch := omega) only [stepS, reduceIte, Nat.reduceBEq, Nat.reduceEqDiff, tupleOf, stepT, i0, hv.len, l1]
    refine slices_Concat_spec (vs := [t, v]) (bss := [putN bs.length, bs]) (sl_last A1 (cs := [t, v]) (by simp) (by simp)) rfl ?_ ?_ (by simp) (fun u A2 h2 o2 => ?_)
    · intro j x b hx hb
      cases j with
      | zero =>
        simp only [List.getElem?_cons_zero, Option.some.injEq] at hx hb
        subst hx hb
        exact o1.byt.le k1
      | succ j =>
        cases j with
        | zero =>
          simp only [List.getElem?_cons_succ, List.getElem?_cons_zero, Option.some.injEq] at hx hb
          subst hx hb
          exact hv.le (h1.trans k1)
        | succ j => simp at hx
    · have := putN_len5 (n := bs.length) (by omega)
      simp; omega
    · simp (maxSteps := 1000000) (disch := omega) only [stepS, reduceIte, Nat.reduceBEq, Nat.reduceEqDiff, tupleOf, stepT]
      refine hok _ _ h ((h1.trans k1).trans h2) ?_
      have e : [putN bs.length, bs].flatten = textN bs := by simp [textN]
      rw [e] at o2
      exact OwnS.mono o2 (h1.trans k1).len
  · simp (maxSteps := 1000000) (disch := omega) only [stepS, reduceIte, Nat.reduceBEq, Nat.reduceEqDiff, tupleOf, stepT, i0, hv.len]
    exact hbad (by omega)

theorem ref01_Text_spec {A : AH} {v : Value} {bs : List UInt8} {Q : Value → AH → Prop} (hv : Byt A v bs) (hok : ∀ t A', bs.length ≤ 262144 → Le A A' → OwnB A.length A' t (textN bs) → Q (.tuple #[t, ii 0]) A')
    (hbad : 262144 < bs.length → Q (.tuple #[.slice none 0 0, ii 3]) A) : ACalls 1 Tryd.prog chantryref01_Text [v] Q A := by
  refine ACalls.of_fits mixed fits_chantryref01_Text rfl ?_
  unfold ic_chantryref01_Text
  have i0 : initA [v] 0 = v := rfl
  generalize initA [v] = a at i0
  by_cases h : bs.length ≤ 262144
  · simp (maxSteps := 1000000) (disch := omega) only [stepS, reduceIte, Nat.reduceBEq, Nat.reduceEqDiff, tupleOf, stepT, i0, hv.len]
    refine ref01_Put_spec (fun t A1 _ _ h1 o1 => ?_) (fun h => absurd h (by omega))
    rw [Int.toNat_natCast] at o1
    have := putN_len5 (n := bs.length) (by omega)
    obtain ⟨v2, A2, p1, p2, p3, _⟩ := app_bytes h1 o1 (hv.le h1) (by omega)
    simp (maxSteps := 1000000) (disch := omega) only [stepS, reduceIte, Nat.reduceBEq, Nat.reduceEqDiff, tupleOf, stepT, i0, p1]
    exact hok _ _ h p2 p3
  · simp (maxSteps := 1000000) (disch := omega) only [stepS, reduceIte, Nat.reduceBEq, Nat.reduceEqDiff, tupleOf, stepT, i0, hv.len]
    exact hbad (by omega)
end Go.AS.C


namespace Go.AS.C
open Go Go.Proofs
set_option linter.unusedVariables false
set_option linter.unusedSimpArgs false
set_option maxRecDepth 10000

/-- num.Fix, of a number that fits. -/
theorem num_Fix_ok {A : AH} {n w : Nat} {Q : Value → AH → Prop} (h1 : 1 ≤ w) (h4 : w ≤ 4) (hn : n ≤ 2147483647) (hw : n / 2 ^ (8 * w) = 0)
    (hq : Q (.tuple #[.slice (some ⟨A.length, 0, none⟩) w w, ii 0]) (A ++ [.row ((leB n w).map by8) .own 1 true])) : ACalls 1 Tryd.prog num_Fix [ii n, ii w] Q A := by
  refine ACalls.of_fits mixed fits_num_Fix rfl ?_
  unfold ic_num_Fix
  have i0 : initA [ii n, ii w] 0 = ii n := rfl
  have i1 : initA [ii n, ii w] 1 = ii w := rfl
  generalize initA [ii n, ii w] = a at i0 i1
  have c1 : ((w : Int) < 1) = False := by simp; omega
  have c2 : ((w : Int) > 4) = False := by simp; omega
  simp only [stepS, reduceIte, Nat.reduceBEq, Nat.reduceEqDiff, tupleOf, i0, i1, binA_lss, binA_gtr, c1, c2]
  refine num_is_spec ?_
  have c3 : ((0 : Int) ≤ n ∧ (n : Int) ≤ 2147483647) = True := by simp; omega
  have c4 : binA .mul (ii 8) (ii w) = some (ii ((8 * w : Nat) : Int)) := mul_ii 8 w (by omega)
  have c5 := shr_ii n .i64 (8 * w) (by omega)
  have c6 : (((0 : Nat) : Int) > 0) = False := by simp
  simp only [stepS, reduceIte, Nat.reduceBEq, Nat.reduceEqDiff, tupleOf, i1, i0, c3, c4, c5, hw, binA_gtr, c6]
  simp only [stepS, reduceIte, Nat.reduceBEq, Nat.reduceEqDiff, tupleOf, i1, i0, mk_bytes A w (by omega), lens_sl]
  refine W_loop (fun a' A' => ∃ k : Nat, k ≤ w ∧ a' 0 = ii n ∧ a' 6 = .slice (some ⟨A.length, 0, none⟩) w w ∧ a' 29 = ii w ∧ a' 30 = ii k ∧
      A' = A ++ [.row (((leB n w).take k ++ List.replicate (w - k) (0 : UInt8)).map by8) .own 1 true]) (fun a' _ => w - (iv (a' 30)).toNat) ?_ ?_
  · refine ⟨0, by omega, ?_⟩
    simp only [stepS, reduceIte, Nat.reduceBEq, Nat.reduceEqDiff, tupleOf, i0]
    simp
  · rintro a A' ⟨k, hk, g0, g6, g29, g30, rfl⟩
    rcases Nat.lt_or_ge k w with hlt | hge
    · have hc : ((k : Int) < (w : Int)) = True := by simp; omega
      have d1 : binA .mul (ii 8) (ii k) = some (ii ((8 * k : Nat) : Int)) := mul_ii 8 k (by omega)
      have d2 := shr_ii n .i64 (8 * k) (by omega)
      have d3 := iaddr1 (A := A ++ [.row (((leB n w).take k ++ List.replicate (w - k) (0 : UInt8)).map by8) .own 1 true]) (i := A.length) (o := 0) (c := w) hlt
      have d4 := store_by8 (o := 0 + k) (x := UInt8.ofNat (n / 2 ^ (8 * k))) (get_last A (.row (((leB n w).take k ++ List.replicate (w - k) (0 : UInt8)).map by8) .own 1 true)) (by simp [leB_length]; omega)
      simp only [stepS, reduceIte, Nat.reduceBEq, Nat.reduceEqDiff, tupleOf, g0, g6, g29, g30, binA_lss, hc, d1, d2, conv_u8_ii, d3, d4, set_last, binA_add1 k (by omega)]
      refine ⟨⟨k + 1, by omega, rfl, ?_⟩, by omega⟩
      rw [Nat.zero_add, fill_step (leB n w) 0 _ (leB_length n w) hlt]
      simp [leB, hlt]
    · have hc : ((k : Int) < (w : Int)) = False := by simp; omega
      have hkw : k = w := by omega
      subst hkw
      simp only [stepS, reduceIte, Nat.reduceBEq, Nat.reduceEqDiff, tupleOf, g0, g6, g29, g30, binA_lss, hc]
      have e : (leB n k).take k ++ List.replicate (k - k) (0 : UInt8) = leB n k := by
        rw [Nat.sub_self, List.replicate_zero, List.append_nil, List.take_of_length_le (by rw [leB_length]; exact Nat.le_refl _)]
      rw [e]
      simpa using hq

theorem num_Fix_own {A : AH} {n w : Nat} {Q : Value → AH → Prop} (h1 : 1 ≤ w) (h4 : w ≤ 4) (hn : n ≤ 2147483647) (hw : n / 2 ^ (8 * w) = 0)
    (hq : ∀ v A', Le A A' → OwnB A.length A' v (leB n w) → Q (.tuple #[v, ii 0]) A') : ACalls 1 Tryd.prog num_Fix [ii n, ii w] Q A :=
  num_Fix_ok h1 h4 hn hw (hq _ _ (.push _ _) (own_row (get_last _ _) (leB_length n w).symm (Nat.le_refl _) (Nat.le_refl _)))

end Go.AS.C


namespace Go.AS.C
open Go Go.Proofs
set_option linter.unusedVariables false
set_option linter.unusedSimpArgs false
set_option maxRecDepth 10000

theorem num_Fix_spec {A : AH} {n w : Int} {Q : Value → AH → Prop} (hok : ∀ z t A', fixF n w = some z → Le A A' → OwnB A.length A' t z → Q (.tuple #[t, ii 0]) A') (hbad : fixF n w = none → Q (.tuple #[.slice none 0 0, ii 1]) A) :
    ACalls 1 Tryd.prog num_Fix [ii n, ii w] Q A := by
  by_cases h : (1 ≤ w ∧ w ≤ 4) ∧ (0 ≤ n ∧ n ≤ 2147483647) ∧ n.toNat / 256 ^ w.toNat = 0
  · obtain ⟨⟨h1, h4⟩, ⟨h0, hm⟩, hz⟩ := h
    have e : fixF n w = some (leB n.toNat w.toNat) := by unfold fixF; rw [if_pos ⟨⟨h1, h4⟩, ⟨h0, hm⟩, hz⟩]
    obtain ⟨m, rfl⟩ : ∃ m : Nat, n = m := ⟨n.toNat, by omega⟩
    obtain ⟨k, rfl⟩ : ∃ k : Nat, w = k := ⟨w.toNat, by omega⟩
    simp only [Int.toNat_natCast] at hz e
    exact num_Fix_own (by omega) (by omega) (by omega) (by rw [pow256]; exact hz) (fun v A' h1 h2 => hok _ _ _ e h1 h2)
  · have e : fixF n w = none := by unfold fixF; rw [if_neg h]
    refine ACalls.of_fits mixed fits_num_Fix rfl ?_
    unfold ic_num_Fix
    have i0 : initA [ii n, ii w] 0 = ii n := rfl
    have i1 : initA [ii n, ii w] 1 = ii w := rfl
    generalize initA [ii n, ii w] = a at i0 i1
    by_cases h1 : w < 1
    · simp (maxSteps := 1000000) (disch := omega) only [stepS, reduceIte, Nat.reduceBEq, Nat.reduceEqDiff, tupleOf, stepT, i0, i1]
      exact hbad e
    · by_cases h4 : w > 4
      · simp (maxSteps := 1000000) (disch := omega) only [stepS, reduceIte, Nat.reduceBEq, Nat.reduceEqDiff, tupleOf, stepT, i0, i1]
        exact hbad e
      · simp (maxSteps := 1000000) (disch := omega) only [stepS, reduceIte, Nat.reduceBEq, Nat.reduceEqDiff, tupleOf, stepT, i0, i1]
        refine num_is_spec ?_
        by_cases h2 : 0 ≤ n ∧ n ≤ 2147483647
        · obtain ⟨m, rfl⟩ : ∃ m : Nat, n = m := ⟨n.toNat, by omega⟩
          obtain ⟨k, rfl⟩ : ∃ k : Nat, w = k := ⟨w.toNat, by omega⟩
          have hz : m / 2 ^ (8 * k) ≠ 0 := by
            intro hz
            refine h ⟨⟨by omega, by omega⟩, ⟨by omega, by omega⟩, ?_⟩
            rw [pow256] at hz
            simpa using hz
          have c5 : binA .shr (ii m) (.int .i64 (8 * (k : Int))) = some (ii ((m / 2 ^ (8 * k) : Nat) : Int)) := shr_ii m .i64 (8 * k) (by omega)
          have hzz : 0 < m / 2 ^ (8 * k) := Nat.pos_of_ne_zero hz
          generalize m / 2 ^ (8 * k) = q at c5 hzz
          simp (maxSteps := 1000000) (disch := omega) only [stepS, reduceIte, Nat.reduceBEq, Nat.reduceEqDiff, tupleOf, stepT, i0, i1, c5]
          exact hbad e
        · simp (maxSteps := 1000000) (disch := omega) only [stepS, reduceIte, Nat.reduceBEq, Nat.reduceEqDiff, tupleOf, stepT, i0, i1]
          exact hbad e

theorem leB_succ (n w : Nat) : leB n (w + 1) = leB n w ++ [UInt8.ofNat (n / 256 ^ w)] := by
  unfold leB
  rw [List.range_succ, List.map_append, List.map_singleton, pow256]
theorem ref01_Fix_spec {A : AH} {n w : Int} {Q : Value → AH → Prop} (hok : ∀ z t A', fixF n w = some z → Le A A' → OwnB A.length A' t z → Q (.tuple #[t, ii 0]) A') (hbad : fixF n w = none → ∀ A', Le A A' → Q (.tuple #[.slice none 0 0, ii 1]) A') :
    ACalls 1 Tryd.prog chantryref01_Fix [ii n, ii w] Q A := by
  refine ACalls.of_fits mixed fits_chantryref01_Fix rfl ?_
  unfold ic_chantryref01_Fix
  have i0 : initA [ii n, ii w] 0 = ii n := rfl
  have i1 : initA [ii n, ii w] 1 = ii w := rfl
  generalize initA [ii n, ii w] = a at i0 i1
  by_cases h : (1 ≤ w ∧ w ≤ 4) ∧ (0 ≤ n ∧ n ≤ 2147483647)
  · obtain ⟨m, rfl⟩ : ∃ m : Nat, n = m := ⟨n.toNat, by omega⟩
    obtain ⟨k, rfl⟩ : ∃ k : Nat, w = k := ⟨w.toNat, by omega⟩
    simp (maxSteps := 1000000) (disch := omega) only [stepS, reduceIte, Nat.reduceBEq, Nat.reduceEqDiff, tupleOf, stepT, i0, i1]
    refine W_loop (fun a' B => ∃ j : Nat, j ≤ k ∧ Le A B ∧ a' 1 = ii k ∧ a' 0 = ii (m / 256 ^ j : Nat) ∧ a' 7 = ii j ∧ OwnB A.length B (a' 6) (leB m j)) (fun a' _ => k - (iv (a' 7)).toNat) ?_ ?_
    · refine ⟨0, by omega, .refl _, ?_⟩
      simp (maxSteps := 1000000) (disch := omega) only [stepS, reduceIte, Nat.reduceBEq, Nat.reduceEqDiff, tupleOf, stepT, i0, i1]
      exact ⟨by simp, rfl, OwnB.nil _ _⟩
    · rintro a2 B ⟨j, hj, hle, g1, g0, g7, g6⟩
      have hdm : m / 256 ^ j ≤ m := Nat.div_le_self _ _
      rcases Nat.lt_or_ge j k with hlt | hge
      · generalize hq0 : m / 256 ^ j = q at g0 hdm
        have e8 : ∀ A, sConv A .u8 (.int .i64 ((q : Int) % 256)) = some (by8 (UInt8.ofNat q), A) := fun A => by
          have := conv_u8_ii A (q % 256)
          rw [show UInt8.ofNat (q % 256) = UInt8.ofNat q from u8eq (by omega)] at this
          exact this
        have l1 := litB B [UInt8.ofNat q] (len := 1) (ps := [(0, 1, by8 (UInt8.ofNat q))]) rfl rfl
        have k1 : Le B (B ++ [.row (List.map by8 [UInt8.ofNat q]) .own 1 true]) := .push _ _
        obtain ⟨v2, A2, p1, p2, p3, _⟩ := app_bytes (hle.trans k1) (OwnS.le g6 k1) (byt_last B [UInt8.ofNat q]) (by simp [leB_length]; omega)
        rw [List.length_singleton] at p1
        simp only [List.map_cons, List.map_nil, List.length_singleton] at l1 p1
        simp (maxSteps := 1000000) (disch := omega) only [stepS, reduceIte, Nat.reduceBEq, Nat.reduceEqDiff, tupleOf, stepT, g0, g1, g7, e8, l1, p1]
        refine ⟨⟨j + 1, by omega, p2, ?_, rfl, ?_⟩, by omega⟩
        · rw [Nat.pow_succ, ← Nat.div_div_eq_div_mul, hq0]
          rfl
        · rw [leB_succ, hq0]
          exact p3
      · have hjk : j = k := by omega
        subst hjk
        generalize hq0 : m / 256 ^ j = q at g0 hdm
        by_cases hz : q = 0
        · simp (maxSteps := 1000000) (disch := omega) only [stepS, reduceIte, Nat.reduceBEq, Nat.reduceEqDiff, tupleOf, stepT, g0, g1, g7]
          have e : fixF m j = some (leB m j) := by
            unfold fixF
            rw [if_pos ⟨⟨by omega, by omega⟩, ⟨by omega, by omega⟩, by simpa [hq0] using hz⟩]
            rfl
          exact hok _ _ _ e hle g6
        · simp (maxSteps := 1000000) (disch := omega) only [stepS, reduceIte, Nat.reduceBEq, Nat.reduceEqDiff, tupleOf, stepT, g0, g1, g7]
          refine hbad ?_ _ hle
          unfold fixF
          rw [if_neg]
          rintro ⟨_, _, h3⟩
          simp [hq0] at h3
          omega
  · have e : fixF n w = none := by
      unfold fixF
      rw [if_neg (fun hc => h ⟨hc.1, hc.2.1⟩)]
    by_cases h1 : w < 1
    · simp (maxSteps := 1000000) (disch := omega) only [stepS, reduceIte, Nat.reduceBEq, Nat.reduceEqDiff, tupleOf, stepT, i0, i1]
      exact hbad e _ (.refl _)
    · by_cases h4 : w > 4
      · simp (maxSteps := 1000000) (disch := omega) only [stepS, reduceIte, Nat.reduceBEq, Nat.reduceEqDiff, tupleOf, stepT, i0, i1]
        exact hbad e _ (.refl _)
      · by_cases h0 : n < 0
        · simp (maxSteps := 1000000) (disch := omega) only [stepS, reduceIte, Nat.reduceBEq, Nat.reduceEqDiff, tupleOf, stepT, i0, i1]
          exact hbad e _ (.refl _)
        · simp (maxSteps := 1000000) (disch := omega) only [stepS, reduceIte, Nat.reduceBEq, Nat.reduceEqDiff, tupleOf, stepT, i0, i1]
          exact hbad e _ (.refl _)
end Go.AS.C
