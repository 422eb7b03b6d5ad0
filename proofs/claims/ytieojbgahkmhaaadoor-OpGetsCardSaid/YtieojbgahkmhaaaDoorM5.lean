/- Lemmas for the proof of a given statement; no conditions. -/
import Derived.Test.YtieojbgahkmhaaaDoorM4
import Derived.Lib.ItoaMem
import Derived.Lib.ItoaLen
import Derived.Sort.Grow
import Derived.Sort.EncStr
import Derived.Lib.Join
import Derived.Below
import Derived.Shelf.Strings.FuncGrows
import Derived.Shelf.Strings.Builder1
import Derived.Shelf.Strings.Builder2
import Derived.Shelf.Strings.OnBuilder
import Derived.Shelf.Strings.BuilderF
import Derived.Shelf.Strings.BuilderK
import Derived.Shelf.Strings.Builder2Cap
import Derived.Shelf.Strconv.Itoa0
import Derived.Shelf.Strconv.Itoa1
import Derived.Shelf.LaysM
import Derived.Shelf.Strconv.Itoa2
import Derived.Shelf.Strconv.Itoa3
import Derived.Shelf.GgClosure.StringsIndexFunc
import Derived.Shelf.GgClosure.StringsIndexFuncTop
import Derived.Lib.LaidTab
set_option maxHeartbeats 1000000

namespace Go.AS.C
open Go Go.Proofs
set_option linter.unusedVariables false
set_option linter.unusedSimpArgs false
set_option maxRecDepth 10000

/-! Operations, as plain data. -/
theorem textC_text {t : List UInt8} (h : t.length ≤ 262144) (r : List UInt8) : textC (some (textN t ++ r)) = (some r, t) := by
  unfold textC textN
  rw [List.append_assoc]
  simp only [getN_put (n := t.length) (by omega), List.drop_left]
  rw [if_pos h]
  unfold takeC
  simp only [Int.toNat_natCast]
  rw [if_pos ⟨by omega, by rw [List.length_append]; omega⟩, List.drop_left, List.take_left]
theorem textC_ok {l l1 t : List UInt8} (h : textC (some l) = (some l1, t)) : l = textN t ++ l1 := by
  unfold textC at h
  simp only at h
  split at h
  · rename_i n k hg
    obtain ⟨_, _, _, _, h5⟩ := getN_ok hg
    split at h
    · unfold takeC at h
      simp only [Int.toNat_natCast] at h
      split at h
      · rename_i hn
        injection h with h1 h2
        injection h1 with h1
        subst h1 h2
        have ht : ((l.drop k).take n).length = n := by rw [List.length_take]; omega
        unfold textN
        rw [ht, h5, List.append_assoc, List.take_append_drop, List.take_append_drop]
      · injection h with h1 _
        cases h1
    · injection h with h1 _
      cases h1
  · injection h with h1 _
    cases h1
theorem takeC_all {l r : List UInt8} {n : Nat} (h : l.length = n) : takeC (some (l ++ r)) n = (some r, l) := by
  subst h
  unfold takeC
  simp only [Int.toNat_natCast]
  rw [if_pos ⟨by omega, by rw [List.length_append]; omega⟩, List.drop_left, List.take_left]
theorem takeC_ok {l r t : List UInt8} {n : Nat} (h : takeC (some l) n = (some r, t)) : l = t ++ r ∧ t.length = n := by
  unfold takeC at h
  simp only [Int.toNat_natCast] at h
  split at h
  · injection h with h1 h2
    injection h1 with h1
    subst h1 h2
    exact ⟨(List.take_append_drop ..).symm, by rw [List.length_take]; omega⟩
  · injection h with h1 _; cases h1
theorem leB_leN : ∀ l : List UInt8, leB (leN l) l.length = l
  | [] => rfl
  | b :: r => by
    have e : leB (leN (b :: r)) (r.length + 1) = UInt8.ofNat (leN (b :: r)) :: leB (leN (b :: r) / 256) r.length := by
      unfold leB
      rw [List.range_succ_eq_map, List.map_cons, List.map_map]
      congr 1
      · simp
      apply List.map_congr_left
      intro k _
      show UInt8.ofNat (_ / 2 ^ (8 * (k + 1))) = UInt8.ofNat (_ / 256 / 2 ^ (8 * k))
      rw [Nat.div_div_eq_div_mul, show 2 ^ (8 * (k + 1)) = 256 * 2 ^ (8 * k) by rw [Nat.mul_add, Nat.pow_add, Nat.mul_comm]]
    have hb := b.toNat_lt
    rw [List.length_cons, e]
    simp only [leN]
    rw [show (b.toNat + 256 * leN r) / 256 = leN r by omega, leB_leN r]
    congr 1
    apply UInt8.toNat_inj.1
    rw [UInt8.toNat_ofNat']
    omega

structure OpV where
  k : Int
  name : ByteArray
  text : ByteArray
  n : Int
  place : ByteArray
  deriving DecidableEq
abbrev bA (l : List UInt8) : ByteArray := ⟨l.toArray⟩
abbrev e0 : ByteArray := ⟨#[]⟩
theorem bA_bl (s : ByteArray) : bA (bl s) = s := by cases s; rfl
theorem bl_bA (l : List UInt8) : bl (bA l) = l := rfl
theorem bl_size (s : ByteArray) : (bl s).length = s.size := byt_str
def OpV.cs (o : OpV) : List Value := [ii o.k, .string o.name, .string o.text, ii o.n, .string o.place]
abbrev OpV.v (o : OpV) : Value := .agg o.cs.toArray
def OpV.zero : OpV := ⟨0, e0, e0, 0, e0⟩

/-- An operation that a machine holds. -/
def OpV.Fin (o : OpV) : Prop := (-9223372036854775808 ≤ o.k ∧ o.k < 9223372036854775808) ∧ (-9223372036854775808 ≤ o.n ∧ o.n < 9223372036854775808) ∧ o.name.size < 2 ^ 50 ∧ o.text.size < 2 ^ 50 ∧ o.place.size < 2 ^ 50
def hK (k : Int) : Bool := decide (1 ≤ k ∧ k ≤ 7)
def hN (k : Int) : Bool := decide (1 ≤ k ∧ k ≤ 6)
def hT (k : Int) : Bool := decide (2 ≤ k ∧ k ≤ 5)
def hI (k : Int) : Bool := decide (k = 1)
def hA (k : Int) : Bool := decide (5 ≤ k ∧ k ≤ 6)
def hasO (k : Int) : Int := if k = 1 then 5 else if k = 2 ∨ k = 3 ∨ k = 4 then 3 else if k = 5 then 11 else if k = 6 then 9 else if k = 7 then 0 else -1
def nameB (b : UInt8) : Bool := decide (97 ≤ b.toNat ∧ b.toNat ≤ 122 ∨ 48 ≤ b.toNat ∧ b.toNat ≤ 57 ∨ b.toNat = 45)
def nameOk (s : ByteArray) : Bool := (bl s).all nameB && decide (1 ≤ s.size ∧ s.size ≤ 12)
def opOk (o : OpV) : Bool := hK o.k && (if hN o.k then nameOk o.name else decide (o.name = e0)) && decide (o.text.size ≤ 48) && (hT o.k || decide (o.text = e0)) && (hI o.k || decide (o.n = 0)) && (hA o.k || decide (o.place = e0)) &&
  decide (-2147483647 ≤ o.n ∧ o.n ≤ 2147483647) && (decide (o.place = e0) || decide (o.place.size = 32)) && !(decide (o.k = 5) && decide (o.text = e0)) && !(decide (o.k = 6) && decide (o.place = e0))
def bareO (o : OpV) : OpV := ⟨o.k, if hN o.k then o.name else e0, if hT o.k then o.text else e0, if hI o.k then o.n else 0, if hA o.k then o.place else e0⟩
def numO (n : Int) : List UInt8 := (if n < 0 then 1 else 0) :: leB n.natAbs 4
/-- An operation's bytes. -/
def putO (o : OpV) : List UInt8 := UInt8.ofNat o.k.toNat :: ((if hN o.k then textN (bl o.name) else []) ++ ((if hT o.k then textN (bl o.text) else []) ++ ((if hI o.k then numO o.n else []) ++ ((if o.k = 5 then [if o.place = e0 then 0 else 1] else []) ++ bl o.place))))

def tIf (b : Bool) (st : CurS) : CurS × List UInt8 := if b then textC st else (st, [])
def numS (st : CurS) : CurS × Int × Bool :=
  ((takeC (byteC st).1 4).1, if 1 < (byteC st).2 ∨ ((byteC st).2 = 1 ∧ (unfixN (takeC (byteC st).1 4).2).1 = 0) then (0, false) else (((unfixN (takeC (byteC st).1 4).2).1 : Int) * (1 - 2 * ((byteC st).2 : Int)), decide ((unfixN (takeC (byteC st).1 4).2).2 = 0)))
def nIf (b : Bool) (st : CurS) : CurS × Int × Bool := if b then numS st else (st, 0, true)
def plS (k : Int) (st : CurS) : CurS × List UInt8 × Bool :=
  if k = 5 then (if (byteC st).2 = 0 then ((byteC st).1, [], true) else if (byteC st).2 = 1 then ((takeC (byteC st).1 32).1, (takeC (byteC st).1 32).2, true) else ((byteC st).1, [], false)) else ((takeC st 32).1, (takeC st 32).2, true)
def pIf (b : Bool) (k : Int) (st : CurS) : CurS × List UInt8 × Bool := if b then plS k st else (st, [], true)
/-- What op.Get takes, whether numbers and places are right. -/
def parseP (st0 : CurS) : OpV × CurS × Bool :=
  let k : Int := (byteC st0).2
  let s1 := tIf (hN k) (byteC st0).1
  let s2 := tIf (hT k) s1.1
  let s3 := nIf (hI k) s2.1
  let s4 := pIf (hA k) k s3.1
  (⟨k, bA s1.2, bA s2.2, s3.2.1, bA s4.2.1⟩, s4.1, s3.2.2 && s4.2.2)
def getP (bs : List UInt8) : Option (OpV × Nat) :=
  if (parseP (some bs)).2.1.isSome && (parseP (some bs)).2.2 && opOk (parseP (some bs)).1 then some ((parseP (some bs)).1, bs.length - leftC (parseP (some bs)).2.1) else none
def refNumS (st : CurS) : CurS × Int :=
  ((takeC (byteC st).1 4).1, if (byteC st).2 = 1 then - (if (takeC (byteC st).1 4).2.length = 4 then ((unfixN (takeC (byteC st).1 4).2).1 : Int) else 0) else (if (takeC (byteC st).1 4).2.length = 4 then ((unfixN (takeC (byteC st).1 4).2).1 : Int) else 0))
def rnIf (b : Bool) (st : CurS) : CurS × Int := if b then refNumS st else (st, 0)
def refIs (k : Int) (st : CurS) : CurS × Nat := if hA k = true ∧ k = 5 then byteC st else (st, 1)
def rpIf (b : Bool) (p : CurS × Nat) : CurS × List UInt8 := if b = true ∧ p.2 = 1 then takeC p.1 32 else (p.1, [])
def parseR (st0 : CurS) : OpV × CurS :=
  let k : Int := (byteC st0).2
  let s1 := tIf (hN k) (byteC st0).1
  let s2 := tIf (hT k) s1.1
  let s3 := rnIf (hI k) s2.1
  let s4 := rpIf (hA k) (refIs k s3.1)
  (⟨k, bA s1.2, bA s2.2, s3.2, bA s4.2⟩, s4.1)
def getR (bs : List UInt8) : Option (OpV × Nat) :=
  if (parseR (some bs)).2.isSome && opOk (parseR (some bs)).1 && decide (putO (parseR (some bs)).1 = bs.take (bs.length - leftC (parseR (some bs)).2)) then some ((parseR (some bs)).1, bs.length - leftC (parseR (some bs)).2) else none

theorem opOk_iff {o : OpV} : opOk o = true ↔ hK o.k = true ∧ (if hN o.k then nameOk o.name = true else o.name = e0) ∧ o.text.size ≤ 48 ∧ (hT o.k = true ∨ o.text = e0) ∧ (hI o.k = true ∨ o.n = 0) ∧ (hA o.k = true ∨ o.place = e0) ∧
    (-2147483647 ≤ o.n ∧ o.n ≤ 2147483647) ∧ (o.place = e0 ∨ o.place.size = 32) ∧ ¬ (o.k = 5 ∧ o.text = e0) ∧ ¬ (o.k = 6 ∧ o.place = e0) := by
  unfold opOk
  simp only [Bool.and_eq_true, Bool.or_eq_true, decide_eq_true_eq, Bool.not_eq_true', Bool.and_eq_false_imp, decide_eq_false_iff_not, not_and, and_assoc]
  cases hN o.k <;> simp
theorem nameOk_size {s : ByteArray} (h : nameOk s = true) : 1 ≤ s.size ∧ s.size ≤ 12 := by
  unfold nameOk at h
  rw [Bool.and_eq_true, decide_eq_true_eq] at h
  exact h.2
theorem byteC_cons (b : UInt8) (r : List UInt8) : byteC (some (b :: r)) = (some r, b.toNat) := rfl
theorem numS_num {n : Int} (h : -2147483647 ≤ n ∧ n ≤ 2147483647) (r : List UInt8) : numS (some (numO n ++ r)) = (some r, n, true) := by
  have hu : unfixN (leB n.natAbs 4) = (n.natAbs, 0) := by
    unfold unfixN
    rw [leB_length, if_neg (by omega), leN_leB _ _ (by omega), if_pos (by omega)]
  unfold numS numO
  rw [List.cons_append, byteC_cons]
  have e : takeC (some (leB n.natAbs 4 ++ r)) (4 : Int) = (some r, leB n.natAbs 4) := takeC_all (n := 4) (leB_length _ _)
  simp only [e, hu]
  by_cases hn : n < 0
  · rw [if_pos hn]
    have e1 : (1 : UInt8).toNat = 1 := rfl
    rw [e1, if_neg (by omega)]
    simp
    omega
  · rw [if_neg hn]
    have e1 : (0 : UInt8).toNat = 0 := rfl
    rw [e1, if_neg (by omega)]
    simp
    omega
theorem refNumS_num {n : Int} (h : -2147483647 ≤ n ∧ n ≤ 2147483647) (r : List UInt8) : refNumS (some (numO n ++ r)) = (some r, n) := by
  have hu : unfixN (leB n.natAbs 4) = (n.natAbs, 0) := by
    unfold unfixN
    rw [leB_length, if_neg (by omega), leN_leB _ _ (by omega), if_pos (by omega)]
  unfold refNumS numO
  rw [List.cons_append, byteC_cons]
  have e : takeC (some (leB n.natAbs 4 ++ r)) (4 : Int) = (some r, leB n.natAbs 4) := takeC_all (n := 4) (leB_length _ _)
  simp only [e, hu, leB_length, if_true]
  by_cases hn : n < 0
  · rw [if_pos hn]
    have e1 : (1 : UInt8).toNat = 1 := rfl
    rw [e1, if_pos rfl]
    congr 1
    omega
  · rw [if_neg hn]
    have e1 : (0 : UInt8).toNat = 0 := rfl
    rw [e1, if_neg (by omega)]
    congr 1
    omega
theorem numS_ok {l r : List UInt8} {n : Int} (h : numS (some l) = (some r, n, true)) : l = numO n ++ r := by
  unfold numS at h
  cases l with
  | nil => injection h with h1 _; cases h1
  | cons s l =>
    rw [byteC_cons] at h
    simp only at h
    cases ht : takeC (some l) 4 with
    | mk st t =>
      rw [ht] at h
      simp only at h
      cases st with
      | none => injection h with h1 _; cases h1
      | some r' =>
        obtain ⟨e1, e2⟩ := takeC_ok (n := 4) ht
        injection h with h1 h2
        injection h1 with h1
        subst h1
        split at h2
        · injection h2 with _ h2; cases h2
        · rename_i hc
          injection h2 with h2 h3
          rw [decide_eq_true_eq] at h3
          have hu : unfixN t = (leN t, 0) := by
            unfold unfixN at h3 ⊢
            rw [if_neg (by omega)] at h3 ⊢
            split at h3
            · rename_i h; rw [if_pos h]
            · cases h3
          rw [hu] at h2 hc
          simp only at h2 hc
          have hl := leB_leN t
          rw [e2] at hl
          unfold numO
          have hs := s.toNat_lt
          rw [List.cons_append, e1]
          rcases Nat.lt_or_ge s.toNat 1 with h0 | h0
          · have e3 : s.toNat = 0 := by omega
            have e4 : n = leN t := by rw [← h2, e3]; simp
            have e5 : s = 0 := UInt8.toNat_inj.1 e3
            rw [if_neg (by omega), e4, Int.natAbs_natCast, hl, e5]
          · have e3 : s.toNat = 1 := by omega
            have e4 : n = -(leN t : Int) := by rw [← h2, e3]; simp
            have e5 : s = 1 := UInt8.toNat_inj.1 e3
            rw [if_pos (by omega), e4, Int.natAbs_neg, Int.natAbs_natCast, hl, e5]
theorem plS_five {s : ByteArray} (h : s = e0 ∨ s.size = 32) (r : List UInt8) : plS 5 (some ((if s = e0 then (0 : UInt8) else 1) :: (bl s ++ r))) = (some r, bl s, true) := by
  unfold plS
  rw [if_pos rfl, byteC_cons]
  by_cases h0 : s = e0
  · rw [if_pos h0, h0]; rfl
  · rw [if_neg h0]
    have e : takeC (some (bl s ++ r)) (32 : Int) = (some r, bl s) := takeC_all (n := 32) (by rw [bl_size]; exact h.resolve_left h0)
    simp only [e]; rfl
theorem opKind {k : Int} (h : hK k = true) : k = 1 ∨ k = 2 ∨ k = 3 ∨ k = 4 ∨ k = 5 ∨ k = 6 ∨ k = 7 := by
  unfold hK at h
  rw [decide_eq_true_eq] at h
  omega
theorem parseP_put {o : OpV} (h : opOk o = true) (r : List UInt8) : parseP (some (putO o ++ r)) = (o, some r, true) := by
  obtain ⟨h1, h2, h3, h4, h5, h6, h7, h8, h9, h10⟩ := opOk_iff.1 h
  obtain ⟨k, name, text, n, place⟩ := o
  simp only at h1 h2 h3 h4 h5 h6 h7 h8 h9 h10
  have ht := fun r => textC_text (t := bl text) (by rw [bl_size]; omega) r
  have hp6 : k = 6 → ∀ r, takeC (some (bl place ++ r)) (32 : Int) = (some r, bl place) := fun hk r => takeC_all (n := 32) (by rw [bl_size]; exact h8.resolve_left (fun h => h10 ⟨hk, h⟩))
  have hp5 := fun r => plS_five h8 r
  have hnn := fun r => numS_num h7 r
  have hname : hN k = true → ∀ r, textC (some (textN (bl name) ++ r)) = (some r, bl name) := fun hk r => textC_text (by rw [hk, if_pos rfl] at h2; have := nameOk_size h2; rw [bl_size]; omega) r
  unfold parseP putO
  rcases opKind h1 with rfl | rfl | rfl | rfl | rfl | rfl | rfl
  all_goals (
    rw [List.cons_append, byteC_cons]
    simp only [hN, hT, hI, hA, tIf, nIf, pIf, decide_true, decide_false, if_true, if_false, Bool.false_eq_true, List.append_assoc, List.nil_append, Int.reduceToNat, Int.reduceEq, Int.reduceLE, and_true, true_and, false_and, and_false, List.cons_append] at hname h2 h4 h5 h6 h9 h10 ⊢)
  · obtain rfl := h4.resolve_left (by simp)
    obtain rfl := h6.resolve_left (by simp)
    simp [hname, hnn, bA_bl]
  · obtain rfl := h5.resolve_left (by simp)
    obtain rfl := h6.resolve_left (by simp)
    simp [hname, ht, bA_bl]
  · obtain rfl := h5.resolve_left (by simp)
    obtain rfl := h6.resolve_left (by simp)
    simp [hname, ht, bA_bl]
  · obtain rfl := h5.resolve_left (by simp)
    obtain rfl := h6.resolve_left (by simp)
    simp [hname, ht, bA_bl]
  · obtain rfl := h5.resolve_left (by simp)
    simp [hname, ht, hp5, bA_bl]
  · obtain rfl := h4.resolve_left (by simp)
    obtain rfl := h5.resolve_left (by simp)
    simp [hname, plS, hp6, bA_bl]
  · obtain rfl := h4.resolve_left (by simp)
    obtain rfl := h5.resolve_left (by simp)
    obtain rfl := h6.resolve_left (by simp)
    subst h2
    simp
theorem rp_five {s : ByteArray} (h : s = e0 ∨ s.size = 32) (r : List UInt8) : rpIf true (refIs 5 (some ((if s = e0 then (0 : UInt8) else 1) :: (bl s ++ r)))) = (some r, bl s) := by
  unfold refIs
  rw [if_pos ⟨rfl, rfl⟩, byteC_cons]
  unfold rpIf
  by_cases h0 : s = e0
  · rw [if_pos h0, h0]; rfl
  · rw [if_neg h0]
    have e : takeC (some (bl s ++ r)) (32 : Int) = (some r, bl s) := takeC_all (n := 32) (by rw [bl_size]; exact h.resolve_left h0)
    rw [if_pos ⟨rfl, rfl⟩]
    exact e
theorem parseR_put {o : OpV} (h : opOk o = true) (r : List UInt8) : parseR (some (putO o ++ r)) = (o, some r) := by
  obtain ⟨h1, h2, h3, h4, h5, h6, h7, h8, h9, h10⟩ := opOk_iff.1 h
  obtain ⟨k, name, text, n, place⟩ := o
  simp only at h1 h2 h3 h4 h5 h6 h7 h8 h9 h10
  have ht := fun r => textC_text (t := bl text) (by rw [bl_size]; omega) r
  have hp6 : k = 6 → ∀ r, takeC (some (bl place ++ r)) (32 : Int) = (some r, bl place) := fun hk r => takeC_all (n := 32) (by rw [bl_size]; exact h8.resolve_left (fun h => h10 ⟨hk, h⟩))
  have hp5 := fun r => rp_five h8 r
  have hnn := fun r => refNumS_num h7 r
  have hname : hN k = true → ∀ r, textC (some (textN (bl name) ++ r)) = (some r, bl name) := fun hk r => textC_text (by rw [hk, if_pos rfl] at h2; have := nameOk_size h2; rw [bl_size]; omega) r
  unfold parseR putO
  rcases opKind h1 with rfl | rfl | rfl | rfl | rfl | rfl | rfl
  all_goals (
    rw [List.cons_append, byteC_cons]
    simp only [hN, hT, hI, hA, tIf, rnIf, decide_true, decide_false, if_true, if_false, Bool.false_eq_true, List.append_assoc, List.nil_append, Int.reduceToNat, Int.reduceEq, Int.reduceLE, and_true, true_and, false_and, and_false, List.cons_append] at hname h2 h4 h5 h6 h9 h10 ⊢)
  · obtain rfl := h4.resolve_left (by simp)
    obtain rfl := h6.resolve_left (by simp)
    simp [hname, hnn, bA_bl, rpIf, refIs, hA]
  · obtain rfl := h5.resolve_left (by simp)
    obtain rfl := h6.resolve_left (by simp)
    simp [hname, ht, bA_bl, rpIf, refIs, hA]
  · obtain rfl := h5.resolve_left (by simp)
    obtain rfl := h6.resolve_left (by simp)
    simp [hname, ht, bA_bl, rpIf, refIs, hA]
  · obtain rfl := h5.resolve_left (by simp)
    obtain rfl := h6.resolve_left (by simp)
    simp [hname, ht, bA_bl, rpIf, refIs, hA]
  · obtain rfl := h5.resolve_left (by simp)
    simp [hname, ht, hp5, bA_bl]
  · obtain rfl := h4.resolve_left (by simp)
    obtain rfl := h5.resolve_left (by simp)
    simp [hname, hp6, bA_bl, rpIf, refIs, hA]
  · obtain rfl := h4.resolve_left (by simp)
    obtain rfl := h5.resolve_left (by simp)
    obtain rfl := h6.resolve_left (by simp)
    subst h2
    simp [rpIf, refIs, hA]
theorem tIf_none {b : Bool} {r : List UInt8} {st : CurS} {t : List UInt8} (h : tIf b st = (some r, t)) : ∃ l, st = some l ∧ l = (if b = true then textN t else []) ++ r ∧ (b = false → t = []) := by
  cases st with
  | none => unfold tIf at h; cases b <;> simp [textC] at h
  | some l =>
    refine ⟨l, rfl, ?_⟩
    unfold tIf at h
    cases b with
    | true => exact ⟨by simpa using textC_ok h, fun h => by cases h⟩
    | false =>
      simp only [Bool.false_eq_true, if_false] at h
      injection h with h1 h2
      injection h1 with h1
      subst h1 h2
      exact ⟨by simp, fun _ => rfl⟩
theorem nIf_ok {b : Bool} {r : List UInt8} {st : CurS} {n : Int} (h : nIf b st = (some r, n, true)) : ∃ l, st = some l ∧ l = (if b = true then numO n else []) ++ r ∧ (b = false → n = 0) := by
  cases st with
  | none => unfold nIf at h; cases b <;> simp [numS, byteC, takeC] at h
  | some l =>
    refine ⟨l, rfl, ?_⟩
    unfold nIf at h
    cases b with
    | true => exact ⟨by simpa using numS_ok h, fun h => by cases h⟩
    | false =>
      simp only [Bool.false_eq_true, if_false] at h
      injection h with h1 h2
      injection h1 with h1
      injection h2 with h2 _
      subst h1 h2
      exact ⟨by simp, fun _ => rfl⟩
theorem plS_ok {k : Int} {r l t : List UInt8} (h : plS k (some l) = (some r, t, true)) : l = (if k = 5 then [if bA t = e0 then (0 : UInt8) else 1] else []) ++ t ++ r := by
  unfold plS at h
  split at h
  · rename_i hk
    rw [if_pos hk]
    cases l with
    | nil => simp [byteC] at h
    | cons s l =>
      rw [byteC_cons] at h
      simp only at h
      split at h
      · rename_i h0
        injection h with h1 h2
        injection h1 with h1
        injection h2 with h2 _
        subst h1 h2
        have : s = 0 := UInt8.toNat_inj.1 h0
        subst this
        rfl
      · split at h
        · rename_i h0 h1
          cases ht : takeC (some l) 32 with
          | mk st t' =>
            rw [ht] at h
            simp only at h
            injection h with h2 h3
            injection h3 with h3 _
            subst h2 h3
            obtain ⟨e1, e2⟩ := takeC_ok (n := 32) ht
            have : s = 1 := UInt8.toNat_inj.1 h1
            subst this
            have hne : bA t' ≠ e0 := fun e => by
              have := congrArg bl e
              rw [bl_bA] at this
              rw [this] at e2
              simp at e2
            rw [if_neg hne, e1]
            rfl
        · injection h with _ h; injection h with _ h; cases h
  · rename_i hk
    rw [if_neg hk]
    cases ht : takeC (some l) 32 with
    | mk st t' =>
      rw [ht] at h
      simp only at h
      injection h with h2 h3
      injection h3 with h3 _
      subst h2 h3
      obtain ⟨e1, e2⟩ := takeC_ok (n := 32) ht
      rw [e1]; rfl
theorem plS_none {k : Int} {r t : List UInt8} {b : Bool} : plS k none = (some r, t, b) → False := by
  unfold plS
  intro h
  split at h
  · simp [byteC] at h
  · simp [takeC] at h
theorem pIf_ok {b : Bool} {k : Int} {r : List UInt8} {st : CurS} {t : List UInt8} (hb : b = false → k ≠ 5) (h : pIf b k st = (some r, t, true)) : ∃ l, st = some l ∧ l = (if k = 5 then [if bA t = e0 then (0 : UInt8) else 1] else []) ++ t ++ r := by
  unfold pIf at h
  cases b with
  | true =>
    simp only [if_true] at h
    cases st with
    | none => exact (plS_none h).elim
    | some l => exact ⟨l, rfl, plS_ok h⟩
  | false =>
    simp only [Bool.false_eq_true, if_false] at h
    injection h with h1 h2
    injection h2 with h2 _
    subst h1 h2
    exact ⟨r, rfl, by rw [if_neg (hb rfl)]; rfl⟩
theorem parseP_ok {bs r : List UInt8} {o : OpV} (h : parseP (some bs) = (o, some r, true)) (ho : opOk o = true) : bs = putO o ++ r := by
  obtain ⟨h1, -⟩ := opOk_iff.1 ho
  unfold parseP at h
  simp only [Prod.mk.injEq, Bool.and_eq_true] at h
  obtain ⟨e1, e2, e3, e4⟩ := h
  cases bs with
  | nil =>
    subst e1
    simp [byteC, hK] at h1
  | cons b l =>
    rw [byteC_cons] at e1 e2 e3 e4
    simp only at e1 e2 e3 e4
    generalize hk : (b.toNat : Int) = k at e1 e2 e3 e4
    generalize hs1 : tIf (hN k) (some l) = s1 at e1 e2 e3 e4
    generalize hs2 : tIf (hT k) s1.1 = s2 at e1 e2 e3 e4
    generalize hs3 : nIf (hI k) s2.1 = s3 at e1 e2 e3 e4
    generalize hs4 : pIf (hA k) k s3.1 = s4 at e1 e2 e3 e4
    obtain ⟨c1, t1⟩ := s1
    obtain ⟨c2, t2⟩ := s2
    obtain ⟨c3, n3, b3⟩ := s3
    obtain ⟨c4, t4, b4⟩ := s4
    simp only at e1 e2 e3 e4 hs2 hs3 hs4
    subst e2 e3 e4
    obtain ⟨l3, rfl, q4⟩ := pIf_ok (fun hf h5 => by subst h5; simp [hA] at hf) hs4
    obtain ⟨l2, rfl, q3, z3⟩ := nIf_ok hs3
    obtain ⟨l1, rfl, q2, z2⟩ := tIf_none hs2
    obtain ⟨l0, e, q1, z1⟩ := tIf_none hs1
    injection e with e
    subst e1 e
    unfold putO
    simp only [bl_bA, List.cons_append]
    have hb : UInt8.ofNat k.toNat = b := by
      rw [← hk, Int.toNat_natCast, UInt8.ofNat_toNat]
    rw [hb, q1, q2, q3, q4]
    simp only [List.append_assoc]
theorem getP_iff {bs : List UInt8} {o : OpV} {n : Nat} : getP bs = some (o, n) ↔ opOk o = true ∧ n = (putO o).length ∧ ∃ r, bs = putO o ++ r := by
  constructor
  · intro h
    unfold getP at h
    split at h
    · rename_i hc
      rw [Bool.and_eq_true, Bool.and_eq_true] at hc
      obtain ⟨⟨c1, c2⟩, c3⟩ := hc
      generalize hp : parseP (some bs) = p at h c1 c2 c3
      obtain ⟨o', st, b⟩ := p
      cases st with
      | none => cases c1
      | some r =>
        simp only at c2 c3 h
        subst c2
        have hb := parseP_ok hp c3
        injection h with h
        injection h with h2 h3
        subst h2
        refine ⟨c3, ?_, r, hb⟩
        have : leftC (some r) = r.length := rfl
        rw [this, hb, List.length_append] at h3
        omega
    · cases h
  · rintro ⟨h1, rfl, r, rfl⟩
    unfold getP
    rw [parseP_put h1]
    simp only [Option.isSome_some, h1, Bool.and_self, if_true]
    have : leftC (some r) = r.length := rfl
    rw [this, List.length_append]
    congr 2
    omega
theorem getR_iff {bs : List UInt8} {o : OpV} {n : Nat} : getR bs = some (o, n) ↔ opOk o = true ∧ n = (putO o).length ∧ ∃ r, bs = putO o ++ r := by
  constructor
  · intro h
    unfold getR at h
    split at h
    · rename_i hc
      rw [Bool.and_eq_true, Bool.and_eq_true, decide_eq_true_eq] at hc
      obtain ⟨⟨c1, c2⟩, c3⟩ := hc
      generalize hp : parseR (some bs) = p at h c1 c2 c3
      obtain ⟨o', st⟩ := p
      simp only at c2 c3 h
      injection h with h
      injection h with h2 h3
      subst h2
      refine ⟨c2, ?_, bs.drop n, ?_⟩
      · rw [c3, List.length_take]
        rw [h3]; omega
      · rw [c3, h3, List.take_append_drop]
    · cases h
  · rintro ⟨h1, rfl, r, rfl⟩
    unfold getR
    have : leftC (some r) = r.length := rfl
    rw [parseR_put h1]
    simp only [Option.isSome_some, h1, Bool.and_self, Bool.true_and, this, List.length_append, Nat.add_sub_cancel, List.take_left, decide_true, if_true]
theorem getR_eq (bs : List UInt8) : getR bs = getP bs := by
  apply Option.ext
  rintro ⟨o, n⟩
  rw [getR_iff, getP_iff]
/-- What Get gives. -/
def getOV (bs : List UInt8) : Value := match getP bs with | some (o, n) => .tuple #[o.v, ii n, ii 0] | none => .tuple #[OpV.zero.v, ii 0, ii 5]
theorem getOV_flat (bs : List UInt8) : flatU (getOV bs) = true := by
  unfold getOV
  split <;> rfl
theorem takeC_len (st : CurS) (n : Int) : (takeC st n).2.length ≤ leftC st ∧ leftC (takeC st n).1 ≤ leftC st := by
  unfold takeC
  cases st with
  | none => simp [leftC]
  | some l =>
    simp only
    split
    · simp [leftC]; omega
    · simp [leftC]
theorem byteC_left (st : CurS) : leftC (byteC st).1 ≤ leftC st := by rw [byteC_take]; exact (takeC_len st 1).2
theorem textC_len (st : CurS) : (textC st).2.length ≤ leftC st ∧ leftC (textC st).1 ≤ leftC st := by
  cases st with
  | none => simp [textC, leftC]
  | some l =>
    unfold textC
    simp only
    split
    · rename_i n k hg
      split
      · have := takeC_len (some (l.drop k)) n
        have e : leftC (some (l.drop k)) ≤ leftC (some l) := by simp [leftC]
        exact ⟨Nat.le_trans this.1 e, Nat.le_trans this.2 e⟩
      · simp [leftC]
    · simp [leftC]
theorem bA_size (l : List UInt8) : (bA l).size = l.length := by simp [ByteArray.size]
theorem unfixN_lt (bs : List UInt8) : (unfixN bs).1 ≤ 2147483647 := by
  unfold unfixN
  split
  · simp
  · split
    · assumption
    · simp
theorem numS_range (st : CurS) : -2147483647 ≤ (numS st).2.1 ∧ (numS st).2.1 ≤ 2147483647 := by
  unfold numS
  have := unfixN_lt (takeC (byteC st).1 4).2
  simp only
  split
  · simp
  · rename_i h
    have h1 : (byteC st).2 = 0 ∨ (byteC st).2 = 1 := by omega
    rcases h1 with h1 | h1 <;> rw [h1] <;> simp only <;> omega
theorem numS_left (st : CurS) : leftC (numS st).1 ≤ leftC st := Nat.le_trans (takeC_len _ _).2 (byteC_left st)
theorem plS_len (k : Int) (st : CurS) : (plS k st).2.1.length ≤ leftC st := by
  unfold plS
  split
  · split
    · simp
    · split
      · exact Nat.le_trans (takeC_len _ _).1 (byteC_left st)
      · simp
  · exact (takeC_len _ _).1
theorem byteC_255 (st : CurS) : (byteC st).2 ≤ 255 := by
  unfold byteC
  split
  · simp
  · simp
  · rename_i b r; have := b.toNat_lt; simp only; omega
theorem parseP_fin {bs : List UInt8} (h : bs.length ≤ 2 ^ 40) : (parseP (some bs)).1.Fin := by
  have e0 : leftC (some bs) = bs.length := rfl
  have h0 := byteC_left (some bs)
  have hk := byteC_255 (some bs)
  have t1 : ∀ b st, (tIf b st).2.length ≤ leftC st ∧ leftC (tIf b st).1 ≤ leftC st := fun b st => by
    unfold tIf; cases b
    · simp
    · exact textC_len st
  have t3 : ∀ b st, (-2147483647 ≤ (nIf b st).2.1 ∧ (nIf b st).2.1 ≤ 2147483647) ∧ leftC (nIf b st).1 ≤ leftC st := fun b st => by
    unfold nIf; cases b
    · simp
    · exact ⟨numS_range st, numS_left st⟩
  have t4 : ∀ b k st, (pIf b k st).2.1.length ≤ leftC st := fun b k st => by
    unfold pIf; cases b
    · simp
    · exact plS_len k st
  unfold parseP OpV.Fin
  simp only [bA_size]
  generalize hs0 : (byteC (some bs)).1 = s0 at h0
  generalize (byteC (some bs)).2 = k at hk
  have a1 := t1 (hN (k : Int)) s0
  generalize tIf (hN (k : Int)) s0 = s1 at a1
  have a2 := t1 (hT (k : Int)) s1.1
  generalize tIf (hT (k : Int)) s1.1 = s2 at a2
  have a3 := t3 (hI (k : Int)) s2.1
  generalize nIf (hI (k : Int)) s2.1 = s3 at a3
  have a4 := t4 (hA (k : Int)) (k : Int) s3.1
  omega
theorem parseR_fin {bs : List UInt8} (h : bs.length ≤ 2 ^ 40) : (parseR (some bs)).1.Fin ∧ leftC (parseR (some bs)).2 ≤ bs.length := by
  have e0 : leftC (some bs) = bs.length := rfl
  have h0 := byteC_left (some bs)
  have hk := byteC_255 (some bs)
  have t1 : ∀ b st, (tIf b st).2.length ≤ leftC st ∧ leftC (tIf b st).1 ≤ leftC st := fun b st => by
    unfold tIf; cases b
    · simp
    · exact textC_len st
  have t3 : ∀ b st, (-2147483647 ≤ (rnIf b st).2 ∧ (rnIf b st).2 ≤ 2147483647) ∧ leftC (rnIf b st).1 ≤ leftC st := fun b st => by
    unfold rnIf; cases b
    · simp
    · refine ⟨?_, Nat.le_trans (takeC_len _ _).2 (byteC_left st)⟩
      have := unfixN_lt (takeC (byteC st).1 4).2
      simp only [if_true]
      unfold refNumS
      simp only
      split <;> split <;> omega
  have t4 : ∀ k st, leftC (refIs k st).1 ≤ leftC st := fun k st => by
    unfold refIs; split
    · exact byteC_left st
    · exact Nat.le_refl _
  have t5 : ∀ b p, (rpIf b p).2.length ≤ leftC p.1 ∧ leftC (rpIf b p).1 ≤ leftC p.1 := fun b p => by
    unfold rpIf; split
    · exact takeC_len _ _
    · simp
  unfold parseR OpV.Fin
  simp only [bA_size]
  generalize hs0 : (byteC (some bs)).1 = s0 at h0
  generalize (byteC (some bs)).2 = k at hk
  have a1 := t1 (hN (k : Int)) s0
  generalize tIf (hN (k : Int)) s0 = s1 at a1
  have a2 := t1 (hT (k : Int)) s1.1
  generalize tIf (hT (k : Int)) s1.1 = s2 at a2
  have a3 := t3 (hI (k : Int)) s2.1
  generalize rnIf (hI (k : Int)) s2.1 = s3 at a3
  have a4 := t4 (k : Int) s3.1
  generalize refIs (k : Int) s3.1 = s4 at a4
  have a5 := t5 (hA (k : Int)) s4
  generalize rpIf (hA (k : Int)) s4 = s5 at a5
  omega
end Go.AS.C


namespace Go.AS
open Go
set_option linter.unusedVariables false
set_option linter.unusedSimpArgs false

/-! Slices of one's own that stand apart; structs that are copied. -/
section
variable {A B C A0 : AH} {v w u x : Value} {sz s2 n m a0 b0 i : Nat} {cs ds e z : List Value} {es fs : List (List Value)}
theorem OwnS.apart (h : OwnS a0 A sz v n cs) (k : OwnS b0 A s2 w m ds) (hs : sz ≠ s2) : ∀ j ∈ blkOf w, j ∉ blkOf v := by
  obtain ⟨_, h⟩ := h
  obtain ⟨_, k⟩ := k
  intro j hj hv
  rcases k with ⟨rfl, _⟩ | ⟨rfl, _⟩ | ⟨i, o, c, rc, ex, rfl, k2, k3, k4, _⟩
  · cases hj
  · cases hj
  · simp only [blkOf, List.mem_singleton] at hj
    subst hj
    rcases h with ⟨rfl, _⟩ | ⟨rfl, _⟩ | ⟨i', o', c', rc', ex', rfl, h2, h3, h4, _⟩
    · cases hv
    · cases hv
    · simp only [blkOf, List.mem_singleton] at hv
      subst hv
      rw [h4] at k4
      injection k4 with k4
      injection k4 with _ _ k4 _
      exact hs k4
theorem OwnE.mono (h : OwnE a0 A sz v es) (hb : b0 ≤ a0) : OwnE b0 A sz v es := ⟨h.1, h.2.mono hb⟩
theorem OwnB.le {bs : List UInt8} (h : OwnB a0 A v bs) (hl : Le A B) : OwnB a0 B v bs := OwnS.le h hl
theorem OwnB.mono {bs : List UInt8} (h : OwnB a0 A v bs) (hb : b0 ≤ a0) : OwnB b0 A v bs := OwnS.mono h hb
theorem Sl.lenB (h : Sl A sz v n cs) (B : AH) : sLens B false v = some (.int .i64 n, B) := by
  obtain ⟨_, h⟩ := h
  rcases h with ⟨rfl, rfl⟩ | ⟨rfl, rfl⟩ | ⟨_, _, _, _, _, _, rfl, _⟩ <;> rfl
theorem KeepV.of_own (h : OwnS a0 A sz v n cs) (hl : A.length ≤ B.length) (hk : ∀ i b, A[i]? = some b → (∀ o c, v ≠ .slice (some ⟨i, o, none⟩) n c) → B[i]? = some b) : KeepV A v B :=
  ⟨hl, fun i b hb hi => hk i b hb (fun o c q => hi (by rw [q]; simp [blkOf]))⟩
theorem appI_len {s : Value} {new : List Value} {k bytes : Nat} {r : Value × AH} (h : appA A s new k sz bytes = some r) : A.length ≤ r.2.length := by
  unfold appA at h
  cases hi : appI A s new k sz bytes with
  | some q =>
    rw [hi] at h
    obtain rfl := Option.some.inj h
    unfold appI at hi
    split at hi
    · split at hi
      · split at hi
        · injection hi with hi; subst hi; simp
        · cases hi
      · cases hi
    · cases hi
  | none =>
  rw [hi, Option.none_or] at h
  unfold appA1 at h
  cases hf : appF A s new k sz bytes with
  | some q =>
    rw [hf] at h
    obtain rfl := Option.some.inj h
    unfold appF at hf
    split at hf
    · split at hf
      · split at hf
        · injection hf with hf; subst hf; simp
        · cases hf
      · cases hf
    · cases hf
  | none =>
  rw [hf, Option.none_or] at h
  unfold appA0 at h
  split at h
  · split at h
    · injection h with h; subst h; exact Nat.le_refl _
    · injection h with h; subst h; exact Nat.le_refl _
    · cases h
  · rw [Option.bind_eq_some_iff] at h
    obtain ⟨q, h1, h⟩ := h
    split at h
    · injection h with h; subst h
      simp only [List.length_append]
      rw [appBase_len h1]; omega
    · cases h
theorem sApp_len {s x : Value} {bytes : Nat} {v' : Value} {A' : AH} (h : sApp A s x sz bytes = some (v', A')) : A.length ≤ A'.length := by
  unfold sApp at h
  split at h
  · rw [Option.bind_eq_some_iff] at h
    obtain ⟨new, _, h⟩ := h
    exact appI_len h
  · cases h
/-- append(v, x...): bytes. -/
theorem OwnB.app {bs xs : List UInt8} (hl : Le A0 A) (h : OwnB A0.length A v bs) (hx : Byt A x xs) (hb : bs.length + xs.length ≤ 2 ^ 47) :
    ∃ v' A', sApp A v x 1 1 = some (v', A') ∧ Le A0 A' ∧ OwnB A0.length A' v' (bs ++ xs) ∧ KeepV A v A' := by
  obtain ⟨v', A', h1, h2, h3, h4⟩ := app_bytes hl h hx hb
  exact ⟨v', A', h1, h2, h3, KeepV.of_own h (sApp_len h1) h4⟩
/-- append(v, s...): a text's bytes. -/
theorem OwnB.apps {bs : List UInt8} {s : ByteArray} (hl : Le A0 A) (h : OwnB A0.length A v bs) (hb : bs.length + s.size ≤ 2 ^ 47) :
    ∃ v' A', sApps A v (.string s) 1 = some (v', A') ∧ Le A0 A' ∧ OwnB A0.length A' v' (bs ++ bl s) ∧ KeepV A v A' := by
  have he : u8s s = (bl s).map by8 := rfl
  have hls : (bl s).length = s.size := by simp
  obtain ⟨v', A', h1, h2, h3, h4⟩ := app_own (new := u8s s) (k := s.size) (bytes := 1) hl h (by omega) (by omega) (by omega) (by rw [he, List.length_map, hls, Nat.mul_one]) (by rw [he]; exact Byt.ones8 _)
  refine ⟨v', A', h1, h2, ?_, KeepV.of_own h (appI_len h1) h4⟩
  unfold OwnB
  rw [List.length_append, List.map_append, hls, ← he]
  exact h3
/-- One more text. -/
theorem app_str {l : List ByteArray} (s : ByteArray) (hl : Le A0 A) (h : OwnS A0.length A 1 w l.length (l.map .string)) (hb : l.length ≤ 2 ^ 40) :
    sLit A [.string ⟨#[]⟩] 1 1 [(0, 1, .string s)] = some (.slice (some ⟨A.length, 0, none⟩) 1 1, A ++ [.row [.string s] .own 1 true]) ∧
    ∃ w' A', sApp (A ++ [.row [.string s] .own 1 true]) w (.slice (some ⟨A.length, 0, none⟩) 1 1) 1 16 = some (w', A') ∧ Le A0 A' ∧ OwnS A0.length A' 1 w' (l ++ [s]).length ((l ++ [s]).map .string) ∧ KeepV A w A' := by
  have l1 := lit1 (A := A) (z := .string ⟨#[]⟩) (len := 1) (ps := [(0, 1, .string s)]) [.string s] rfl rfl (by
    intro y hy
    rw [List.mem_singleton] at hy
    subst hy; exact one1_str _)
  have k1 : Le A (A ++ [.row [.string s] .own 1 true]) := .push _ _
  obtain ⟨v2, A2, p1, p2, p3, p4⟩ := app_cells (bytes := 16) (hl.trans k1) (OwnS.le h k1) (sl_last A (cs := [.string s]) (st := .own) (ex := true) (c := 1) (by simp) (by simp)) rfl (by omega) (by simp; omega) (by omega)
  rw [List.length_singleton] at l1 p1
  refine ⟨l1, v2, A2, p1, p2, by simpa using p3, ⟨Nat.le_trans k1.len (sApp_len p1), fun i b hb hi => p4 i b (k1.get hb) (fun o c q => hi (by rw [q]; simp [blkOf]))⟩⟩
theorem KeepV.get (h : KeepV A v B) {j : Nat} {b : Blk} (hb : A[j]? = some b) (hj : j ∉ blkOf v) : B[j]? = some b := h.2 j b hb hj
theorem KeepV.rd (h : KeepV A v B) {R : List Nat} (hR : ∀ k ∈ R, k ∉ blkOf v) : RdOk R A B := fun k hk b hb => h.2 k b hb (hR k hk)
theorem Byt.one1 {bs : List UInt8} (h : Byt A v bs) : AS.one1 v := by
  obtain ⟨p, c, hs, _⟩ := h.shape
  rw [hs]; exact one1_sl _ _ _
theorem Sl.one1 (h : Sl A sz v n cs) : AS.one1 v := by
  obtain ⟨_, h⟩ := h
  rcases h with ⟨rfl, _⟩ | ⟨rfl, _⟩ | ⟨_, _, _, _, _, _, rfl, _⟩ <;> exact one1_sl _ _ _
end
end Go.AS


namespace Go.AS
open Go
set_option linter.unusedVariables false
set_option linter.unusedSimpArgs false

section
variable {A B C A0 : AH} {v w u x : Value} {sz s2 n m a0 b0 i k : Nat} {cs ds e z : List Value} {es fs : List (List Value)}
theorem load1_keep {p x : Value} (h : sLoad1 A p = some (x, A)) (hB : ∀ k b, A[k]? = some b → k ∈ blkOf p → B[k]? = some b) : sLoad1 B p = some (x, B) := by
  unfold sLoad1 at h ⊢
  split at h
  · rename_i i o
    rw [Option.bind_eq_some_iff] at h
    obtain ⟨r, q1, q2⟩ := h
    rw [Option.map_eq_some_iff] at q2
    obtain ⟨l, q2, q3⟩ := q2
    injection q3 with q3 q4
    obtain ⟨r1, r2, r3, r4⟩ := r
    obtain ⟨g1, g2⟩ := getRow_some q1
    have g3 := hB i _ g1 (by simp [blkOf])
    have : getRow B i = some (r1, r2, r3, r4) := by unfold getRow; simp only [g3, if_neg g2]
    simp only [this, Option.bind_some, q2, Option.map_some, q3]
  · cases h
/-- An element of one cell is read. -/
theorem Sl.at1L (h : Sl A 1 v n cs) {j : Nat} {x : Value} (hj : cs[j]? = some x) : ∃ p, (∀ (B : AH) (n : Int), n = (j : Int) → sIaddr B v (.int .i64 n) 1 = some (p, B)) ∧ ∀ B, Le A B → sLoad1 B p = some (x, B) := by
  obtain ⟨p, p1, p2⟩ := h.at1 hj
  exact ⟨p, by rintro B n rfl; exact iaddr_any p1 B, fun B hB => load1_keep p2 (fun k b hb _ => hB.get hb)⟩
/-- Two values lead to blocks apart. -/
def Ap (v w : Value) : Prop := ∀ j ∈ blkOf v, j ∉ blkOf w
theorem Ap.symm (h : Ap v w) : Ap w v := fun j hj hk => h j hk hj
theorem Ap.grow {v' : Value} {n : Nat} (h : Ap v w) (hb : ∀ j ∈ blkOf v', j ∈ blkOf v ∨ n ≤ j) (hw : ∀ j ∈ blkOf w, j < n) : Ap v' w := fun j hj hk => by
  rcases hb j hj with h1 | h1
  · exact h j h1 hk
  · have := hw j hk; omega
theorem Ap.nil {n c : Nat} : Ap (.slice none n c) w := fun j hj => by cases hj
theorem OwnS.lt {sz n : Nat} {cs : List Value} (h : OwnS a0 A sz v n cs) : ∀ j ∈ blkOf v, j < A.length := fun j hj => (h.ge j hj).2
theorem sApp_blk {s x : Value} {bytes : Nat} {v' : Value} {A' : AH} (h : sApp A s x sz bytes = some (v', A')) : ∀ j ∈ blkOf v', j ∈ blkOf s ∨ A.length ≤ j := by
  intro j hj
  have hx : ∃ p k c, x = .slice p k c := by
    unfold sApp at h
    split at h
    · exact ⟨_, _, _, rfl⟩
    · cases h
  obtain ⟨p, k, c, rfl⟩ := hx
  by_cases hk : k = 0
  · subst hk
    unfold sApp at h
    simp only [Option.bind_eq_some_iff] at h
    obtain ⟨new, _, h⟩ := h
    unfold appA at h
    rw [appI_zero, Option.none_or] at h
    unfold appA1 at h
    rw [appF_zero, Option.none_or] at h
    unfold appA0 at h
    rw [if_pos rfl] at h
    split at h
    · injection h with h; injection h with h _; subst h; exact .inl hj
    · injection h with h; injection h with h _; subst h; exact .inl hj
    · cases h
  · rcases app_fresh rfl hk h with e | e
    · rw [e, List.mem_singleton] at hj; exact .inr (by omega)
    · rw [e] at hj; exact .inl hj
/-- Elements of another slice are appended. -/
theorem OwnE.app {bytes : Nat} (hl : Le A0 A) (h : OwnE A0.length A sz v es) (hx : Sl A sz x fs.length fs.flatten) (hf : ∀ e ∈ fs, e.length = sz ∧ ones e = true) (hsz : 0 < sz) (hb : 2 * ((es.length + fs.length) * bytes) ≤ 2 ^ 48) (hb0 : 0 < bytes) :
    ∃ v' A', sApp A v x sz bytes = some (v', A') ∧ Le A0 A' ∧ OwnE A0.length A' sz v' (es ++ fs) ∧ KeepV A v A' := by
  obtain ⟨v', A', e1, e2, e3, e4⟩ := app_cells (bytes := bytes) hl h.2 hx (ones_flatten hf) hsz hb hb0
  refine ⟨v', A', e1, e2, ⟨?_, by simpa using e3⟩, KeepV.of_own h.2 (sApp_len e1) e4⟩
  intro y hy
  rcases List.mem_append.1 hy with hy | hy
  · exact h.1 y hy
  · exact hf y hy
end
section
variable {α : Type} {key : α → List UInt8}
end
end Go.AS


namespace Go.AS.C
open Go Go.Proofs
set_option linter.unusedVariables false
set_option linter.unusedSimpArgs false
set_option maxRecDepth 10000

theorem shr8 (c : UInt8) : binA .shr (.int .u8 (c.toNat : Int)) (.int .u64 4) = some (.int .u8 ((c.toNat / 16 : Nat) : Int)) := by
  have h := binA_shr8 c .u64 4 (by omega)
  unfold by8 at h
  have hc := c.toNat_lt
  rw [UInt8.toNat_ofNat', Nat.mod_eq_of_lt (by omega)] at h
  exact h
theorem and8 (c : UInt8) : binA .and (.int .u8 (c.toNat : Int)) (.int .u8 15) = some (.int .u8 ((c.toNat % 16 : Nat) : Int)) := by
  have h := binA_and8 c 15
  unfold by8 at h
  rw [UInt8.toNat_and] at h
  have e : c.toNat &&& (15 : UInt8).toNat = c.toNat % 16 := Nat.and_two_pow_sub_one_eq_mod c.toNat 4
  rw [e] at h
  exact h
def hexL : List UInt8 := [48, 49, 50, 51, 52, 53, 54, 55, 56, 57, 97, 98, 99, 100, 101, 102]
def hexC (n : Nat) : UInt8 := hexL.getD n 0
def hexD (c : UInt8) : List UInt8 := [hexC (c.toNat / 16), hexC (c.toNat % 16)]
/-- A text's digits. -/
def hexP (bs : List UInt8) : List UInt8 := bs.flatMap hexD
theorem hexP_snoc (bs : List UInt8) (c : UInt8) : hexP (bs ++ [c]) = hexP bs ++ hexD c := by simp [hexP]
theorem hexP_len (bs : List UInt8) : (hexP bs).length = 2 * bs.length := by
  unfold hexP
  induction bs with
  | nil => rfl
  | cons c bs ih => rw [List.flatMap_cons, List.length_append, ih, List.length_cons]; show 2 + _ = _; omega
theorem idx_str {A : AH} {s : ByteArray} {k : IntKind} {j : Nat} {b : UInt8} (h : s.data.toList[j]? = some b) : sIdxs A (.string s) (.int k (j : Int)) = some (.int .u8 (b.toNat : Int), A) := by
  unfold sIdxs asI
  have e : s[j]? = some b := by
    rw [← h]
    have h1 : j < s.data.toList.length := lt_of_get h
    have h2 : j < s.size := by rw [size_bytes]; exact h1
    rw [getElem?_pos s j h2, List.getElem?_eq_getElem h1]
    rfl
  simp [e]
theorem idx_hex (A : AH) (n : Nat) (h : n < 16) : sIdxs A (.string ⟨#[48, 49, 50, 51, 52, 53, 54, 55, 56, 57, 97, 98, 99, 100, 101, 102]⟩) (.int .u8 (n : Int)) = some (.int .u8 ((hexC n).toNat : Int), A) := by
  refine idx_str ?_
  show hexL[n]? = _
  unfold hexC
  rw [List.getD_eq_getElem?_getD]
  obtain ⟨x, hx⟩ := get_some (l := hexL) (k := n) h
  rw [hx]; rfl

theorem ids_Hex_spec {A : AH} {s : ByteArray} {Q : Value → AH → Prop} (hl : s.size < 2 ^ 20) (hq : ∀ A', Le A A' → Q (.string ⟨(hexP s.data.toList).toArray⟩) A') : ACalls 1 Tryd.prog ids_Hex [.string s] Q A := by
  refine ACalls.of_fits mixed fits_ids_Hex rfl ?_
  unfold ic_ids_Hex
  have i0 : initA [.string s] 0 = .string s := rfl
  generalize initA [.string s] = a at i0
  have hb := s2b_row A s
  have ho := (s2b_byt A s).byt
  generalize eA : A ++ [.row (s.data.toList.map by8) .own 1 false] = A1 at hb ho
  have k1 : Le A A1 := by rw [← eA]; exact .push _ _
  generalize ev : Value.slice (some ⟨A.length, 0, none⟩) s.size s.size = v at hb ho
  have hvl := fun B => Sl.lenB ho B
  have hsz := size_bytes s
  simp (maxSteps := 1000000) (disch := omega) only [stepS, reduceIte, Nat.reduceBEq, Nat.reduceEqDiff, tupleOf, stepT, i0, hb, hvl]
  refine W_loop (fun a' B => ∃ k : Nat, k ≤ s.size ∧ Le A1 B ∧ a' 7 = v ∧ a' 8 = ii s.size ∧ a' 9 = ii k ∧ OwnB A1.length B (a' 3) (hexP (s.data.toList.take k))) (fun a' _ => s.size - (iv (a' 9)).toNat) ?_ ?_
  · refine ⟨0, by omega, .refl _, ?_⟩
    simp (maxSteps := 1000000) (disch := omega) only [stepS, reduceIte, Nat.reduceBEq, Nat.reduceEqDiff, tupleOf, stepT, i0, hsz]
    exact ⟨rfl, OwnB.nil _ _⟩
  · rintro a2 B ⟨k, hk, hle, g7, g8, g9, g3⟩
    generalize ex : a2 3 = w at g3
    rcases Nat.lt_or_ge k s.size with hlt | hge
    · obtain ⟨c, hc⟩ := get_some (l := s.data.toList) (k := k) (by omega)
      obtain ⟨p, p1, p2⟩ := Sl.at1L ho (j := k) (x := by8 c) (by rw [List.getElem?_map, hc]; rfl)
      have p3 := p2 B hle
      unfold by8 at p3
      have hcl := c.toNat_lt
      have x1 := idx_hex B (c.toNat / 16) (by omega)
      have x2 := idx_hex B (c.toNat % 16) (by omega)
      have l1 := litB B (hexD c) (len := 2) (ps := [(0, 1, .int .u8 ((hexC (c.toNat / 16)).toNat : Int)), (1, 1, .int .u8 ((hexC (c.toNat % 16)).toNat : Int))]) rfl rfl
      have k2 : Le B (B ++ [.row (List.map by8 (hexD c)) .own 1 true]) := .push _ _
      have hpl := hexP_len (s.data.toList.take k)
      rw [List.length_take] at hpl
      obtain ⟨v2, A2, q1, q2, q3, _⟩ := app_bytes (hle.trans k2) (OwnS.le g3 k2) (byt_last B (hexD c)) (by rw [hpl]; simp [hexD]; omega)
      have hd : (hexD c).length = 2 := rfl
      rw [hd] at q1 l1
      simp (maxSteps := 1000000) (disch := omega) only [stepS, reduceIte, Nat.reduceBEq, Nat.reduceEqDiff, tupleOf, stepT, g7, g8, g9, ex, p1, p3, shr8, and8, x1, x2, l1, q1]
      refine ⟨⟨k + 1, by omega, q2, rfl, ?_⟩, by omega⟩
      rw [List.take_add_one, hc, Option.toList_some, hexP_snoc]
      exact q3
    · rw [List.take_of_length_le (by omega)] at g3
      simp (maxSteps := 1000000) (disch := omega) only [stepS, reduceIte, Nat.reduceBEq, Nat.reduceEqDiff, tupleOf, stepT, g7, g8, g9, ex, g3.byt.str]
      exact hq _ (k1.trans hle)
end Go.AS.C


namespace Go.AS.C
open Go Go.Proofs
set_option linter.unusedVariables false
set_option linter.unusedSimpArgs false
set_option maxRecDepth 10000

/-! Numbers as texts. -/
theorem cat_str (x y : ByteArray) (h : x.size + y.size < 2 ^ 60) : binA .add (.string x) (.string y) = some (.string (x ++ y)) := by
  simp only [binA]
  rw [if_neg]
  have e : IntKind.i64.max = 9223372036854775807 := by decide
  rw [e]
  omega
theorem ba_cat (s t : List UInt8) : (⟨s.toArray⟩ : ByteArray) ++ ⟨t.toArray⟩ = ⟨(s ++ t).toArray⟩ := by
  apply ByteArray.ext
  simp
end Go.AS.C


namespace Go.AS
open Go Go.Sort Go.RowKit Go.Proofs
set_option linter.unusedVariables false
set_option linter.unusedSimpArgs false

/-! The kit's contract of slices.Sort at texts, told of abstract states. -/
section
variable {G : Nat} {P : Program} {μ : Mu} {A A0 B : AH} {w : World} {v : Value} {a0 : Nat}
theorem grow_old (w : World) (os : Array Obj) {i : Nat} (h : i < w.heap.size) : (grow w os).heap[i]? = w.heap[i]? := by
  show (w.heap ++ os)[i]? = _
  rw [Array.getElem?_append, if_pos h]
/-- New blocks of which nothing is known. -/
theorem Rel.grown (h : Rel G μ A w) (os : Array Obj) : Rel G μ A (grow w os) ∧ Stp μ A w μ A (grow w os) := by
  have hs : (grow w os).heap.size = w.heap.size + os.size := by simp [grow]
  refine ⟨⟨h.len, h.glo, fun i e he => by have := h.lt i e he; omega, ?_, h.szs, ?_, ?_, h.apart⟩, ?_⟩
  · intro i cs st sz ex e hb he hst
    obtain ⟨rc, T, fr, g1, g2⟩ := h.row i cs st sz ex e hb he hst
    exact ⟨rc, T, fr, by rw [grow_old _ _ (h.lt i e he)]; exact g1, g2⟩
  · intro i s p e hb he
    rw [grow_old _ _ (h.lt i e he)]; exact h.sit i s p e hb he
  · intro i es e hb he
    rw [grow_old _ _ (h.lt i e he)]; exact h.mp i es e hb he
  · exact ⟨⟨[], by simp⟩, rfl, rfl, rfl, by omega, fun r hr _ => grow_old _ _ hr, fun i b e h1 h2 h3 _ => ⟨i, b, e, h1, h2, h3, rfl⟩⟩
end
end Go.AS


namespace Go.AS
open Go
set_option maxRecDepth 100000
/-! Codes of library functions that are alike in many chapters (printed by geni.py). -/
end Go.AS


namespace Go.AS
open Go
set_option linter.unusedVariables false
set_option linter.unusedSimpArgs false
set_option maxRecDepth 10000

/-! Slices of texts of the call's own. -/
def strE (l : List ByteArray) : List (List Value) := l.map fun s => [.string s]
theorem strE_flat (l : List ByteArray) : (strE l).flatten = l.map .string := by
  unfold strE
  induction l with
  | nil => rfl
  | cons s l ih => rw [List.map_cons, List.flatten_cons, ih]; rfl
theorem strE_len (l : List ByteArray) : (strE l).length = l.length := by simp [strE]
theorem strE_ok (l : List ByteArray) : ∀ e ∈ strE l, e.length = 1 ∧ ones e = true := by
  intro e he
  obtain ⟨s, _, rfl⟩ := List.mem_map.1 he
  exact ⟨rfl, rfl⟩
/-- A slice of texts, of the call's own. -/
def OwnT (a0 : Nat) (A : AH) (v : Value) (l : List ByteArray) : Prop := OwnS a0 A 1 v l.length (l.map .string)
def SlT (A : AH) (v : Value) (l : List ByteArray) : Prop := Sl A 1 v l.length (l.map .string)
section
variable {A B A0 : AH} {v : Value} {a0 b0 : Nat} {l m : List ByteArray} {lo hi : Option Value}
theorem OwnT.e (h : OwnT a0 A v l) : OwnE a0 A 1 v (strE l) := ⟨strE_ok l, by rw [strE_flat, strE_len]; exact h⟩
theorem OwnE.t (h : OwnE a0 A 1 v (strE l)) : OwnT a0 A v l := by
  have := h.2
  rw [strE_flat, strE_len] at this
  exact this
theorem OwnT.sl (h : OwnT a0 A v l) : SlT A v l := OwnS.sl h
theorem OwnT.le (h : OwnT a0 A v l) (hl : Le A B) : OwnT a0 B v l := OwnS.le h hl
theorem OwnT.mono (h : OwnT a0 A v l) (hb : b0 ≤ a0) : OwnT b0 A v l := OwnS.mono h hb
theorem OwnT.nil (a0 : Nat) (A : AH) : OwnT a0 A (.slice none 0 0) [] := OwnS.nil _ _ _
theorem SlT.le (h : SlT A v l) (hl : Le A B) : SlT B v l := Sl.le h hl
theorem SlT.len (h : SlT A v l) (B : AH) : sLens B false v = some (.int .i64 l.length, B) := Sl.lenB h B
theorem SlT.one (h : SlT A v l) : one1 v := Sl.one1 h
theorem SlT.at (h : SlT A v l) {j : Nat} {s : ByteArray} (hj : l[j]? = some s) : ∃ p, (∀ (B : AH) (n : Int), n = (j : Int) → sIaddr B v (.int .i64 n) 1 = some (p, B)) ∧ ∀ B, Le A B → sLoad1 B p = some (.string s, B) :=
  Sl.at1L h (j := j) (x := .string s) (by rw [List.getElem?_map, hj]; rfl)
theorem OwnT.at (h : OwnT a0 A v l) {j : Nat} {s : ByteArray} (hj : l[j]? = some s) : ∃ p, blkOf p = blkOf v ∧ (∀ (B : AH) (n : Int), n = (j : Int) → sIaddr B v (.int .i64 n) 1 = some (p, B)) ∧ sLoad1 A p = some (.string s, A) := by
  obtain ⟨p, p1, p2⟩ := Sl.at1 (OwnS.sl h) (j := j) (v0 := .string s) (by rw [List.getElem?_map, hj]; rfl)
  exact ⟨p, iaddr_blk p1, by rintro B n rfl; exact iaddr_any p1 B, p2⟩
theorem OwnT.put (h : OwnT a0 A v l) {j : Nat} (s : ByteArray) (hj : j < l.length) {p : Value} (hp : sIaddr A v (.int .i64 (j : Int)) 1 = some (p, A)) : ∃ A', sStore A p (.string s) 1 = some (undef, A') ∧ OwnT a0 A' v (l.set j s) ∧ KeepV A v A' := by
  obtain ⟨A', s1, s2, s3⟩ := h.e.put (e := [.string s]) (by rw [strE_len]; exact hj) rfl rfl hp
  refine ⟨A', s1, ?_, s3⟩
  have e : (strE l).set j [.string s] = strE (l.set j s) := by simp [strE, List.map_set]
  rw [e] at s2
  exact s2.t
theorem OwnT.cut (h : OwnT a0 A v l) {i k : Nat} (hlk : i ≤ k) (hk : k ≤ l.length) (hb : ∀ c, l.length ≤ c → boundsA l.length c lo hi none = some (i, k, c)) :
    ∃ u, (∀ j ∈ blkOf u, j ∈ blkOf v) ∧ (∃ p c, u = .slice p (k - i) c) ∧ ∀ B m, OwnT a0 B v m → m.length = l.length → sSll B v lo hi none 1 = some (u, B) ∧ OwnT a0 B u ((m.take k).drop i) := by
  obtain ⟨u, u1, u2, u3⟩ := h.e.cut (l := i) (k := k) (lo := lo) (hi := hi) hlk (by rw [strE_len]; exact hk) (by rw [strE_len]; exact hb)
  refine ⟨u, u1, u2, fun B m hm hl => ?_⟩
  obtain ⟨e1, e2⟩ := u3 B (strE m) hm.e (by rw [strE_len, strE_len]; exact hl)
  refine ⟨e1, ?_⟩
  have e : ((strE m).take k).drop i = strE ((m.take k).drop i) := by simp [strE, List.map_take, List.map_drop]
  rw [e] at e2
  exact e2.t
theorem OwnT.clr (h : OwnT a0 A v l) {i : Nat} {u : Value} (hl : i ≤ l.length) (hu : sSll A v (some (.int .i64 (i : Int))) none none 1 = some (u, A)) :
    ∃ A', sClr A u [.string ⟨#[]⟩] = some (undef, A') ∧ OwnT a0 A' v (l.take i ++ List.replicate (l.length - i) ⟨#[]⟩) ∧ KeepV A v A' := by
  obtain ⟨A', s1, s2, s3⟩ := h.e.clr (l := i) (z := [.string ⟨#[]⟩]) (by rw [strE_len]; exact hl) rfl rfl hu
  refine ⟨A', s1, ?_, s3⟩
  have e : (strE l).take i ++ List.replicate ((strE l).length - i) [.string ⟨#[]⟩] = strE (l.take i ++ List.replicate (l.length - i) ⟨#[]⟩) := by simp [strE, List.map_take]
  rw [e] at s2
  exact s2.t
theorem OwnT.push (s : ByteArray) (hl : Le A0 A) (h : OwnT A0.length A v l) (hb : l.length ≤ 2 ^ 40) :
    sLit A [.string ⟨#[]⟩] 1 1 [(0, 1, .string s)] = some (.slice (some ⟨A.length, 0, none⟩) 1 1, A ++ [.row [.string s] .own 1 true]) ∧
    ∃ w' A', sApp (A ++ [.row [.string s] .own 1 true]) v (.slice (some ⟨A.length, 0, none⟩) 1 1) 1 16 = some (w', A') ∧ Le A0 A' ∧ OwnT A0.length A' w' (l ++ [s]) ∧ KeepV A v A' ∧ ∀ j ∈ blkOf w', j ∈ blkOf v ∨ A.length ≤ j := by
  obtain ⟨l1, w', A', e1, e2, e3, e4⟩ := app_str s hl h hb
  refine ⟨l1, w', A', e1, e2, e3, e4, fun j hj => ?_⟩
  rcases sApp_blk e1 j hj with h | h
  · exact .inl h
  · simp at h; exact .inr (by omega)
theorem OwnT.app {x : Value} (hl : Le A0 A) (h : OwnT A0.length A v l) (hx : SlT A x m) (hb : l.length + m.length ≤ 2 ^ 40) :
    ∃ w' A', sApp A v x 1 16 = some (w', A') ∧ Le A0 A' ∧ OwnT A0.length A' w' (l ++ m) ∧ KeepV A v A' := by
  obtain ⟨w', A', e1, e2, e3, e4⟩ := h.e.app (x := x) (fs := strE m) (bytes := 16) hl (by rw [strE_flat, strE_len]; exact hx) (strE_ok m) (by omega) (by rw [strE_len, strE_len]; omega) (by omega)
  refine ⟨w', A', e1, e2, ?_, e4⟩
  have e : strE l ++ strE m = strE (l ++ m) := by simp [strE]
  rw [e] at e3
  exact e3.t
end

section
variable {G : Nat} {P : Program} (hm : P.follows .mixedOrders = true) {a0 : Nat} {A : AH} {v : Value} {Q : Value → AH → Prop}
include hm
end
end Go.AS


namespace Go.AS
open Go Go.RowKit Go.Proofs
set_option linter.unusedVariables false
set_option linter.unusedSimpArgs false

/-! The kit's contract of strings.Join, told of abstract states. -/
section
variable {G : Nat} {P : Program} {μ : Mu} {A : AH} {w w' : World} {v : Value}
/-- New blocks, and draws, of which nothing is known. -/
theorem Rel.below (h : Rel G μ A w) (hb : Below w.heap.size w w') : Rel G μ A w' ∧ Stp μ A w μ A w' := by
  have hk : ∀ i, i < w.heap.size → w'.heap[i]? = w.heap[i]? := fun i hi => hb.block i hi
  refine ⟨⟨h.len, h.glo, fun i e he => Nat.lt_of_lt_of_le (h.lt i e he) hb.size, ?_, h.szs, ?_, ?_, h.apart⟩, ?_⟩
  · intro i cs st sz ex e hb he hst
    obtain ⟨rc, T, fr, g1, g2⟩ := h.row i cs st sz ex e hb he hst
    exact ⟨rc, T, fr, by rw [hk _ (h.lt i e he)]; exact g1, g2⟩
  · intro i s p e hb he
    rw [hk _ (h.lt i e he)]; exact h.sit i s p e hb he
  · intro i es e hb he
    rw [hk _ (h.lt i e he)]; exact h.mp i es e hb he
  · exact ⟨⟨[], by simp⟩, hb.os, hb.tape, hb.output, hb.size, fun r hr _ => hk r hr, fun i b e h1 h2 h3 _ => ⟨i, b, e, h1, h2, h3, rfl⟩⟩
/-- What a machine's function must do to join texts. -/
def JoinsTexts (P : Program) (f : FuncId) : Prop :=
  (∀ (bk o c : Nat) (xs : List ByteArray) (sep : ByteArray) (w : World), (∀ (j : Nat) x, xs[j]? = some x → w.cell? ⟨bk, o + j, none⟩ = some (.string x)) → bk < w.heap.size → xs.length ≤ 140737488355328 → xs.length ≤ c →
    (Lib.join (xs.map (·.data.toList)) sep.data.toList).length ≤ 140737488355328 →
    Calls P f #[.slice (some ⟨bk, o, none⟩) xs.length c, .string sep] w fun e w' => e = .returned (.string ⟨(Lib.join (xs.map (·.data.toList)) sep.data.toList).toArray⟩) ∧ Below w.heap.size w w') ∧
  (∀ (a : Option Addr) (c : Nat) (sep : ByteArray) (w : World), Calls P f #[.slice a 0 c, .string sep] w fun e w' => e = .returned (.string ⟨#[]⟩) ∧ w' = w)
/-- Texts, one behind the other, what stands between them. -/
def joinT (l : List ByteArray) (sep : ByteArray) : ByteArray := ⟨(Lib.join (l.map (·.data.toList)) sep.data.toList).toArray⟩
theorem join_spec {f : FuncId} (hf : JoinsTexts P f) {l : List ByteArray} {sep : ByteArray} {Q : Value → AH → Prop} (h : SlT A v l) (hl : l.length ≤ 140737488355328) (hj : (joinT l sep).size ≤ 140737488355328)
    (hq : Q (.string (joinT l sep)) A) : ACalls G P f [v, .string sep] Q A := by
  intro μ args' w hr h1 h2
  obtain ⟨v', s', rfl⟩ : ∃ v' s', args' = #[v', s'] := by
    have : args'.size = 2 := by simpa using h1
    exact ⟨args'[0], args'[1], by apply Array.ext (by simpa using this); intro i hi1 hi2; simp at hi2; match i with | 0 => rfl | 1 => rfl⟩
  have hv := h2 0 v v' rfl rfl
  have hs := (h2 1 _ s' rfl rfl).string
  subst hs
  by_cases h0 : l.length = 0
  · have hl0 : l = [] := List.length_eq_zero_iff.1 h0
    subst hl0
    have hn : ∃ p c, v' = .slice p 0 c := by
      obtain ⟨_, h⟩ := h
      rcases h with ⟨rfl, _⟩ | ⟨rfl, _⟩ | ⟨_, _, _, _, _, _, rfl, _⟩
      · obtain ⟨a', c', e, _⟩ := hv.sl_inv; exact ⟨a', c', e⟩
      · obtain ⟨a', c', e, _⟩ := hv.sl_inv; exact ⟨a', c', e⟩
      · obtain ⟨a', c', e, _⟩ := hv.sl_inv; exact ⟨a', c', e⟩
    obtain ⟨p, c, rfl⟩ := hn
    refine (hf.2 p c sep w).mono ?_
    rintro e w' ⟨rfl, rfl⟩
    exact ⟨_, _, μ, A, rfl, .flat rfl, hr, Stp.refl _ _ _, hq⟩
  · obtain ⟨hc0, h⟩ := h
    rcases h with ⟨_, hz⟩ | ⟨_, hz⟩ | ⟨i, o, c, rc, st, ex, rfl, k2, k3, k4, k5, k6⟩
    · exact absurd hz h0
    · exact absurd hz h0
    obtain ⟨e, he, c', hcc, rfl⟩ : ∃ (e : Ent), μ[i]? = some e ∧ ∃ c', l.length ≤ c' ∧ v' = .slice (some ⟨e.blk, e.off + o, none⟩) l.length c' := by
      generalize l.length = nn at hv h0
      cases hv with
      | flat h => cases h
      | slc h g1 g2 g4 => exact ⟨_, h, _, by omega, rfl⟩
      | sle h => exact absurd rfl h0
    obtain ⟨mc, T, fr, g1, g2, g3, g4⟩ := hr.row i rc st 1 ex e k3 he k4
    refine (hf.1 e.blk (e.off + o) c' l sep w ?_ (hr.lt i e he) hl hcc ?_).mono ?_
    · intro j x hx
      have hjl := lt_of_get hx
      have hrc := k6 j (by omega)
      rw [List.getElem?_map, hx, Option.map_some] at hrc
      obtain ⟨_, u, u1, u2⟩ := g2 (o + j) _ hrc
      rw [u2.string] at u1
      simp [World.cell?, g1, Nat.add_assoc, u1]
    · have : (joinT l sep).size = (Lib.join (l.map (·.data.toList)) sep.data.toList).length := by
        unfold joinT
        show (Array.size _) = _
        simp
      omega
    · rintro en w' ⟨rfl, hb⟩
      obtain ⟨hr1, hs1⟩ := hr.below hb
      exact ⟨_, _, μ, A, rfl, .flat rfl, hr1, hs1, hq⟩
end
end Go.AS


namespace Go.AS.C
open Go Go.Proofs
set_option linter.unusedVariables false
set_option linter.unusedSimpArgs false
set_option maxRecDepth 10000

/-! How an operation is shown, as plain data. -/
def kindT : List ByteArray := [⟨#[99, 111, 117, 110, 116]⟩, ⟨#[97, 100, 100]⟩, ⟨#[114, 101, 109, 111, 118, 101]⟩, ⟨#[119, 114, 105, 116, 101]⟩, ⟨#[105, 110, 115, 101, 114, 116]⟩, ⟨#[100, 101, 108, 101, 116, 101]⟩, ⟨#[109, 101, 114, 103, 101]⟩]
def nmT (k : Int) : ByteArray := kindT.getD (k - 1).toNat e0
theorem nmT_at {k : Int} (h : hK k = true) : kindT[(k - 1).toNat]? = some (nmT k) ∧ (nmT k).size ≤ 6 ∧ ∃ j : Nat, k - 1 = (j : Int) ∧ j < 7 := by
  have hk : 1 ≤ k ∧ k ≤ 7 := by unfold hK at h; rw [decide_eq_true_eq] at h; exact h
  obtain ⟨m, rfl⟩ : ∃ m : Nat, k = m := ⟨k.toNat, by omega⟩
  have : m = 1 ∨ m = 2 ∨ m = 3 ∨ m = 4 ∨ m = 5 ∨ m = 6 ∨ m = 7 := by omega
  refine ⟨?_, ?_, m - 1, by omega, by omega⟩ <;> rcases this with rfl | rfl | rfl | rfl | rfl | rfl | rfl <;> first | rfl | decide
def hexT (s : ByteArray) : ByteArray := ⟨(35 :: hexP s.data.toList).toArray⟩
def numT (n : Int) : ByteArray := ⟨(Lib.itoa n).toArray⟩
def s0 (o : OpV) : List ByteArray := [nmT o.k]
def sN (o : OpV) : List ByteArray := s0 o ++ (if hN o.k then [o.name] else [])
def sT (o : OpV) : List ByteArray := sN o ++ (if hT o.k then [hexT o.text] else [])
def sI (o : OpV) : List ByteArray := sT o ++ (if hI o.k then [numT o.n] else [])
def sA (o : OpV) : List ByteArray := sI o ++ (if hA o.k then [hexT o.place] else [])
/-- An operation, shown. -/
def showB (o : OpV) : ByteArray := if opOk o then joinT (sA o) ⟨#[32]⟩ else ⟨#[63]⟩
/-- The same text, built from the left. -/
def tail1 (s : ByteArray) : List UInt8 := 32 :: s.data.toList
def t0 (o : OpV) : List UInt8 := (nmT o.k).data.toList
def tN (o : OpV) : List UInt8 := t0 o ++ (if hN o.k then tail1 o.name else [])
def tT (o : OpV) : List UInt8 := tN o ++ (if hT o.k then tail1 (hexT o.text) else [])
def tI (o : OpV) : List UInt8 := tT o ++ (if hI o.k then tail1 (numT o.n) else [])
def tA (o : OpV) : List UInt8 := tI o ++ (if hA o.k then tail1 (hexT o.place) else [])
theorem join_snoc (l : List (List UInt8)) (x : List UInt8) (h : l ≠ []) : Lib.join (l ++ [x]) [32] = Lib.join l [32] ++ 32 :: x := by
  cases l with
  | nil => exact absurd rfl h
  | cons y l =>
    rw [List.cons_append, Lib.join_cons, Lib.join_cons]
    simp [Lib.joinTail]
theorem joinT_snoc (l : List ByteArray) (c : Bool) (x : ByteArray) (t : List UInt8) (h : l ≠ []) (ht : (joinT l ⟨#[32]⟩) = ⟨t.toArray⟩) : joinT (l ++ (if c then [x] else [])) ⟨#[32]⟩ = ⟨(t ++ (if c then tail1 x else [])).toArray⟩ := by
  cases c with
  | false => simpa using ht
  | true =>
    unfold joinT at ht ⊢
    have h1 : Lib.join (l.map (·.data.toList)) [32] = t := by
      have := congrArg (fun b => b.data.toList) ht
      simpa using this
    simp only [if_true, List.map_append, List.map_cons, List.map_nil]
    rw [join_snoc _ _ (by simpa using h)]
    rw [h1]
    rfl
theorem joinT_sA (o : OpV) : joinT (sA o) ⟨#[32]⟩ = ⟨(tA o).toArray⟩ := by
  have e0 : joinT (s0 o) ⟨#[32]⟩ = ⟨(t0 o).toArray⟩ := by
    unfold joinT s0 t0
    rw [List.map_cons, List.map_nil, Lib.join_one]
  have e1 : joinT (sN o) ⟨#[32]⟩ = ⟨(tN o).toArray⟩ := joinT_snoc _ _ _ _ (by simp [s0]) e0
  have e2 : joinT (sT o) ⟨#[32]⟩ = ⟨(tT o).toArray⟩ := joinT_snoc _ _ _ _ (by simp [sN, s0]) e1
  have e3 : joinT (sI o) ⟨#[32]⟩ = ⟨(tI o).toArray⟩ := joinT_snoc _ _ _ _ (by simp [sT, sN, s0]) e2
  exact joinT_snoc _ _ _ _ (by simp [sI, sT, sN, s0]) e3
theorem numT_size {n : Int} (h0 : -2147483648 ≤ n) (h1 : n ≤ 2147483648) : (numT n).size ≤ 21 := Lib.itoa_length_le n (by omega) (by omega)
theorem hexT_size (s : ByteArray) : (hexT s).size = 1 + 2 * s.size := by
  unfold hexT
  show (35 :: hexP s.data.toList).length = _
  rw [List.length_cons, hexP_len, size_bytes]
  omega
theorem tail1_len (s : ByteArray) : (tail1 s).length = 1 + s.size := by
  unfold tail1
  rw [List.length_cons, size_bytes]
  omega
theorem tA_len {o : OpV} (h : opOk o = true) : (t0 o).length ≤ 6 ∧ (tN o).length ≤ 400 ∧ (tT o).length ≤ 800 ∧ (tI o).length ≤ 1200 ∧ (tA o).length ≤ 1600 := by
  obtain ⟨h1, h2, h3, h4, h5, h6, h7, h8, h9, h10⟩ := opOk_iff.1 h
  have a0 : (t0 o).length ≤ 6 := by unfold t0; rw [← size_bytes]; exact (nmT_at h1).2.1
  have hn : o.name.size ≤ 12 := by
    by_cases hn : hN o.k = true
    · rw [if_pos hn] at h2; exact (nameOk_size h2).2
    · rw [if_neg hn] at h2; rw [h2]; decide
  have hp : o.place.size ≤ 32 := by
    rcases h8 with h | h
    · rw [h]; decide
    · omega
  have a1 : (tN o).length ≤ 400 := by
    unfold tN
    rw [List.length_append]
    split
    · rw [tail1_len]; omega
    · simp; omega
  have a2 : (tT o).length ≤ 800 := by
    unfold tT
    rw [List.length_append]
    split
    · rw [tail1_len, hexT_size]; omega
    · simp; omega
  have a3 : (tI o).length ≤ 1200 := by
    unfold tI
    rw [List.length_append]
    split
    · have := numT_size (n := o.n) (by omega) (by omega)
      rw [tail1_len]; omega
    · simp; omega
  have a4 : (tA o).length ≤ 1600 := by
    unfold tA
    rw [List.length_append]
    split
    · rw [tail1_len, hexT_size]; omega
    · simp; omega
  exact ⟨a0, a1, a2, a3, a4⟩
end Go.AS.C


namespace Go.AS
open Go Go.RowKit Go.Proofs
set_option linter.unusedVariables false
set_option linter.unusedSimpArgs false

/-! The kit's contract of strings.IndexFunc, told of abstract states. -/
section
variable {G : Nat} {P : Program} {A : AH} {w : World}
/-- A function over runes that needs no memory. -/
theorem pred_grows {g : FuncId} {p : Nat → Bool} (h : ∀ x : Nat, x ≤ 1114111 → ACalls 0 P g [.int .i32 x] (fun v _ => v = .bool (p x)) []) (w : World) : PredGrows P g #[] p w := by
  intro W x hx _
  have h1 := (h x hx).apply (μ := []) (w := W) (args' := #[.int .i32 x]) rel_none rfl (fun j v v' hv hv' => by
    match j with
    | 0 =>
      simp at hv hv'
      subst hv hv'
      exact .flat rfl
    | j + 1 => simp at hv)
  refine h1.mono ?_
  rintro e w' ⟨v, v', μ', A', rfl, hv, hr, hs, rfl⟩
  rw [hv.bool]
  exact ⟨rfl, hs.os, hs.tape, hs.output, hs.size, fun k hk => hs.keep k hk (fun i b e hb => by simp at hb)⟩
/-- What a machine's function must do to find a rune. -/
def IdxFuncs (P : Program) (f : FuncId) : Prop :=
  ∀ (g : Nat) (p : Nat → Bool) (s : ByteArray) (w : World), (∀ args w, (callFunc g args).run P w = .ok (.enter g args) w) → PredGrows P g #[] p w →
    Calls P f #[.string s, .func (.func g) #[] #[]] w fun e w' => e = .returned (.int .i64 (Lib.idxFunc p true s)) ∧ Below w.heap.size w w'
theorem idxfunc_spec {f g : FuncId} (hf : IdxFuncs P f) {p : Nat → Bool} (hok : calleeOk P g = true) (h : ∀ x : Nat, x ≤ 1114111 → ACalls 0 P g [.int .i32 x] (fun v _ => v = .bool (p x)) []) {s : ByteArray} {Q : Value → AH → Prop}
    (hq : Q (.int .i64 (Lib.idxFunc p true s)) A) : ACalls G P f [.string s, .func (.func g) #[] #[]] Q A := by
  intro μ args' w hr h1 h2
  obtain ⟨s', v', rfl⟩ : ∃ s' v', args' = #[s', v'] := by
    have : args'.size = 2 := by simpa using h1
    exact ⟨args'[0], args'[1], by apply Array.ext (by simpa using this); intro i hi1 hi2; simp at hi2; match i with | 0 => rfl | 1 => rfl⟩
  have hs := (h2 0 _ s' rfl rfl).string
  have hv := h2 1 _ v' rfl rfl
  subst hs
  have hv' : v' = .func (.func g) #[] #[] := by
    cases hv with
    | flat h => cases h
    | func hpl k1 _ k3 _ =>
      rename_i a' b' _ _
      have e1 : a' = #[] := Array.eq_empty_of_size_eq_zero (by rw [← k1]; rfl)
      have e2 : b' = #[] := Array.eq_empty_of_size_eq_zero (by rw [← k3]; rfl)
      rw [e1, e2]
  subst hv'
  refine (hf g p s w (fun args w => run_callFunc hok args w) (pred_grows h w)).mono ?_
  rintro en w' ⟨rfl, hb⟩
  obtain ⟨hr1, hs1⟩ := hr.below hb
  exact ⟨_, _, μ, A, rfl, .flat rfl, hr1, hs1, hq⟩
end
end Go.AS


/-
  DERIVED: THE SHELF's CONTRACTS AT THIS DUMP, IN PLAIN WORDS (tools/lay-plain.mjs out of 'TrydShelf.lean', which tools/lay-shelf.mjs wrote): THE SAME DECLARATIONS UNDER THE SAME NAMES: 'import', 'namespace', 'open', 'def', 'theorem' AND NOTHING ELSE: no command of the shelf's: FOR A HAND-IN. Each laying: the table of numbers ('.._ren') and one theorem, a field a fact of the dump's own or the kernel's comparison; each contract: ONE APPLICATION.
-/
namespace Go.Proofs
open Go.Shelf
def Tryd.lays156_ren : Go.Shelf.Ren := ⟨fun | 156 => 38 | 165 => 58 | 166 => 59 | 169 => 60 | 240 => 68 | 241 => 69 | 276 => 75 | 277 => 76 | n => n, fun | 31 => 54 | 9 => 9 | 3 => 3 | 4 => 4 | 0 => 0 | 20 => 20 | 72 => 82 | 76 => 86 | 70 => 80 | 37 => 24 | 75 => 85 | 127 => 96 | 164 => 103 | 5 => 5 | 80 => 88 | n => n, fun | n => n⟩
theorem Tryd.lays156 : Go.Proofs.Lays.n156 Tryd.prog Tryd.lays156_ren := {
  mixed := by kernel_rfl
  f156 := Tryd.func38.trans (congrArg some (by kernel_rfl))
  f165 := Tryd.func58.trans (congrArg some (by kernel_rfl))
  f166 := Tryd.func59.trans (congrArg some (by kernel_rfl))
  f169 := Tryd.func60.trans (congrArg some (by kernel_rfl))
  f240 := Tryd.func68.trans (congrArg some (by kernel_rfl))
  f241 := Tryd.func69.trans (congrArg some (by kernel_rfl))
  f276 := Tryd.func75.trans (congrArg some (by kernel_rfl))
  f277 := Tryd.func76.trans (congrArg some (by kernel_rfl))
  t0 := Tryd.underlying0
  a0 := Tryd.isAgg0
  z0 := Tryd.sizeOf0
  v0 := Tryd.zeroValue0
  t3 := Tryd.underlying3
  a3 := Tryd.isAgg3
  z3 := Tryd.sizeOf3
  v3 := Tryd.zeroValue3
  t4 := Tryd.underlying4
  a4 := Tryd.isAgg4
  z4 := Tryd.sizeOf4
  v4 := Tryd.zeroValue4
  t9 := Tryd.underlying9
  a9 := Tryd.isAgg9
  z9 := Tryd.sizeOf9
  v9 := Tryd.zeroValue9
  t20 := Tryd.underlying20
  a20 := Tryd.isAgg20
  z20 := Tryd.sizeOf20
  v20 := Tryd.zeroValue20
  t31 := Tryd.underlying54
  a31 := Tryd.isAgg54
  z31 := Tryd.sizeOf54
  v31 := Tryd.zeroValue54
  t37 := Tryd.underlying24
  a37 := Tryd.isAgg24
  z37 := Tryd.sizeOf24
  v37 := Tryd.zeroValue24
  t70 := Tryd.underlying80
  a70 := Tryd.isAgg80
  z70 := Tryd.sizeOf80
  v70 := Tryd.zeroValue80
  t72 := Tryd.underlying82
  a72 := Tryd.isAgg82
  z72 := Tryd.sizeOf82
  v72 := Tryd.zeroValue82
  t75 := Tryd.underlying85
  a75 := Tryd.isAgg85
  z75 := Tryd.sizeOf85
  v75 := Tryd.zeroValue85
  t76 := Tryd.underlying86
  a76 := Tryd.isAgg86
  z76 := Tryd.sizeOf86
  v76 := Tryd.zeroValue86
  t127 := Tryd.underlying96
  a127 := Tryd.isAgg96
  z127 := Tryd.sizeOf96
  v127 := Tryd.zeroValue96
  t164 := Tryd.underlying103
  a164 := Tryd.isAgg103
  z164 := Tryd.sizeOf103
  v164 := Tryd.zeroValue103 }
theorem Tryd.Builder_Extra_156 : Builder.Extra Tryd.prog Tryd.lays156_ren := {
  sizeBuilder := by kernel_rfl
  liesBuilder := by kernel_rfl
  t5 := Tryd.underlying5
  a5 := Tryd.isAgg5
  z5 := Tryd.sizeOf5
  v5 := Tryd.zeroValue5
  infoByte := by kernel_rfl
  cellsByte := by kernel_rfl
  sizeByte := by kernel_rfl
  neB5 := by decide }
open Go.RowKit in
/-- No element: the empty string; the world is as it was. (Whatever the slice's address and capacity: a nil slice too.) (LAID: no walk: one application.) -/
theorem Tryd.strings_Join_none (a : Option Addr) (c : Nat) (sep : ByteArray) (w : World) :
    Calls Tryd.prog 38 #[.slice a 0 c, .string sep] w fun e w' => e = .returned (.string ⟨#[]⟩) ∧ w' = w := Any.strings_Join_none Tryd.lays156 Tryd.Builder_Extra_156 a c sep w
open Go.RowKit in
/-- strings.Join: "Join concatenates the elements of its first argument to create a single string. The separator string sep is placed between elements in the resulting string.": HOWEVER MANY ELEMENTS. Below the heap's end the world is as it was. (LAID: no walk: one application.) -/
theorem Tryd.strings_Join (bk o c : Nat) (xs : List ByteArray) (sep : ByteArray) (w : World) (hcells : ∀ (j : Nat) x, xs[j]? = some x → w.cell? ⟨bk, o + j, none⟩ = some (.string x)) (hbk : bk < w.heap.size) (hN : xs.length ≤ 140737488355328) (hcap : xs.length ≤ c) (hlen : (Lib.join (xs.map (·.data.toList)) sep.data.toList).length ≤ 140737488355328) :
    Calls Tryd.prog 38 #[.slice (some ⟨bk, o, none⟩) xs.length c, .string sep] w fun e w' => e = .returned (.string ⟨(Lib.join (xs.map (·.data.toList)) sep.data.toList).toArray⟩) ∧ Below w.heap.size w w' := Any.strings_Join Tryd.lays156 Tryd.Builder_Extra_156 bk o c xs sep w hcells hbk hN hcap hlen
def Tryd.laysM171_ren : Go.Shelf.Ren := ⟨fun | 171 => 37 | 243 => 57 | 246 => 67 | 283 => 71 | 284 => 72 | 285 => 73 | 286 => 74 | 129 => 78 | 317 => 77 | 318 => 79 | 319 => 80 | 320 => 81 | 337 => 82 | 338 => 83 | n => n, fun | 3 => 3 | 9 => 9 | 2 => 2 | 4 => 4 | 171 => 97 | 0 => 0 | 53 => 98 | 37 => 24 | 5 => 5 | 173 => 101 | 212 => 106 | 51 => 107 | 20 => 20 | 213 => 108 | 46 => 79 | 232 => 111 | 233 => 112 | n => n, fun | 17 => 0 | 18 => 2 | 19 => 3 | n => n⟩
theorem Tryd.laysM171 : Go.Proofs.LaysM.n171 Tryd.prog Tryd.laysM171_ren := {
  mixed := by kernel_rfl
  f129 := Tryd.func78.trans (congrArg some (by kernel_rfl))
  f171 := Tryd.func37.trans (congrArg some (by kernel_rfl))
  f243 := Tryd.func57.trans (congrArg some (by kernel_rfl))
  f246 := Tryd.func67.trans (congrArg some (by kernel_rfl))
  f283 := Tryd.func71.trans (congrArg some (by kernel_rfl))
  f284 := Tryd.func72.trans (congrArg some (by kernel_rfl))
  f285 := Tryd.func73.trans (congrArg some (by kernel_rfl))
  f286 := Tryd.func74.trans (congrArg some (by kernel_rfl))
  f317 := Tryd.func77.trans (congrArg some (by kernel_rfl))
  f318 := Tryd.func79.trans (congrArg some (by kernel_rfl))
  f319 := Tryd.func80.trans (congrArg some (by kernel_rfl))
  f320 := Tryd.func81.trans (congrArg some (by kernel_rfl))
  f337 := Tryd.func82.trans (congrArg some (by kernel_rfl))
  f338 := Tryd.func83.trans (congrArg some (by kernel_rfl))
  t0 := Tryd.underlying0
  a0 := Tryd.isAgg0
  z0 := Tryd.sizeOf0
  v0 := Tryd.zeroValue0
  t2 := Tryd.underlying2
  a2 := Tryd.isAgg2
  z2 := Tryd.sizeOf2
  v2 := Tryd.zeroValue2
  t3 := Tryd.underlying3
  a3 := Tryd.isAgg3
  z3 := Tryd.sizeOf3
  v3 := Tryd.zeroValue3
  t4 := Tryd.underlying4
  a4 := Tryd.isAgg4
  z4 := Tryd.sizeOf4
  v4 := Tryd.zeroValue4
  t5 := Tryd.underlying5
  a5 := Tryd.isAgg5
  z5 := Tryd.sizeOf5
  v5 := Tryd.zeroValue5
  t9 := Tryd.underlying9
  a9 := Tryd.isAgg9
  z9 := Tryd.sizeOf9
  v9 := Tryd.zeroValue9
  t20 := Tryd.underlying20
  a20 := Tryd.isAgg20
  z20 := Tryd.sizeOf20
  v20 := Tryd.zeroValue20
  t37 := Tryd.underlying24
  a37 := Tryd.isAgg24
  z37 := Tryd.sizeOf24
  v37 := Tryd.zeroValue24
  t46 := Tryd.underlying79
  a46 := Tryd.isAgg79
  z46 := Tryd.sizeOf79
  v46 := Tryd.zeroValue79
  t51 := Tryd.underlying107
  a51 := Tryd.isAgg107
  z51 := Tryd.sizeOf107
  v51 := Tryd.zeroValue107
  t53 := Tryd.underlying98
  a53 := Tryd.isAgg98
  z53 := Tryd.sizeOf98
  v53 := Tryd.zeroValue98
  t171 := Tryd.underlying97
  a171 := Tryd.isAgg97
  z171 := Tryd.sizeOf97
  v171 := Tryd.zeroValue97
  t173 := Tryd.underlying101
  a173 := Tryd.isAgg101
  z173 := Tryd.sizeOf101
  v173 := Tryd.zeroValue101
  t212 := Tryd.underlying106
  a212 := Tryd.isAgg106
  z212 := Tryd.sizeOf106
  v212 := Tryd.zeroValue106
  t213 := Tryd.underlying108
  a213 := Tryd.isAgg108
  z213 := Tryd.sizeOf108
  t232 := Tryd.underlying111
  a232 := Tryd.isAgg111
  z232 := Tryd.sizeOf111
  v232 := Tryd.zeroValue111
  t233 := Tryd.underlying112
  a233 := Tryd.isAgg112
  z233 := Tryd.sizeOf112
  v233 := Tryd.zeroValue112
  g17 := by kernel_rfl
  g18 := by kernel_rfl
  g19 := by kernel_rfl
  i0 := by kernel_rfl
  i2 := by kernel_rfl
  i3 := by kernel_rfl
  i4 := by kernel_rfl
  i5 := by kernel_rfl
  i9 := by kernel_rfl
  i20 := by kernel_rfl
  i37 := by kernel_rfl
  i46 := by kernel_rfl
  i51 := by kernel_rfl
  i53 := by kernel_rfl
  i171 := by kernel_rfl
  i173 := by kernel_rfl
  i212 := by kernel_rfl
  i232 := by kernel_rfl
  i233 := by kernel_rfl
  m17 := by kernel_rfl
  m18 := by kernel_rfl
  m19 := by kernel_rfl }
open Go.RowKit Go.Sort Go.Lib in
/-- strconv.Itoa: "Itoa is equivalent to FormatInt(int64(i), 10).": i's DECIMAL NUMERAL ('Lib.itoa': a '-' where i is negative, then the digits), FOR EVERY int. The world behind the call: the world before it, new blocks behind the heap (the library's 'var a [24]byte'), draws. (LAID: no walk: one application.) -/
theorem Tryd.strconv_Itoa (n : Int) (h0 : -9223372036854775808 ≤ n) (h1 : n ≤ 9223372036854775807) (w : World) (htab : Lib.TabIs Tryd.prog w "internal/strconv.uint64pow10" .u64 Lib.pow10Tab) :
    Calls Tryd.prog 37 #[.int .i64 n] w fun e w' => e = .returned (.string ⟨(Lib.itoa n).toArray⟩) ∧ ∃ k os, w' = grow (w.drewN k) os := Any.strconv_Itoa Tryd.laysM171 n h0 h1 w htab
def Tryd.laysGw15_ren : Go.Shelf.Ren := ⟨fun | 15 => 47 | 20 => 63 | n => n, fun | 9 => 9 | 23 => 71 | 3 => 3 | 4 => 4 | 0 => 0 | 21 => 21 | n => n, fun | n => n⟩
theorem Tryd.laysGw15 : Go.Proofs.LaysGw.n15 Tryd.prog Tryd.laysGw15_ren := {
  mixed := by kernel_rfl
  f15 := Tryd.func47.trans (congrArg some (by kernel_rfl))
  f20 := Tryd.func63.trans (congrArg some (by kernel_rfl))
  t0 := Tryd.underlying0
  a0 := Tryd.isAgg0
  z0 := Tryd.sizeOf0
  v0 := Tryd.zeroValue0
  i0 := by kernel_rfl
  t3 := Tryd.underlying3
  a3 := Tryd.isAgg3
  z3 := Tryd.sizeOf3
  v3 := Tryd.zeroValue3
  i3 := by kernel_rfl
  t4 := Tryd.underlying4
  a4 := Tryd.isAgg4
  z4 := Tryd.sizeOf4
  v4 := Tryd.zeroValue4
  i4 := by kernel_rfl
  t9 := Tryd.underlying9
  a9 := Tryd.isAgg9
  z9 := Tryd.sizeOf9
  v9 := Tryd.zeroValue9
  i9 := by kernel_rfl
  t21 := Tryd.underlying21
  a21 := Tryd.isAgg21
  z21 := Tryd.sizeOf21
  v21 := Tryd.zeroValue21
  i21 := by kernel_rfl
  t23 := Tryd.underlying71
  a23 := Tryd.isAgg71
  z23 := Tryd.sizeOf71
  v23 := Tryd.zeroValue71
  i23 := by kernel_rfl }
open Go.RowKit Go.Lib in
theorem Tryd.strings_IndexFunc_grows (g : Nat) (lb : Array Value) (eg : ∀ args w, (callFunc g args).run Tryd.prog w = .ok (.enter g args) w) (p : Nat → Bool) (s : ByteArray) (w : World) (hp : PredGrows Tryd.prog g lb p w) :
    Calls Tryd.prog 47 #[.string s, .func (.func g) #[] lb] w fun e w' => e = .returned (.int .i64 (Lib.idxFunc p true s)) ∧ Below w.heap.size w w' := Any.strings_IndexFunc_grows Tryd.laysGw15 g lb eg p s w hp
end Go.Proofs


namespace Go.AS.C
open Go Go.Proofs
/-! The kit's contracts, told of abstract states. -/
/-- The type of operations. -/
abbrev opT : TypeId := 23
theorem joinsTexts : JoinsTexts Tryd.prog strings_Join :=
  ⟨fun bk o c xs sep w h1 h2 h3 h4 h5 => Tryd.strings_Join bk o c xs sep w h1 h2 h3 h4 h5, fun a c sep w => Tryd.strings_Join_none a c sep w⟩
theorem idxFuncs : IdxFuncs Tryd.prog strings_IndexFunc :=
  fun g p s w eg hp => Tryd.strings_IndexFunc_grows g #[] eg p s w hp
end Go.AS.C


namespace Go.AS.C
open Go Go.Proofs
set_option linter.unusedVariables false
set_option linter.unusedSimpArgs false
set_option maxRecDepth 10000

theorem ids_Right_spec {A : AH} {s : ByteArray} {Q : Value → AH → Prop} (hq : Q (.bool (decide (s.size = 32))) A) : ACalls 1 Tryd.prog ids_Right [.string s] Q A := by
  refine ACalls.of_fits mixed fits_ids_Right rfl ?_
  unfold ic_ids_Right
  have i0 : initA [.string s] 0 = .string s := rfl
  generalize initA [.string s] = a at i0
  by_cases h : s.size = 32
  · rw [decide_eq_true h] at hq
    simp (maxSteps := 1000000) (disch := omega) only [stepS, reduceIte, Nat.reduceBEq, Nat.reduceEqDiff, tupleOf, stepT, i0]
    exact hq
  · rw [decide_eq_false h] at hq
    simp (maxSteps := 1000000) (disch := omega) only [stepS, reduceIte, Nat.reduceBEq, Nat.reduceEqDiff, tupleOf, stepT, i0]
    exact hq
end Go.AS.C


namespace Go.AS.C
open Go Go.Proofs
set_option linter.unusedVariables false
set_option linter.unusedSimpArgs false
set_option maxRecDepth 10000

/-! op.has, op.Name, op.bare, op.Check; the reference's Has, Name, Check. -/
theorem op_has_spec {A : AH} {k : Int} {Q : Value → AH → Prop} (hq : Q (ii (hasO k)) A) : ACalls 1 Tryd.prog op_has [ii k] Q A := by
  refine ACalls.of_fits mixed fits_op_has rfl ?_
  unfold ic_op_has
  have i0 : initA [ii k] 0 = ii k := rfl
  generalize initA [ii k] = a at i0
  by_cases h1 : k = 1
  · subst h1; simp (maxSteps := 1000000) (disch := omega) only [stepS, reduceIte, Nat.reduceBEq, Nat.reduceEqDiff, tupleOf, stepT, i0]; exact hq
  by_cases h2 : k = 2
  · subst h2; simp (maxSteps := 1000000) (disch := omega) only [stepS, reduceIte, Nat.reduceBEq, Nat.reduceEqDiff, tupleOf, stepT, i0]; exact hq
  by_cases h3 : k = 3
  · subst h3; simp (maxSteps := 1000000) (disch := omega) only [stepS, reduceIte, Nat.reduceBEq, Nat.reduceEqDiff, tupleOf, stepT, i0]; exact hq
  by_cases h4 : k = 4
  · subst h4; simp (maxSteps := 1000000) (disch := omega) only [stepS, reduceIte, Nat.reduceBEq, Nat.reduceEqDiff, tupleOf, stepT, i0]; exact hq
  by_cases h5 : k = 5
  · subst h5; simp (maxSteps := 1000000) (disch := omega) only [stepS, reduceIte, Nat.reduceBEq, Nat.reduceEqDiff, tupleOf, stepT, i0]; exact hq
  by_cases h6 : k = 6
  · subst h6; simp (maxSteps := 1000000) (disch := omega) only [stepS, reduceIte, Nat.reduceBEq, Nat.reduceEqDiff, tupleOf, stepT, i0]; exact hq
  by_cases h7 : k = 7
  · subst h7; simp (maxSteps := 1000000) (disch := omega) only [stepS, reduceIte, Nat.reduceBEq, Nat.reduceEqDiff, tupleOf, stepT, i0]; exact hq
  have e : hasO k = -1 := by unfold hasO; simp [h1, h2, h3, h4, h5, h6, h7]
  rw [e] at hq
  simp (maxSteps := 1000000) (disch := omega) only [stepS, reduceIte, Nat.reduceBEq, Nat.reduceEqDiff, tupleOf, stepT, i0]
  exact hq

def oddR (r : Nat) : Bool := !decide (97 ≤ r ∧ r ≤ 122 ∨ 48 ≤ r ∧ r ≤ 57 ∨ r = 45)
theorem geq32 (a b : Int) : binA .geq (.int .i32 a) (.int .i32 b) = some (.bool (decide (a ≥ b))) := by simp [binA]
theorem leq32 (a b : Int) : binA .leq (.int .i32 a) (.int .i32 b) = some (.bool (decide (a ≤ b))) := by simp [binA]
theorem fits0_op_Name_1 : Fits Tryd.prog (0) op_Name_1 ic_op_Name_1 [.tmp 2] 1 := by
  have h : ((Tryd.prog.funcs[op_Name_1]?).bind fun fn => fn.body.bind (cCode Tryd.prog (0) fn.ntmps)) = some ic_op_Name_1 := by kernel_rfl
  obtain ⟨fn, h1, h2, h3, h4⟩ := fits_op_Name_1
  rw [h1] at h
  exact ⟨fn, h1, h2, h, h4⟩
theorem op_Name_1_spec (r : Nat) : ACalls (0) Tryd.prog op_Name_1 [.int .i32 r] (fun v _ => v = .bool (oddR r)) [] := by
  refine ACalls.of_fits mixed fits0_op_Name_1 rfl ?_
  unfold ic_op_Name_1
  have i0 : initA [.int .i32 r] 0 = .int .i32 r := rfl
  generalize initA [.int .i32 r] = a at i0
  unfold oddR
  by_cases h1 : 97 ≤ r
  · by_cases h2 : r ≤ 122
    · simp (maxSteps := 1000000) (disch := omega) only [stepS, reduceIte, Nat.reduceBEq, Nat.reduceEqDiff, tupleOf, stepT, i0, geq32, leq32]
      try (simp [*]; done)
      try (simp; omega)
    · simp (maxSteps := 1000000) (disch := omega) only [stepS, reduceIte, Nat.reduceBEq, Nat.reduceEqDiff, tupleOf, stepT, i0, geq32, leq32]
      try (simp [*]; done)
      try (simp; omega)
  · by_cases h3 : 48 ≤ r
    · by_cases h4 : r ≤ 57
      · simp (maxSteps := 1000000) (disch := omega) only [stepS, reduceIte, Nat.reduceBEq, Nat.reduceEqDiff, tupleOf, stepT, i0, geq32, leq32]
        try (simp [*]; done)
        try (simp; omega)
      · simp (maxSteps := 1000000) (disch := omega) only [stepS, reduceIte, Nat.reduceBEq, Nat.reduceEqDiff, tupleOf, stepT, i0, geq32, leq32]
        try (simp [*]; done)
        try (simp; omega)
    · by_cases h5 : r = 45
      · subst h5
        simp (maxSteps := 1000000) (disch := omega) only [stepS, reduceIte, Nat.reduceBEq, Nat.reduceEqDiff, tupleOf, stepT, i0, geq32, leq32]
        try (simp [*]; done)
        try (simp; omega)
      · simp (maxSteps := 1000000) (disch := omega) only [stepS, reduceIte, Nat.reduceBEq, Nat.reduceEqDiff, tupleOf, stepT, i0, geq32, leq32]
        try (simp [*]; done)
        try (simp; omega)
theorem decode_hi {s : ByteArray} {i : Nat} (h : 128 ≤ (s.get! i).toNat) : 128 ≤ (Utf8.decode s i).1 := by
  unfold Utf8.decode
  simp only [Nat.add_zero]
  rw [if_neg (by omega)]
  unfold Utf8.runeError
  repeat' split
  all_goals simp only []
  all_goals first | omega | (rename_i h; simp only [Bool.and_eq_true, decide_eq_true_eq] at h; omega) | skip
theorem decode_lo {s : ByteArray} {i : Nat} (h : (s.get! i).toNat < 128) : Utf8.decode s i = ((s.get! i).toNat, 1) := by
  unfold Utf8.decode
  simp only [Nat.add_zero]
  rw [if_pos (by omega)]
theorem idx_from {s : ByteArray} : ∀ (f pos : Nat), s.size ≤ pos + f → (Lib.idxFuncFrom oddR true s f pos < 0 ↔ ∀ b ∈ (bl s).drop pos, nameB b = true)
  | f, pos, hf => by
    by_cases hp : pos < s.size
    · obtain ⟨f, rfl⟩ : ∃ f', f = f' + 1 := ⟨f - 1, by omega⟩
      unfold Lib.idxFuncFrom
      rw [if_pos hp]
      have hl : pos < (bl s).length := by rw [bl_size]; exact hp
      have hg : s.get! pos = (bl s)[pos] := by
        cases s with
        | mk d =>
          show d[pos]! = _
          simp only [bl] at hl ⊢
          rw [getElem!_pos d pos (by simpa using hl)]
          simp
      rw [List.drop_eq_getElem_cons hl]
      simp only [List.mem_cons, forall_eq_or_imp]
      rcases Nat.lt_or_ge (s.get! pos).toNat 128 with h | h
      · rw [decode_lo h]
        simp only
        have ih := idx_from (s := s) f (pos + 1) (by omega)
        have hn : nameB (bl s)[pos] = !oddR (s.get! pos).toNat := by
          rw [← hg]; unfold nameB oddR; simp
        cases ho : oddR (s.get! pos).toNat with
        | true =>
          rw [ho] at hn
          rw [if_pos rfl, hn]
          simp
        | false =>
          rw [ho] at hn
          rw [if_neg (by simp), hn, ih]
          simp
      · have hr := decode_hi h
        have ho : oddR (Utf8.decode s pos).1 = true := by
          unfold oddR
          all_goals (first | (simp; done) | (simp; omega))
        rw [ho, if_pos rfl]
        have hn : nameB (bl s)[pos] = false := by
          rw [← hg]; unfold nameB; simp; omega
        rw [hn]
        simp
    · rw [Lib.idxFuncFrom_end _ _ _ _ _ hp, List.drop_of_length_le (by rw [bl_size]; omega)]
      simp
theorem idx_name (s : ByteArray) : (Lib.idxFunc oddR true s < 0) ↔ (bl s).all nameB = true := by
  unfold Lib.idxFunc
  rw [idx_from s.size 0 (by omega), List.drop_zero, List.all_eq_true]
theorem op_Name_1_ok : calleeOk Tryd.prog op_Name_1 = true := by kernel_rfl
theorem op_Name_spec {A : AH} {s : ByteArray} {Q : Value → AH → Prop} (hq : Q (.bool (nameOk s)) A) : ACalls 1 Tryd.prog op_Name [.string s] Q A := by
  refine ACalls.of_fits mixed fits_op_Name rfl ?_
  unfold ic_op_Name
  have i0 : initA [.string s] 0 = .string s := rfl
  generalize initA [.string s] = a at i0
  simp (maxSteps := 1000000) (disch := omega) only [stepS, reduceIte, Nat.reduceBEq, Nat.reduceEqDiff, tupleOf, stepT, i0]
  refine idxfunc_spec idxFuncs (p := oddR) op_Name_1_ok (fun x _ => ?_) ?_
  · exact op_Name_1_spec x
  have hx := idx_name s
  generalize Lib.idxFunc oddR true s = x at hx
  unfold nameOk at hq
  by_cases h1 : x < 0
  · rw [hx.1 h1, Bool.true_and] at hq
    by_cases h2 : 1 ≤ s.size
    · by_cases h3 : s.size ≤ 12
      · rw [decide_eq_true ⟨h2, h3⟩] at hq
        simp (maxSteps := 1000000) (disch := omega) only [stepS, reduceIte, Nat.reduceBEq, Nat.reduceEqDiff, tupleOf, stepT, i0]
        exact hq
      · rw [decide_eq_false (fun h => h3 h.2)] at hq
        simp (maxSteps := 1000000) (disch := omega) only [stepS, reduceIte, Nat.reduceBEq, Nat.reduceEqDiff, tupleOf, stepT, i0]
        exact hq
    · rw [decide_eq_false (fun h => h2 h.1)] at hq
      simp (maxSteps := 1000000) (disch := omega) only [stepS, reduceIte, Nat.reduceBEq, Nat.reduceEqDiff, tupleOf, stepT, i0]
      exact hq
  · rw [Bool.eq_false_iff.2 (fun h => h1 (hx.2 h)), Bool.false_and] at hq
    simp (maxSteps := 1000000) (disch := omega) only [stepS, reduceIte, Nat.reduceBEq, Nat.reduceEqDiff, tupleOf, stepT, i0]
    exact hq

theorem andH : (∀ m : Int, m = 1 ∨ m = 2 ∨ m = 4 ∨ m = 8 → binA .and (ii (-1)) (ii m) = some (ii m)) ∧ (binA .and (ii 5) (ii 1) = some (ii 1) ∧ binA .and (ii 5) (ii 2) = some (ii 0) ∧ binA .and (ii 5) (ii 4) = some (ii 4) ∧ binA .and (ii 5) (ii 8) = some (ii 0)) ∧
    (binA .and (ii 3) (ii 1) = some (ii 1) ∧ binA .and (ii 3) (ii 2) = some (ii 2) ∧ binA .and (ii 3) (ii 4) = some (ii 0) ∧ binA .and (ii 3) (ii 8) = some (ii 0)) ∧ (binA .and (ii 11) (ii 1) = some (ii 1) ∧ binA .and (ii 11) (ii 2) = some (ii 2) ∧ binA .and (ii 11) (ii 4) = some (ii 0) ∧ binA .and (ii 11) (ii 8) = some (ii 8)) ∧
    (binA .and (ii 9) (ii 1) = some (ii 1) ∧ binA .and (ii 9) (ii 2) = some (ii 0) ∧ binA .and (ii 9) (ii 4) = some (ii 0) ∧ binA .and (ii 9) (ii 8) = some (ii 8)) ∧ (binA .and (ii 0) (ii 1) = some (ii 0) ∧ binA .and (ii 0) (ii 2) = some (ii 0) ∧ binA .and (ii 0) (ii 4) = some (ii 0) ∧ binA .and (ii 0) (ii 8) = some (ii 0)) := by
  refine ⟨?_, ⟨rfl, rfl, rfl, rfl⟩, ⟨rfl, rfl, rfl, rfl⟩, ⟨rfl, rfl, rfl, rfl⟩, ⟨rfl, rfl, rfl, rfl⟩, rfl, rfl, rfl, rfl⟩
  rintro m (rfl | rfl | rfl | rfl) <;> rfl
/-- What a kind has, as the bits tell. -/
theorem and_has {k : Int} (h : hK k = true) : binA .and (ii (hasO k)) (ii 1) = some (ii (if hN k then 1 else 0)) ∧ binA .and (ii (hasO k)) (ii 2) = some (ii (if hT k then 2 else 0)) ∧ binA .and (ii (hasO k)) (ii 4) = some (ii (if hI k then 4 else 0)) ∧
    binA .and (ii (hasO k)) (ii 8) = some (ii (if hA k then 8 else 0)) ∧ 0 ≤ hasO k := by
  rcases opKind h with rfl | rfl | rfl | rfl | rfl | rfl | rfl <;> exact ⟨rfl, rfl, rfl, rfl, by decide⟩
theorem OpV.v_eq (o : OpV) : o.v = .agg #[ii o.k, .string o.name, .string o.text, ii o.n, .string o.place] := rfl
theorem op_bare_spec {A : AH} {o : OpV} {Q : Value → AH → Prop} (hk : hK o.k = true) (hq : Q (bareO o).v A) : ACalls 1 Tryd.prog op_bare [o.v] Q A := by
  refine ACalls.pure1 _ rfl hq fun Q hq => ?_
  refine ACalls.of_fits mixed fits_op_bare rfl ?_
  unfold ic_op_bare
  have i0 : initA [o.v] 0 = o.v := rfl
  generalize initA [o.v] = a at i0
  obtain ⟨k, name, text, n, place⟩ := o
  rw [OpV.v_eq] at i0 hq
  simp only [bareO] at i0 hk hq
  rcases opKind hk with rfl | rfl | rfl | rfl | rfl | rfl | rfl
  all_goals (
    simp only [hN, hT, hI, hA, Int.reduceLE, and_true, true_and, and_false, false_and, decide_true, decide_false, if_true, if_false, Bool.false_eq_true, Int.reduceEq] at hq
    simp (maxSteps := 1000000) (disch := omega) only [stepS, reduceIte, Nat.reduceBEq, Nat.reduceEqDiff, tupleOf, stepT, stepX, heapR, lensR, Nat.reduceAdd, Nat.reduceLeDiff, i0]
    refine W_alt ?_ ?_
    · simp (maxSteps := 1000000) (disch := omega) only [stepS, reduceIte, Nat.reduceBEq, Nat.reduceEqDiff, tupleOf, stepT, stepX, heapR, lensR, Nat.reduceAdd, Nat.reduceLeDiff]
      refine op_has_spec ?_
      simp only [hasO, if_true, if_false, Int.reduceEq, or_true, true_or, or_false, Int.reduceNeg]
      simp (maxSteps := 1000000) (disch := omega) only [stepS, reduceIte, Nat.reduceBEq, Nat.reduceEqDiff, tupleOf, stepT, stepX, heapR, lensR, Nat.reduceAdd, Nat.reduceLeDiff, andH]
      exact hq _ (by (repeat first | exact Le.refl _ | assumption | refine Le.app ?_ _ | refine Le.set ?_ ?_ | omega | (simp only [List.length_append, List.length_singleton, List.length_set]; omega)))
    · simp (maxSteps := 1000000) (disch := omega) only [stepS, reduceIte, Nat.reduceBEq, Nat.reduceEqDiff, tupleOf, stepT, stepX, heapR, lensR, Nat.reduceAdd, Nat.reduceLeDiff]
      refine op_has_spec ?_
      simp only [hasO, if_true, if_false, Int.reduceEq, or_true, true_or, or_false, Int.reduceNeg]
      simp (maxSteps := 1000000) (disch := omega) only [stepS, reduceIte, Nat.reduceBEq, Nat.reduceEqDiff, tupleOf, stepT, stepX, heapR, lensR, Nat.reduceAdd, Nat.reduceLeDiff, andH]
      exact hq _ (by (repeat first | exact Le.refl _ | assumption | refine Le.app ?_ _ | refine Le.set ?_ ?_ | omega | (simp only [List.length_append, List.length_singleton, List.length_set]; omega))))
def opKs : List FK := [.int .i64, .str, .str, .int .i64, .str]
theorem flat_op : flatS Tryd.prog opT opKs = true := by kernel_rfl
theorem OpV.Fin.has {o : OpV} (h : o.Fin) : All2 (fun v k => FK.Has k v) o.cs opKs := by
  obtain ⟨h1, h2, h3, h4, h5⟩ := h
  have hm : maxLen = 9223372036854775807 := by decide
  exact ⟨FK.hasI h1, show _ ≤ maxLen by omega, show _ ≤ maxLen by omega, FK.hasI h2, show _ ≤ maxLen by omega, trivial⟩
theorem eqop (A : AH) (neg : Bool) {a b : OpV} (ha : a.Fin) (hb : b.Fin) : sEqagg A neg (Tryd.prog.keyLits 8 opT) a.v b.v = some (.bool (decide (a = b) != neg), A) := by
  refine eqagg_flat flat_op ha.has hb.has ?_
  rw [decide_eq_true_eq]
  cases a; cases b
  simp [OpV.cs]
theorem bareO_fin {o : OpV} (h : o.Fin) : (bareO o).Fin := by
  obtain ⟨h1, h2, h3, h4, h5⟩ := h
  unfold bareO
  have e : e0.size = 0 := rfl
  refine ⟨h1, ?_, ?_, ?_, ?_⟩ <;> simp only <;> split <;> first | assumption | omega
theorem bare_ok {o : OpV} : bareO o = o ↔ (hN o.k = true ∨ o.name = e0) ∧ (hT o.k = true ∨ o.text = e0) ∧ (hI o.k = true ∨ o.n = 0) ∧ (hA o.k = true ∨ o.place = e0) := by
  obtain ⟨k, name, text, n, place⟩ := o
  unfold bareO
  simp only [OpV.mk.injEq, true_and]
  cases hN k <;> cases hT k <;> cases hI k <;> cases hA k <;> simp [eq_comm]
def checkO (o : OpV) : Int := if opOk o then 0 else 1
theorem op_Check_spec {A : AH} {o : OpV} {Q : Value → AH → Prop} (hs : o.Fin) (hq : Q (ii (checkO o)) A) : ACalls 1 Tryd.prog op_Check [o.v] Q A := by
  refine ACalls.pure1 _ rfl hq fun Q hq => ?_
  have hbad : opOk o = false → ∀ A', Le A A' → Q (ii 1) A' := fun h A' k => by have := hq A' k; unfold checkO at this; rw [h] at this; exact this
  have hgood : opOk o = true → ∀ A', Le A A' → Q (ii 0) A' := fun h A' k => by have := hq A' k; unfold checkO at this; rw [h] at this; exact this
  have hiff := @opOk_iff o
  have hbare := @bare_ok o
  have hs2 := hs.2.1
  have hs3 := hs.2.2.2.1
  refine ACalls.of_fits mixed fits_op_Check rfl ?_
  unfold ic_op_Check
  have i0 : initA [o.v] 0 = o.v := rfl
  generalize initA [o.v] = a at i0
  rw [OpV.v_eq] at i0
  have eb : ∀ A, sEqagg A true (Tryd.prog.keyLits 8 opT) (bareO o).v (.agg #[ii o.k, .string o.name, .string o.text, ii o.n, .string o.place]) = some (.bool (decide (bareO o = o) != true), A) := fun A => eqop A true (bareO_fin hs) hs
  have hA : ∀ {B : AH}, B = A ++ [.row [ii o.k, .string o.name, .string o.text, ii o.n, .string o.place] .own 0 true] → rowAt B A.length = some ([ii o.k, .string o.name, .string o.text, ii o.n, .string o.place], .own, 0, true) := fun h => by subst h; simp (maxSteps := 1000000) (disch := omega) only [stepS, reduceIte, Nat.reduceBEq, Nat.reduceEqDiff, tupleOf, stepT, stepX, heapR, lensR, Nat.reduceAdd, Nat.reduceLeDiff]
  refine W_mid (fun a B => B = A ++ [.row [ii o.k, .string o.name, .string o.text, ii o.n, .string o.place] .own 0 true] ∧ a 1 = ptr A.length) ?_ ?_
  · simp (maxSteps := 1000000) (disch := omega) only [stepS, reduceIte, Nat.reduceBEq, Nat.reduceEqDiff, tupleOf, stepT, stepX, heapR, lensR, Nat.reduceAdd, Nat.reduceLeDiff, i0]
  rintro a B ⟨hB, g1⟩
  have r1 := hA hB
  have hl : Le A B := by rw [hB]; exact .push _ _
  clear hA i0 hB
  refine W_mid (fun a B' => B' = B ∧ a 1 = ptr A.length ∧ a 3 = ii (hasO o.k)) ?_ ?_
  · simp (maxSteps := 1000000) (disch := omega) only [stepS, reduceIte, Nat.reduceBEq, Nat.reduceEqDiff, tupleOf, stepT, stepX, heapR, lensR, Nat.reduceAdd, Nat.reduceLeDiff, g1, r1]
    refine op_has_spec ?_
    simp (maxSteps := 1000000) (disch := omega) only [stepS, reduceIte, Nat.reduceBEq, Nat.reduceEqDiff, tupleOf, stepT, stepX, heapR, lensR, Nat.reduceAdd, Nat.reduceLeDiff, g1]
  rintro a B ⟨rfl, g1, g3⟩
  by_cases hk : hK o.k = true
  · obtain ⟨b1, b2, b4, b8, hp⟩ := and_has hk
    have hlt : ¬ hasO o.k < 0 := by omega
    refine W_mid (fun a B' => B' = B ∧ a 1 = ptr A.length ∧ a 3 = ii (hasO o.k) ∧ a 4 = .bool (!hN o.k || nameOk o.name)) ?_ ?_
    · by_cases hn : hN o.k = true
      · rw [if_pos hn] at b1
        simp (maxSteps := 1000000) (disch := omega) only [stepS, reduceIte, Nat.reduceBEq, Nat.reduceEqDiff, tupleOf, stepT, stepX, heapR, lensR, Nat.reduceAdd, Nat.reduceLeDiff, g1, g3, r1, b1]
        refine op_Name_spec ?_
        simp (maxSteps := 1000000) (disch := omega) only [stepS, reduceIte, Nat.reduceBEq, Nat.reduceEqDiff, tupleOf, stepT, stepX, heapR, lensR, Nat.reduceAdd, Nat.reduceLeDiff, g1, g3]
        simp [hn]
      · rw [if_neg hn] at b1
        simp (maxSteps := 1000000) (disch := omega) only [stepS, reduceIte, Nat.reduceBEq, Nat.reduceEqDiff, tupleOf, stepT, stepX, heapR, lensR, Nat.reduceAdd, Nat.reduceLeDiff, g1, g3, r1, b1]
        simp [hn]
    rintro a B ⟨rfl, g1, g3, g4⟩
    refine W_mid (fun a B' => B' = B ∧ a 1 = ptr A.length ∧ a 3 = ii (hasO o.k) ∧ a 4 = .bool (!hN o.k || nameOk o.name) ∧ a 5 = .bool (decide (o.text.size ≤ 48 ∧ -2147483647 ≤ o.n ∧ o.n ≤ 2147483647))) ?_ ?_
    · by_cases w1 : o.text.size ≤ 48
      · by_cases w2 : o.n ≥ -2147483647
        · simp (maxSteps := 1000000) (disch := omega) only [stepS, reduceIte, Nat.reduceBEq, Nat.reduceEqDiff, tupleOf, stepT, stepX, heapR, lensR, Nat.reduceAdd, Nat.reduceLeDiff, g1, g3, g4, r1]
          simp [w1, w2]
        · simp (maxSteps := 1000000) (disch := omega) only [stepS, reduceIte, Nat.reduceBEq, Nat.reduceEqDiff, tupleOf, stepT, stepX, heapR, lensR, Nat.reduceAdd, Nat.reduceLeDiff, g1, g3, g4, r1]
          all_goals (first | (simp; done) | (simp; omega))
      · simp (maxSteps := 1000000) (disch := omega) only [stepS, reduceIte, Nat.reduceBEq, Nat.reduceEqDiff, tupleOf, stepT, stepX, heapR, lensR, Nat.reduceAdd, Nat.reduceLeDiff, g1, g3, g4, r1]
        all_goals (first | (simp; done) | (simp; omega))
    rintro a B ⟨rfl, g1, g3, g4, g5⟩
    refine W_mid (fun a B' => B' = B ∧ a 1 = ptr A.length ∧ a 3 = ii (hasO o.k) ∧ a 4 = .bool (!hN o.k || nameOk o.name) ∧ a 5 = .bool (decide (o.text.size ≤ 48 ∧ -2147483647 ≤ o.n ∧ o.n ≤ 2147483647)) ∧ a 6 = .bool (decide (o.place = e0 ∨ o.place.size = 32))) ?_ ?_
    · by_cases hpl : o.place = e0
      · simp (maxSteps := 1000000) (disch := omega) only [stepS, reduceIte, Nat.reduceBEq, Nat.reduceEqDiff, tupleOf, stepT, stepX, heapR, lensR, Nat.reduceAdd, Nat.reduceLeDiff, g1, g3, g4, g5, r1, hpl]
        simp
      · simp (maxSteps := 1000000) (disch := omega) only [stepS, reduceIte, Nat.reduceBEq, Nat.reduceEqDiff, tupleOf, stepT, stepX, heapR, lensR, Nat.reduceAdd, Nat.reduceLeDiff, g1, g3, g4, g5, r1, hpl]
        refine ids_Right_spec ?_
        simp (maxSteps := 1000000) (disch := omega) only [stepS, reduceIte, Nat.reduceBEq, Nat.reduceEqDiff, tupleOf, stepT, stepX, heapR, lensR, Nat.reduceAdd, Nat.reduceLeDiff, g1, g3, g4, g5]
        simp [hpl]
    rintro a B ⟨rfl, g1, g3, g4, g5, g6⟩
    have fail : opOk o = false → Q (ii 1) B := fun h => hbad h _ hl
    by_cases hb : bareO o = o
    · rw [decide_eq_true hb] at eb
      change ∀ A, _ = some (Value.bool false, A) at eb
      have hb2 := hbare.1 hb
      by_cases q1 : (!hN o.k || nameOk o.name) = true
      · rw [q1] at g4
        by_cases q2 : o.text.size ≤ 48 ∧ -2147483647 ≤ o.n ∧ o.n ≤ 2147483647
        · rw [decide_eq_true q2] at g5
          by_cases q3 : o.place = e0 ∨ o.place.size = 32
          · rw [decide_eq_true q3] at g6
            by_cases q4 : o.k = 5
            · by_cases q5 : o.text = e0
              · skip
                simp (maxSteps := 1000000) (disch := omega) only [stepS, reduceIte, Nat.reduceBEq, Nat.reduceEqDiff, tupleOf, stepT, stepX, heapR, lensR, Nat.reduceAdd, Nat.reduceLeDiff, g1, g3, g4, g5, g6, r1, hlt]
                refine op_bare_spec hk ?_
                simp (maxSteps := 1000000) (disch := omega) only [stepS, reduceIte, Nat.reduceBEq, Nat.reduceEqDiff, tupleOf, stepT, stepX, heapR, lensR, Nat.reduceAdd, Nat.reduceLeDiff, g1, g4, g5, g6, r1, eb, decide_eq_true q5]
                exact fail (by rw [← Bool.not_eq_true, hiff]; exact fun h => h.2.2.2.2.2.2.2.2.1 ⟨q4, q5⟩)
              · skip
                simp (maxSteps := 1000000) (disch := omega) only [stepS, reduceIte, Nat.reduceBEq, Nat.reduceEqDiff, tupleOf, stepT, stepX, heapR, lensR, Nat.reduceAdd, Nat.reduceLeDiff, g1, g3, g4, g5, g6, r1, hlt]
                refine op_bare_spec hk ?_
                simp (maxSteps := 1000000) (disch := omega) only [stepS, reduceIte, Nat.reduceBEq, Nat.reduceEqDiff, tupleOf, stepT, stepX, heapR, lensR, Nat.reduceAdd, Nat.reduceLeDiff, g1, g4, g5, g6, r1, eb, decide_eq_false q5]
                refine hgood (hiff.2 ⟨hk, ?_, q2.1, hb2.2.1, hb2.2.2.1, hb2.2.2.2, q2.2, q3, fun h => q5 h.2, fun h => by omega⟩) _ hl
                split
                · rename_i hn; rw [hn] at q1; simpa using q1
                · rename_i hn; exact hb2.1.resolve_left hn
            · by_cases q6 : o.k = 6
              · by_cases q7 : o.place = e0
                · skip
                  simp (maxSteps := 1000000) (disch := omega) only [stepS, reduceIte, Nat.reduceBEq, Nat.reduceEqDiff, tupleOf, stepT, stepX, heapR, lensR, Nat.reduceAdd, Nat.reduceLeDiff, g1, g3, g4, g5, g6, r1, hlt]
                  refine op_bare_spec hk ?_
                  simp (maxSteps := 1000000) (disch := omega) only [stepS, reduceIte, Nat.reduceBEq, Nat.reduceEqDiff, tupleOf, stepT, stepX, heapR, lensR, Nat.reduceAdd, Nat.reduceLeDiff, g1, g4, g5, g6, r1, eb, decide_eq_true q7]
                  exact fail (by rw [← Bool.not_eq_true, hiff]; exact fun h => h.2.2.2.2.2.2.2.2.2 ⟨q6, q7⟩)
                · skip
                  simp (maxSteps := 1000000) (disch := omega) only [stepS, reduceIte, Nat.reduceBEq, Nat.reduceEqDiff, tupleOf, stepT, stepX, heapR, lensR, Nat.reduceAdd, Nat.reduceLeDiff, g1, g3, g4, g5, g6, r1, hlt]
                  refine op_bare_spec hk ?_
                  simp (maxSteps := 1000000) (disch := omega) only [stepS, reduceIte, Nat.reduceBEq, Nat.reduceEqDiff, tupleOf, stepT, stepX, heapR, lensR, Nat.reduceAdd, Nat.reduceLeDiff, g1, g4, g5, g6, r1, eb, decide_eq_false q7]
                  refine hgood (hiff.2 ⟨hk, ?_, q2.1, hb2.2.1, hb2.2.2.1, hb2.2.2.2, q2.2, q3, fun h => by omega, fun h => q7 h.2⟩) _ hl
                  split
                  · rename_i hn; rw [hn] at q1; simpa using q1
                  · rename_i hn; exact hb2.1.resolve_left hn
              · skip
                simp (maxSteps := 1000000) (disch := omega) only [stepS, reduceIte, Nat.reduceBEq, Nat.reduceEqDiff, tupleOf, stepT, stepX, heapR, lensR, Nat.reduceAdd, Nat.reduceLeDiff, g1, g3, g4, g5, g6, r1, hlt]
                refine op_bare_spec hk ?_
                simp (maxSteps := 1000000) (disch := omega) only [stepS, reduceIte, Nat.reduceBEq, Nat.reduceEqDiff, tupleOf, stepT, stepX, heapR, lensR, Nat.reduceAdd, Nat.reduceLeDiff, g1, g4, g5, g6, r1, eb]
                refine hgood (hiff.2 ⟨hk, ?_, q2.1, hb2.2.1, hb2.2.2.1, hb2.2.2.2, q2.2, q3, fun h => q4 h.1, fun h => q6 h.1⟩) _ hl
                split
                · rename_i hn; rw [hn] at q1; simpa using q1
                · rename_i hn; exact hb2.1.resolve_left hn
          · rw [decide_eq_false q3] at g6
            simp (maxSteps := 1000000) (disch := omega) only [stepS, reduceIte, Nat.reduceBEq, Nat.reduceEqDiff, tupleOf, stepT, stepX, heapR, lensR, Nat.reduceAdd, Nat.reduceLeDiff, g1, g3, g4, g5, g6, r1, hlt]
            refine op_bare_spec hk ?_
            simp (maxSteps := 1000000) (disch := omega) only [stepS, reduceIte, Nat.reduceBEq, Nat.reduceEqDiff, tupleOf, stepT, stepX, heapR, lensR, Nat.reduceAdd, Nat.reduceLeDiff, g1, g4, g5, g6, r1, eb]
            exact fail (by rw [← Bool.not_eq_true, hiff]; exact fun h => q3 h.2.2.2.2.2.2.2.1)
        · rw [decide_eq_false q2] at g5
          simp (maxSteps := 1000000) (disch := omega) only [stepS, reduceIte, Nat.reduceBEq, Nat.reduceEqDiff, tupleOf, stepT, stepX, heapR, lensR, Nat.reduceAdd, Nat.reduceLeDiff, g1, g3, g4, g5, g6, r1, hlt]
          refine op_bare_spec hk ?_
          simp (maxSteps := 1000000) (disch := omega) only [stepS, reduceIte, Nat.reduceBEq, Nat.reduceEqDiff, tupleOf, stepT, stepX, heapR, lensR, Nat.reduceAdd, Nat.reduceLeDiff, g1, g4, g5, g6, r1, eb]
          exact fail (by rw [← Bool.not_eq_true, hiff]; exact fun h => q2 ⟨h.2.2.1, h.2.2.2.2.2.2.1⟩)
      · rw [Bool.not_eq_true] at q1
        rw [q1] at g4
        simp (maxSteps := 1000000) (disch := omega) only [stepS, reduceIte, Nat.reduceBEq, Nat.reduceEqDiff, tupleOf, stepT, stepX, heapR, lensR, Nat.reduceAdd, Nat.reduceLeDiff, g1, g3, g4, g5, g6, r1, hlt]
        refine op_bare_spec hk ?_
        simp (maxSteps := 1000000) (disch := omega) only [stepS, reduceIte, Nat.reduceBEq, Nat.reduceEqDiff, tupleOf, stepT, stepX, heapR, lensR, Nat.reduceAdd, Nat.reduceLeDiff, g1, g4, g5, g6, r1, eb]
        refine fail ?_
        rw [← Bool.not_eq_true, hiff]
        intro h
        rw [Bool.or_eq_false_iff] at q1
        have hn : hN o.k = true := by simpa using q1.1
        have := h.2.1
        rw [if_pos hn, q1.2] at this
        cases this
    · rw [decide_eq_false hb] at eb
      change ∀ A, _ = some (Value.bool true, A) at eb
      simp (maxSteps := 1000000) (disch := omega) only [stepS, reduceIte, Nat.reduceBEq, Nat.reduceEqDiff, tupleOf, stepT, stepX, heapR, lensR, Nat.reduceAdd, Nat.reduceLeDiff, g1, g3, g4, g5, g6, r1, hlt]
      refine op_bare_spec hk ?_
      simp (maxSteps := 1000000) (disch := omega) only [stepS, reduceIte, Nat.reduceBEq, Nat.reduceEqDiff, tupleOf, stepT, stepX, heapR, lensR, Nat.reduceAdd, Nat.reduceLeDiff, g1, g4, g5, g6, r1, eb]
      refine fail ?_
      rw [← Bool.not_eq_true, hiff]
      intro h
      refine hb (hbare.2 ⟨?_, h.2.2.2.1, h.2.2.2.2.1, h.2.2.2.2.2.1⟩)
      have h2 := h.2.1
      by_cases hn : hN o.k = true
      · exact .inl hn
      · rw [if_neg hn] at h2; exact .inr h2
  · have fail : Q (ii 1) B := hbad (by rw [← Bool.not_eq_true, hiff]; exact fun h => hk h.1) _ hl
    have hh : hasO o.k = -1 := by
      unfold hK at hk
      rw [decide_eq_true_eq] at hk
      unfold hasO
      rw [if_neg (by omega), if_neg (by omega), if_neg (by omega), if_neg (by omega), if_neg (by omega)]
    rw [hh] at g3
    refine W_mid (fun a B' => B' = B ∧ a 1 = ptr A.length ∧ a 3 = ii (-1)) ?_ ?_
    · simp (maxSteps := 1000000) (disch := omega) only [stepS, reduceIte, Nat.reduceBEq, Nat.reduceEqDiff, tupleOf, stepT, stepX, heapR, lensR, Nat.reduceAdd, Nat.reduceLeDiff, g1, g3, r1, andH]
      refine op_Name_spec ?_
      simp (maxSteps := 1000000) (disch := omega) only [stepS, reduceIte, Nat.reduceBEq, Nat.reduceEqDiff, tupleOf, stepT, stepX, heapR, lensR, Nat.reduceAdd, Nat.reduceLeDiff, g1, g3]
    rintro a B ⟨rfl, g1, g3⟩
    refine W_mid (fun a B' => B' = B ∧ a 1 = ptr A.length ∧ a 3 = ii (-1)) ?_ ?_
    · by_cases w1 : o.text.size ≤ 48
      · by_cases w2 : o.n ≥ -2147483647
        · simp (maxSteps := 1000000) (disch := omega) only [stepS, reduceIte, Nat.reduceBEq, Nat.reduceEqDiff, tupleOf, stepT, stepX, heapR, lensR, Nat.reduceAdd, Nat.reduceLeDiff, g1, g3, r1]
        · simp (maxSteps := 1000000) (disch := omega) only [stepS, reduceIte, Nat.reduceBEq, Nat.reduceEqDiff, tupleOf, stepT, stepX, heapR, lensR, Nat.reduceAdd, Nat.reduceLeDiff, g1, g3, r1]
      · simp (maxSteps := 1000000) (disch := omega) only [stepS, reduceIte, Nat.reduceBEq, Nat.reduceEqDiff, tupleOf, stepT, stepX, heapR, lensR, Nat.reduceAdd, Nat.reduceLeDiff, g1, g3, r1]
    rintro a B ⟨rfl, g1, g3⟩
    refine W_mid (fun a B' => B' = B ∧ a 1 = ptr A.length ∧ a 3 = ii (-1)) ?_ ?_
    · by_cases hpl : o.place = e0
      · simp (maxSteps := 1000000) (disch := omega) only [stepS, reduceIte, Nat.reduceBEq, Nat.reduceEqDiff, tupleOf, stepT, stepX, heapR, lensR, Nat.reduceAdd, Nat.reduceLeDiff, g1, g3, r1, hpl]
      · simp (maxSteps := 1000000) (disch := omega) only [stepS, reduceIte, Nat.reduceBEq, Nat.reduceEqDiff, tupleOf, stepT, stepX, heapR, lensR, Nat.reduceAdd, Nat.reduceLeDiff, g1, g3, r1, hpl]
        refine ids_Right_spec ?_
        simp (maxSteps := 1000000) (disch := omega) only [stepS, reduceIte, Nat.reduceBEq, Nat.reduceEqDiff, tupleOf, stepT, stepX, heapR, lensR, Nat.reduceAdd, Nat.reduceLeDiff, g1, g3]
    rintro a B ⟨rfl, g1, g3⟩
    simp (maxSteps := 1000000) (disch := omega) only [stepS, reduceIte, Nat.reduceBEq, Nat.reduceEqDiff, tupleOf, stepT, stepX, heapR, lensR, Nat.reduceAdd, Nat.reduceLeDiff, g1, g3, r1]
    exact fail
end Go.AS.C


namespace Go.AS.C
open Go Go.Proofs
set_option linter.unusedVariables false
set_option linter.unusedSimpArgs false
set_option maxRecDepth 10000

theorem num_Put_spec {A : AH} {n : Int} {Q : Value → AH → Prop} (hok : ∀ t A', 0 ≤ n → n ≤ 2147483647 → Le A A' → OwnB A.length A' t (putN n.toNat) → Q (.tuple #[t, ii 0]) A')
    (hbad : ¬ (0 ≤ n ∧ n ≤ 2147483647) → Q (.tuple #[.slice none 0 0, ii 1]) A) : ACalls 1 Tryd.prog num_Put [ii n] Q A := by
  refine ACalls.of_fits mixed fits_num_Put rfl ?_
  unfold ic_num_Put
  have i0 : initA [ii n] 0 = ii n := rfl
  generalize initA [ii n] = a at i0
  simp (maxSteps := 1000000) (disch := omega) only [stepS, reduceIte, Nat.reduceBEq, Nat.reduceEqDiff, tupleOf, stepT, i0]
  refine num_is_spec ?_
  by_cases h : 0 ≤ n ∧ n ≤ 2147483647
  · obtain ⟨m, rfl⟩ : ∃ m : Nat, n = m := ⟨n.toNat, by omega⟩
    simp (maxSteps := 1000000) (disch := omega) only [stepS, reduceIte, Nat.reduceBEq, Nat.reduceEqDiff, tupleOf, stepT, i0]
    refine W_loop (fun a' B => ∃ (k : Nat) (z : List UInt8), Le A B ∧ k ≤ m ∧ z.length ≤ 5 ∧ a' 0 = ii k ∧ OwnB A.length B (a' 4) z ∧ z ++ putN k = putN m) (fun a' _ => (iv (a' 0)).toNat) ?_ ?_
    · refine ⟨m, [], .refl _, Nat.le_refl _, by simp, ?_⟩
      simp (maxSteps := 1000000) (disch := omega) only [stepS, reduceIte, Nat.reduceBEq, Nat.reduceEqDiff, tupleOf, stepT, i0]
      exact OwnB.nil _ _
    · rintro a2 B ⟨k, z, hle, hk, hz5, g0, g4, hz⟩
      by_cases hge : 128 ≤ k
      · have l1 := litB B [UInt8.ofNat k ||| 128] (len := 1) (ps := [(0, 1, by8 (UInt8.ofNat k ||| 128))]) rfl rfl
        have k1 : Le B (B ++ [.row (List.map by8 [UInt8.ofNat k ||| 128]) .own 1 true]) := .push _ _
        obtain ⟨v2, A2, p1, p2, p3, _⟩ := app_bytes (hle.trans k1) (OwnS.le g4 k1) (byt_last B [UInt8.ofNat k ||| 128]) (by simp; omega)
        rw [List.length_singleton] at p1
        simp only [List.map_cons, List.map_nil, List.length_singleton] at l1 p1
        simp (maxSteps := 1000000) (disch := omega) only [stepS, reduceIte, Nat.reduceBEq, Nat.reduceEqDiff, tupleOf, stepT, g0, conv_u8_ii, b8_128, binA_or8, l1, p1]
        have hlen := congrArg List.length hz
        rw [List.length_append] at hlen
        have h5 := putN_len5 (n := m) (by omega)
        have h1 := putN_pos k
        refine ⟨⟨k / 128, z ++ [UInt8.ofNat k ||| 128], p2, by omega, by simp; omega, by simp, p3, ?_⟩, by first | omega | (simp; omega)⟩
        rw [← hz, putN_big hge, or128]
        simp
      · have l1 := litB B [UInt8.ofNat k] (len := 1) (ps := [(0, 1, by8 (UInt8.ofNat k))]) rfl rfl
        have k1 : Le B (B ++ [.row (List.map by8 [UInt8.ofNat k]) .own 1 true]) := .push _ _
        obtain ⟨v2, A2, p1, p2, p3, _⟩ := app_bytes (hle.trans k1) (OwnS.le g4 k1) (byt_last B [UInt8.ofNat k]) (by simp; omega)
        rw [List.length_singleton] at p1
        simp only [List.map_cons, List.map_nil, List.length_singleton] at l1 p1
        simp (maxSteps := 1000000) (disch := omega) only [stepS, reduceIte, Nat.reduceBEq, Nat.reduceEqDiff, tupleOf, stepT, g0, conv_u8_ii, l1, p1]
        refine hok _ _ (by omega) (by omega) p2 ?_
        rw [putN_small (by omega)] at hz
        rw [hz] at p3
        exact p3
  · simp (maxSteps := 1000000) (disch := omega) only [stepS, reduceIte, Nat.reduceBEq, Nat.reduceEqDiff, tupleOf, stepT, i0]
    exact hbad h

theorem ref01_Put_spec {A : AH} {n : Int} {Q : Value → AH → Prop} (hok : ∀ t A', 0 ≤ n → n ≤ 2147483647 → Le A A' → OwnB A.length A' t (putN n.toNat) → Q (.tuple #[t, ii 0]) A')
    (hbad : ¬ (0 ≤ n ∧ n ≤ 2147483647) → Q (.tuple #[.slice none 0 0, ii 1]) A) : ACalls 1 Tryd.prog chantryref01_Put [ii n] Q A := by
  refine ACalls.of_fits mixed fits_chantryref01_Put rfl ?_
  unfold ic_chantryref01_Put
  have i0 : initA [ii n] 0 = ii n := rfl
  generalize initA [ii n] = a at i0
  by_cases h : 0 ≤ n ∧ n ≤ 2147483647
  · obtain ⟨m, rfl⟩ : ∃ m : Nat, n = m := ⟨n.toNat, by omega⟩
    simp (maxSteps := 1000000) (disch := omega) only [stepS, reduceIte, Nat.reduceBEq, Nat.reduceEqDiff, tupleOf, stepT, i0]
    refine W_loop (fun a' B => ∃ (k : Nat) (z : List UInt8), Le A B ∧ k ≤ m ∧ z.length ≤ 5 ∧ a' 0 = ii k ∧ OwnB A.length B (a' 4) z ∧ z ++ putN k = putN m) (fun a' _ => (iv (a' 0)).toNat) ?_ ?_
    · refine ⟨m, [], .refl _, Nat.le_refl _, by simp, ?_⟩
      simp (maxSteps := 1000000) (disch := omega) only [stepS, reduceIte, Nat.reduceBEq, Nat.reduceEqDiff, tupleOf, stepT, i0]
      exact OwnB.nil _ _
    · rintro a2 B ⟨k, z, hle, hk, hz5, g0, g4, hz⟩
      by_cases hge : 128 ≤ k
      · have e8 : ∀ A, sConv A .u8 (.int .i64 ((k : Int) % 128 + 128)) = some (by8 (UInt8.ofNat (k % 128 + 128)), A) := fun A => conv_u8_ii A (k % 128 + 128)
        have l1 := litB B [UInt8.ofNat (k % 128 + 128)] (len := 1) (ps := [(0, 1, by8 (UInt8.ofNat (k % 128 + 128)))]) rfl rfl
        have k1 : Le B (B ++ [.row (List.map by8 [UInt8.ofNat (k % 128 + 128)]) .own 1 true]) := .push _ _
        obtain ⟨v2, A2, p1, p2, p3, _⟩ := app_bytes (hle.trans k1) (OwnS.le g4 k1) (byt_last B [UInt8.ofNat (k % 128 + 128)]) (by simp; omega)
        rw [List.length_singleton] at p1
        simp only [List.map_cons, List.map_nil, List.length_singleton] at l1 p1
        simp (maxSteps := 1000000) (disch := omega) only [stepS, reduceIte, Nat.reduceBEq, Nat.reduceEqDiff, tupleOf, stepT, g0, e8, l1, p1]
        have hlen := congrArg List.length hz
        rw [List.length_append] at hlen
        have h5 := putN_len5 (n := m) (by omega)
        have h1 := putN_pos k
        refine ⟨⟨k / 128, z ++ [UInt8.ofNat (k % 128 + 128)], p2, by omega, by simp; omega, by simp, p3, ?_⟩, by first | omega | (simp; omega)⟩
        rw [← hz, putN_big hge]
        simp
      · have l1 := litB B [UInt8.ofNat k] (len := 1) (ps := [(0, 1, by8 (UInt8.ofNat k))]) rfl rfl
        have k1 : Le B (B ++ [.row (List.map by8 [UInt8.ofNat k]) .own 1 true]) := .push _ _
        obtain ⟨v2, A2, p1, p2, p3, _⟩ := app_bytes (hle.trans k1) (OwnS.le g4 k1) (byt_last B [UInt8.ofNat k]) (by simp; omega)
        rw [List.length_singleton] at p1
        simp only [List.map_cons, List.map_nil, List.length_singleton] at l1 p1
        simp (maxSteps := 1000000) (disch := omega) only [stepS, reduceIte, Nat.reduceBEq, Nat.reduceEqDiff, tupleOf, stepT, g0, conv_u8_ii, l1, p1]
        refine hok _ _ (by omega) (by omega) p2 ?_
        rw [putN_small (by omega)] at hz
        rw [hz] at p3
        exact p3
  · by_cases h0 : n < 0
    · simp (maxSteps := 1000000) (disch := omega) only [stepS, reduceIte, Nat.reduceBEq, Nat.reduceEqDiff, tupleOf, stepT, i0]
      exact hbad h
    · simp (maxSteps := 1000000) (disch := omega) only [stepS, reduceIte, Nat.reduceBEq, Nat.reduceEqDiff, tupleOf, stepT, i0]
      exact hbad h
end Go.AS.C


namespace Go.AS.C
open Go Go.Proofs
set_option linter.unusedVariables false
set_option linter.unusedSimpArgs false
set_option maxRecDepth 10000

theorem slices_Grow_nil {A : AH} {n : Nat} {Q : Value → AH → Prop} (hn : n ≤ 2 ^ 40) (hq : ∀ v A', Le A A' → OwnB A.length A' v [] → Q v A') : ACalls 1 Tryd.prog slices_Grow_byte_byte [.slice none 0 0, ii n] Q A := by
  refine ACalls.of_fits mixed fits_slices_Grow_byte_byte rfl ?_
  unfold ic_slices_Grow_byte_byte
  have i0 : initA [.slice none 0 0, ii n] 0 = .slice none 0 0 := rfl
  have i1 : initA [.slice none 0 0, ii n] 1 = ii n := rfl
  generalize initA [.slice none 0 0, ii n] = a at i0 i1
  have c1 : ((n : Int) < 0) = False := by simp
  have c2 : sCapn A (.slice none 0 0) = some (ii 0, A) := rfl
  have c3 : binA .sub (ii 0) (ii ((0 : Nat) : Int)) = some (ii 0) := by rw [binA_subi _ _ (by omega) (by omega)]; rfl
  have c4 : binA .sub (ii n) (ii 0) = some (ii n) := by rw [binA_subi _ _ (by omega) (by omega)]; simp
  by_cases h0 : n = 0
  · subst h0
    have c5 : (((0 : Nat) : Int) > 0) = False := by simp
    simp only [stepS, reduceIte, Nat.reduceBEq, Nat.reduceEqDiff, tupleOf, i0, i1, binA_lss, c1, c2, lens_sl, c3, c4, binA_gtr, c5]
    exact hq _ _ (.refl _) (OwnB.nil _ _)
  · have c5 : ((n : Int) > 0) = True := by simp; omega
    have c6 : sSll A (.slice none 0 0) none (some (ii 0)) none 1 = some (.slice none 0 0, A) := rfl
    obtain ⟨v', A', e1, e2, e3, _⟩ := app_own (A0 := A) (A := A) (v := .slice none 0 0) (new := (List.replicate n [Value.int .u8 0]).flatten) (k := n) (bytes := 1) (.refl _) (OwnS.nil A.length A 1) (by omega) (by omega) (by omega) (by simp) (by
      unfold ones
      rw [List.all_eq_true]
      intro x hx
      rw [List.mem_flatten] at hx
      obtain ⟨l, hl, hx⟩ := hx
      obtain rfl := List.eq_of_mem_replicate hl
      rw [List.mem_singleton] at hx
      subst hx; rfl)
    have c7 : sAppz A (.slice none 0 0) (ii n) [.int .u8 0] 1 = some (v', A') := by
      rw [appz_eq (by omega), Int.toNat_natCast]
      exact e1
    have c8 : ∃ u, sSll A' v' none (some (ii ((0 : Nat) : Int))) none 1 = some (u, A') ∧ OwnB A.length A' u [] := by
      obtain ⟨f0, f⟩ := e3
      rcases f with ⟨rfl, f⟩ | ⟨rfl, f⟩ | ⟨i, o, c, rc, ex, rfl, f1, f2, f3, f4, f5⟩
      · omega
      · omega
      · refine ⟨.slice (some ⟨i, o, none⟩) 0 c, ?_, ⟨by simp, .inr (.inr ⟨i, o, c, rc, ex, rfl, by simp, f2, f3, by simp; omega, fun j hj => by simp at hj⟩)⟩⟩
        unfold sSll boundsA rowSz
        simp only [f3]
        simp [asI]
    obtain ⟨u, c8, c9⟩ := c8
    simp only [stepS, reduceIte, Nat.reduceBEq, Nat.reduceEqDiff, tupleOf, i0, i1, binA_lss, c1, c2, lens_sl, c3, c4, binA_gtr, c5, c6, c7, c8]
    exact hq _ _ e2 c9

theorem slices_Concat_spec {A : AH} {v : Value} {vs : List Value} {bss : List (List UInt8)} {Q : Value → AH → Prop} (hv : Sl A 1 v vs.length vs) (hn : vs.length = bss.length)
    (hb : ∀ (j : Nat) x bs, vs[j]? = some x → bss[j]? = some bs → Byt A x bs) (hl : bss.flatten.length ≤ 2 ^ 40) (hc : bss.length ≤ 2 ^ 40) (hq : ∀ v A', Le A A' → OwnB A.length A' v bss.flatten → Q v A') :
    ACalls 1 Tryd.prog slices_Concat_byte_byte [v] Q A := by
  refine ACalls.of_fits mixed fits_slices_Concat_byte_byte rfl ?_
  unfold ic_slices_Concat_byte_byte
  have i0 : initA [v] 0 = v := rfl
  generalize initA [v] = a at i0
  simp only [stepS, reduceIte, Nat.reduceBEq, Nat.reduceEqDiff, tupleOf, i0, hv.len]
  refine W_loop (fun a' A' => A' = A ∧ ∃ k : Nat, k ≤ bss.length ∧ a' 0 = v ∧ a' 9 = v ∧ a' 10 = ii vs.length ∧ a' 11 = ii k ∧ a' 3 = ii (((bss.take k).flatten.length : Nat) : Int)) (fun a' _ => (bss.length - (iv (a' 11)).toNat)) ?_ ?_
  · refine ⟨rfl, 0, by omega, ?_⟩
    simp only [stepS, reduceIte, Nat.reduceBEq, Nat.reduceEqDiff, tupleOf, i0]
    simp
  · rintro a A' ⟨rfl, k, hk, g0, g9, g10, g11, g3⟩
    rcases Nat.lt_or_ge k bss.length with hlt | hge
    · have hc1 : ((k : Int) < (vs.length : Int)) = True := by simp; omega
      obtain ⟨x, hx⟩ : ∃ b, vs[k]? = some b := ⟨_, List.getElem?_eq_getElem (by omega)⟩
      obtain ⟨bs, hbs⟩ : ∃ b, bss[k]? = some b := ⟨_, List.getElem?_eq_getElem hlt⟩
      obtain ⟨p, hp1, hp2⟩ := hv.at1 hx
      have hle := flat_take_le bss (k + 1)
      have hsu := flat_take_succ bss hbs
      rw [hsu, List.length_append] at hle
      have hadd : binA .add (ii (((bss.take k).flatten.length : Nat) : Int)) (ii (bs.length : Nat)) = some (ii (((bss.take (k + 1)).flatten.length : Nat) : Int)) := by
        rw [binA_addi _ _ (by omega) (by omega), hsu, List.length_append]
        simp
      have hc2 : ((((bss.take (k + 1)).flatten.length : Nat) : Int) < 0) = False := by simp
      simp only [stepS, reduceIte, Nat.reduceBEq, Nat.reduceEqDiff, tupleOf, g0, g9, g10, g11, g3, binA_lss, hc1, hp1, hp2, (hb k x bs hx hbs).len, hadd, hc2, binA_add1 k (by omega)]
      exact ⟨⟨k + 1, by omega, rfl, rfl⟩, by omega⟩
    · have hc1 : ((k : Int) < (vs.length : Int)) = False := by simp; omega
      have hk : k = bss.length := by omega
      subst hk
      simp only [stepS, reduceIte, Nat.reduceBEq, Nat.reduceEqDiff, tupleOf, g0, g9, g10, g11, g3, binA_lss, hc1]
      rw [List.take_length]
      refine slices_Grow_nil hl fun u A1 hle1 hown => ?_
      simp only [stepS, reduceIte, Nat.reduceBEq, Nat.reduceEqDiff, tupleOf, g0, (hv.le hle1).len]
      refine W_loop (fun a' B => ∃ k : Nat, k ≤ bss.length ∧ Le A' B ∧ a' 25 = v ∧ a' 26 = ii vs.length ∧ a' 27 = ii k ∧ OwnB A'.length B (a' 6) (bss.take k).flatten) (fun a' _ => (bss.length - (iv (a' 27)).toNat)) ?_ ?_
      · refine ⟨0, by omega, hle1, ?_⟩
        simp only [stepS, reduceIte, Nat.reduceBEq, Nat.reduceEqDiff, tupleOf]
        simpa using hown
      · rintro a2 B ⟨k, hk, hle2, f25, f26, f27, f6⟩
        rcases Nat.lt_or_ge k bss.length with hlt | hge
        · have hc1 : ((k : Int) < (vs.length : Int)) = True := by simp; omega
          obtain ⟨x, hx⟩ : ∃ b, vs[k]? = some b := ⟨_, List.getElem?_eq_getElem (by omega)⟩
          obtain ⟨bs, hbs⟩ : ∃ b, bss[k]? = some b := ⟨_, List.getElem?_eq_getElem hlt⟩
          obtain ⟨p, hp1, hp2⟩ := (hv.le hle2).at1 hx
          have hle := flat_take_le bss (k + 1)
          have hsu := flat_take_succ bss hbs
          rw [hsu, List.length_append] at hle
          obtain ⟨v', B', q1, q2, q3, _⟩ := app_bytes hle2 f6 ((hb k x bs hx hbs).le hle2) (by omega)
          rw [← hsu] at q3
          simp only [stepS, reduceIte, Nat.reduceBEq, Nat.reduceEqDiff, tupleOf, f25, f26, f27, binA_lss, hc1, hp1, hp2, q1, binA_add1 k (by omega)]
          exact ⟨⟨k + 1, by omega, q2, rfl, q3⟩, by omega⟩
        · have hc1 : ((k : Int) < (vs.length : Int)) = False := by simp; omega
          have hk : k = bss.length := by omega
          subst hk
          simp only [stepS, reduceIte, Nat.reduceBEq, Nat.reduceEqDiff, tupleOf, f25, f26, f27, binA_lss, hc1]
          rw [List.take_length] at f6
          exact hq _ _ hle2 f6

end Go.AS.C


namespace Go.AS.C
open Go Go.Proofs
set_option linter.unusedVariables false
set_option linter.unusedSimpArgs false
set_option maxRecDepth 10000

theorem num_Text_spec {A : AH} {v : Value} {bs : List UInt8} {Q : Value → AH → Prop} (hv : Byt A v bs) (hok : ∀ t A', bs.length ≤ 262144 → Le A A' → OwnB A.length A' t (textN bs) → Q (.tuple #[t, ii 0]) A')
    (hbad : 262144 < bs.length → Q (.tuple #[.slice none 0 0, ii 3]) A) : ACalls 1 Tryd.prog num_Text [v] Q A := by
  refine ACalls.of_fits mixed fits_num_Text rfl ?_
  unfold ic_num_Text
  have i0 : initA [v] 0 = v := rfl
  generalize initA [v] = a at i0
  by_cases h : bs.length ≤ 262144
  · simp (maxSteps := 1000000) (disch := omega) only [stepS, reduceIte, Nat.reduceBEq, Nat.reduceEqDiff, tupleOf, stepT, i0, hv.len]
    refine num_Put_spec (fun t A1 _ _ h1 o1 => ?_) (fun h => absurd h (by omega))
    rw [Int.toNat_natCast] at o1
    have l1 := lit1 (A := A1) (z := .slice none 0 0) (len := 2) (ps := [(0, 1, t), (1, 1, v)]) [t, v] rfl rfl (by
      intro x hx
      simp only [List.mem_cons, List.not_mem_nil, or_false] at hx
      rcases hx with rfl | rfl
      · obtain ⟨p, c, hs, _⟩ := o1.byt.shape
        rw [hs]; exact one1_sl _ _ _
      · obtain ⟨p, c, hs, _⟩ := hv.shape
        rw [hs]; exact one1_sl _ _ _)
    have k1 : Le A1 (A1 ++ [.row [t, v] .own 1 true]) := .push _ _
    simp (maxSteps := 1000000) (disch := omega) only [stepS, reduceIte, Nat.reduceBEq, Nat.reduceEqDiff, tupleOf, stepT, i0, hv.len, l1]
    refine slices_Concat_spec (vs := [t, v]) (bss := [putN bs.length, bs]) (sl_last A1 (cs := [t, v]) (by simp) (by simp)) rfl ?_ ?_ (by simp) (fun u A2 h2 o2 => ?_)
    · intro j x b hx hb
      cases j with
      | zero =>
        simp only [List.getElem?_cons_zero, Option.some.injEq] at hx hb
        subst hx hb
        exact o1.byt.le k1
      | succ j =>
        cases j with
        | zero =>
          simp only [List.getElem?_cons_succ, List.getElem?_cons_zero, Option.some.injEq] at hx hb
          subst hx hb
          exact hv.le (h1.trans k1)
        | succ j => simp at hx
    · have := putN_len5 (n := bs.length) (by omega)
      simp; omega
    · simp (maxSteps := 1000000) (disch := omega) only [stepS, reduceIte, Nat.reduceBEq, Nat.reduceEqDiff, tupleOf, stepT]
      refine hok _ _ h ((h1.trans k1).trans h2) ?_
      have e : [putN bs.length, bs].flatten = textN bs := by simp [textN]
      rw [e] at o2
      exact OwnS.mono o2 (h1.trans k1).len
  · simp (maxSteps := 1000000) (disch := omega) only [stepS, reduceIte, Nat.reduceBEq, Nat.reduceEqDiff, tupleOf, stepT, i0, hv.len]
    exact hbad (by omega)

theorem ref01_Text_spec {A : AH} {v : Value} {bs : List UInt8} {Q : Value → AH → Prop} (hv : Byt A v bs) (hok : ∀ t A', bs.length ≤ 262144 → Le A A' → OwnB A.length A' t (textN bs) → Q (.tuple #[t, ii 0]) A')
    (hbad : 262144 < bs.length → Q (.tuple #[.slice none 0 0, ii 3]) A) : ACalls 1 Tryd.prog chantryref01_Text [v] Q A := by
  refine ACalls.of_fits mixed fits_chantryref01_Text rfl ?_
  unfold ic_chantryref01_Text
  have i0 : initA [v] 0 = v := rfl
  generalize initA [v] = a at i0
  by_cases h : bs.length ≤ 262144
  · simp (maxSteps := 1000000) (disch := omega) only [stepS, reduceIte, Nat.reduceBEq, Nat.reduceEqDiff, tupleOf, stepT, i0, hv.len]
    refine ref01_Put_spec (fun t A1 _ _ h1 o1 => ?_) (fun h => absurd h (by omega))
    rw [Int.toNat_natCast] at o1
    have := putN_len5 (n := bs.length) (by omega)
    obtain ⟨v2, A2, p1, p2, p3, _⟩ := app_bytes h1 o1 (hv.le h1) (by omega)
    simp (maxSteps := 1000000) (disch := omega) only [stepS, reduceIte, Nat.reduceBEq, Nat.reduceEqDiff, tupleOf, stepT, i0, p1]
    exact hok _ _ h p2 p3
  · simp (maxSteps := 1000000) (disch := omega) only [stepS, reduceIte, Nat.reduceBEq, Nat.reduceEqDiff, tupleOf, stepT, i0, hv.len]
    exact hbad (by omega)
end Go.AS.C


namespace Go.AS.C
open Go Go.Proofs
set_option linter.unusedVariables false
set_option linter.unusedSimpArgs false
set_option maxRecDepth 10000

/-- num.Fix, of a number that fits. -/
theorem num_Fix_ok {A : AH} {n w : Nat} {Q : Value → AH → Prop} (h1 : 1 ≤ w) (h4 : w ≤ 4) (hn : n ≤ 2147483647) (hw : n / 2 ^ (8 * w) = 0)
    (hq : Q (.tuple #[.slice (some ⟨A.length, 0, none⟩) w w, ii 0]) (A ++ [.row ((leB n w).map by8) .own 1 true])) : ACalls 1 Tryd.prog num_Fix [ii n, ii w] Q A := by
  refine ACalls.of_fits mixed fits_num_Fix rfl ?_
  unfold ic_num_Fix
  have i0 : initA [ii n, ii w] 0 = ii n := rfl
  have i1 : initA [ii n, ii w] 1 = ii w := rfl
  generalize initA [ii n, ii w] = a at i0 i1
  have c1 : ((w : Int) < 1) = False := by simp; omega
  have c2 : ((w : Int) > 4) = False := by simp; omega
  simp only [stepS, reduceIte, Nat.reduceBEq, Nat.reduceEqDiff, tupleOf, i0, i1, binA_lss, binA_gtr, c1, c2]
  refine num_is_spec ?_
  have c3 : ((0 : Int) ≤ n ∧ (n : Int) ≤ 2147483647) = True := by simp; omega
  have c4 : binA .mul (ii 8) (ii w) = some (ii ((8 * w : Nat) : Int)) := mul_ii 8 w (by omega)
  have c5 := shr_ii n .i64 (8 * w) (by omega)
  have c6 : (((0 : Nat) : Int) > 0) = False := by simp
  simp only [stepS, reduceIte, Nat.reduceBEq, Nat.reduceEqDiff, tupleOf, i1, i0, c3, c4, c5, hw, binA_gtr, c6]
  simp only [stepS, reduceIte, Nat.reduceBEq, Nat.reduceEqDiff, tupleOf, i1, i0, mk_bytes A w (by omega), lens_sl]
  refine W_loop (fun a' A' => ∃ k : Nat, k ≤ w ∧ a' 0 = ii n ∧ a' 6 = .slice (some ⟨A.length, 0, none⟩) w w ∧ a' 29 = ii w ∧ a' 30 = ii k ∧
      A' = A ++ [.row (((leB n w).take k ++ List.replicate (w - k) (0 : UInt8)).map by8) .own 1 true]) (fun a' _ => w - (iv (a' 30)).toNat) ?_ ?_
  · refine ⟨0, by omega, ?_⟩
    simp only [stepS, reduceIte, Nat.reduceBEq, Nat.reduceEqDiff, tupleOf, i0]
    simp
  · rintro a A' ⟨k, hk, g0, g6, g29, g30, rfl⟩
    rcases Nat.lt_or_ge k w with hlt | hge
    · have hc : ((k : Int) < (w : Int)) = True := by simp; omega
      have d1 : binA .mul (ii 8) (ii k) = some (ii ((8 * k : Nat) : Int)) := mul_ii 8 k (by omega)
      have d2 := shr_ii n .i64 (8 * k) (by omega)
      have d3 := iaddr1 (A := A ++ [.row (((leB n w).take k ++ List.replicate (w - k) (0 : UInt8)).map by8) .own 1 true]) (i := A.length) (o := 0) (c := w) hlt
      have d4 := store_by8 (o := 0 + k) (x := UInt8.ofNat (n / 2 ^ (8 * k))) (get_last A (.row (((leB n w).take k ++ List.replicate (w - k) (0 : UInt8)).map by8) .own 1 true)) (by simp [leB_length]; omega)
      simp only [stepS, reduceIte, Nat.reduceBEq, Nat.reduceEqDiff, tupleOf, g0, g6, g29, g30, binA_lss, hc, d1, d2, conv_u8_ii, d3, d4, set_last, binA_add1 k (by omega)]
      refine ⟨⟨k + 1, by omega, rfl, ?_⟩, by omega⟩
      rw [Nat.zero_add, fill_step (leB n w) 0 _ (leB_length n w) hlt]
      simp [leB, hlt]
    · have hc : ((k : Int) < (w : Int)) = False := by simp; omega
      have hkw : k = w := by omega
      subst hkw
      simp only [stepS, reduceIte, Nat.reduceBEq, Nat.reduceEqDiff, tupleOf, g0, g6, g29, g30, binA_lss, hc]
      have e : (leB n k).take k ++ List.replicate (k - k) (0 : UInt8) = leB n k := by
        rw [Nat.sub_self, List.replicate_zero, List.append_nil, List.take_of_length_le (by rw [leB_length]; exact Nat.le_refl _)]
      rw [e]
      simpa using hq

theorem num_Fix_own {A : AH} {n w : Nat} {Q : Value → AH → Prop} (h1 : 1 ≤ w) (h4 : w ≤ 4) (hn : n ≤ 2147483647) (hw : n / 2 ^ (8 * w) = 0)
    (hq : ∀ v A', Le A A' → OwnB A.length A' v (leB n w) → Q (.tuple #[v, ii 0]) A') : ACalls 1 Tryd.prog num_Fix [ii n, ii w] Q A :=
  num_Fix_ok h1 h4 hn hw (hq _ _ (.push _ _) (own_row (get_last _ _) (leB_length n w).symm (Nat.le_refl _) (Nat.le_refl _)))

end Go.AS.C


namespace Go.AS.C
open Go Go.Proofs
set_option linter.unusedVariables false
set_option linter.unusedSimpArgs false
set_option maxRecDepth 10000

theorem num_Fix_spec {A : AH} {n w : Int} {Q : Value → AH → Prop} (hok : ∀ z t A', fixF n w = some z → Le A A' → OwnB A.length A' t z → Q (.tuple #[t, ii 0]) A') (hbad : fixF n w = none → Q (.tuple #[.slice none 0 0, ii 1]) A) :
    ACalls 1 Tryd.prog num_Fix [ii n, ii w] Q A := by
  by_cases h : (1 ≤ w ∧ w ≤ 4) ∧ (0 ≤ n ∧ n ≤ 2147483647) ∧ n.toNat / 256 ^ w.toNat = 0
  · obtain ⟨⟨h1, h4⟩, ⟨h0, hm⟩, hz⟩ := h
    have e : fixF n w = some (leB n.toNat w.toNat) := by unfold fixF; rw [if_pos ⟨⟨h1, h4⟩, ⟨h0, hm⟩, hz⟩]
    obtain ⟨m, rfl⟩ : ∃ m : Nat, n = m := ⟨n.toNat, by omega⟩
    obtain ⟨k, rfl⟩ : ∃ k : Nat, w = k := ⟨w.toNat, by omega⟩
    simp only [Int.toNat_natCast] at hz e
    exact num_Fix_own (by omega) (by omega) (by omega) (by rw [pow256]; exact hz) (fun v A' h1 h2 => hok _ _ _ e h1 h2)
  · have e : fixF n w = none := by unfold fixF; rw [if_neg h]
    refine ACalls.of_fits mixed fits_num_Fix rfl ?_
    unfold ic_num_Fix
    have i0 : initA [ii n, ii w] 0 = ii n := rfl
    have i1 : initA [ii n, ii w] 1 = ii w := rfl
    generalize initA [ii n, ii w] = a at i0 i1
    by_cases h1 : w < 1
    · simp (maxSteps := 1000000) (disch := omega) only [stepS, reduceIte, Nat.reduceBEq, Nat.reduceEqDiff, tupleOf, stepT, i0, i1]
      exact hbad e
    · by_cases h4 : w > 4
      · simp (maxSteps := 1000000) (disch := omega) only [stepS, reduceIte, Nat.reduceBEq, Nat.reduceEqDiff, tupleOf, stepT, i0, i1]
        exact hbad e
      · simp (maxSteps := 1000000) (disch := omega) only [stepS, reduceIte, Nat.reduceBEq, Nat.reduceEqDiff, tupleOf, stepT, i0, i1]
        refine num_is_spec ?_
        by_cases h2 : 0 ≤ n ∧ n ≤ 2147483647
        · obtain ⟨m, rfl⟩ : ∃ m : Nat, n = m := ⟨n.toNat, by omega⟩
          obtain ⟨k, rfl⟩ : ∃ k : Nat, w = k := ⟨w.toNat, by omega⟩
          have hz : m / 2 ^ (8 * k) ≠ 0 := by
            intro hz
            refine h ⟨⟨by omega, by omega⟩, ⟨by omega, by omega⟩, ?_⟩
            rw [pow256] at hz
            simpa using hz
          have c5 : binA .shr (ii m) (.int .i64 (8 * (k : Int))) = some (ii ((m / 2 ^ (8 * k) : Nat) : Int)) := shr_ii m .i64 (8 * k) (by omega)
          have hzz : 0 < m / 2 ^ (8 * k) := Nat.pos_of_ne_zero hz
          generalize m / 2 ^ (8 * k) = q at c5 hzz
          simp (maxSteps := 1000000) (disch := omega) only [stepS, reduceIte, Nat.reduceBEq, Nat.reduceEqDiff, tupleOf, stepT, i0, i1, c5]
          exact hbad e
        · simp (maxSteps := 1000000) (disch := omega) only [stepS, reduceIte, Nat.reduceBEq, Nat.reduceEqDiff, tupleOf, stepT, i0, i1]
          exact hbad e

theorem leB_succ (n w : Nat) : leB n (w + 1) = leB n w ++ [UInt8.ofNat (n / 256 ^ w)] := by
  unfold leB
  rw [List.range_succ, List.map_append, List.map_singleton, pow256]
theorem ref01_Fix_spec {A : AH} {n w : Int} {Q : Value → AH → Prop} (hok : ∀ z t A', fixF n w = some z → Le A A' → OwnB A.length A' t z → Q (.tuple #[t, ii 0]) A') (hbad : fixF n w = none → ∀ A', Le A A' → Q (.tuple #[.slice none 0 0, ii 1]) A') :
    ACalls 1 Tryd.prog chantryref01_Fix [ii n, ii w] Q A := by
  refine ACalls.of_fits mixed fits_chantryref01_Fix rfl ?_
  unfold ic_chantryref01_Fix
  have i0 : initA [ii n, ii w] 0 = ii n := rfl
  have i1 : initA [ii n, ii w] 1 = ii w := rfl
  generalize initA [ii n, ii w] = a at i0 i1
  by_cases h : (1 ≤ w ∧ w ≤ 4) ∧ (0 ≤ n ∧ n ≤ 2147483647)
  · obtain ⟨m, rfl⟩ : ∃ m : Nat, n = m := ⟨n.toNat, by omega⟩
    obtain ⟨k, rfl⟩ : ∃ k : Nat, w = k := ⟨w.toNat, by omega⟩
    simp (maxSteps := 1000000) (disch := omega) only [stepS, reduceIte, Nat.reduceBEq, Nat.reduceEqDiff, tupleOf, stepT, i0, i1]
    refine W_loop (fun a' B => ∃ j : Nat, j ≤ k ∧ Le A B ∧ a' 1 = ii k ∧ a' 0 = ii (m / 256 ^ j : Nat) ∧ a' 7 = ii j ∧ OwnB A.length B (a' 6) (leB m j)) (fun a' _ => k - (iv (a' 7)).toNat) ?_ ?_
    · refine ⟨0, by omega, .refl _, ?_⟩
      simp (maxSteps := 1000000) (disch := omega) only [stepS, reduceIte, Nat.reduceBEq, Nat.reduceEqDiff, tupleOf, stepT, i0, i1]
      exact ⟨by simp, rfl, OwnB.nil _ _⟩
    · rintro a2 B ⟨j, hj, hle, g1, g0, g7, g6⟩
      have hdm : m / 256 ^ j ≤ m := Nat.div_le_self _ _
      rcases Nat.lt_or_ge j k with hlt | hge
      · generalize hq0 : m / 256 ^ j = q at g0 hdm
        have e8 : ∀ A, sConv A .u8 (.int .i64 ((q : Int) % 256)) = some (by8 (UInt8.ofNat q), A) := fun A => by
          have := conv_u8_ii A (q % 256)
          rw [show UInt8.ofNat (q % 256) = UInt8.ofNat q from u8eq (by omega)] at this
          exact this
        have l1 := litB B [UInt8.ofNat q] (len := 1) (ps := [(0, 1, by8 (UInt8.ofNat q))]) rfl rfl
        have k1 : Le B (B ++ [.row (List.map by8 [UInt8.ofNat q]) .own 1 true]) := .push _ _
        obtain ⟨v2, A2, p1, p2, p3, _⟩ := app_bytes (hle.trans k1) (OwnS.le g6 k1) (byt_last B [UInt8.ofNat q]) (by simp [leB_length]; omega)
        rw [List.length_singleton] at p1
        simp only [List.map_cons, List.map_nil, List.length_singleton] at l1 p1
        simp (maxSteps := 1000000) (disch := omega) only [stepS, reduceIte, Nat.reduceBEq, Nat.reduceEqDiff, tupleOf, stepT, g0, g1, g7, e8, l1, p1]
        refine ⟨⟨j + 1, by omega, p2, ?_, rfl, ?_⟩, by omega⟩
        · rw [Nat.pow_succ, ← Nat.div_div_eq_div_mul, hq0]
          rfl
        · rw [leB_succ, hq0]
          exact p3
      · have hjk : j = k := by omega
        subst hjk
        generalize hq0 : m / 256 ^ j = q at g0 hdm
        by_cases hz : q = 0
        · simp (maxSteps := 1000000) (disch := omega) only [stepS, reduceIte, Nat.reduceBEq, Nat.reduceEqDiff, tupleOf, stepT, g0, g1, g7]
          have e : fixF m j = some (leB m j) := by
            unfold fixF
            rw [if_pos ⟨⟨by omega, by omega⟩, ⟨by omega, by omega⟩, by simpa [hq0] using hz⟩]
            rfl
          exact hok _ _ _ e hle g6
        · simp (maxSteps := 1000000) (disch := omega) only [stepS, reduceIte, Nat.reduceBEq, Nat.reduceEqDiff, tupleOf, stepT, g0, g1, g7]
          refine hbad ?_ _ hle
          unfold fixF
          rw [if_neg]
          rintro ⟨_, _, h3⟩
          simp [hq0] at h3
          omega
  · have e : fixF n w = none := by
      unfold fixF
      rw [if_neg (fun hc => h ⟨hc.1, hc.2.1⟩)]
    by_cases h1 : w < 1
    · simp (maxSteps := 1000000) (disch := omega) only [stepS, reduceIte, Nat.reduceBEq, Nat.reduceEqDiff, tupleOf, stepT, i0, i1]
      exact hbad e _ (.refl _)
    · by_cases h4 : w > 4
      · simp (maxSteps := 1000000) (disch := omega) only [stepS, reduceIte, Nat.reduceBEq, Nat.reduceEqDiff, tupleOf, stepT, i0, i1]
        exact hbad e _ (.refl _)
      · by_cases h0 : n < 0
        · simp (maxSteps := 1000000) (disch := omega) only [stepS, reduceIte, Nat.reduceBEq, Nat.reduceEqDiff, tupleOf, stepT, i0, i1]
          exact hbad e _ (.refl _)
        · simp (maxSteps := 1000000) (disch := omega) only [stepS, reduceIte, Nat.reduceBEq, Nat.reduceEqDiff, tupleOf, stepT, i0, i1]
          exact hbad e _ (.refl _)
end Go.AS.C


namespace Go.AS.C
open Go Go.Proofs
set_option linter.unusedVariables false
set_option linter.unusedSimpArgs false
set_option maxRecDepth 10000

/-! op.Put. -/
theorem op_truth_spec {A : AH} {b : Bool} {Q : Value → AH → Prop} (hq : Q (by8 (if b then 1 else 0)) A) : ACalls 1 Tryd.prog op_truth [.bool b] Q A := by
  refine ACalls.of_fits mixed fits_op_truth rfl ?_
  unfold ic_op_truth
  have i0 : initA [.bool b] 0 = .bool b := rfl
  generalize initA [.bool b] = a at i0
  cases b
  · simp (maxSteps := 1000000) (disch := omega) only [stepS, reduceIte, Nat.reduceBEq, Nat.reduceEqDiff, tupleOf, stepT, i0]
    exact hq
  · simp (maxSteps := 1000000) (disch := omega) only [stepS, reduceIte, Nat.reduceBEq, Nat.reduceEqDiff, tupleOf, stepT, i0]
    exact hq
/-- Bytes that are put together behind a pointer. -/
structure OutA (A0 A : AH) (i : Nat) (bs : List UInt8) : Prop where
  le : Le A0 A
  ge : A0.length ≤ i
  cell : ∃ v, A[i]? = some (.row [v] .own 0 true) ∧ OwnB A0.length A v bs
theorem OutA.more {A0 A B : AH} {i : Nat} {bs : List UInt8} (h : OutA A0 A i bs) (hl : Le A B) : OutA A0 B i bs := by
  obtain ⟨h1, h2, v, h3, h4⟩ := h
  exact ⟨h1.trans hl, h2, v, hl.get h3, h4.le hl⟩
/-- Something is appended. -/
theorem OutA.app {A0 A : AH} {i : Nat} {bs xs : List UInt8} {x : Value} (h : OutA A0 A i bs) (hx : Byt A x xs) (hb : bs.length + xs.length ≤ 2 ^ 47) :
    ∃ v u B C, sLoad1 A (ptr i) = some (v, A) ∧ (∀ k ∈ blkOf v, k ≠ i) ∧ sApp A v x 1 1 = some (u, B) ∧ sStore B (ptr i) u 1 = some (undef, C) ∧ OutA A0 C i (bs ++ xs) ∧ (∀ k cs ex, k ≠ i → A[k]? = some (.row cs .own 0 ex) → C[k]? = some (.row cs .own 0 ex)) := by
  obtain ⟨h1, h2, v, h3, h4⟩ := h
  obtain ⟨u, B, p1, p2, p3, p4, p5, p6, p7⟩ := app_put (o := 0) h1 h2 h3 rfl h4 hx hb
  refine ⟨v, u, B, _, row_load h3 (by simp) rfl, Sl.blk h4.sl h3 (by decide), p1, p3, ⟨p4, h2, u, p6, p5⟩, fun k cs ex hk hr => p7 k _ hk hr fun hm => ?_⟩
  exact Sl.blk h4.sl hr (by decide) k hm rfl
theorem OutA.appV {A0 A : AH} {i : Nat} {bs xs : List UInt8} {v x : Value} (h1 : Le A0 A) (h2 : A0.length ≤ i) (h3 : A[i]? = some (.row [v] .own 0 true)) (h4 : OwnB A0.length A v bs) (hx : Byt A x xs) (hb : bs.length + xs.length ≤ 2 ^ 47) :
    ∃ u B C, sApp A v x 1 1 = some (u, B) ∧ sStore B (ptr i) u 1 = some (undef, C) ∧ OutA A0 C i (bs ++ xs) ∧ (∀ k cs ex, k ≠ i → A[k]? = some (.row cs .own 0 ex) → C[k]? = some (.row cs .own 0 ex)) := by
  obtain ⟨u, B, p1, p2, p3, p4, p5, p6, p7⟩ := app_put (o := 0) h1 h2 h3 rfl h4 hx hb
  refine ⟨u, B, _, p1, p3, ⟨p4, h2, u, p6, p5⟩, fun k cs ex hk hr => p7 k _ hk hr fun hm => ?_⟩
  exact Sl.blk h4.sl hr (by decide) k hm rfl
/-- Two things are appended. -/
theorem OutA.app2 {A0 A : AH} {i : Nat} {bs xs ys : List UInt8} {v x y : Value} (h1 : Le A0 A) (h2 : A0.length ≤ i) (h3 : A[i]? = some (.row [v] .own 0 true)) (h4 : OwnB A0.length A v bs) (hx : Byt A x xs) (hy : Byt A y ys) (hd : ∀ k ∈ blkOf y, k ∉ blkOf v) (hb : bs.length + xs.length + ys.length ≤ 2 ^ 47) :
    ∃ u1 B1 u B C, sApp A v x 1 1 = some (u1, B1) ∧ sApp B1 u1 y 1 1 = some (u, B) ∧ sStore B (ptr i) u 1 = some (undef, C) ∧ OutA A0 C i (bs ++ xs ++ ys) ∧ (∀ k cs ex, k ≠ i → A[k]? = some (.row cs .own 0 ex) → C[k]? = some (.row cs .own 0 ex)) := by
  obtain ⟨u1, B1, p1, p2, p3, p4⟩ := app_bytes h1 h4 hx (by omega)
  have keepz : ∀ (k : Nat) (cs : List Value) (ex : Bool), A[k]? = some (Blk.row cs .own 0 ex) → B1[k]? = some (Blk.row cs .own 0 ex) := fun k cs ex hr => p4 k _ hr fun o c e => Sl.blk h4.sl hr (by decide) k (by rw [e]; simp [blkOf]) rfl
  have hy1 : Byt B1 y ys := hy.keepB fun k b hb hk => p4 k b hb fun o c e => hd k hk (by rw [e]; simp [blkOf])
  obtain ⟨u, B, p5, p6, p7, p8⟩ := app_bytes p2 p3 hy1 (by simp only [List.length_append]; omega)
  have keepz2 : ∀ (k : Nat) (cs : List Value) (ex : Bool), A[k]? = some (Blk.row cs .own 0 ex) → B[k]? = some (Blk.row cs .own 0 ex) := fun k cs ex hr => p8 k _ (keepz k cs ex hr) fun o c e => Sl.blk p3.sl (keepz k cs ex hr) (by decide) k (by rw [e]; simp [blkOf]) rfl
  have g := keepz2 i _ _ h3
  have h1u : one1 u := by obtain ⟨p, c, hs, _⟩ := p7.byt.shape; rw [hs]; exact one1_sl _ _ _
  refine ⟨u1, B1, u, B, _, p1, p5, row_store g (by simp) h1u, ⟨p6.set h2, h2, u, set_get g, OwnB.kp p7 (Keep.set _ _ _) g⟩, fun k cs ex hk hr => ?_⟩
  rw [List.getElem?_set_ne (Ne.symm hk)]
  exact keepz2 k cs ex hr
theorem negI (n : Int) (h1 : -9223372036854775808 < n) (h2 : n < 9223372036854775808) : unA .neg (.int .i64 n) = some (.int .i64 (0 - n)) := by
  simp only [unA]
  rw [wrap_i64 _ (by omega) (by omega)]
theorem op_Put_1_fits : Fits Tryd.prog 1 op_Put_1 ic_op_Put_1 [] 2 := fits_op_Put_1.more 2 (by kernel_rfl)
theorem op_Put_1_ok : calleeOk Tryd.prog op_Put_1 = true := by kernel_rfl
theorem op_Put_1_spec {A A0 : AH} {i : Nat} {s : ByteArray} {bs : List UInt8} {Q : Value → AH → Prop} (h : OutA A0 A i bs) (hs : s.size ≤ 1000) (hb : bs.length ≤ 1000)
    (hq : ∀ A', OutA A0 A' i (bs ++ textN (bl s)) → (∀ k cs ex, k ≠ i → A[k]? = some (.row cs .own 0 ex) → A'[k]? = some (.row cs .own 0 ex)) → Q (.tuple #[]) A') : ACalls 1 Tryd.prog op_Put_1 [.string s, ptr i] Q A := by
  refine ACalls.of_fits mixed op_Put_1_fits rfl ?_
  unfold ic_op_Put_1
  have i0 : initA [.string s, ptr i] 0 = .string s := rfl
  have i1 : initA [.string s, ptr i] 1 = ptr i := rfl
  generalize initA [.string s, ptr i] = a at i0 i1
  simp (maxSteps := 1000000) (disch := omega) only [stepS, reduceIte, Nat.reduceBEq, Nat.reduceEqDiff, tupleOf, stepT, i0, i1, s2b_eq]
  have k1 : Le A (A ++ [.row (s.data.toList.map by8) .own 1 false]) := .push _ _
  refine num_Text_spec (byt_s2b s) (fun t A1 h1 k2 o1 => ?_) (fun h => absurd h (by rw [bl_size]; omega))
  have hto : (textN (bl s)).length ≤ 1100 := by
    unfold textN
    have := putN_len5 (n := (bl s).length) (by rw [bl_size]; omega)
    rw [List.length_append, bl_size]
    rw [bl_size] at this
    omega
  obtain ⟨v, u, B, C, q1, _, q2, q3, q4, q5⟩ := (h.more (k1.trans k2)).app (xs := textN (bl s)) o1.byt (by omega)
  simp (maxSteps := 1000000) (disch := omega) only [stepS, reduceIte, Nat.reduceBEq, Nat.reduceEqDiff, tupleOf, stepT, i0, i1, q1, q2, q3]
  exact hq _ q4 fun k cs ex hk hr => q5 k cs ex hk ((k1.trans k2).get hr)
theorem lit_by8 (A : AH) (b : UInt8) : sLit A [.int .u8 0] 1 1 [(0, 1, by8 b)] = some (.slice (some ⟨A.length, 0, none⟩) 1 1, A ++ [.row [by8 b] .own 1 true]) := litB A [b] rfl rfl
theorem byt_by8 (A : AH) (b : UInt8) : Byt (A ++ [.row [by8 b] .own 1 true]) (.slice (some ⟨A.length, 0, none⟩) 1 1) [b] := byt_last A [b]
def pA (o : OpV) : List UInt8 := [UInt8.ofNat o.k.toNat]
def pB (o : OpV) : List UInt8 := pA o ++ (if hN o.k then textN (bl o.name) else [])
def pC (o : OpV) : List UInt8 := pB o ++ (if hT o.k then textN (bl o.text) else [])
def pD (o : OpV) : List UInt8 := pC o ++ (if hI o.k then numO o.n else [])
def pE (o : OpV) : List UInt8 := pD o ++ (if o.k = 5 then [if o.place = e0 then 0 else 1] else [])
theorem putO_pE (o : OpV) : putO o = pE o ++ bl o.place := by
  unfold pE pD pC pB pA putO
  simp
theorem textN_len {s : ByteArray} (h : s.size ≤ 300) : (textN (bl s)).length ≤ 310 := by
  unfold textN
  have := putN_len5 (n := (bl s).length) (by rw [bl_size]; omega)
  rw [List.length_append, bl_size]
  rw [bl_size] at this
  omega
theorem conv_kind {k : Int} (h : hK k = true) (A : AH) : sConv A .u8 (ii k) = some (by8 (UInt8.ofNat k.toNat), A) := by
  have hk : 1 ≤ k ∧ k ≤ 7 := by unfold hK at h; rw [decide_eq_true_eq] at h; exact h
  obtain ⟨m, rfl⟩ : ∃ m : Nat, k = m := ⟨k.toNat, by omega⟩
  exact conv_u8_ii A m
theorem op_Put_spec {A : AH} {o : OpV} {Q : Value → AH → Prop} (hs : o.Fin) (hok : opOk o = true → ∀ A' t, Le A A' → OwnB A.length A' t (putO o) → Q (.tuple #[t, ii 0]) A') (hbad : opOk o = false → ∀ A', Le A A' → Q (.tuple #[.slice none 0 0, ii 1]) A') : ACalls 1 Tryd.prog op_Put [o.v] Q A := by
  refine ACalls.of_fits mixed fits_op_Put rfl ?_
  unfold ic_op_Put
  have i0 : initA [o.v] 0 = o.v := rfl
  generalize initA [o.v] = a at i0
  rw [OpV.v_eq] at i0
  have hA : ∀ {B : AH}, B = A ++ [.row [ii o.k, .string o.name, .string o.text, ii o.n, .string o.place] .own 0 true] → rowAt B A.length = some ([ii o.k, .string o.name, .string o.text, ii o.n, .string o.place], .own, 0, true) := fun h => by subst h; simp (maxSteps := 1000000) (disch := omega) only [stepS, reduceIte, Nat.reduceBEq, Nat.reduceEqDiff, tupleOf, stepT, stepX, heapR, lensR, Nat.reduceAdd, Nat.reduceLeDiff]
  refine W_mid (fun a B => B = A ++ [.row [ii o.k, .string o.name, .string o.text, ii o.n, .string o.place] .own 0 true] ∧ a 1 = ptr A.length) ?_ ?_
  · simp (maxSteps := 1000000) (disch := omega) only [stepS, reduceIte, Nat.reduceBEq, Nat.reduceEqDiff, tupleOf, stepT, stepX, heapR, lensR, Nat.reduceAdd, Nat.reduceLeDiff, i0]
  rintro a B ⟨hB, g1⟩
  have r1 := hA hB
  have hl : Le A B := by rw [hB]; exact .push _ _
  have hlen : B.length = A.length + 1 := by rw [hB]; simp
  clear hA i0 hB
  refine W_midR (fun a B' => opOk o = true ∧ B' = B ∧ a 1 = ptr A.length) ?_ ?_
  · simp (maxSteps := 1000000) (disch := omega) only [stepS, reduceIte, Nat.reduceBEq, Nat.reduceEqDiff, tupleOf, stepT, stepX, heapR, lensR, Nat.reduceAdd, Nat.reduceLeDiff, g1, r1]
    refine op_Check_spec hs ?_
    unfold checkO
    cases hop : opOk o with
    | false =>
      simp (maxSteps := 1000000) (disch := omega) only [stepS, reduceIte, Nat.reduceBEq, Nat.reduceEqDiff, tupleOf, stepT, stepX, heapR, lensR, Nat.reduceAdd, Nat.reduceLeDiff, g1, r1, reduceCtorEq, false_and, false_or, true_and]
      exact hbad hop _ hl
    | true =>
      simp (maxSteps := 1000000) (disch := omega) only [stepS, reduceIte, Nat.reduceBEq, Nat.reduceEqDiff, tupleOf, stepT, stepX, heapR, lensR, Nat.reduceAdd, Nat.reduceLeDiff, g1, r1, reduceCtorEq, false_and, or_false, true_and]
  rintro a B ⟨hop, rfl, g1⟩
  obtain ⟨h1, h2, h3, h4, h5, h6, h7, h8, h9, h10⟩ := opOk_iff.1 hop
  obtain ⟨b1, b2, b4, b8, hp⟩ := and_has h1
  have hck := conv_kind h1
  clear hbad
  refine W_mid (fun a B' => B' = B ∧ a 1 = ptr A.length ∧ a 5 = ii (hasO o.k)) ?_ ?_
  · simp (maxSteps := 1000000) (disch := omega) only [stepS, reduceIte, Nat.reduceBEq, Nat.reduceEqDiff, tupleOf, stepT, stepX, heapR, lensR, Nat.reduceAdd, Nat.reduceLeDiff, g1, r1]
    refine op_has_spec ?_
    simp (maxSteps := 1000000) (disch := omega) only [stepS, reduceIte, Nat.reduceBEq, Nat.reduceEqDiff, tupleOf, stepT, stepX, heapR, lensR, Nat.reduceAdd, Nat.reduceLeDiff, g1]
  rintro a B ⟨rfl, g1, g5⟩
  have hj : A.length < B.length := lt_of_get (rowAt_get r1)
  refine W_mid (fun a B' => OutA A B' (B.length + 1) (pA o) ∧ rowAt B' A.length = some ([ii o.k, .string o.name, .string o.text, ii o.n, .string o.place], .own, 0, true) ∧ a 1 = ptr A.length ∧ a 5 = ii (hasO o.k) ∧ a 6 = ptr (B.length + 1)) ?_ ?_
  · simp (maxSteps := 1000000) (disch := omega) only [stepS, reduceIte, Nat.reduceBEq, Nat.reduceEqDiff, tupleOf, stepT, stepX, heapR, lensR, Nat.reduceAdd, Nat.reduceLeDiff, g1, g5, r1, hck, lit_by8]
    refine ⟨?_, by omega, .slice (some ⟨B.length, 0, none⟩) 1 1, rowAt_get (ex := true) (by simp (maxSteps := 1000000) (disch := omega) only [stepS, reduceIte, Nat.reduceBEq, Nat.reduceEqDiff, tupleOf, stepT, stepX, heapR, lensR, Nat.reduceAdd, Nat.reduceLeDiff]), own_row (bs := pA o) (ex := true) (rowAt_get (by simp (maxSteps := 1000000) (disch := omega) only [stepS, reduceIte, Nat.reduceBEq, Nat.reduceEqDiff, tupleOf, stepT, stepX, heapR, lensR, Nat.reduceAdd, Nat.reduceLeDiff, pA, List.map_cons, List.map_nil])) rfl (by omega) (by omega)⟩
    (repeat first | exact Le.refl _ | assumption | refine Le.app ?_ _ | refine Le.set ?_ ?_ | omega | (simp only [List.length_append, List.length_singleton, List.length_set]; omega))
  rintro a B' ⟨o1, r1, g1, g5, g6⟩
  generalize hi : B.length + 1 = i at *
  have hji : A.length ≠ i := by omega
  clear hl
  refine W_mid (fun a B => B = B' ∧ a 1 = ptr A.length ∧ a 5 = ii (hasO o.k) ∧ a 6 = ptr i ∧ a 7 = .func (.func op_Put_1) #[] #[ptr i]) ?_ ?_
  · simp (maxSteps := 1000000) (disch := omega) only [stepS, reduceIte, Nat.reduceBEq, Nat.reduceEqDiff, tupleOf, stepT, stepX, heapR, lensR, Nat.reduceAdd, Nat.reduceLeDiff, g1, g5, g6]
    all_goals (first | trivial | rfl)
  rintro a B ⟨rfl, g1, g5, g6, g7⟩
  have lenA : (pA o).length = 1 := rfl
  have nm : hN o.k = true → o.name.size ≤ 12 := fun h => by rw [if_pos h] at h2; exact (nameOk_size h2).2
  have keep : ∀ {C D : AH}, rowAt C A.length = some ([ii o.k, .string o.name, .string o.text, ii o.n, .string o.place], .own, 0, true) → (∀ k cs ex, k ≠ i → C[k]? = some (.row cs .own 0 ex) → D[k]? = some (.row cs .own 0 ex)) → rowAt D A.length = some ([ii o.k, .string o.name, .string o.text, ii o.n, .string o.place], .own, 0, true) :=
    fun h1 h2 => rowAt_own (h2 _ _ _ hji (rowAt_get h1))
  refine W_mid (fun a B' => OutA A B' i (pB o) ∧ rowAt B' A.length = some ([ii o.k, .string o.name, .string o.text, ii o.n, .string o.place], .own, 0, true) ∧ a 1 = ptr A.length ∧ a 5 = ii (hasO o.k) ∧ a 6 = ptr i ∧ a 7 = .func (.func op_Put_1) #[] #[ptr i]) ?_ ?_
  · cases hn : hN o.k with
    | true =>
      have e : pB o = pA o ++ textN (bl o.name) := by unfold pB; rw [hn]; rfl
      rw [hn, if_pos rfl] at b1
      have := nm hn
      simp (maxSteps := 1000000) (disch := omega) only [stepS, reduceIte, Nat.reduceBEq, Nat.reduceEqDiff, tupleOf, stepT, stepX, heapR, lensR, Nat.reduceAdd, Nat.reduceLeDiff, g1, g5, g6, g7, b1, r1]
      refine ⟨op_Put_1_ok, op_Put_1_spec o1 (by omega) (by omega) fun C o2 kk => ?_⟩
      simp (maxSteps := 1000000) (disch := omega) only [stepS, reduceIte, Nat.reduceBEq, Nat.reduceEqDiff, tupleOf, stepT, stepX, heapR, lensR, Nat.reduceAdd, Nat.reduceLeDiff, g1, g5, g6, g7]
      rw [e]
      exact ⟨o2, keep r1 kk⟩
    | false =>
      have e : pB o = pA o := by unfold pB; rw [hn]; simp
      rw [hn, if_neg (by simp)] at b1
      simp (maxSteps := 1000000) (disch := omega) only [stepS, reduceIte, Nat.reduceBEq, Nat.reduceEqDiff, tupleOf, stepT, stepX, heapR, lensR, Nat.reduceAdd, Nat.reduceLeDiff, g1, g5, g6, g7, b1, r1]
      rw [e]
      exact o1
  rintro a B' ⟨o2, r2, g1, g5, g6, g7⟩
  have lenB : (pB o).length ≤ 400 := by
    unfold pB
    cases hn : hN o.k with
    | true => have := nm hn; have := textN_len (s := o.name) (by omega); simp; omega
    | false => simp; omega
  clear r1 o1 B
  refine W_mid (fun a B => OutA A B i (pC o) ∧ rowAt B A.length = some ([ii o.k, .string o.name, .string o.text, ii o.n, .string o.place], .own, 0, true) ∧ a 1 = ptr A.length ∧ a 5 = ii (hasO o.k) ∧ a 6 = ptr i) ?_ ?_
  · cases hn : hT o.k with
    | true =>
      have e : pC o = pB o ++ textN (bl o.text) := by unfold pC; rw [hn]; rfl
      rw [hn, if_pos rfl] at b2
      simp (maxSteps := 1000000) (disch := omega) only [stepS, reduceIte, Nat.reduceBEq, Nat.reduceEqDiff, tupleOf, stepT, stepX, heapR, lensR, Nat.reduceAdd, Nat.reduceLeDiff, g1, g5, g6, g7, b2, r2]
      refine ⟨op_Put_1_ok, op_Put_1_spec o2 (by omega) (by omega) fun C o3 kk => ?_⟩
      simp (maxSteps := 1000000) (disch := omega) only [stepS, reduceIte, Nat.reduceBEq, Nat.reduceEqDiff, tupleOf, stepT, stepX, heapR, lensR, Nat.reduceAdd, Nat.reduceLeDiff, g1, g5, g6, g7]
      rw [e]
      exact ⟨o3, keep r2 kk⟩
    | false =>
      have e : pC o = pB o := by unfold pC; rw [hn]; simp
      rw [hn, if_neg (by simp)] at b2
      simp (maxSteps := 1000000) (disch := omega) only [stepS, reduceIte, Nat.reduceBEq, Nat.reduceEqDiff, tupleOf, stepT, stepX, heapR, lensR, Nat.reduceAdd, Nat.reduceLeDiff, g1, g5, g6, g7, b2, r2]
      rw [e]
      exact o2
  rintro a B ⟨o3, r3, g1, g5, g6⟩
  have lenC : (pC o).length ≤ 800 := by
    unfold pC
    have := textN_len (s := o.text) (by omega)
    cases hn : hT o.k with
    | true => simp; omega
    | false => simp; omega
  clear r2 o2 B'
  refine W_mid (fun a B => OutA A B i (pD o) ∧ rowAt B A.length = some ([ii o.k, .string o.name, .string o.text, ii o.n, .string o.place], .own, 0, true) ∧ a 1 = ptr A.length ∧ a 6 = ptr i) ?_ ?_
  · cases hn : hI o.k with
    | true =>
      rw [hn, if_pos rfl] at b4
      have hf : fixF (max o.n (0 - o.n)) 4 = some (leB o.n.natAbs 4) := by
        have hm : max o.n (0 - o.n) = (o.n.natAbs : Int) := by omega
        rw [hm]
        unfold fixF
        have : o.n.natAbs / 256 ^ 4 = 0 := Nat.div_eq_of_lt (by omega)
        rw [if_pos ⟨by omega, by omega, by simpa using this⟩]
        rfl
      simp (maxSteps := 1000000) (disch := omega) only [stepS, reduceIte, Nat.reduceBEq, Nat.reduceEqDiff, tupleOf, stepT, stepX, heapR, lensR, Nat.reduceAdd, Nat.reduceLeDiff, g1, g5, g6, b4, r3, negI]
      refine num_Fix_spec (fun z t C hz k1 o4 => ?_) (fun h => by rw [hf] at h; cases h)
      rw [hf] at hz
      obtain rfl := Option.some.inj hz
      obtain ⟨c1, c2, v, c3, c4⟩ := o3
      have c5 := k1.get c3
      have r4 := k1.row r3
      have hlt : ∀ k ∈ blkOf v, k < B.length := fun k hk => (OwnS.ge c4 k hk).2
      have e : pD o = pC o ++ [if o.n < 0 then 1 else 0] ++ leB o.n.natAbs 4 := by unfold pD; rw [hn]; simp [numO]
      simp (maxSteps := 1000000) (disch := omega) only [stepS, reduceIte, Nat.reduceBEq, Nat.reduceEqDiff, tupleOf, stepT, stepX, heapR, lensR, Nat.reduceAdd, Nat.reduceLeDiff, g1, g5, g6, r4, rowAt_own c5]
      refine op_truth_spec ?_
      rw [show (if decide (o.n < 0) = true then (1 : UInt8) else 0) = (if o.n < 0 then 1 else 0) by simp]
      have k2 : Le C (C ++ [.row [by8 (if o.n < 0 then 1 else 0)] .own 1 true]) := .push _ _
      obtain ⟨u1, D1, u, D, E, q1, q2, q3, q4, q5⟩ := OutA.app2 ((c1.trans k1).trans k2) c2 (k2.get c5) (c4.le (k1.trans k2)) (byt_by8 C _) (o4.byt.le k2) (fun k hk hv => by have h1 := hlt k hv; have h2 := (OwnS.ge o4 k hk).1; omega) (by simp [leB_length]; omega)
      simp (maxSteps := 1000000) (disch := omega) only [stepS, reduceIte, Nat.reduceBEq, Nat.reduceEqDiff, tupleOf, stepT, stepX, heapR, lensR, Nat.reduceAdd, Nat.reduceLeDiff, g1, g5, g6, lit_by8, q1, q2, q3]
      rw [e]
      exact ⟨q4, keep (k2.row r4) q5⟩
    | false =>
      have e : pD o = pC o := by unfold pD; rw [hn]; simp
      rw [hn, if_neg (by simp)] at b4
      simp (maxSteps := 1000000) (disch := omega) only [stepS, reduceIte, Nat.reduceBEq, Nat.reduceEqDiff, tupleOf, stepT, stepX, heapR, lensR, Nat.reduceAdd, Nat.reduceLeDiff, g1, g5, g6, b4, r3]
      rw [e]
      exact o3
  rintro a B' ⟨o4, r4, g1, g6⟩
  have lenD : (pD o).length ≤ 900 := by
    unfold pD
    cases hn : hI o.k with
    | true => simp [numO, leB_length]; omega
    | false => simp; omega
  clear r3 o3 B
  refine W_mid (fun a B => OutA A B i (pE o) ∧ rowAt B A.length = some ([ii o.k, .string o.name, .string o.text, ii o.n, .string o.place], .own, 0, true) ∧ a 1 = ptr A.length ∧ a 6 = ptr i) ?_ ?_
  · by_cases k5 : o.k = 5
    · obtain ⟨c1, c2, v, c3, c4⟩ := o4
      have e : pE o = pD o ++ [if decide (o.place ≠ e0) = true then 1 else 0] := by unfold pE; rw [if_pos k5]; congr 2; by_cases h : o.place = e0 <;> simp [h]
      simp (maxSteps := 1000000) (disch := omega) only [stepS, reduceIte, Nat.reduceBEq, Nat.reduceEqDiff, tupleOf, stepT, stepX, heapR, lensR, Nat.reduceAdd, Nat.reduceLeDiff, g1, g6, r4, rowAt_own c3]
      refine op_truth_spec ?_
      generalize (if decide (o.place ≠ e0) = true then (1 : UInt8) else 0) = b8 at e ⊢
      have k2 : Le B' (B' ++ [.row [by8 b8] .own 1 true]) := .push _ _
      obtain ⟨u, D, E, q1, q2, q3, q4⟩ := OutA.appV (c1.trans k2) c2 (k2.get c3) (c4.le k2) (byt_by8 B' _) (by simp; omega)
      simp (maxSteps := 1000000) (disch := omega) only [stepS, reduceIte, Nat.reduceBEq, Nat.reduceEqDiff, tupleOf, stepT, stepX, heapR, lensR, Nat.reduceAdd, Nat.reduceLeDiff, g1, g6, lit_by8, q1, q2]
      rw [e]
      exact ⟨q3, keep (k2.row r4) q4⟩
    · have e : pE o = pD o := by unfold pE; rw [if_neg k5]; simp
      simp (maxSteps := 1000000) (disch := omega) only [stepS, reduceIte, Nat.reduceBEq, Nat.reduceEqDiff, tupleOf, stepT, stepX, heapR, lensR, Nat.reduceAdd, Nat.reduceLeDiff, g1, g6, r4]
      rw [e]
      exact o4
  rintro a B ⟨o5, r5, g1, g6⟩
  have lenE : (pE o).length ≤ 901 := by
    unfold pE
    split <;> simp <;> omega
  obtain ⟨c1, c2, v, c3, c4⟩ := o5
  have hsz : o.place.size ≤ 32 := by
    rcases h8 with h | h
    · rw [h]; decide
    · omega
  obtain ⟨u, C, q1, q2, q3, _⟩ := apps_bytes (s := o.place) c1 c4 (by omega)
  have q4 := row_load c3 (by simp) (o := 0) (v := v) rfl
  simp (maxSteps := 1000000) (disch := omega) only [stepS, reduceIte, Nat.reduceBEq, Nat.reduceEqDiff, tupleOf, stepT, g1, g6, q4, q1, faddr_ptr, row_load (rowAt_get r5) (by simp) (o := 0 + 4) (v := .string o.place) rfl]
  refine hok hop _ _ q2 ?_
  rw [putO_pE]
  exact q3
end Go.AS.C


namespace Go.AS.C
open Go Go.Proofs
set_option linter.unusedVariables false
set_option linter.unusedSimpArgs false
set_option maxRecDepth 10000

/-! The reference's Has, Name, Check of operations. -/
theorem idx_byte {A : AH} {s : ByteArray} {j : Nat} {b : UInt8} (h : (bl s)[j]? = some b) : sIdxs A (.string s) (.int .i64 (j : Int)) = some (.int .u8 (b.toNat : Int), A) := by
  unfold sIdxs asI
  simp only [Option.bind_some, Int.toNat_natCast]
  rw [if_pos (by omega)]
  have e : s[j]? = some b := by
    cases s with
    | mk d =>
      have h' : d.toList[j]? = some b := h
      rw [Array.getElem?_toList] at h'
      have hj := (Array.getElem?_eq_some_iff.1 h').1
      show (if h : j < d.size then some d[j] else none) = _
      rw [dif_pos hj]
      rw [Array.getElem?_eq_getElem hj] at h'
      exact h'
  rw [e]; rfl
theorem ref14_Name_spec {A : AH} {s : ByteArray} {Q : Value → AH → Prop} (hs : s.size < 2 ^ 50) (hq : Q (.bool (nameOk s)) A) : ACalls 1 Tryd.prog chantryref14_Name [.string s] Q A := by
  refine ACalls.of_fits mixed fits_chantryref14_Name rfl ?_
  unfold ic_chantryref14_Name
  have i0 : initA [.string s] 0 = .string s := rfl
  generalize initA [.string s] = a at i0
  simp (maxSteps := 1000000) (disch := omega) only [stepS, reduceIte, Nat.reduceBEq, Nat.reduceEqDiff, tupleOf, stepT, i0]
  refine W_loop (fun a' B => B = A ∧ ∃ k : Nat, k ≤ s.size ∧ ((bl s).take k).all nameB = true ∧ a' 0 = .string s ∧ a' 3 = ii k) (fun a' _ => s.size - (iv (a' 3)).toNat) ?_ ?_
  · refine ⟨rfl, 0, by omega, ?_⟩
    simp (maxSteps := 1000000) (disch := omega) only [stepS, reduceIte, Nat.reduceBEq, Nat.reduceEqDiff, tupleOf, stepT, i0]
    simp
  · rintro a2 B ⟨rfl, k, hk, hall, g0, g3⟩
    rcases Nat.lt_or_ge k s.size with hlt | hge
    · obtain ⟨b, hb⟩ : ∃ b, (bl s)[k]? = some b := ⟨_, List.getElem?_eq_getElem (by rw [bl_size]; exact hlt)⟩
      have e1 := idx_byte (A := B) hb
      have htk : (bl s).take (k + 1) = (bl s).take k ++ [b] := by rw [List.take_add_one, hb]; rfl
      have good : nameB b = true → ((bl s).take (k + 1)).all nameB = true := fun h => by rw [htk, List.all_append, hall]; simp [h]
      have bad : nameB b = false → Q (.bool false) B := fun h => by
        have : (bl s).all nameB = false := by
          rw [← Bool.not_eq_true, List.all_eq_true]
          intro h2
          rw [h2 b (List.mem_of_getElem? hb)] at h
          cases h
        unfold nameOk at hq
        rw [this] at hq
        exact hq
      by_cases h1 : 97 ≤ b.toNat
      · by_cases h2 : b.toNat ≤ 122
        · simp (maxSteps := 1000000) (disch := omega) only [stepS, reduceIte, Nat.reduceBEq, Nat.reduceEqDiff, tupleOf, stepT, g0, g3, e1]
          exact ⟨⟨k + 1, by omega, good (by simp [nameB, h1, h2]), rfl⟩, by omega⟩
        · simp (maxSteps := 1000000) (disch := omega) only [stepS, reduceIte, Nat.reduceBEq, Nat.reduceEqDiff, tupleOf, stepT, g0, g3, e1]
          exact bad (by simp [nameB]; omega)
      · by_cases h3 : 48 ≤ b.toNat
        · by_cases h4 : b.toNat ≤ 57
          · simp (maxSteps := 1000000) (disch := omega) only [stepS, reduceIte, Nat.reduceBEq, Nat.reduceEqDiff, tupleOf, stepT, g0, g3, e1]
            exact ⟨⟨k + 1, by omega, good (by simp [nameB]; omega), rfl⟩, by omega⟩
          · simp (maxSteps := 1000000) (disch := omega) only [stepS, reduceIte, Nat.reduceBEq, Nat.reduceEqDiff, tupleOf, stepT, g0, g3, e1]
            exact bad (by simp [nameB]; omega)
        · by_cases h5 : b.toNat = 45
          · simp (maxSteps := 1000000) (disch := omega) only [stepS, reduceIte, Nat.reduceBEq, Nat.reduceEqDiff, tupleOf, stepT, g0, g3, e1]
            exact ⟨⟨k + 1, by omega, good (by simp [nameB, h5]), rfl⟩, by omega⟩
          · simp (maxSteps := 1000000) (disch := omega) only [stepS, reduceIte, Nat.reduceBEq, Nat.reduceEqDiff, tupleOf, stepT, g0, g3, e1]
            exact bad (by simp [nameB]; omega)
    · have hall2 : (bl s).all nameB = true := by rw [List.take_of_length_le (by rw [bl_size]; omega)] at hall; exact hall
      unfold nameOk at hq
      rw [hall2, Bool.true_and] at hq
      by_cases h2 : 1 ≤ s.size
      · by_cases h3 : s.size ≤ 12
        · rw [decide_eq_true ⟨h2, h3⟩] at hq
          simp (maxSteps := 1000000) (disch := omega) only [stepS, reduceIte, Nat.reduceBEq, Nat.reduceEqDiff, tupleOf, stepT, g0, g3]
          exact hq
        · rw [decide_eq_false (fun h => h3 h.2)] at hq
          simp (maxSteps := 1000000) (disch := omega) only [stepS, reduceIte, Nat.reduceBEq, Nat.reduceEqDiff, tupleOf, stepT, g0, g3]
          exact hq
      · rw [decide_eq_false (fun h => h2 h.1)] at hq
        simp (maxSteps := 1000000) (disch := omega) only [stepS, reduceIte, Nat.reduceBEq, Nat.reduceEqDiff, tupleOf, stepT, g0, g3]
        exact hq
theorem ref14_Has_spec {A : AH} {k : Int} {Q : Value → AH → Prop} (hq : Q (.tuple #[.bool (hN k), .bool (hT k), .bool (hI k), .bool (hA k), .bool (hK k)]) A) : ACalls 1 Tryd.prog chantryref14_Has [ii k] Q A := by
  refine ACalls.of_fits mixed fits_chantryref14_Has rfl ?_
  unfold ic_chantryref14_Has
  have i0 : initA [ii k] 0 = ii k := rfl
  generalize initA [ii k] = a at i0
  by_cases h1 : k = 1
  · subst h1; simp (maxSteps := 1000000) (disch := omega) only [stepS, reduceIte, Nat.reduceBEq, Nat.reduceEqDiff, tupleOf, stepT, i0]; exact hq
  by_cases h2 : k = 2
  · subst h2; simp (maxSteps := 1000000) (disch := omega) only [stepS, reduceIte, Nat.reduceBEq, Nat.reduceEqDiff, tupleOf, stepT, i0]; exact hq
  by_cases h3 : k = 3
  · subst h3; simp (maxSteps := 1000000) (disch := omega) only [stepS, reduceIte, Nat.reduceBEq, Nat.reduceEqDiff, tupleOf, stepT, i0]; exact hq
  by_cases h4 : k = 4
  · subst h4; simp (maxSteps := 1000000) (disch := omega) only [stepS, reduceIte, Nat.reduceBEq, Nat.reduceEqDiff, tupleOf, stepT, i0]; exact hq
  by_cases h5 : k = 5
  · subst h5; simp (maxSteps := 1000000) (disch := omega) only [stepS, reduceIte, Nat.reduceBEq, Nat.reduceEqDiff, tupleOf, stepT, i0]; exact hq
  by_cases h6 : k = 6
  · subst h6; simp (maxSteps := 1000000) (disch := omega) only [stepS, reduceIte, Nat.reduceBEq, Nat.reduceEqDiff, tupleOf, stepT, i0]; exact hq
  by_cases h7 : k = 7
  · subst h7; simp (maxSteps := 1000000) (disch := omega) only [stepS, reduceIte, Nat.reduceBEq, Nat.reduceEqDiff, tupleOf, stepT, i0]; exact hq
  have e : hN k = false ∧ hT k = false ∧ hI k = false ∧ hA k = false ∧ hK k = false := by
    unfold hN hT hI hA hK
    simp only [decide_eq_false_iff_not]
    omega
  rw [e.1, e.2.1, e.2.2.1, e.2.2.2.1, e.2.2.2.2] at hq
  simp (maxSteps := 1000000) (disch := omega) only [stepS, reduceIte, Nat.reduceBEq, Nat.reduceEqDiff, tupleOf, stepT, i0]
  exact hq
def ck1 (o : OpV) : Bool := hK o.k
def ck2 (o : OpV) : Bool := ck1 o && (!hN o.k || nameOk o.name)
def ck3 (o : OpV) : Bool := ck2 o && (hN o.k || decide (o.name = e0))
def ck4 (o : OpV) : Bool := ck3 o && decide (o.text.size ≤ 48)
def ck5 (o : OpV) : Bool := ck4 o && (hT o.k || decide (o.text = e0))
def ck6 (o : OpV) : Bool := ck5 o && (hI o.k || decide (o.n = 0))
def ck7 (o : OpV) : Bool := ck6 o && (hA o.k || decide (o.place = e0))
theorem ck_ok {o : OpV} : opOk o = true ↔ ck7 o = true ∧ (-2147483647 ≤ o.n ∧ o.n ≤ 2147483647) ∧ (o.place = e0 ∨ o.place.size = 32) ∧ ¬ (o.k = 5 ∧ o.text = e0) ∧ ¬ (o.k = 6 ∧ o.place = e0) := by
  rw [opOk_iff]
  unfold ck7 ck6 ck5 ck4 ck3 ck2 ck1
  simp only [Bool.and_eq_true, Bool.or_eq_true, decide_eq_true_eq, Bool.not_eq_true']
  cases hN o.k <;> simp <;> constructor <;> (intro h; simp only [h, not_false_eq_true, and_self, and_true, true_and, imp_self]) <;> grind
theorem ref14_Check_spec {A : AH} {o : OpV} {Q : Value → AH → Prop} (hs : o.Fin) (hq : Q (.bool (opOk o)) A) : ACalls 1 Tryd.prog chantryref14_Check [o.v] Q A := by
  refine ACalls.pure1 _ rfl hq fun Q hq => ?_
  obtain ⟨hs1, hs2, hs3, hs4, hs5⟩ := hs
  refine ACalls.of_fits mixed fits_chantryref14_Check rfl ?_
  unfold ic_chantryref14_Check
  have i0 : initA [o.v] 0 = o.v := rfl
  generalize initA [o.v] = a at i0
  rw [OpV.v_eq] at i0
  have hA : ∀ {B : AH}, B = A ++ [.row [ii o.k, .string o.name, .string o.text, ii o.n, .string o.place] .own 0 true] → rowAt B A.length = some ([ii o.k, .string o.name, .string o.text, ii o.n, .string o.place], .own, 0, true) := fun h => by subst h; simp (maxSteps := 1000000) (disch := omega) only [stepS, reduceIte, Nat.reduceBEq, Nat.reduceEqDiff, tupleOf, stepT, stepX, heapR, lensR, Nat.reduceAdd, Nat.reduceLeDiff]
  refine W_mid (fun a B => B = A ++ [.row [ii o.k, .string o.name, .string o.text, ii o.n, .string o.place] .own 0 true] ∧ a 1 = ptr A.length) ?_ ?_
  · simp (maxSteps := 1000000) (disch := omega) only [stepS, reduceIte, Nat.reduceBEq, Nat.reduceEqDiff, tupleOf, stepT, stepX, heapR, lensR, Nat.reduceAdd, Nat.reduceLeDiff, i0]
  rintro a B ⟨hB, g1⟩
  have r1 := hA hB
  have hl : Le A B := by rw [hB]; exact .push _ _
  clear hA i0 hB
  refine W_mid (fun a B' => B' = B ∧ a 1 = ptr A.length ∧ a 3 = .bool (hN o.k) ∧ a 4 = .bool (hT o.k) ∧ a 5 = .bool (hI o.k) ∧ a 6 = .bool (hA o.k) ∧ a 7 = .bool (hK o.k)) ?_ ?_
  · simp (maxSteps := 1000000) (disch := omega) only [stepS, reduceIte, Nat.reduceBEq, Nat.reduceEqDiff, tupleOf, stepT, stepX, heapR, lensR, Nat.reduceAdd, Nat.reduceLeDiff, g1, r1]
    refine ref14_Has_spec ?_
    simp (maxSteps := 1000000) (disch := omega) only [stepS, reduceIte, Nat.reduceBEq, Nat.reduceEqDiff, tupleOf, stepT, stepX, heapR, lensR, Nat.reduceAdd, Nat.reduceLeDiff, g1, sExt, List.getElem?_toArray]
  rintro a B ⟨rfl, g1, g3, g4, g5, g6, g7⟩
  have fin : ∀ b, opOk o = b → Q (.bool b) B := fun b h => by rw [← h]; exact hq _ hl
  clear hq
  rw [W_seq, W_seq, W_ops]
  refine Wops_cut 3 (fun a B' => B' = B ∧ a 1 = ptr A.length ∧ a 3 = .bool (hN o.k) ∧ a 4 = .bool (hT o.k) ∧ a 5 = .bool (hI o.k) ∧ a 6 = .bool (hA o.k) ∧ a 19 = .bool (!ck1 o)) rfl ?_ ?_
  · simp (maxSteps := 1000000) (disch := omega) only [stepS, reduceIte, Nat.reduceBEq, Nat.reduceEqDiff, tupleOf, stepT, stepX, heapR, lensR, Nat.reduceAdd, Nat.reduceLeDiff, g1, g3, g4, g5, g6, g7]
    rfl
  rintro a B' ⟨rfl, g1, g3, g4, g5, g6, g7⟩
  simp only [List.drop_succ_cons, List.drop_zero]
  refine Wops_cut 9 (fun a B => B = B' ∧ a 1 = ptr A.length ∧ a 3 = .bool (hN o.k) ∧ a 4 = .bool (hT o.k) ∧ a 5 = .bool (hI o.k) ∧ a 6 = .bool (hA o.k) ∧ a 28 = .bool (!ck2 o)) rfl ?_ ?_
  · cases hc : ck1 o with
    | false =>
      rw [hc] at g7
      change _ = Value.bool true at g7
      simp (maxSteps := 1000000) (disch := omega) only [stepS, reduceIte, Nat.reduceBEq, Nat.reduceEqDiff, tupleOf, stepT, stepX, heapR, lensR, Nat.reduceAdd, Nat.reduceLeDiff, g1, g3, g4, g5, g6, g7]
      simp [ck2, hc]
    | true =>
      rw [hc] at g7
      change _ = Value.bool false at g7
      skip
      · cases hn : hN o.k with
        | true =>
          rw [hn] at g3
          simp (maxSteps := 1000000) (disch := omega) only [stepS, reduceIte, Nat.reduceBEq, Nat.reduceEqDiff, tupleOf, stepT, stepX, heapR, lensR, Nat.reduceAdd, Nat.reduceLeDiff, g1, g3, g4, g5, g6, g7, r1]
          refine ref14_Name_spec (by omega) ?_
          simp (maxSteps := 1000000) (disch := omega) only [stepS, reduceIte, Nat.reduceBEq, Nat.reduceEqDiff, tupleOf, stepT, stepX, heapR, lensR, Nat.reduceAdd, Nat.reduceLeDiff, g1, g3, g4, g5, g6, g7]
          simp [ck2, hc, hn]
        | false =>
          rw [hn] at g3
          simp (maxSteps := 1000000) (disch := omega) only [stepS, reduceIte, Nat.reduceBEq, Nat.reduceEqDiff, tupleOf, stepT, stepX, heapR, lensR, Nat.reduceAdd, Nat.reduceLeDiff, g1, g3, g4, g5, g6, g7]
          simp [ck2, hc, hn]
  rintro a B' ⟨rfl, g1, g3, g4, g5, g6, g7⟩
  simp only [List.drop_succ_cons, List.drop_zero]
  refine Wops_cut 9 (fun a B => B = B' ∧ a 1 = ptr A.length ∧ a 3 = .bool (hN o.k) ∧ a 4 = .bool (hT o.k) ∧ a 5 = .bool (hI o.k) ∧ a 6 = .bool (hA o.k) ∧ a 37 = .bool (!ck3 o)) rfl ?_ ?_
  · cases hc : ck2 o with
    | false =>
      rw [hc] at g7
      change _ = Value.bool true at g7
      simp (maxSteps := 1000000) (disch := omega) only [stepS, reduceIte, Nat.reduceBEq, Nat.reduceEqDiff, tupleOf, stepT, stepX, heapR, lensR, Nat.reduceAdd, Nat.reduceLeDiff, g1, g3, g4, g5, g6, g7]
      simp [ck3, hc]
    | true =>
      rw [hc] at g7
      change _ = Value.bool false at g7
      skip
      · cases hn : hN o.k with
        | true =>
          rw [hn] at g3
          simp (maxSteps := 1000000) (disch := omega) only [stepS, reduceIte, Nat.reduceBEq, Nat.reduceEqDiff, tupleOf, stepT, stepX, heapR, lensR, Nat.reduceAdd, Nat.reduceLeDiff, g1, g3, g4, g5, g6, g7, r1]
          simp [ck3, hc, hn]
        | false =>
          rw [hn] at g3
          simp (maxSteps := 1000000) (disch := omega) only [stepS, reduceIte, Nat.reduceBEq, Nat.reduceEqDiff, tupleOf, stepT, stepX, heapR, lensR, Nat.reduceAdd, Nat.reduceLeDiff, g1, g3, g4, g5, g6, g7, r1]
          simp [ck3, hc, hn]
  rintro a B' ⟨rfl, g1, g3, g4, g5, g6, g7⟩
  simp only [List.drop_succ_cons, List.drop_zero]
  refine Wops_cut 6 (fun a B => B = B' ∧ a 1 = ptr A.length ∧ a 3 = .bool (hN o.k) ∧ a 4 = .bool (hT o.k) ∧ a 5 = .bool (hI o.k) ∧ a 6 = .bool (hA o.k) ∧ a 43 = .bool (!ck4 o)) rfl ?_ ?_
  · cases hc : ck3 o with
    | false =>
      rw [hc] at g7
      change _ = Value.bool true at g7
      simp (maxSteps := 1000000) (disch := omega) only [stepS, reduceIte, Nat.reduceBEq, Nat.reduceEqDiff, tupleOf, stepT, stepX, heapR, lensR, Nat.reduceAdd, Nat.reduceLeDiff, g1, g3, g4, g5, g6, g7]
      simp [ck4, hc]
    | true =>
      rw [hc] at g7
      change _ = Value.bool false at g7
      skip
      · by_cases hn : o.text.size ≤ 48
        · simp (maxSteps := 1000000) (disch := omega) only [stepS, reduceIte, Nat.reduceBEq, Nat.reduceEqDiff, tupleOf, stepT, stepX, heapR, lensR, Nat.reduceAdd, Nat.reduceLeDiff, g1, g3, g4, g5, g6, g7, r1]
          simp [ck4, hc, hn]
        · simp (maxSteps := 1000000) (disch := omega) only [stepS, reduceIte, Nat.reduceBEq, Nat.reduceEqDiff, tupleOf, stepT, stepX, heapR, lensR, Nat.reduceAdd, Nat.reduceLeDiff, g1, g3, g4, g5, g6, g7, r1]
          simp [ck4, hc, hn]
  rintro a B' ⟨rfl, g1, g3, g4, g5, g6, g7⟩
  simp only [List.drop_succ_cons, List.drop_zero]
  refine Wops_cut 9 (fun a B => B = B' ∧ a 1 = ptr A.length ∧ a 3 = .bool (hN o.k) ∧ a 4 = .bool (hT o.k) ∧ a 5 = .bool (hI o.k) ∧ a 6 = .bool (hA o.k) ∧ a 52 = .bool (!ck5 o)) rfl ?_ ?_
  · cases hc : ck4 o with
    | false =>
      rw [hc] at g7
      change _ = Value.bool true at g7
      simp (maxSteps := 1000000) (disch := omega) only [stepS, reduceIte, Nat.reduceBEq, Nat.reduceEqDiff, tupleOf, stepT, stepX, heapR, lensR, Nat.reduceAdd, Nat.reduceLeDiff, g1, g3, g4, g5, g6, g7]
      simp [ck5, hc]
    | true =>
      rw [hc] at g7
      change _ = Value.bool false at g7
      skip
      · cases hn : hT o.k with
        | true =>
          rw [hn] at g4
          simp (maxSteps := 1000000) (disch := omega) only [stepS, reduceIte, Nat.reduceBEq, Nat.reduceEqDiff, tupleOf, stepT, stepX, heapR, lensR, Nat.reduceAdd, Nat.reduceLeDiff, g1, g3, g4, g5, g6, g7, r1]
          simp [ck5, hc, hn]
        | false =>
          rw [hn] at g4
          simp (maxSteps := 1000000) (disch := omega) only [stepS, reduceIte, Nat.reduceBEq, Nat.reduceEqDiff, tupleOf, stepT, stepX, heapR, lensR, Nat.reduceAdd, Nat.reduceLeDiff, g1, g3, g4, g5, g6, g7, r1]
          simp [ck5, hc, hn]
  rintro a B' ⟨rfl, g1, g3, g4, g5, g6, g7⟩
  simp only [List.drop_succ_cons, List.drop_zero]
  refine Wops_cut 9 (fun a B => B = B' ∧ a 1 = ptr A.length ∧ a 3 = .bool (hN o.k) ∧ a 4 = .bool (hT o.k) ∧ a 5 = .bool (hI o.k) ∧ a 6 = .bool (hA o.k) ∧ a 61 = .bool (!ck6 o)) rfl ?_ ?_
  · cases hc : ck5 o with
    | false =>
      rw [hc] at g7
      change _ = Value.bool true at g7
      simp (maxSteps := 1000000) (disch := omega) only [stepS, reduceIte, Nat.reduceBEq, Nat.reduceEqDiff, tupleOf, stepT, stepX, heapR, lensR, Nat.reduceAdd, Nat.reduceLeDiff, g1, g3, g4, g5, g6, g7]
      simp [ck6, hc]
    | true =>
      rw [hc] at g7
      change _ = Value.bool false at g7
      skip
      · cases hn : hI o.k with
        | true =>
          rw [hn] at g5
          simp (maxSteps := 1000000) (disch := omega) only [stepS, reduceIte, Nat.reduceBEq, Nat.reduceEqDiff, tupleOf, stepT, stepX, heapR, lensR, Nat.reduceAdd, Nat.reduceLeDiff, g1, g3, g4, g5, g6, g7, r1]
          simp [ck6, hc, hn]
        | false =>
          rw [hn] at g5
          simp (maxSteps := 1000000) (disch := omega) only [stepS, reduceIte, Nat.reduceBEq, Nat.reduceEqDiff, tupleOf, stepT, stepX, heapR, lensR, Nat.reduceAdd, Nat.reduceLeDiff, g1, g3, g4, g5, g6, g7, r1]
          simp [ck6, hc, hn]
  rintro a B ⟨rfl, g1, g3, g4, g5, g6, g7⟩
  simp only [List.drop_succ_cons, List.drop_zero]
  cases hc : ck6 o with
  | false =>
    rw [hc] at g7
    change _ = Value.bool true at g7
    simp (maxSteps := 1000000) (disch := omega) only [stepS, reduceIte, Nat.reduceBEq, Nat.reduceEqDiff, tupleOf, stepT, stepX, heapR, lensR, Nat.reduceAdd, Nat.reduceLeDiff, g1, g3, g4, g5, g6, g7]
    refine fin _ ?_
    rw [← Bool.not_eq_true, ck_ok]
    intro h
    have := h.1
    unfold ck7 at this
    rw [hc] at this
    cases this
  | true =>
    rw [hc] at g7
    change _ = Value.bool false at g7
    have bad : ck7 o = false → Q (.bool false) B := fun h => fin _ (by rw [← Bool.not_eq_true, ck_ok, h]; intro k; cases k.1)
    have good : ck7 o = true → (opOk o = true ↔ (-2147483647 ≤ o.n ∧ o.n ≤ 2147483647) ∧ (o.place = e0 ∨ o.place.size = 32) ∧ ¬ (o.k = 5 ∧ o.text = e0) ∧ ¬ (o.k = 6 ∧ o.place = e0)) := fun h => by rw [ck_ok, h]; simp
    by_cases hn : ck7 o = true
    · have hopt := good hn
      have hh : hA o.k = true ∨ (hA o.k = false ∧ decide (o.place ≠ e0) = false) := by
        unfold ck7 at hn
        rw [hc] at hn
        cases hq : hA o.k with
        | true => exact .inl rfl
        | false => rw [hq] at hn; exact .inr ⟨rfl, by simpa using hn⟩
      rcases hh with hh | ⟨hh, hz⟩
      · rw [hh] at g6
        have hz : True := trivial
        have hp' : o.place = e0 ∨ (True ∧ ¬ o.place = e0) := by by_cases h : o.place = e0; exact .inl h; exact .inr ⟨trivial, h⟩
        by_cases w1 : o.n < -2147483647
        · simp (maxSteps := 1000000) (disch := omega) only [stepS, reduceIte, Nat.reduceBEq, Nat.reduceEqDiff, tupleOf, stepT, stepX, heapR, lensR, Nat.reduceAdd, Nat.reduceLeDiff, g1, g6, g7, r1, hz]
          exact fin _ (by rw [← Bool.not_eq_true, hopt]; intro h; omega)
        · by_cases w2 : o.n > 2147483647
          · simp (maxSteps := 1000000) (disch := omega) only [stepS, reduceIte, Nat.reduceBEq, Nat.reduceEqDiff, tupleOf, stepT, stepX, heapR, lensR, Nat.reduceAdd, Nat.reduceLeDiff, g1, g6, g7, r1, hz]
            exact fin _ (by rw [← Bool.not_eq_true, hopt]; intro h; omega)
          · rcases hp' with p | ⟨hh2, p⟩
            · by_cases k5 : o.k = 5
              · by_cases t0 : o.text = e0
                · simp (maxSteps := 1000000) (disch := omega) only [stepS, reduceIte, Nat.reduceBEq, Nat.reduceEqDiff, tupleOf, stepT, stepX, heapR, lensR, Nat.reduceAdd, Nat.reduceLeDiff, g1, g6, g7, r1, hz, decide_eq_false (fun h => h p : ¬ o.place ≠ e0), decide_eq_true p, decide_eq_true t0]
                  exact fin _ (by rw [← Bool.not_eq_true, hopt]; intro h; exact h.2.2.1 ⟨k5, t0⟩)
                · simp (maxSteps := 1000000) (disch := omega) only [stepS, reduceIte, Nat.reduceBEq, Nat.reduceEqDiff, tupleOf, stepT, stepX, heapR, lensR, Nat.reduceAdd, Nat.reduceLeDiff, g1, g6, g7, r1, hz, decide_eq_false (fun h => h p : ¬ o.place ≠ e0), decide_eq_true p, decide_eq_false t0]
                  exact fin _ (hopt.2 ⟨by omega, .inl p, fun h => t0 h.2, fun h => by omega⟩)
              · by_cases k6 : o.k = 6
                · simp (maxSteps := 1000000) (disch := omega) only [stepS, reduceIte, Nat.reduceBEq, Nat.reduceEqDiff, tupleOf, stepT, stepX, heapR, lensR, Nat.reduceAdd, Nat.reduceLeDiff, g1, g6, g7, r1, hz, decide_eq_false (fun h => h p : ¬ o.place ≠ e0), decide_eq_true p]
                  exact fin _ (by rw [← Bool.not_eq_true, hopt]; intro h; exact h.2.2.2 ⟨k6, p⟩)
                · simp (maxSteps := 1000000) (disch := omega) only [stepS, reduceIte, Nat.reduceBEq, Nat.reduceEqDiff, tupleOf, stepT, stepX, heapR, lensR, Nat.reduceAdd, Nat.reduceLeDiff, g1, g6, g7, r1, hz, decide_eq_false (fun h => h p : ¬ o.place ≠ e0), decide_eq_true p]
                  exact fin _ (hopt.2 ⟨by omega, .inl p, fun h => k5 h.1, fun h => k6 h.1⟩)
            · by_cases s32 : o.place.size = 32
              · by_cases k5 : o.k = 5
                · by_cases t0 : o.text = e0
                  · simp (maxSteps := 1000000) (disch := omega) only [stepS, reduceIte, Nat.reduceBEq, Nat.reduceEqDiff, tupleOf, stepT, stepX, heapR, lensR, Nat.reduceAdd, Nat.reduceLeDiff, g1, g6, g7, r1, hz, decide_eq_true (show o.place ≠ e0 from p), decide_eq_false p, decide_eq_true t0]
                    exact fin _ (by rw [← Bool.not_eq_true, hopt]; intro h; exact h.2.2.1 ⟨k5, t0⟩)
                  · simp (maxSteps := 1000000) (disch := omega) only [stepS, reduceIte, Nat.reduceBEq, Nat.reduceEqDiff, tupleOf, stepT, stepX, heapR, lensR, Nat.reduceAdd, Nat.reduceLeDiff, g1, g6, g7, r1, hz, decide_eq_true (show o.place ≠ e0 from p), decide_eq_false p, decide_eq_false t0]
                    first | exact hh2.elim | exact fin _ (hopt.2 ⟨by omega, .inr s32, fun h => t0 h.2, fun h => by omega⟩)
                · by_cases k6 : o.k = 6
                  · simp (maxSteps := 1000000) (disch := omega) only [stepS, reduceIte, Nat.reduceBEq, Nat.reduceEqDiff, tupleOf, stepT, stepX, heapR, lensR, Nat.reduceAdd, Nat.reduceLeDiff, g1, g6, g7, r1, hz, decide_eq_true (show o.place ≠ e0 from p), decide_eq_false p]
                    first | exact hh2.elim | exact fin _ (hopt.2 ⟨by omega, .inr s32, fun h => k5 h.1, fun h => p h.2⟩)
                  · simp (maxSteps := 1000000) (disch := omega) only [stepS, reduceIte, Nat.reduceBEq, Nat.reduceEqDiff, tupleOf, stepT, stepX, heapR, lensR, Nat.reduceAdd, Nat.reduceLeDiff, g1, g6, g7, r1, hz, decide_eq_true (show o.place ≠ e0 from p), decide_eq_false p]
                    first | exact hh2.elim | exact fin _ (hopt.2 ⟨by omega, .inr s32, fun h => k5 h.1, fun h => k6 h.1⟩)
              · simp (maxSteps := 1000000) (disch := omega) only [stepS, reduceIte, Nat.reduceBEq, Nat.reduceEqDiff, tupleOf, stepT, stepX, heapR, lensR, Nat.reduceAdd, Nat.reduceLeDiff, g1, g6, g7, r1, hz, decide_eq_true (show o.place ≠ e0 from p), decide_eq_false p]
                exact fin _ (by rw [← Bool.not_eq_true, hopt]; intro h; exact h.2.1.elim p s32)
      · rw [hh] at g6
        have hp' : o.place = e0 ∨ (False ∧ ¬ o.place = e0) := .inl (by simpa using hz)
        by_cases w1 : o.n < -2147483647
        · simp (maxSteps := 1000000) (disch := omega) only [stepS, reduceIte, Nat.reduceBEq, Nat.reduceEqDiff, tupleOf, stepT, stepX, heapR, lensR, Nat.reduceAdd, Nat.reduceLeDiff, g1, g6, g7, r1, hz]
          exact fin _ (by rw [← Bool.not_eq_true, hopt]; intro h; omega)
        · by_cases w2 : o.n > 2147483647
          · simp (maxSteps := 1000000) (disch := omega) only [stepS, reduceIte, Nat.reduceBEq, Nat.reduceEqDiff, tupleOf, stepT, stepX, heapR, lensR, Nat.reduceAdd, Nat.reduceLeDiff, g1, g6, g7, r1, hz]
            exact fin _ (by rw [← Bool.not_eq_true, hopt]; intro h; omega)
          · rcases hp' with p | ⟨hh2, p⟩
            · by_cases k5 : o.k = 5
              · by_cases t0 : o.text = e0
                · simp (maxSteps := 1000000) (disch := omega) only [stepS, reduceIte, Nat.reduceBEq, Nat.reduceEqDiff, tupleOf, stepT, stepX, heapR, lensR, Nat.reduceAdd, Nat.reduceLeDiff, g1, g6, g7, r1, hz, decide_eq_false (fun h => h p : ¬ o.place ≠ e0), decide_eq_true p, decide_eq_true t0]
                  exact fin _ (by rw [← Bool.not_eq_true, hopt]; intro h; exact h.2.2.1 ⟨k5, t0⟩)
                · simp (maxSteps := 1000000) (disch := omega) only [stepS, reduceIte, Nat.reduceBEq, Nat.reduceEqDiff, tupleOf, stepT, stepX, heapR, lensR, Nat.reduceAdd, Nat.reduceLeDiff, g1, g6, g7, r1, hz, decide_eq_false (fun h => h p : ¬ o.place ≠ e0), decide_eq_true p, decide_eq_false t0]
                  exact fin _ (hopt.2 ⟨by omega, .inl p, fun h => t0 h.2, fun h => by omega⟩)
              · by_cases k6 : o.k = 6
                · simp (maxSteps := 1000000) (disch := omega) only [stepS, reduceIte, Nat.reduceBEq, Nat.reduceEqDiff, tupleOf, stepT, stepX, heapR, lensR, Nat.reduceAdd, Nat.reduceLeDiff, g1, g6, g7, r1, hz, decide_eq_false (fun h => h p : ¬ o.place ≠ e0), decide_eq_true p]
                  exact fin _ (by rw [← Bool.not_eq_true, hopt]; intro h; exact h.2.2.2 ⟨k6, p⟩)
                · simp (maxSteps := 1000000) (disch := omega) only [stepS, reduceIte, Nat.reduceBEq, Nat.reduceEqDiff, tupleOf, stepT, stepX, heapR, lensR, Nat.reduceAdd, Nat.reduceLeDiff, g1, g6, g7, r1, hz, decide_eq_false (fun h => h p : ¬ o.place ≠ e0), decide_eq_true p]
                  exact fin _ (hopt.2 ⟨by omega, .inl p, fun h => k5 h.1, fun h => k6 h.1⟩)
            · by_cases s32 : o.place.size = 32
              · by_cases k5 : o.k = 5
                · by_cases t0 : o.text = e0
                  · simp (maxSteps := 1000000) (disch := omega) only [stepS, reduceIte, Nat.reduceBEq, Nat.reduceEqDiff, tupleOf, stepT, stepX, heapR, lensR, Nat.reduceAdd, Nat.reduceLeDiff, g1, g6, g7, r1, hz, decide_eq_true (show o.place ≠ e0 from p), decide_eq_false p, decide_eq_true t0]
                    exact fin _ (by rw [← Bool.not_eq_true, hopt]; intro h; exact h.2.2.1 ⟨k5, t0⟩)
                  · simp (maxSteps := 1000000) (disch := omega) only [stepS, reduceIte, Nat.reduceBEq, Nat.reduceEqDiff, tupleOf, stepT, stepX, heapR, lensR, Nat.reduceAdd, Nat.reduceLeDiff, g1, g6, g7, r1, hz, decide_eq_true (show o.place ≠ e0 from p), decide_eq_false p, decide_eq_false t0]
                    first | exact hh2.elim | exact fin _ (hopt.2 ⟨by omega, .inr s32, fun h => t0 h.2, fun h => by omega⟩)
                · by_cases k6 : o.k = 6
                  · simp (maxSteps := 1000000) (disch := omega) only [stepS, reduceIte, Nat.reduceBEq, Nat.reduceEqDiff, tupleOf, stepT, stepX, heapR, lensR, Nat.reduceAdd, Nat.reduceLeDiff, g1, g6, g7, r1, hz, decide_eq_true (show o.place ≠ e0 from p), decide_eq_false p]
                    first | exact hh2.elim | exact fin _ (hopt.2 ⟨by omega, .inr s32, fun h => k5 h.1, fun h => p h.2⟩)
                  · simp (maxSteps := 1000000) (disch := omega) only [stepS, reduceIte, Nat.reduceBEq, Nat.reduceEqDiff, tupleOf, stepT, stepX, heapR, lensR, Nat.reduceAdd, Nat.reduceLeDiff, g1, g6, g7, r1, hz, decide_eq_true (show o.place ≠ e0 from p), decide_eq_false p]
                    first | exact hh2.elim | exact fin _ (hopt.2 ⟨by omega, .inr s32, fun h => k5 h.1, fun h => k6 h.1⟩)
              · simp (maxSteps := 1000000) (disch := omega) only [stepS, reduceIte, Nat.reduceBEq, Nat.reduceEqDiff, tupleOf, stepT, stepX, heapR, lensR, Nat.reduceAdd, Nat.reduceLeDiff, g1, g6, g7, r1, hz, decide_eq_true (show o.place ≠ e0 from p), decide_eq_false p]
                exact fin _ (by rw [← Bool.not_eq_true, hopt]; intro h; exact h.2.1.elim p s32)
    · have hn : ck7 o = false := by simpa using hn
      have hz : hA o.k = false ∧ decide (o.place ≠ e0) = true := by
        unfold ck7 at hn
        rw [hc] at hn
        cases hq : hA o.k with
        | true => rw [hq] at hn; cases hn
        | false => rw [hq] at hn; exact ⟨rfl, by simpa using hn⟩
      rw [hz.1] at g6
      simp (maxSteps := 1000000) (disch := omega) only [stepS, reduceIte, Nat.reduceBEq, Nat.reduceEqDiff, tupleOf, stepT, stepX, heapR, lensR, Nat.reduceAdd, Nat.reduceLeDiff, g1, g3, g4, g5, g6, g7, r1, hz]
      exact bad hn
end Go.AS.C


namespace Go.AS.C
open Go Go.Proofs
set_option linter.unusedVariables false
set_option linter.unusedSimpArgs false
set_option maxRecDepth 10000

abbrev cellsO (o : OpV) : List Value := [ii o.k, .string o.name, .string o.text, ii o.n, .string o.place]
end Go.AS.C


namespace Go.AS.C
open Go Go.Proofs
set_option linter.unusedVariables false
set_option linter.unusedSimpArgs false
set_option maxRecDepth 10000

/-! op.Show; the reference's. -/
theorem kinds_row (A : AH) : sLit A [.string ⟨#[]⟩] 1 7 [(0, 1, .string ⟨#[99, 111, 117, 110, 116]⟩), (1, 1, .string ⟨#[97, 100, 100]⟩), (2, 1, .string ⟨#[114, 101, 109, 111, 118, 101]⟩), (3, 1, .string ⟨#[119, 114, 105, 116, 101]⟩), (4, 1, .string ⟨#[105, 110, 115, 101, 114, 116]⟩), (5, 1, .string ⟨#[100, 101, 108, 101, 116, 101]⟩), (6, 1, .string ⟨#[109, 101, 114, 103, 101]⟩)] = some (.slice (some ⟨A.length, 0, none⟩) 7 7, A ++ [.row (kindT.map .string) .own 1 true]) := rfl
theorem op_names_spec {A : AH} {Q : Value → AH → Prop} (hq : Q (.slice (some ⟨A.length, 0, none⟩) 7 7) (A ++ [.row (kindT.map .string) .own 1 true])) : ACalls 1 Tryd.prog op_names [] Q A := by
  refine ACalls.of_fits mixed fits_op_names rfl ?_
  unfold ic_op_names
  generalize initA [] = a
  simp (maxSteps := 1000000) (disch := omega) only [stepS, reduceIte, Nat.reduceBEq, Nat.reduceEqDiff, tupleOf, stepT, kinds_row]
  exact hq
theorem kinds_sl (A : AH) : SlT (A ++ [.row (kindT.map .string) .own 1 true]) (.slice (some ⟨A.length, 0, none⟩) 7 7) kindT := sl_last A (by decide) (Nat.le_refl _)
theorem own_lit {D : AH} {b : Nat} {s : ByteArray} (h : b ≤ D.length) : OwnT b (D ++ [.row [.string s] .own 1 true]) (.slice (some ⟨D.length, 0, none⟩) 1 1) [s] :=
  ⟨rfl, .inr (.inr ⟨D.length, 0, 1, [.string s], true, rfl, Nat.le_refl _, h, get_last _ _, by simp, fun j hj => by
    have : j = 0 := by simp at hj; exact hj
    subst this; rfl⟩)⟩
theorem sL_len (o : OpV) : (s0 o).length ≤ 5 ∧ (sN o).length ≤ 5 ∧ (sT o).length ≤ 5 ∧ (sI o).length ≤ 5 ∧ (sA o).length ≤ 5 := by
  unfold sA sI sT sN s0
  refine ⟨?_, ?_, ?_, ?_, ?_⟩ <;> ((repeat' split) <;> simp)
theorem op_Show_walk {A : AH} {o : OpV} {Q : Value → AH → Prop} (hs : o.Fin) (hIt : opOk o = true → ∀ (B : AH) (K : Value → AH → Prop), Le A B → K (.string (numT o.n)) B → ACalls 1 Tryd.prog strconv_Itoa [ii o.n] K B) (hq : Q (.string (showB o)) A) : ACalls 1 Tryd.prog op_Show [o.v] Q A := by
  refine ACalls.pure1 _ rfl hq fun Q hq => ?_
  refine ACalls.of_fits mixed fits_op_Show rfl ?_
  unfold ic_op_Show
  have i0 : initA [o.v] 0 = o.v := rfl
  generalize initA [o.v] = a at i0
  rw [OpV.v_eq] at i0
  refine W_mid (fun a B => B = A ++ [.row (cellsO o) .own 0 true] ∧ a 1 = ptr A.length) ?_ ?_
  · simp (maxSteps := 1000000) (disch := omega) only [stepS, reduceIte, Nat.reduceBEq, Nat.reduceEqDiff, tupleOf, stepT, stepX, heapR, lensR, Nat.reduceAdd, Nat.reduceLeDiff, i0]
  rintro a B ⟨hB, g1⟩
  have r1 : rowAt B A.length = some (cellsO o, .own, 0, true) := by rw [hB]; exact rowAt_own (get_last _ _)
  have hl : Le A B := by rw [hB]; exact .push _ _
  clear i0 hB
  refine W_midR (fun a B' => opOk o = true ∧ B' = B ∧ a 1 = ptr A.length) ?_ ?_
  · simp (maxSteps := 1000000) (disch := omega) only [stepS, reduceIte, Nat.reduceBEq, Nat.reduceEqDiff, tupleOf, stepT, stepX, heapR, lensR, Nat.reduceAdd, Nat.reduceLeDiff, g1, r1]
    refine op_Check_spec hs ?_
    unfold checkO
    cases hop : opOk o with
    | false =>
      simp (maxSteps := 1000000) (disch := omega) only [stepS, reduceIte, Nat.reduceBEq, Nat.reduceEqDiff, tupleOf, stepT, stepX, heapR, lensR, Nat.reduceAdd, Nat.reduceLeDiff, g1, r1, reduceCtorEq, false_and, false_or, true_and]
      have := hq _ hl
      unfold showB at this
      rw [hop] at this
      exact this
    | true =>
      simp (maxSteps := 1000000) (disch := omega) only [stepS, reduceIte, Nat.reduceBEq, Nat.reduceEqDiff, tupleOf, stepT, stepX, heapR, lensR, Nat.reduceAdd, Nat.reduceLeDiff, g1, r1, reduceCtorEq, false_and, or_false, true_and]
  rintro a B' ⟨hop, rfl, g1⟩
  obtain ⟨h1, h2, h3, h4, h5, h6, h7, h8, h9, h10⟩ := opOk_iff.1 hop
  obtain ⟨b1, b2, b4, b8, hp⟩ := and_has h1
  obtain ⟨n1, n2, j, n3, n4⟩ := nmT_at h1
  refine W_mid (fun a B => ∃ v, Le B' B ∧ OwnT B'.length B v (s0 o) ∧ a 1 = ptr A.length ∧ a 3 = ii (hasO o.k) ∧ a 4 = v) ?_ ?_
  · simp (maxSteps := 1000000) (disch := omega) only [stepS, reduceIte, Nat.reduceBEq, Nat.reduceEqDiff, tupleOf, stepT, stepX, heapR, lensR, Nat.reduceAdd, Nat.reduceLeDiff, g1, r1]
    refine op_has_spec ?_
    simp (maxSteps := 1000000) (disch := omega) only [stepS, reduceIte, Nat.reduceBEq, Nat.reduceEqDiff, tupleOf, stepT, stepX, heapR, lensR, Nat.reduceAdd, Nat.reduceLeDiff, g1, r1]
    refine op_names_spec ?_
    have hk := kinds_sl B'
    have e : (o.k - 1).toNat = j := by omega
    rw [e] at n1
    obtain ⟨p, p1, p2⟩ := hk.at n1
    have p3 := p2 _ (.refl _)
    have l1 := lit1 (A := B' ++ [.row (kindT.map .string) .own 1 true]) (z := .string ⟨#[]⟩) (len := 1) (ps := [(0, 1, .string (nmT o.k))]) [.string (nmT o.k)] rfl rfl (fun x hx => by simp at hx; subst hx; exact one1_str _)
    simp (maxSteps := 1000000) (disch := omega) only [stepS, reduceIte, Nat.reduceBEq, Nat.reduceEqDiff, tupleOf, stepT, stepX, heapR, lensR, Nat.reduceAdd, Nat.reduceLeDiff, g1, n3, p1, p3, l1]
    refine ⟨_, ?_, ?_, rfl⟩
    · (repeat first | exact Le.refl _ | assumption | refine Le.app ?_ _ | refine Le.set ?_ ?_ | omega | (simp only [List.length_append, List.length_singleton, List.length_set]; omega))
    · have := own_lit (D := B' ++ [.row (kindT.map .string) .own 1 true]) (b := B'.length) (s := nmT o.k) (by simp)
      rw [List.length_append] at this
      exact this
  rintro a B ⟨v, hle, ho, g1, g3, g4⟩
  have r2 := hle.row r1
  refine W_mid (fun a B => ∃ v, Le B' B ∧ OwnT B'.length B v (sN o) ∧ a 1 = ptr A.length ∧ a 3 = ii (hasO o.k) ∧ a 4 = v) ?_ ?_
  · cases hn : hN o.k with
    | true =>
      rw [hn] at b1
      obtain ⟨l1, w, D, q1, q2, q3, q4, q5⟩ := OwnT.push o.name hle ho (by simp [s0])
      simp (maxSteps := 1000000) (disch := omega) only [stepS, reduceIte, Nat.reduceBEq, Nat.reduceEqDiff, tupleOf, stepT, stepX, heapR, lensR, Nat.reduceAdd, Nat.reduceLeDiff, g1, g3, g4, r2, b1, l1, q1]
      refine ⟨_, q2, ?_, rfl⟩
      unfold sN
      rw [hn]
      exact q3
    | false =>
      rw [hn] at b1
      simp (maxSteps := 1000000) (disch := omega) only [stepS, reduceIte, Nat.reduceBEq, Nat.reduceEqDiff, tupleOf, stepT, stepX, heapR, lensR, Nat.reduceAdd, Nat.reduceLeDiff, g1, g3, g4, r2, b1]
      refine ⟨_, hle, ?_, rfl⟩
      unfold sN
      rw [hn]
      simpa using ho
  clear g1 g3 g4 ho r2 hle
  rintro a B ⟨v, hle, ho, g1, g3, g4⟩
  have r2 := hle.row r1
  have hpl : o.place.size ≤ 32 := by
    rcases h8 with h | h
    · rw [h]; decide
    · omega
  refine W_mid (fun a B => ∃ v, Le B' B ∧ OwnT B'.length B v (sT o) ∧ a 1 = ptr A.length ∧ a 3 = ii (hasO o.k) ∧ a 4 = v) ?_ ?_
  · cases hn : hT o.k with
    | true =>
      rw [hn] at b2
      simp (maxSteps := 1000000) (disch := omega) only [stepS, reduceIte, Nat.reduceBEq, Nat.reduceEqDiff, tupleOf, stepT, stepX, heapR, lensR, Nat.reduceAdd, Nat.reduceLeDiff, g1, g3, g4, r2, b2]
      refine ids_Hex_spec (by omega) fun C kC => ?_
      have c1 := cat_str ⟨[35].toArray⟩ ⟨(hexP o.text.data.toList).toArray⟩ (by show 1 + (hexP o.text.data.toList).length < _; rw [hexP_len, ← size_bytes]; omega)
      rw [ba_cat] at c1
      obtain ⟨l1, w, D, q1, q2, q3, q4, q5⟩ := OwnT.push (hexT o.text) (hle.trans kC) (OwnT.le ho kC) (by have := sL_len o; omega)
      unfold hexT at l1 q1
      have r3 := kC.row r2
      simp (maxSteps := 1000000) (disch := omega) only [stepS, reduceIte, Nat.reduceBEq, Nat.reduceEqDiff, tupleOf, stepT, stepX, heapR, lensR, Nat.reduceAdd, Nat.reduceLeDiff, g1, g3, g4, r3, c1, l1, q1]
      refine ⟨_, q2, ?_, rfl⟩
      unfold sT
      rw [hn]
      exact q3
    | false =>
      rw [hn] at b2
      simp (maxSteps := 1000000) (disch := omega) only [stepS, reduceIte, Nat.reduceBEq, Nat.reduceEqDiff, tupleOf, stepT, stepX, heapR, lensR, Nat.reduceAdd, Nat.reduceLeDiff, g1, g3, g4, r2, b2]
      refine ⟨_, hle, ?_, rfl⟩
      unfold sT
      rw [hn]
      simpa using ho
  clear g1 g3 g4 ho r2 hle
  rintro a B ⟨v, hle, ho, g1, g3, g4⟩
  have r2 := hle.row r1
  refine W_mid (fun a B => ∃ v, Le B' B ∧ OwnT B'.length B v (sI o) ∧ a 1 = ptr A.length ∧ a 3 = ii (hasO o.k) ∧ a 4 = v) ?_ ?_
  · cases hn : hI o.k with
    | true =>
      rw [hn] at b4
      simp (maxSteps := 1000000) (disch := omega) only [stepS, reduceIte, Nat.reduceBEq, Nat.reduceEqDiff, tupleOf, stepT, stepX, heapR, lensR, Nat.reduceAdd, Nat.reduceLeDiff, g1, g3, g4, r2, b4]
      refine hIt hop _ _ (hl.trans hle) ?_
      obtain ⟨l1, w, D, q1, q2, q3, q4, q5⟩ := OwnT.push (numT o.n) hle ho (by have := sL_len o; omega)
      simp (maxSteps := 1000000) (disch := omega) only [stepS, reduceIte, Nat.reduceBEq, Nat.reduceEqDiff, tupleOf, stepT, stepX, heapR, lensR, Nat.reduceAdd, Nat.reduceLeDiff, g1, g3, g4, r2, l1, q1]
      refine ⟨_, q2, ?_, rfl⟩
      unfold sI
      rw [hn]
      exact q3
    | false =>
      rw [hn] at b4
      simp (maxSteps := 1000000) (disch := omega) only [stepS, reduceIte, Nat.reduceBEq, Nat.reduceEqDiff, tupleOf, stepT, stepX, heapR, lensR, Nat.reduceAdd, Nat.reduceLeDiff, g1, g3, g4, r2, b4]
      refine ⟨_, hle, ?_, rfl⟩
      unfold sI
      rw [hn]
      simpa using ho
  clear g1 g3 g4 ho r2 hle
  rintro a B ⟨v, hle, ho, g1, g3, g4⟩
  have r2 := hle.row r1
  refine W_mid (fun a B => ∃ v, Le B' B ∧ OwnT B'.length B v (sA o) ∧ a 1 = ptr A.length ∧ a 3 = ii (hasO o.k) ∧ a 4 = v) ?_ ?_
  · cases hn : hA o.k with
    | true =>
      rw [hn] at b8
      simp (maxSteps := 1000000) (disch := omega) only [stepS, reduceIte, Nat.reduceBEq, Nat.reduceEqDiff, tupleOf, stepT, stepX, heapR, lensR, Nat.reduceAdd, Nat.reduceLeDiff, g1, g3, g4, r2, b8]
      refine ids_Hex_spec (by omega) fun C kC => ?_
      have c1 := cat_str ⟨[35].toArray⟩ ⟨(hexP o.place.data.toList).toArray⟩ (by show 1 + (hexP o.place.data.toList).length < _; rw [hexP_len, ← size_bytes]; omega)
      rw [ba_cat] at c1
      obtain ⟨l1, w, D, q1, q2, q3, q4, q5⟩ := OwnT.push (hexT o.place) (hle.trans kC) (OwnT.le ho kC) (by have := sL_len o; omega)
      unfold hexT at l1 q1
      have r3 := kC.row r2
      simp (maxSteps := 1000000) (disch := omega) only [stepS, reduceIte, Nat.reduceBEq, Nat.reduceEqDiff, tupleOf, stepT, stepX, heapR, lensR, Nat.reduceAdd, Nat.reduceLeDiff, g1, g3, g4, r3, c1, l1, q1]
      refine ⟨_, q2, ?_, rfl⟩
      unfold sA
      rw [hn]
      exact q3
    | false =>
      rw [hn] at b8
      simp (maxSteps := 1000000) (disch := omega) only [stepS, reduceIte, Nat.reduceBEq, Nat.reduceEqDiff, tupleOf, stepT, stepX, heapR, lensR, Nat.reduceAdd, Nat.reduceLeDiff, g1, g3, g4, r2, b8]
      refine ⟨_, hle, ?_, rfl⟩
      unfold sA
      rw [hn]
      simpa using ho
  clear g1 g3 g4 ho r2 hle
  rintro a B ⟨v, hle, ho, g1, g3, g4⟩
  have r2 := hle.row r1
  have hj := joinT_sA o
  have htl := (tA_len hop).2.2.2.2
  simp (maxSteps := 1000000) (disch := omega) only [stepS, reduceIte, Nat.reduceBEq, Nat.reduceEqDiff, tupleOf, stepT, stepX, heapR, lensR, Nat.reduceAdd, Nat.reduceLeDiff, g4]
  refine join_spec joinsTexts (OwnT.sl ho) (by have := sL_len o; omega) (by rw [hj]; show (tA o).length ≤ _; omega) ?_
  simp (maxSteps := 1000000) (disch := omega) only [stepS, reduceIte, Nat.reduceBEq, Nat.reduceEqDiff, tupleOf, stepT, stepX, heapR, lensR, Nat.reduceAdd, Nat.reduceLeDiff]
  have := hq _ (hl.trans hle)
  unfold showB at this
  rw [hop] at this
  exact this
end Go.AS.C


namespace Go.AS.C
open Go Go.Proofs
set_option linter.unusedVariables false
set_option linter.unusedSimpArgs false
set_option maxRecDepth 10000

end Go.AS.C


namespace Go.AS.C
open Go Go.Proofs Go.RowKit Go.Sort
set_option linter.unusedVariables false
set_option linter.unusedSimpArgs false
set_option maxRecDepth 10000

/-! strconv.Itoa, where its table is laid. -/
def kI : List Int := Lib.pow10Tab
def kV : List Value := kI.map fun n => .int .u64 n
theorem kI_cells : (kI.map fun m => Value.int .u64 m) = kV := id rfl
theorem kI_flat : ∀ v ∈ kV, flatV v = true ∧ v.oneCell' = true := by
  intro v hv
  unfold kV at hv
  rw [List.mem_map] at hv
  obtain ⟨n, _, rfl⟩ := hv
  exact ⟨rfl, rfl⟩
/-- The block of the package variable. -/
def kB : Blk := .row kV .ro 0 true
theorem below_grow (w : World) (k : Nat) (os : Array Obj) : Below w.heap.size w (grow (w.drewN k) os) :=
  ⟨rfl, rfl, rfl, by simp [grow, World.drewN], fun i hi => by
    show (w.heap ++ os)[i]? = _
    rw [Array.getElem?_append_left hi]⟩
theorem tab_is {μ : Mu} {A : AH} {w : World} (hg : Le [kB] A) (hr : Rel 1 μ A w) : Lib.TabIs Tryd.prog w "internal/strconv.uint64pow10" .u64 Lib.pow10Tab := by
  obtain ⟨e, he, hb, ho⟩ := hr.glo 0 (by omega)
  have h0 : A[0]? = some (.row kV .ro 0 true) := hg.get (show [kB][0]? = some kB from rfl)
  obtain ⟨rc, T, fr, g1, g2, _, g4⟩ := hr.row 0 kV .ro 0 true e h0 he (by decide)
  have hs := g4.2 rfl
  rw [ho] at g2 hs
  rw [hb] at g1
  have hl : rc.toList = kV := by
    apply List.ext_getElem?
    intro j
    rcases Nat.lt_or_ge j kV.length with hj | hj
    · have hv : kV[j]? = some kV[j] := List.getElem?_eq_getElem hj
      obtain ⟨_, v', q1, q2⟩ := g2 j _ hv
      rw [Nat.zero_add, q2.eq_of_flat (kI_flat _ (List.getElem_mem hj)).1] at q1
      rw [hv, Array.getElem?_toList, q1]
    · rw [List.getElem?_eq_none (by rw [Array.length_toList]; omega), List.getElem?_eq_none hj]
  unfold Lib.TabIs World.var?
  have hn : Tryd.prog.globalNamed "internal/strconv.uint64pow10" = some 0 := by kernel_rfl
  rw [hn]
  simp only [Option.bind_some, g1]
  rw [← Array.toArray_toList (xs := rc), hl]
  rfl
theorem itoa_spec {A : AH} {n : Int} {Q : Value → AH → Prop} (hg : Le [kB] A) (h0 : -9223372036854775808 ≤ n) (h1 : n ≤ 9223372036854775807) (hq : Q (.string (numT n)) A) : ACalls 1 Tryd.prog strconv_Itoa [ii n] Q A := by
  intro μ args' w hr k1 k2
  obtain ⟨v', rfl⟩ : ∃ v', args' = #[v'] := by
    have : args'.size = 1 := by simpa using k1
    exact ⟨args'[0], by apply Array.ext (by simpa using this); intro i hi1 hi2; simp at hi2; subst hi2; rfl⟩
  have hv := k2 0 _ v' rfl rfl
  have e : v' = ii n := hv.eq_of_flat rfl
  subst e
  refine (Tryd.strconv_Itoa n h0 h1 w (tab_is hg hr)).mono ?_
  rintro en w' ⟨rfl, k, os, rfl⟩
  obtain ⟨hr1, hs1⟩ := hr.below (below_grow w k os)
  exact ⟨_, _, μ, A, rfl, .flat rfl, hr1, hs1, hq⟩
theorem op_Show_spec {A : AH} {o : OpV} {Q : Value → AH → Prop} (hg : Le [kB] A) (hs : o.Fin) (hq : Q (.string (showB o)) A) : ACalls 1 Tryd.prog op_Show [o.v] Q A :=
  op_Show_walk hs (fun hop B K hl k => itoa_spec (hg.trans hl) (by have := hs.2.1; omega) (by have := hs.2.1; omega) k) hq
end Go.AS.C


namespace Go.AS.C
open Go Go.Proofs
set_option linter.unusedVariables false
set_option linter.unusedSimpArgs false
set_option maxRecDepth 10000

/-- The reference's cursor, as a value. -/
def refV (b : Value) (at_ : Nat) (bad : Bool) : Value := .agg #[b, ii at_, .bool bad]
def RefA (rb : Nat) (A : AH) (v : Value) (st : CurS) : Prop := match st with
  | none => v = refV (.slice none 0 0) 0 true
  | some r => ∃ (b : Value) (k : Nat) (all : List UInt8), v = refV b k false ∧ Byt A b all ∧ k ≤ all.length ∧ r = all.drop k ∧ all.length ≤ 2 ^ 40 ∧ ∀ j ∈ blkOf b, j < rb
variable {rb : Nat}
/-- Bytes that lie in a block ahead of rb. -/
def BytR (rb : Nat) (A : AH) (t : Value) (bs : List UInt8) : Prop := Byt A t bs ∧ ∀ j ∈ blkOf t, j < rb
theorem BytR.nil (rb : Nat) (A : AH) : BytR rb A (.slice none 0 0) [] := ⟨⟨rfl, .inl ⟨rfl, rfl⟩⟩, fun _ h => by cases h⟩
theorem RefA.le {A B : AH} {v : Value} {st : CurS} (h : RefA rb A v st) (hl : Le A B) : RefA rb B v st := by
  cases st with
  | none => exact h
  | some r =>
    obtain ⟨b, k, all, h1, h2, h3, h4⟩ := h
    exact ⟨b, k, all, h1, h2.le hl, h3, h4⟩
theorem RefA.kp {A B : AH} {i : Nat} {v : Value} {st : CurS} (h : RefA rb A v st) (hk : Keep A i B) {zc : List Value} {zst : St} {zex : Bool} (hi : A[i]? = some (.row zc zst 0 zex)) : RefA rb B v st := by
  cases st with
  | none => exact h
  | some r =>
    obtain ⟨b, k, all, h1, h2, h3, h4⟩ := h
    exact ⟨b, k, all, h1, h2.kp hk hi, h3, h4⟩
/-- What a reader leads to is as it was, as it stood there at the start. -/
theorem RefA.base {A0 A B : AH} {v : Value} {st : CurS} (hA : Le A0 A) (hB : Le A0 B) (h : RefA A0.length A v st) : RefA A0.length B v st := by
  cases st with
  | none => exact h
  | some r =>
    obtain ⟨b, k, all, h1, h2, h3, h4, h5, h6⟩ := h
    refine ⟨b, k, all, h1, h2.keepB fun j c hc hj => ?_, h3, h4, h5, h6⟩
    have hlt := h6 j hj
    obtain ⟨c0, hc0⟩ : ∃ c0, A0[j]? = some c0 := ⟨_, List.getElem?_eq_getElem hlt⟩
    rw [hA.get hc0] at hc
    rw [← hc]
    exact hB.get hc0
/-- Whatever state: the value's three cells. -/
theorem RefA.cells {A : AH} {v : Value} {st : CurS} (h : RefA rb A v st) : ∃ (b : Value) (k : Nat), v = refV b k st.isNone ∧ one1 b := by
  cases st with
  | none => exact ⟨_, _, h, one1_sl _ _ _⟩
  | some r =>
    obtain ⟨b, k, all, h1, h2, h3, h4⟩ := h
    obtain ⟨p, c, hs, _⟩ := h2.shape
    exact ⟨b, k, h1, by rw [hs]; exact one1_sl _ _ _⟩
def crow (b : Value) (k : Nat) (bad : Bool) : Blk := .row [b, ii k, .bool bad] .own 0 true
theorem box_ref {A : AH} {b : Value} {k : Nat} {bad : Bool} (hb : one1 b) : sBox A (refV b k bad) = some (.pointer (some ⟨A.length, 0, none⟩), A ++ [crow b k bad]) := by
  unfold sBox
  have e : (refV b k bad).cells.toList = [b, ii k, .bool bad] := rfl
  have h : ones [b, ii k, .bool bad] = true := by
    show (b.oneCell' && ((ii k).oneCell' && ((Value.bool bad).oneCell' && true))) = true
    rw [hb.2]; rfl
  rw [e, if_pos h]
  rfl
theorem ones3 {b : Value} {k : Nat} {bad : Bool} (hb : one1 b) : ones [b, ii k, .bool bad] = true := by
  show (b.oneCell' && ((ii k).oneCell' && ((Value.bool bad).oneCell' && true))) = true
  rw [hb.2]; rfl
theorem store_ref {A : AH} {i : Nat} {b b' : Value} {k k' : Nat} {bad bad' : Bool} (h : A[i]? = some (crow b k bad)) (hb : one1 b') : sStore A (.pointer (some ⟨i, 0, none⟩)) (refV b' k' bad') 3 = some (undef, A.set i (crow b' k' bad')) :=
  row_storen (ds := [b', ii k', .bool bad']) h rfl (ones3 hb) rfl
theorem load_ref {A : AH} {i : Nat} {b : Value} {k : Nat} {bad : Bool} (h : A[i]? = some (crow b k bad)) : sLoadn A (.pointer (some ⟨i, 0, none⟩)) 3 = some (refV b k bad, A) := row_loadn h (by simp) rfl
theorem load_b {A : AH} {i : Nat} {b : Value} {k : Nat} {bad : Bool} (h : A[i]? = some (crow b k bad)) : sLoad1 A (.pointer (some ⟨i, 0 + 0, none⟩)) = some (b, A) := row_load h (by simp) rfl
theorem load_k {A : AH} {i : Nat} {b : Value} {k : Nat} {bad : Bool} (h : A[i]? = some (crow b k bad)) : sLoad1 A (.pointer (some ⟨i, 0 + 1, none⟩)) = some (ii k, A) := row_load h (by simp) rfl
theorem load_d {A : AH} {i : Nat} {b : Value} {k : Nat} {bad : Bool} (h : A[i]? = some (crow b k bad)) : sLoad1 A (.pointer (some ⟨i, 0 + 2, none⟩)) = some (.bool bad, A) := row_load h (by simp) rfl
def znew : Blk := crow (.slice none 0 0) 0 false
theorem znew_eq : Blk.row [.slice none 0 0, .int .i64 0, .bool false] .own 0 true = znew := id rfl
theorem one1_nil : one1 (.slice none 0 0) := one1_sl _ _ _

theorem ref01_spoilt_spec {A : AH} {v : Value} {st : CurS} {Q : Value → AH → Prop} (hv : RefA rb A v st) (hq : ∀ A', Le A A' → Q (refV (.slice none 0 0) 0 true) A') : ACalls 1 Tryd.prog chantryref01_spoilt [v] Q A := by
  refine ACalls.of_fits mixed fits_chantryref01_spoilt rfl ?_
  unfold ic_chantryref01_spoilt
  have i0 : initA [v] 0 = v := rfl
  generalize initA [v] = a at i0
  obtain ⟨b, k, rfl, hb⟩ := hv.cells
  have g1 : (A ++ [crow b k st.isNone] ++ [znew])[(A ++ [crow b k st.isNone]).length]? = some znew := get_last _ _
  have hbd : ∀ A, sBuild A [.slice none 0 0, .int .i64 0, .bool false] [(2, 1, .bool true)] = some (refV (.slice none 0 0) 0 true, A) := fun A => rfl
  have s1 := store_ref (b' := .slice none 0 0) (k' := 0) (bad' := true) g1 one1_nil
  have l1 := load_ref (set_get (b' := crow (.slice none 0 0) 0 true) g1)
  simp (maxSteps := 1000000) (disch := omega) only [stepS, reduceIte, Nat.reduceBEq, Nat.reduceEqDiff, tupleOf, stepT, i0, box_ref hb, znew_eq, hbd, s1, l1]
  refine hq _ ?_
  have k1 : Le A (A ++ [crow b k st.isNone]) := .push _ _
  exact (k1.trans (.push _ _)).set (by simp)

theorem ref01_From_spec {A : AH} {v : Value} {bs : List UInt8} {Q : Value → AH → Prop} (hv : Byt A v bs) (hl : bs.length ≤ 2 ^ 40) (hq : ∀ A' u, Le A A' → RefA A.length A' u (some bs) → Q u A') : ACalls 1 Tryd.prog chantryref01_From [v] Q A := by
  refine ACalls.of_fits mixed fits_chantryref01_From rfl ?_
  unfold ic_chantryref01_From
  have i0 : initA [v] 0 = v := rfl
  generalize initA [v] = a at i0
  have hb1 : one1 v := by obtain ⟨p, c, hs, _⟩ := hv.shape; rw [hs]; exact one1_sl _ _ _
  have g1 : (A ++ [znew])[A.length]? = some znew := get_last _ _
  have hbd : ∀ A, sBuild A [.slice none 0 0, .int .i64 0, .bool false] [(0, 1, v)] = some (refV v 0 false, A) := fun A => by
    obtain ⟨p, c, hs, _⟩ := hv.shape
    rw [hs]; rfl
  have s1 := store_ref (b' := v) (k' := 0) (bad' := false) g1 hb1
  have l1 := load_ref (set_get (b' := crow v 0 false) g1)
  simp (maxSteps := 1000000) (disch := omega) only [stepS, reduceIte, Nat.reduceBEq, Nat.reduceEqDiff, tupleOf, stepT, i0, znew_eq, hbd, s1, l1]
  have k1 : Le A ((A ++ [znew]).set A.length (crow v 0 false)) := (Le.push A znew).set (Nat.le_refl _)
  exact hq _ _ k1 ⟨v, 0, bs, rfl, hv.le k1, Nat.zero_le _, rfl, hl, hv.lt⟩

/-- The reference's cursor taken, as a state. -/
theorem ref01_Take_spec {A : AH} {v : Value} {st : CurS} {n : Int} {Q : Value → AH → Prop} (hv : RefA rb A v st) (hn : -9223372036854775808 ≤ n ∧ n < 4611686018427387904) (hq : ∀ A' u t, Le A A' → RefA rb A' u (takeC st n).1 → BytR rb A' t (takeC st n).2 → Q (.tuple #[u, t]) A') :
    ACalls 1 Tryd.prog chantryref01_Take [v, ii n] Q A := by
  refine ACalls.of_fits mixed fits_chantryref01_Take rfl ?_
  unfold ic_chantryref01_Take
  have i0 : initA [v, ii n] 0 = v := rfl
  have i1 : initA [v, ii n] 1 = ii n := rfl
  generalize initA [v, ii n] = a at i0 i1
  obtain ⟨b, k, rfl, hb⟩ := hv.cells
  obtain ⟨d, hd⟩ : ∃ d, st.isNone = d := ⟨_, rfl⟩
  rw [hd] at hv i0
  have k1 : Le A (A ++ [crow b k d]) := .push _ _
  have k2 : Le A (A ++ [crow b k d] ++ [znew]) := k1.trans (.push _ _)
  have g1 : (A ++ [crow b k d] ++ [znew])[A.length]? = some (crow b k d) := by simp
  have g2 : (A ++ [crow b k d] ++ [znew])[(A ++ [crow b k d]).length]? = some znew := get_last _ _
  generalize hA2 : A ++ [crow b k d] ++ [znew] = A2 at k2 g1 g2
  generalize hp : (A ++ [crow b k d]).length = p at g2
  have hpA : A.length ≤ p := by subst hp; simp
  have tail : ∀ A3, Le A2 A3 → sStore A3 (.pointer (some ⟨p, 0, none⟩)) (refV (.slice none 0 0) 0 true) 3 = some (undef, A3.set p (crow (.slice none 0 0) 0 true)) ∧ sLoadn (A3.set p (crow (.slice none 0 0) 0 true)) (.pointer (some ⟨p, 0, none⟩)) 3 = some (refV (.slice none 0 0) 0 true, A3.set p (crow (.slice none 0 0) 0 true)) ∧ Le A (A3.set p (crow (.slice none 0 0) 0 true)) := by
    intro A3 h3
    have g3 := h3.get g2
    exact ⟨store_ref g3 one1_nil, load_ref (set_get g3), (k2.trans h3).set hpA⟩
  cases st with
  | none =>
    obtain rfl : d = true := hd.symm
    simp (maxSteps := 1000000) (disch := omega) only [stepS, reduceIte, Nat.reduceBEq, Nat.reduceEqDiff, tupleOf, stepT, i0, i1, box_ref hb, znew_eq, hA2, hp, faddr_ptr, load_d g1, load_ref g1]
    refine ref01_spoilt_spec (hv.le k2) fun A3 h3 => ?_
    obtain ⟨t1, t2, t3⟩ := tail A3 h3
    simp (maxSteps := 1000000) (disch := omega) only [stepS, reduceIte, Nat.reduceBEq, Nat.reduceEqDiff, tupleOf, stepT, t1, t2]
    exact hq _ _ _ t3 rfl (BytR.nil _ _)
  | some r =>
    obtain rfl : d = false := hd.symm
    obtain ⟨b', k', all, e, hby, hk, rfl, h40⟩ := hv
    have hv : RefA rb A (refV b k false) (some (all.drop k')) := ⟨b', k', all, e, hby, hk, rfl, h40⟩
    unfold refV at e
    injection e with e
    simp only [Array.mk.injEq, List.cons.injEq, ii, Value.int.injEq, and_true, true_and] at e
    obtain ⟨rfl, e⟩ := e
    obtain rfl : k = k' := by omega
    have hlen := (hby.le k2).len
    by_cases h0 : n < 0
    · have et : takeC (some (all.drop k)) n = (none, []) := by unfold takeC; simp only; rw [if_neg (by omega)]
      rw [et] at hq
      simp (maxSteps := 1000000) (disch := omega) only [stepS, reduceIte, Nat.reduceBEq, Nat.reduceEqDiff, tupleOf, stepT, i0, i1, box_ref hb, znew_eq, hA2, hp, faddr_ptr, load_d g1, load_ref g1, load_b g1, load_k g1, hlen]
      refine ref01_spoilt_spec (hv.le k2) fun A3 h3 => ?_
      obtain ⟨t1, t2, t3⟩ := tail A3 h3
      simp (maxSteps := 1000000) (disch := omega) only [stepS, reduceIte, Nat.reduceBEq, Nat.reduceEqDiff, tupleOf, stepT, t1, t2]
      exact hq _ _ _ t3 rfl (BytR.nil _ _)
    · by_cases hbig : n > (all.length : Int) - k
      · have et : takeC (some (all.drop k)) n = (none, []) := by unfold takeC; simp only [List.length_drop]; rw [if_neg (by omega)]
        rw [et] at hq
        simp (maxSteps := 1000000) (disch := omega) only [stepS, reduceIte, Nat.reduceBEq, Nat.reduceEqDiff, tupleOf, stepT, i0, i1, box_ref hb, znew_eq, hA2, hp, faddr_ptr, load_d g1, load_ref g1, load_b g1, load_k g1, hlen]
        refine ref01_spoilt_spec (hv.le k2) fun A3 h3 => ?_
        obtain ⟨t1, t2, t3⟩ := tail A3 h3
        simp (maxSteps := 1000000) (disch := omega) only [stepS, reduceIte, Nat.reduceBEq, Nat.reduceEqDiff, tupleOf, stepT, t1, t2]
        exact hq _ _ _ t3 rfl (BytR.nil _ _)
      · obtain ⟨m, rfl⟩ : ∃ m : Nat, n = m := ⟨n.toNat, by omega⟩
        have et : takeC (some (all.drop k)) m = (some (all.drop (k + m)), (all.drop k).take m) := by
          unfold takeC; simp only [List.length_drop, Int.toNat_natCast, List.drop_drop]; rw [if_pos ⟨by omega, by omega⟩]
        rw [et] at hq
        obtain ⟨u, u1, u2⟩ := (hby.le k2).cut (lo := some (.int .i64 (k : Int))) (hi := some (.int .i64 ((k : Int) + m))) (l := k) (k := k + m) (by omega) (by omega) (fun c hc => bnd_both (l := k) (k := k + m) (by omega) (by omega))
        have hbd : sBuild A2 [.slice none 0 0, .int .i64 0, .bool false] [(0, 1, b), (1, 1, .int .i64 ((k : Int) + m))] = some (refV b (k + m) false, A2) := by
          obtain ⟨p, c, hs, _⟩ := hby.shape
          rw [hs]; rfl
        have s1 := store_ref (b' := b) (k' := k + m) (bad' := false) g2 hb
        have l1 := load_ref (set_get (b' := crow b (k + m) false) g2)
        have kk : Keep A2 p (A2.set p (crow b (k + m) false)) := Keep.set _ _ _
        have kA : Le A (A2.set p (crow b (k + m) false)) := k2.set hpA
        simp (maxSteps := 1000000) (disch := omega) only [stepS, reduceIte, Nat.reduceBEq, Nat.reduceEqDiff, tupleOf, stepT, i0, i1, box_ref hb, znew_eq, hA2, hp, faddr_ptr, load_d g1, load_ref g1, load_b g1, load_k g1, hlen, hbd, u1, s1, l1]
        refine ⟨?_, hq _ _ _ kA ⟨b, k + m, all, rfl, hby.le kA, by omega, rfl, h40⟩ ?_⟩
        · refine kk.rd ?_
          intro j hj
          simp only [List.mem_append, List.mem_cons, List.not_mem_nil, or_false] at hj
          have hne : A.length ≠ p := by subst hp; simp
          have hbb := Sl.blk (hby.le k2) g2 (by decide)
          rcases hj with hj | hj | hj | hj <;> first | exact hbb j hj | (subst hj; exact hne)
        · have e1 : k + m - k = m := by omega
          rw [e1] at u2
          exact ⟨u2.kp kk g2, fun j hj => h40.2 j (sll_blk u1 j hj)⟩

theorem ref01_Num_spec {A : AH} {v : Value} {st : CurS} {Q : Value → AH → Prop} (hv : RefA rb A v st) (hq : ∀ A' u, Le A A' → RefA rb A' u (numC st).1 → Q (.tuple #[u, ii ((numC st).2 : Nat)]) A') : ACalls 1 Tryd.prog chantryref01_Num [v] Q A := by
  refine ACalls.of_fits mixed fits_chantryref01_Num rfl ?_
  unfold ic_chantryref01_Num
  have i0 : initA [v] 0 = v := rfl
  generalize initA [v] = a at i0
  obtain ⟨b, k, rfl, hb⟩ := hv.cells
  obtain ⟨d, hd⟩ : ∃ d, st.isNone = d := ⟨_, rfl⟩
  rw [hd] at hv i0
  have k1 : Le A (A ++ [crow b k d]) := .push _ _
  have k2 : Le A (A ++ [crow b k d] ++ [znew]) := k1.trans (.push _ _)
  have g1 : (A ++ [crow b k d] ++ [znew])[A.length]? = some (crow b k d) := by simp
  have g2 : (A ++ [crow b k d] ++ [znew])[(A ++ [crow b k d]).length]? = some znew := get_last _ _
  generalize hA2 : A ++ [crow b k d] ++ [znew] = A2 at k2 g1 g2
  generalize hp : (A ++ [crow b k d]).length = p at g2
  have hpA : A.length ≤ p := by subst hp; simp
  have tail : ∀ (A3 : AH) (b' : Value) (k' : Nat) (d' : Bool), one1 b' → Le A2 A3 → sStore A3 (.pointer (some ⟨p, 0, none⟩)) (refV b' k' d') 3 = some (undef, A3.set p (crow b' k' d')) ∧ sLoadn (A3.set p (crow b' k' d')) (.pointer (some ⟨p, 0, none⟩)) 3 = some (refV b' k' d', A3.set p (crow b' k' d')) ∧ Le A (A3.set p (crow b' k' d')) := by
    intro A3 b' k' d' h1 h3
    have g3 := h3.get g2
    exact ⟨store_ref g3 h1, load_ref (set_get g3), (k2.trans h3).set hpA⟩
  cases st with
  | none =>
    obtain rfl : d = true := hd.symm
    obtain ⟨t1, t2, t3⟩ := tail A2 b k true hb (.refl _)
    simp (maxSteps := 1000000) (disch := omega) only [stepS, reduceIte, Nat.reduceBEq, Nat.reduceEqDiff, tupleOf, stepT, i0, box_ref hb, znew_eq, hA2, hp, faddr_ptr, load_d g1, load_ref g1, t1, t2]
    exact hq _ _ t3 (hv.le t3)
  | some r =>
    obtain rfl : d = false := hd.symm
    obtain ⟨b', k', all, e, hby, hk, rfl, h40⟩ := hv
    have hv : RefA rb A (refV b k false) (some (all.drop k')) := ⟨b', k', all, e, hby, hk, rfl, h40⟩
    unfold refV at e
    injection e with e
    simp only [Array.mk.injEq, List.cons.injEq, ii, Value.int.injEq, and_true, true_and] at e
    obtain ⟨rfl, e⟩ := e
    obtain rfl : k = k' := by omega
    obtain ⟨u, u1, u2⟩ := (hby.le k2).from (l := k) hk
    simp (maxSteps := 1000000) (disch := omega) only [stepS, reduceIte, Nat.reduceBEq, Nat.reduceEqDiff, tupleOf, stepT, i0, box_ref hb, znew_eq, hA2, hp, faddr_ptr, load_d g1, load_ref g1, load_b g1, load_k g1, u1]
    refine ref01_Get_spec u2 ?_ (by simp; omega)
    cases hg : getN (all.drop k) with
    | none =>
      rw [getV_none hg]
      have et : numC (some (all.drop k)) = (none, 0) := by unfold numC; simp only [hg]
      rw [et] at hq
      simp (maxSteps := 1000000) (disch := omega) only [stepS, reduceIte, Nat.reduceBEq, Nat.reduceEqDiff, tupleOf, stepT, load_ref g1]
      refine ref01_spoilt_spec (hv.le k2) fun A3 h3 => ?_
      obtain ⟨t1, t2, t3⟩ := tail A3 (.slice none 0 0) 0 true one1_nil h3
      simp (maxSteps := 1000000) (disch := omega) only [stepS, reduceIte, Nat.reduceBEq, Nat.reduceEqDiff, tupleOf, stepT, t1, t2]
      exact hq _ _ t3 rfl
    | some r =>
      obtain ⟨n, m⟩ := r
      rw [getV_some hg]
      have et : numC (some (all.drop k)) = (some (all.drop (k + m)), n) := by unfold numC; simp only [hg, List.drop_drop]
      rw [et] at hq
      obtain ⟨c1, c2, c3, c4, _⟩ := getN_ok hg
      rw [List.length_drop] at c2
      have hbd : sBuild A2 [.slice none 0 0, .int .i64 0, .bool false] [(0, 1, b), (1, 1, .int .i64 ((k : Int) + m))] = some (refV b (k + m) false, A2) := by
        obtain ⟨p, c, hs, _⟩ := hby.shape
        rw [hs]; rfl
      obtain ⟨t1, t2, t3⟩ := tail A2 b (k + m) false hb (.refl _)
      simp (maxSteps := 1000000) (disch := omega) only [stepS, reduceIte, Nat.reduceBEq, Nat.reduceEqDiff, tupleOf, stepT, faddr_ptr, load_b g1, load_k g1, hbd, t1, t2]
      exact hq _ _ t3 ⟨b, k + m, all, rfl, hby.le t3, by omega, rfl, h40⟩

theorem ref01_TakeText_spec {A : AH} {v : Value} {st : CurS} {Q : Value → AH → Prop} (hv : RefA rb A v st) (hq : ∀ A' u t, Le A A' → RefA rb A' u (textC st).1 → BytR rb A' t (textC st).2 → Q (.tuple #[u, t]) A') : ACalls 1 Tryd.prog chantryref01_TakeText [v] Q A := by
  refine ACalls.of_fits mixed fits_chantryref01_TakeText rfl ?_
  unfold ic_chantryref01_TakeText
  have i0 : initA [v] 0 = v := rfl
  generalize initA [v] = a at i0
  obtain ⟨b, k, rfl, hb⟩ := hv.cells
  have k1 : Le A (A ++ [crow b k st.isNone]) := .push _ _
  have k2 : Le A (A ++ [crow b k st.isNone] ++ [znew]) := k1.trans (.push _ _)
  have g1 : (A ++ [crow b k st.isNone] ++ [znew])[A.length]? = some (crow b k st.isNone) := by simp
  have g2 : (A ++ [crow b k st.isNone] ++ [znew])[(A ++ [crow b k st.isNone]).length]? = some znew := get_last _ _
  generalize hA2 : A ++ [crow b k st.isNone] ++ [znew] = A2 at k2 g1 g2
  generalize hp : (A ++ [crow b k st.isNone]).length = p at g2
  have hpA : A.length ≤ p := by subst hp; simp
  have tail : ∀ (A3 : AH) (b' : Value) (k' : Nat) (d' : Bool), one1 b' → Le A2 A3 → sStore A3 (.pointer (some ⟨p, 0, none⟩)) (refV b' k' d') 3 = some (undef, A3.set p (crow b' k' d')) ∧ sLoadn (A3.set p (crow b' k' d')) (.pointer (some ⟨p, 0, none⟩)) 3 = some (refV b' k' d', A3.set p (crow b' k' d')) ∧ Le A (A3.set p (crow b' k' d')) := by
    intro A3 b' k' d' h1 h3
    have g3 := h3.get g2
    exact ⟨store_ref g3 h1, load_ref (set_get g3), (k2.trans h3).set hpA⟩
  simp (maxSteps := 1000000) (disch := omega) only [stepS, reduceIte, Nat.reduceBEq, Nat.reduceEqDiff, tupleOf, stepT, i0, box_ref hb, znew_eq, hA2, hp, load_ref g1]
  refine ref01_Num_spec (hv.le k2) fun A3 u h3 r3 => ?_
  rw [textC_num] at hq
  generalize numC st = r at hq r3 ⊢
  obtain ⟨st1, n⟩ := r
  simp only at hq r3 ⊢
  obtain ⟨b2, k2', rfl, hb2⟩ := r3.cells
  obtain ⟨d, hd⟩ : ∃ d, st1.isNone = d := ⟨_, rfl⟩
  rw [hd] at r3 ⊢
  have k3 : Le A3 (A3 ++ [znew]) := .push _ _
  have q1 : (A3 ++ [znew])[A3.length]? = some znew := get_last _ _
  have s1 := store_ref (b' := b2) (k' := k2') (bad' := d) q1 hb2
  have q2 := set_get (b' := crow b2 k2' d) q1
  have l3 : Le A3 ((A3 ++ [znew]).set A3.length (crow b2 k2' d)) := k3.set (Nat.le_refl _)
  have g4 := (h3.trans l3).get g1
  have ll := load_ref q2
  generalize hA4 : (A3 ++ [znew]).set A3.length (crow b2 k2' d) = A4 at s1 q2 l3 g4 ll
  have l24 := h3.trans l3
  -- the bad end
  have badEnd : ∀ K : Value → AH → Prop, (∀ A', Le A A' → K (.tuple #[refV (.slice none 0 0) 0 true, .slice none 0 0]) A') → True := fun _ _ => trivial
  cases st1 with
  | none =>
    obtain rfl : d = true := hd.symm
    simp (maxSteps := 1000000) (disch := omega) only [stepS, reduceIte, Nat.reduceBEq, Nat.reduceEqDiff, tupleOf, stepT, i0, ext0, ext1, znew_eq, s1, faddr_ptr, load_d q2, load_ref g4]
    refine ref01_spoilt_spec (hv.le (k2.trans l24)) fun A5 h5 => ?_
    obtain ⟨t1, t2, t3⟩ := tail A5 (.slice none 0 0) 0 true one1_nil (l24.trans h5)
    simp (maxSteps := 1000000) (disch := omega) only [stepS, reduceIte, Nat.reduceBEq, Nat.reduceEqDiff, tupleOf, stepT, t1, t2]
    exact hq _ _ _ t3 rfl (BytR.nil _ _)
  | some r =>
    obtain rfl : d = false := hd.symm
    by_cases hbig : n ≤ 262144
    · simp (maxSteps := 1000000) (disch := omega) only [stepS, reduceIte, Nat.reduceBEq, Nat.reduceEqDiff, tupleOf, stepT, i0, ext0, ext1, znew_eq, s1, faddr_ptr, load_d q2, load_ref g4, ll]
      refine ref01_Take_spec (n := n) (r3.le l3) ⟨by omega, by omega⟩ fun A5 u t h5 r5 t5 => ?_
      obtain ⟨b5, k5, rfl, hb5⟩ := r5.cells
      obtain ⟨t1, t2, t3⟩ := tail A5 b5 k5 (takeC (some r) n).1.isNone hb5 (l24.trans h5)
      simp only [if_pos hbig] at hq
      have g5 := (l24.trans h5).get g2
      simp (maxSteps := 1000000) (disch := omega) only [stepS, reduceIte, Nat.reduceBEq, Nat.reduceEqDiff, tupleOf, stepT, ext0, ext1, t1, t2]
      exact hq _ _ _ t3 (r5.kp (Keep.set _ _ _) g5) ⟨t5.1.kp (Keep.set _ _ _) g5, t5.2⟩
    · simp (maxSteps := 1000000) (disch := omega) only [stepS, reduceIte, Nat.reduceBEq, Nat.reduceEqDiff, tupleOf, stepT, i0, ext0, ext1, znew_eq, s1, faddr_ptr, load_d q2, load_ref g4, ll]
      refine ref01_spoilt_spec (hv.le (k2.trans l24)) fun A5 h5 => ?_
      obtain ⟨t1, t2, t3⟩ := tail A5 (.slice none 0 0) 0 true one1_nil (l24.trans h5)
      simp only [if_neg hbig] at hq
      simp (maxSteps := 1000000) (disch := omega) only [stepS, reduceIte, Nat.reduceBEq, Nat.reduceEqDiff, tupleOf, stepT, t1, t2]
      exact hq _ _ _ t3 rfl (BytR.nil _ _)

end Go.AS.C


namespace Go.AS.C
open Go Go.Proofs
set_option linter.unusedVariables false
set_option linter.unusedSimpArgs false
set_option maxRecDepth 10000

variable {rb : Nat}
section
variable {A A0 : AH} {i : Nat} {st : CurS} {Q : Value → AH → Prop}
theorem cur_Byte_spec (hl : Le A0 A) (hc : CurA A0.length A i st) (hq : ∀ A', Le A0 A' → Keep A i A' → CurA A0.length A' i (byteC st).1 → Q (ii ((byteC st).2 : Nat)) A') : ACalls 1 Tryd.prog num_Cursor_Byte [ptr i] Q A := by
  refine ACalls.of_fits mixed fits_num_Cursor_Byte rfl ?_
  unfold ic_num_Cursor_Byte
  have i0 : initA [ptr i] 0 = ptr i := rfl
  generalize initA [ptr i] = a at i0
  simp (maxSteps := 1000000) (disch := omega) only [stepS, reduceIte, Nat.reduceBEq, Nat.reduceEqDiff, tupleOf, stepT, i0]
  refine cur_Take_spec (n := 1) hl hc fun A' v k1 k2 k3 k4 => ?_
  rw [byteC_take] at hq
  have hlen := k4.byt.len
  simp (maxSteps := 1000000) (disch := omega) only [stepS, reduceIte, Nat.reduceBEq, Nat.reduceEqDiff, tupleOf, stepT, i0, hlen]
  generalize hr : (takeC st 1) = r at k3 k4 hq hlen ⊢
  obtain ⟨st', bs⟩ := r
  refine W_loop (fun a' B => B = A' ∧ a' 6 = v ∧ a' 7 = ii bs.length ∧ a' 8 = ii 0) (fun a' _ => 0) ?_ ?_
  · simp (maxSteps := 1000000) (disch := omega) only [stepS, reduceIte, Nat.reduceBEq, Nat.reduceEqDiff, tupleOf, stepT, i0]
  · rintro a2 B ⟨rfl, g6, g7, g8⟩
    cases bs with
    | nil =>
      have e : ((0 : Int) < (([] : List UInt8).length : Nat)) = False := by simp
      simp (maxSteps := 1000000) (disch := omega) only [stepS, reduceIte, Nat.reduceBEq, Nat.reduceEqDiff, tupleOf, stepT, g6, g7, g8, e]
      exact hq _ k1 k2 k3
    | cons b r =>
      obtain ⟨p, p1, p2⟩ := k4.byt.at1 (j := 0) (b := b) rfl
      have e : ((0 : Int) < ((b :: r).length : Nat)) = True := by simp only [List.length_cons, eq_iff_iff, iff_true]; omega
      have p1' : sIaddr B v (.int .i64 0) 1 = some (p, B) := p1
      simp (maxSteps := 1000000) (disch := omega) only [stepS, reduceIte, Nat.reduceBEq, Nat.reduceEqDiff, tupleOf, stepT, g6, g7, g8, e, p1', p2, conv_i64_by8]
      exact hq _ k1 k2 k3

end
theorem ref01_Byte_spec {A : AH} {v : Value} {st : CurS} {Q : Value → AH → Prop} (hv : RefA rb A v st) (hq : ∀ A' u, Le A A' → RefA rb A' u (byteC st).1 → Q (.tuple #[u, ii ((byteC st).2 : Nat)]) A') : ACalls 1 Tryd.prog chantryref01_Byte [v] Q A := by
  refine ACalls.of_fits mixed fits_chantryref01_Byte rfl ?_
  unfold ic_chantryref01_Byte
  have i0 : initA [v] 0 = v := rfl
  generalize initA [v] = a at i0
  obtain ⟨b, k, rfl, hb⟩ := hv.cells
  have k1 : Le A (A ++ [crow b k st.isNone]) := .push _ _
  have k2 : Le A (A ++ [crow b k st.isNone] ++ [znew]) := k1.trans (.push _ _)
  have g1 : (A ++ [crow b k st.isNone] ++ [znew])[A.length]? = some (crow b k st.isNone) := by simp
  have g2 : (A ++ [crow b k st.isNone] ++ [znew])[(A ++ [crow b k st.isNone]).length]? = some znew := get_last _ _
  generalize hA2 : A ++ [crow b k st.isNone] ++ [znew] = A2 at k2 g1 g2
  generalize hp : (A ++ [crow b k st.isNone]).length = p at g2
  have hpA : A.length ≤ p := by subst hp; simp
  simp (maxSteps := 1000000) (disch := omega) only [stepS, reduceIte, Nat.reduceBEq, Nat.reduceEqDiff, tupleOf, stepT, i0, box_ref hb, znew_eq, hA2, hp, load_ref g1]
  refine ref01_Take_spec (n := 1) (hv.le k2) ⟨by omega, by omega⟩ fun A3 u t h3 r3 t3 => ?_
  rw [byteC_take] at hq
  generalize takeC st 1 = r at hq r3 t3
  obtain ⟨st', bs⟩ := r
  simp only at hq r3 t3
  obtain ⟨b2, k2', rfl, hb2⟩ := r3.cells
  have k3 : Le A3 (A3 ++ [znew]) := .push _ _
  have q1 : (A3 ++ [znew])[A3.length]? = some znew := get_last _ _
  have s1 := store_ref (b' := b2) (k' := k2') (bad' := st'.isNone) q1 hb2
  have q2 := set_get (b' := crow b2 k2' st'.isNone) q1
  have kk : Keep (A3 ++ [znew]) A3.length ((A3 ++ [znew]).set A3.length (crow b2 k2' st'.isNone)) := Keep.set _ _ _
  have l3 : Le A3 ((A3 ++ [znew]).set A3.length (crow b2 k2' st'.isNone)) := k3.set (Nat.le_refl _)
  have tl := (t3.1.le l3).len
  have g4 := (h3.trans l3).get g2
  have ll := load_ref q2
  have s2 := store_ref (b' := b2) (k' := k2') (bad' := st'.isNone) g4 hb2
  have q3 := set_get (b' := crow b2 k2' st'.isNone) g4
  have l4 := load_ref q3
  generalize hA4 : (A3 ++ [znew]).set A3.length (crow b2 k2' st'.isNone) = A4 at s1 q2 kk l3 tl g4 ll s2 q3 l4
  have fin : Le A (A4.set p (crow b2 k2' st'.isNone)) := ((k2.trans h3).trans l3).set hpA
  have r5 : RefA rb (A4.set p (crow b2 k2' st'.isNone)) (refV b2 k2' st'.isNone) st' := (r3.le l3).kp (Keep.set _ _ _) g4
  cases bs with
  | nil =>
    simp (maxSteps := 1000000) (disch := omega) only [stepS, reduceIte, Nat.reduceBEq, Nat.reduceEqDiff, tupleOf, stepT, i0, ext0, ext1, znew_eq, s1, tl, List.length_nil, ll, s2, l4]
    exact hq _ _ fin r5
  | cons x r =>
    obtain ⟨pp, p1, p2⟩ := (t3.1.le l3).at1 (j := 0) (b := x) rfl
    have p1' : sIaddr A4 t (.int .i64 0) 1 = some (pp, A4) := p1
    have e : (((x :: r).length : Nat) : Int) ≠ 0 := by simp only [List.length_cons]; omega
    simp (maxSteps := 1000000) (disch := omega) only [stepS, reduceIte, Nat.reduceBEq, Nat.reduceEqDiff, tupleOf, stepT, i0, ext0, ext1, znew_eq, s1, tl, ll, s2, l4, p1', p2, conv_i64_by8]
    refine ⟨?_, hq _ _ fin r5⟩
    refine (Keep.set _ _ _).rd ?_
    intro j hj
    simp only [List.mem_append, List.mem_cons, List.not_mem_nil, or_false, iaddr_blk p1'] at hj
    have hbb := Sl.blk (t3.1.le l3) (p := p) g4 (by decide)
    have hne : A3.length ≠ p := by
      have := lt_of_get (h3.get g2)
      omega
    first | exact hbb j hj | (rcases hj with hj | hj <;> first | exact hbb j hj | (subst hj; exact hne))

theorem ref01_Left_spec {A : AH} {v : Value} {st : CurS} {Q : Value → AH → Prop} (hv : RefA rb A v st) (hq : ∀ A', Le A A' → Q (ii (leftC st : Nat)) A') : ACalls 1 Tryd.prog chantryref01_Left [v] Q A := by
  refine ACalls.of_fits mixed fits_chantryref01_Left rfl ?_
  unfold ic_chantryref01_Left
  have i0 : initA [v] 0 = v := rfl
  generalize initA [v] = a at i0
  obtain ⟨b, k, rfl, hb⟩ := hv.cells
  obtain ⟨d, hd⟩ : ∃ d, st.isNone = d := ⟨_, rfl⟩
  rw [hd] at hv i0
  have k1 : Le A (A ++ [crow b k d]) := .push _ _
  have g1 : (A ++ [crow b k d])[A.length]? = some (crow b k d) := by simp
  cases st with
  | none =>
    obtain rfl : d = true := hd.symm
    simp (maxSteps := 1000000) (disch := omega) only [stepS, reduceIte, Nat.reduceBEq, Nat.reduceEqDiff, tupleOf, stepT, i0, box_ref hb, faddr_ptr, load_d g1]
    exact hq _ k1
  | some r =>
    obtain rfl : d = false := hd.symm
    obtain ⟨b', k', all, e, hby, hk, rfl, h40⟩ := hv
    unfold refV at e
    injection e with e
    simp only [Array.mk.injEq, List.cons.injEq, ii, Value.int.injEq, and_true, true_and] at e
    obtain ⟨rfl, e⟩ := e
    obtain rfl : k = k' := by omega
    have hlen := (hby.le k1).len
    simp (maxSteps := 1000000) (disch := omega) only [stepS, reduceIte, Nat.reduceBEq, Nat.reduceEqDiff, tupleOf, stepT, i0, box_ref hb, faddr_ptr, load_d g1, load_b g1, load_k g1, hlen]
    have := hq _ k1
    unfold leftC at this
    simp only [List.length_drop] at this
    have e2 : ((all.length : Int) - (k : Int)) = ((all.length - k : Nat) : Int) := by omega
    rw [e2]
    exact this
end Go.AS.C


namespace Go.AS.C
open Go Go.Proofs
set_option linter.unusedVariables false
set_option linter.unusedSimpArgs false
set_option maxRecDepth 10000

theorem num_Unfix_spec {A : AH} {v : Value} {bs : List UInt8} {Q : Value → AH → Prop} (hv : Byt A v bs) (hq : Q (.tuple #[ii ((unfixN bs).1 : Nat), ii ((unfixN bs).2 : Nat)]) A) : ACalls 1 Tryd.prog num_Unfix [v] Q A := by
  refine ACalls.of_fits mixed fits_num_Unfix rfl ?_
  unfold ic_num_Unfix
  have i0 : initA [v] 0 = v := rfl
  generalize initA [v] = a at i0
  by_cases h1 : bs.length < 1
  · have c1 : ((bs.length : Int) < 1) = True := by simp; omega
    simp only [stepS, reduceIte, Nat.reduceBEq, Nat.reduceEqDiff, tupleOf, i0, hv.len, binA_lss, c1]
    have e : unfixN bs = (0, 1) := by unfold unfixN; rw [if_pos (.inl h1)]
    rw [e] at hq
    exact hq
  · have c1 : ((bs.length : Int) < 1) = False := by simp; omega
    by_cases h4 : 4 < bs.length
    · have c2 : ((bs.length : Int) > 4) = True := by simp; omega
      simp only [stepS, reduceIte, Nat.reduceBEq, Nat.reduceEqDiff, tupleOf, i0, hv.len, binA_lss, c1, binA_gtr, c2]
      have e : unfixN bs = (0, 1) := by unfold unfixN; rw [if_pos (.inr h4)]
      rw [e] at hq
      exact hq
    · have c2 : ((bs.length : Int) > 4) = False := by simp; omega
      simp only [stepS, reduceIte, Nat.reduceBEq, Nat.reduceEqDiff, tupleOf, i0, hv.len, binA_lss, c1, binA_gtr, c2]
      refine W_loop (fun a' A' => A' = A ∧ ∃ k : Nat, k ≤ bs.length ∧ a' 15 = v ∧ a' 16 = ii bs.length ∧ a' 17 = ii k ∧ a' 4 = ii (leN (bs.take k) : Nat)) (fun a' _ => (bs.length - (iv (a' 17)).toNat)) ?_ ?_
      · refine ⟨rfl, 0, by omega, ?_⟩
        simp only [stepS, reduceIte, Nat.reduceBEq, Nat.reduceEqDiff, tupleOf, i0]
        simp [leN]
      · rintro a A' ⟨rfl, k, hk, g15, g16, g17, g4⟩
        rcases Nat.lt_or_ge k bs.length with hlt | hge
        · have hc : ((k : Int) < (bs.length : Int)) = True := by simp; omega
          obtain ⟨b, hb⟩ : ∃ b, bs[k]? = some b := ⟨_, List.getElem?_eq_getElem hlt⟩
          obtain ⟨p, hp1, hp2⟩ := hv.at1 hb
          have hb8 := b.toNat_lt
          have hk3 : k ≤ 3 := by omega
          have hpk : 2 ^ (8 * k) ≤ 2 ^ 24 := Nat.pow_le_pow_right (by omega) (by omega)
          have hlow := leN_lt (bs.take k)
          have hlen : (bs.take k).length = k := by simp; omega
          rw [hlen, ← pow256] at hlow
          have hm : b.toNat * 2 ^ (8 * k) ≤ 256 * 2 ^ 24 := Nat.mul_le_mul (by omega) hpk
          have d1 : binA .mul (ii 8) (ii k) = some (ii ((8 * k : Nat) : Int)) := mul_ii 8 k (by omega)
          have d2 := shl_ii b.toNat .i64 (8 * k) (by omega) (by omega)
          have d3 := or_ii (leN (bs.take k)) (b.toNat * 2 ^ (8 * k)) (by omega) (by omega)
          simp only [stepS, reduceIte, Nat.reduceBEq, Nat.reduceEqDiff, tupleOf, g15, g16, g17, g4, binA_lss, hc, hp1, hp2, conv_i64_by8, d1, d2, d3, binA_add1 k (by omega)]
          refine ⟨⟨k + 1, by omega, rfl, ?_⟩, by omega⟩
          rw [List.take_add_one, hb, leN_append, hlen, or_low _ _ _ hlow, pow256]
          simp only [Option.toList_some, leN, Nat.mul_zero, Nat.add_zero]
          rw [Nat.mul_comm b.toNat]
        · have hc : ((k : Int) < (bs.length : Int)) = False := by simp; omega
          simp only [stepS, reduceIte, Nat.reduceBEq, Nat.reduceEqDiff, tupleOf, g15, g16, g17, g4, binA_lss, hc]
          rw [List.take_of_length_le hge]
          refine num_is_spec ?_
          by_cases hmax : leN bs ≤ 2147483647
          · have c3 : ((0 : Int) ≤ (leN bs : Nat) ∧ ((leN bs : Nat) : Int) ≤ 2147483647) = True := by simp; omega
            have e : unfixN bs = (leN bs, 0) := by unfold unfixN; rw [if_neg (by omega), if_pos hmax]
            rw [e] at hq
            rw [List.take_of_length_le hge] at g4
            simp only [stepS, reduceIte, Nat.reduceBEq, Nat.reduceEqDiff, tupleOf, c3, g4]
            exact hq
          · have c3 : ((0 : Int) ≤ (leN bs : Nat) ∧ ((leN bs : Nat) : Int) ≤ 2147483647) = False := by simp; omega
            have e : unfixN bs = (0, 5) := by unfold unfixN; rw [if_neg (by omega), if_neg hmax]
            rw [e] at hq
            simp only [stepS, reduceIte, Nat.reduceBEq, Nat.reduceEqDiff, tupleOf, c3, g4]
            exact hq
end Go.AS.C
