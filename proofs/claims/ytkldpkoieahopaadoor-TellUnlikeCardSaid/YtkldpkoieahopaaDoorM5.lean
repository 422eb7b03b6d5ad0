/- Lemmas for the proof of a given statement; no conditions. -/
import Derived.Test.YtkldpkoieahopaaDoorM4
set_option maxHeartbeats 1000000

namespace Go.AS.C
open Go Go.Proofs
set_option linter.unusedVariables false
set_option linter.unusedSimpArgs false
set_option maxRecDepth 10000

/-! Arguments: states, steps, replies, faults. -/
/-- A state's numbers are in range. -/
def RangeS (s : StateV) : Prop := ∀ w ∈ s.counts, -9223372036854775808 ≤ w.n ∧ w.n < 9223372036854775808
theorem small_of {s : StateV} (h : SmallS0 s) (r : RangeS s) : SmallS s := ⟨⟨h.1.1, fun w hw => ⟨h.1.2 w hw, r w hw⟩⟩, h.2⟩
theorem good_count {A : AH} {F : Nat} (cs : List Value) (h : Good Tryd.prog A (F + 2) 48 cs) : ∃ w : CountV, cs = countE w ∧ (-9223372036854775808 ≤ w.n ∧ w.n < 9223372036854775808) := by
  obtain ⟨hl, hf⟩ := good_fields Tryd.underlying48 h
  have hc : Tryd.prog.cellsOf 48 = 2 := by kernel_rfl
  rw [hc] at hl
  match cs, hl with
  | [c0, c1], _ =>
    have e3 : Tryd.prog.cellsOf 3 = 1 := by kernel_rfl
    have e9 : Tryd.prog.cellsOf 9 = 1 := by kernel_rfl
    simp only [List.forall_mem_cons, e3, e9, List.drop_zero, List.drop_succ_cons, List.take_succ_cons, List.take_zero] at hf
    obtain ⟨h0, h1, _⟩ := hf
    obtain ⟨s, r0, b0⟩ := cell_str Tryd.underlying9 h0
    obtain ⟨n, r1, b1⟩ := cell_int Tryd.underlying3 h1
    injection r0 with r0 _
    injection r1 with r1 _
    subst r0 r1
    exact ⟨⟨s, n⟩, rfl, b1⟩
theorem good_word {A : AH} {F : Nat} (cs : List Value) (h : Good Tryd.prog A (F + 2) 50 cs) : ∃ w : WordV, cs = wordE w ∧ True := by
  obtain ⟨hl, hf⟩ := good_fields Tryd.underlying50 h
  have hc : Tryd.prog.cellsOf 50 = 2 := by kernel_rfl
  rw [hc] at hl
  match cs, hl with
  | [c0, c1], _ =>
    have e9 : Tryd.prog.cellsOf 9 = 1 := by kernel_rfl
    simp only [List.forall_mem_cons, e9, List.drop_zero, List.drop_succ_cons, List.take_succ_cons, List.take_zero] at hf
    obtain ⟨h0, h1, _⟩ := hf
    obtain ⟨s, r0, b0⟩ := cell_str Tryd.underlying9 h0
    obtain ⟨n, r1, b1⟩ := cell_str Tryd.underlying9 h1
    injection r0 with r0 _
    injection r1 with r1 _
    subst r0 r1
    exact ⟨⟨s, n⟩, rfl, trivial⟩
theorem law_counts {A : AH} {F : Nat} {v : Value} (h : GoodV Tryd.prog A (F + 3) 28 v) : ∃ l : List CountV, CountsA A v l ∧ l.length < 2 ^ 50 ∧ ∀ w ∈ l, -9223372036854775808 ≤ w.n ∧ w.n < 9223372036854775808 :=
  law_rows Tryd.underlying28 (by kernel_rfl) (by decide +kernel) good_count h
theorem law_words {A : AH} {F : Nat} {v : Value} (h : GoodV Tryd.prog A (F + 3) 29 v) : ∃ l : List WordV, WordsA A v l ∧ l.length < 2 ^ 50 := by
  obtain ⟨l, h1, h2, _⟩ := law_rows Tryd.underlying29 (by kernel_rfl) (by decide +kernel) good_word h
  exact ⟨l, h1, h2⟩
theorem good_state {A : AH} {F : Nat} {cs : List Value} (h : Good Tryd.prog A (F + 4) 31 cs) : ∃ s : StateV, StateA A (.agg cs.toArray) s ∧ RangeS s := by
  obtain ⟨hl, hf⟩ := good_fields Tryd.underlying31 h
  have hc : Tryd.prog.cellsOf 31 = 4 := by kernel_rfl
  rw [hc] at hl
  match cs, hl with
  | [c0, c1, c2, c3], _ =>
    have e28 : Tryd.prog.cellsOf 28 = 1 := by kernel_rfl
    have e29 : Tryd.prog.cellsOf 29 = 1 := by kernel_rfl
    simp only [List.forall_mem_cons, e28, e29, List.drop_zero, List.drop_succ_cons, List.take_succ_cons, List.take_zero] at hf
    obtain ⟨h0, h1, h2, h3, _⟩ := hf
    obtain ⟨v0, r0, g0⟩ := cell_slice Tryd.underlying28 h0
    obtain ⟨v1, r1, g1⟩ := cell_slice Tryd.underlying29 h1
    obtain ⟨v2, r2, g2⟩ := cell_slice Tryd.underlying29 h2
    obtain ⟨v3, r3, g3⟩ := cell_slice Tryd.underlying29 h3
    injection r0 with r0 _
    injection r1 with r1 _
    injection r2 with r2 _
    injection r3 with r3 _
    subst r0 r1 r2 r3
    obtain ⟨l0, a0, _, b0⟩ := law_counts g0
    obtain ⟨l1, a1, _⟩ := law_words g1
    obtain ⟨l2, a2, _⟩ := law_words g2
    obtain ⟨l3, a3, _⟩ := law_words g3
    exact ⟨⟨l0, l1, l2, l3⟩, ⟨_, _, _, _, rfl, a0, a1, a2, a3⟩, b0⟩
theorem law_state {A : AH} {F : Nat} {v : Value} (h : GoodV Tryd.prog A (F + 4) 31 v) : ∃ s : StateV, StateA A v s ∧ RangeS s := by
  obtain ⟨cs, rfl, hg⟩ := good_struct Tryd.underlying31 h
  exact good_state hg

/-- A step. -/
structure StepV where
  kind : Int
  texts : List (List UInt8)
  ids : List ByteArray
  n : Int
  masks : List Int
def StepA (A : AH) (x : Value) (s : StepV) : Prop := ∃ t i m : Value, x = .agg #[ii s.kind, t, i, ii s.n, m] ∧ Byts A t s.texts ∧ SlT A i s.ids ∧ SlI A .i64 m s.masks
theorem StepA.le {A B : AH} {x : Value} {s : StepV} (h : StepA A x s) (hl : Le A B) : StepA B x s := by
  obtain ⟨t, i, m, h1, h2, h3, h4⟩ := h
  exact ⟨t, i, m, h1, h2.le hl, h3.le hl, h4.le hl⟩
def I64 (n : Int) : Prop := -9223372036854775808 ≤ n ∧ n < 9223372036854775808
def RangeT (s : StepV) : Prop := I64 s.kind ∧ I64 s.n ∧ (∀ m ∈ s.masks, I64 m) ∧ s.texts.length < 2 ^ 50 ∧ s.ids.length < 2 ^ 50 ∧ s.masks.length < 2 ^ 50 ∧ (∀ t ∈ s.texts, t.length < 2 ^ 50) ∧ ∀ t ∈ s.ids, t.size < 2 ^ 50
theorem good_step {A : AH} {F : Nat} {cs : List Value} (h : Good Tryd.prog A (F + 4) 26 cs) : ∃ s : StepV, StepA A (.agg cs.toArray) s ∧ RangeT s := by
  obtain ⟨hl, hf⟩ := good_fields Tryd.underlying26 h
  have hc : Tryd.prog.cellsOf 26 = 5 := by kernel_rfl
  rw [hc] at hl
  match cs, hl with
  | [c0, c1, c2, c3, c4], _ =>
    have e3 : Tryd.prog.cellsOf 3 = 1 := by kernel_rfl
    have e22 : Tryd.prog.cellsOf 22 = 1 := by kernel_rfl
    have e23 : Tryd.prog.cellsOf 23 = 1 := by kernel_rfl
    have e24 : Tryd.prog.cellsOf 24 = 1 := by kernel_rfl
    simp only [List.forall_mem_cons, e3, e22, e23, e24, List.drop_zero, List.drop_succ_cons, List.take_succ_cons, List.take_zero] at hf
    obtain ⟨h0, h1, h2, h3, h4, _⟩ := hf
    obtain ⟨k, r0, b0⟩ := cell_int Tryd.underlying3 h0
    obtain ⟨v1, r1, g1⟩ := cell_slice Tryd.underlying22 h1
    obtain ⟨v2, r2, g2⟩ := cell_slice Tryd.underlying23 h2
    obtain ⟨n, r3, b3⟩ := cell_int Tryd.underlying3 h3
    obtain ⟨v4, r4, g4⟩ := cell_slice Tryd.underlying24 h4
    injection r0 with r0 _
    injection r1 with r1 _
    injection r2 with r2 _
    injection r3 with r3 _
    injection r4 with r4 _
    subst r0 r1 r2 r3 r4
    obtain ⟨l1, a1, q1, q2⟩ := law_bytess Tryd.underlying22 Tryd.underlying55 Tryd.underlying5 (by kernel_rfl) (by kernel_rfl) (by decide +kernel) (by decide +kernel) g1
    obtain ⟨l2, a2, q3, q4⟩ := law_strs Tryd.underlying23 Tryd.underlying9 (by kernel_rfl) (by decide +kernel) g2
    obtain ⟨l4, a4, q5, q6⟩ := law_ints Tryd.underlying24 Tryd.underlying3 (by kernel_rfl) (by decide +kernel) g4
    exact ⟨⟨k, l1, l2, n, l4⟩, ⟨_, _, _, rfl, a1, ⟨by rw [List.length_map]; simp, (by simpa using a2.2)⟩, a4⟩, b0, b3, q6, q1, q3, q5, q2, q4⟩
/-- A reply. -/
structure ReplyV where
  err : Int
  ids : List ByteArray
  texts : List (List UInt8)
  state : StateV
def ReplyA (A : AH) (x : Value) (r : ReplyV) : Prop := ∃ i t c m v l : Value, x = .agg #[ii r.err, i, t, c, m, v, l] ∧ SlT A i r.ids ∧ Byts A t r.texts ∧ StateA A (.agg #[c, m, v, l]) r.state
theorem ReplyA.le {A B : AH} {x : Value} {s : ReplyV} (h : ReplyA A x s) (hl : Le A B) : ReplyA B x s := by
  obtain ⟨i, t, c, m, v, l, h1, h2, h3, h4⟩ := h
  exact ⟨i, t, c, m, v, l, h1, h2.le hl, h3.le hl, h4.le hl⟩
end Go.AS.C


-- Printed by tab.py (wip/tools): all abstract codes of the chapter, as one table.
namespace Go.AS.C
open Go Go.Proofs
set_option maxRecDepth 100000
noncomputable def tab : List (Nat × CodeE) := [
  (chantrylaw40_TellSteps, ⟨ic_chantrylaw40_TellSteps, [.tmp 6], 3⟩),
  (chantrylaw40_TellStates, ⟨ic_chantrylaw40_TellStates, [.tmp 2], 1⟩),
  (chantrylaw40_TellUnlike, ⟨ic_chantrylaw40_TellUnlike, [.tmp 6], 3⟩),
  (chantryref39_Large, ⟨ic_chantryref39_Large, [.tmp 4], 2⟩),
  (chantrylaw40_large, ⟨ic_chantrylaw40_large, [.tmp 2], 1⟩),
  (chantrylaw40_awake, ⟨ic_chantrylaw40_awake, [.tmp 0], 0⟩),
  (tell_Step, ⟨ic_tell_Step, [.tmp 2], 1⟩),
  (chantryref40_Step, ⟨ic_chantryref40_Step, [.tmp 2], 1⟩),
  (chantryref01_Texts, ⟨ic_chantryref01_Texts, [.tmp 4], 2⟩),
  (tell_Reply, ⟨ic_tell_Reply, [.tmp 4], 2⟩),
  (chantryref40_Reply, ⟨ic_chantryref40_Reply, [.tmp 4], 2⟩),
  (tell_Fault, ⟨ic_tell_Fault, [.tmp 2], 1⟩),
  (chantryref40_Fault, ⟨ic_chantryref40_Fault, [.tmp 2], 1⟩),
  (tell_State, ⟨ic_tell_State, [.tmp 2], 1⟩),
  (chantryref40_State, ⟨ic_chantryref40_State, [.tmp 2], 1⟩),
  (chantryref23_Same, ⟨ic_chantryref23_Same, [.tmp 4], 2⟩),
  (chantryref39_Check, ⟨ic_chantryref39_Check, [.tmp 2], 1⟩),
  (chantryref39_Same, ⟨ic_chantryref39_Same, [.tmp 4], 2⟩),
  (tell_digits, ⟨ic_tell_digits, [.tmp 2], 1⟩),
  (tell_line, ⟨ic_tell_line, [.tmp 2], 1⟩),
  (chantryref40_name, ⟨ic_chantryref40_name, [.tmp 4], 2⟩),
  (chantryref40_digits, ⟨ic_chantryref40_digits, [.tmp 2], 1⟩),
  (chantryref40_number, ⟨ic_chantryref40_number, [.tmp 2], 1⟩),
  (tell_words, ⟨ic_tell_words, [.tmp 4], 2⟩),
  (chantryref40_words, ⟨ic_chantryref40_words, [.tmp 4], 2⟩),
  (chantryref19_Same, ⟨ic_chantryref19_Same, [.tmp 4], 2⟩),
  (chantryref20_SameWords, ⟨ic_chantryref20_SameWords, [.tmp 4], 2⟩),
  (chantryref39_may, ⟨ic_chantryref39_may, [.tmp 2], 1⟩),
  (chantryref01_Bytes, ⟨ic_chantryref01_Bytes, [.tmp 4], 2⟩),
  (chantryref01_Ints, ⟨ic_chantryref01_Ints, [.tmp 4], 2⟩),
  (ids_Hex, ⟨ic_ids_Hex, [.tmp 2], 1⟩),
  (strings_Join, ⟨ic_strings_Join, [.tmp 4], 2⟩),
  (chantryref04_Hex, ⟨ic_chantryref04_Hex, [.tmp 2], 1⟩),
  (chantryref14_Digits, ⟨ic_chantryref14_Digits, [.tmp 2], 1⟩),
  (chantryref39_uses, ⟨ic_chantryref39_uses, [.tmp 2, .tmp 3, .tmp 4, .tmp 5, .tmp 6], 1⟩),
  (strings_Builder_Grow, ⟨ic_strings_Builder_Grow, [], 2⟩),
  (strings_Builder_WriteString, ⟨ic_strings_Builder_WriteString, [.tmp 4, .tmp 5], 2⟩)]
theorem tabOk : ∀ p ∈ tab, Fits Tryd.prog 3 p.1 p.2.ic p.2.rs p.2.np := by
  unfold tab
  exact List.forall_mem_cons.2 ⟨fits_chantrylaw40_TellSteps, List.forall_mem_cons.2 ⟨fits_chantrylaw40_TellStates, List.forall_mem_cons.2 ⟨fits_chantrylaw40_TellUnlike, List.forall_mem_cons.2 ⟨fits_chantryref39_Large, List.forall_mem_cons.2 ⟨fits_chantrylaw40_large, List.forall_mem_cons.2 ⟨fits_chantrylaw40_awake, List.forall_mem_cons.2 ⟨fits_tell_Step, List.forall_mem_cons.2 ⟨fits_chantryref40_Step, List.forall_mem_cons.2 ⟨fits_chantryref01_Texts, List.forall_mem_cons.2 ⟨fits_tell_Reply, List.forall_mem_cons.2 ⟨fits_chantryref40_Reply, List.forall_mem_cons.2 ⟨fits_tell_Fault, List.forall_mem_cons.2 ⟨fits_chantryref40_Fault, List.forall_mem_cons.2 ⟨fits_tell_State, List.forall_mem_cons.2 ⟨fits_chantryref40_State, List.forall_mem_cons.2 ⟨fits_chantryref23_Same, List.forall_mem_cons.2 ⟨fits_chantryref39_Check, List.forall_mem_cons.2 ⟨fits_chantryref39_Same, List.forall_mem_cons.2 ⟨fits_tell_digits, List.forall_mem_cons.2 ⟨fits_tell_line, List.forall_mem_cons.2 ⟨fits_chantryref40_name, List.forall_mem_cons.2 ⟨fits_chantryref40_digits, List.forall_mem_cons.2 ⟨fits_chantryref40_number, List.forall_mem_cons.2 ⟨fits_tell_words, List.forall_mem_cons.2 ⟨fits_chantryref40_words, List.forall_mem_cons.2 ⟨fits_chantryref19_Same, List.forall_mem_cons.2 ⟨fits_chantryref20_SameWords, List.forall_mem_cons.2 ⟨fits_chantryref39_may, List.forall_mem_cons.2 ⟨fits_chantryref01_Bytes, List.forall_mem_cons.2 ⟨fits_chantryref01_Ints, List.forall_mem_cons.2 ⟨fits_ids_Hex, List.forall_mem_cons.2 ⟨fits_strings_Join, List.forall_mem_cons.2 ⟨fits_chantryref04_Hex, List.forall_mem_cons.2 ⟨fits_chantryref14_Digits, List.forall_mem_cons.2 ⟨fits_chantryref39_uses, List.forall_mem_cons.2 ⟨fits_strings_Builder_Grow, List.forall_mem_cons.2 ⟨fits_strings_Builder_WriteString, fun p h => by cases h⟩⟩⟩⟩⟩⟩⟩⟩⟩⟩⟩⟩⟩⟩⟩⟩⟩⟩⟩⟩⟩⟩⟩⟩⟩⟩⟩⟩⟩⟩⟩⟩⟩⟩⟩⟩⟩
end Go.AS.C


namespace Go.AS.C
open Go Go.Proofs
set_option linter.unusedVariables false
set_option linter.unusedSimpArgs false
set_option maxRecDepth 100000

/-! The law's own example is run; numbers' digits and joins are taken as known. -/
def vEq : Value → Value → Bool
  | .string a, .string b => decide (a = b)
  | .int k n, .int k' m => decide (k = k' ∧ n = m)
  | _, _ => false
theorem vEq_ok {a b : Value} (h : vEq a b = true) : a = b := by
  unfold vEq at h
  split at h
  · rw [decide_eq_true_eq] at h; rw [h]
  · rw [decide_eq_true_eq] at h; rw [h.1, h.2]
  · cases h
def vsEq : List Value → List Value → Bool
  | [], [] => true
  | a :: l, b :: r => vEq a b && vsEq l r
  | _, _ => false
theorem vsEq_ok : ∀ {l r : List Value}, vsEq l r = true → l = r
  | [], [], _ => rfl
  | a :: l, b :: r, h => by
    unfold vsEq at h
    rw [Bool.and_eq_true] at h
    rw [vEq_ok h.1, vsEq_ok h.2]
  | [], _ :: _, h => by cases h
  | _ :: _, [], h => by cases h
def isG : AH → Bool
  | .row a .ro 0 true :: .row b .ro 0 true :: .row c .ro 0 true :: _ => vsEq a kVs && (vsEq b kVf && vsEq c kVn)
  | _ => false
theorem isG_ok {A : AH} (h : isG A = true) : Le G3 A := by
  unfold isG at h
  split at h
  · rename_i a b c r
    rw [Bool.and_eq_true, Bool.and_eq_true] at h
    obtain ⟨h1, h2, h3⟩ := h
    obtain rfl := vsEq_ok h1
    obtain rfl := vsEq_ok h2
    obtain rfl := vsEq_ok h3
    refine Le.of_get (fun k hk => ?_) (by simp [G3])
    match k, hk with
    | 0, _ => rfl
    | 1, _ => rfl
    | 2, _ => rfl
  · cases h
def numW (n : Int) : Option ByteArray :=
  if -10 < n ∧ n < 0 then some ⟨#[45, UInt8.ofNat (48 + n.natAbs)]⟩ else if 0 ≤ n ∧ n < 10 then some ⟨#[UInt8.ofNat (48 + n.toNat)]⟩
  else if 10 ≤ n ∧ n < 100 then some ⟨#[UInt8.ofNat (48 + n.toNat / 10), UInt8.ofNat (48 + n.toNat % 10)]⟩ else none
theorem numW_ok {n : Int} {s : ByteArray} (h : numW n = some s) : s = numT n ∧ -100 < n ∧ n < 100 := by
  unfold numW at h
  unfold numT Lib.itoa
  split at h
  · injection h with h
    subst h
    rw [if_pos (by omega), Lib.decDigits_one (by omega)]
    exact ⟨rfl, by omega, by omega⟩
  · split at h
    · injection h with h
      subst h
      rw [if_neg (by omega), Lib.decDigits_one (by omega)]
      exact ⟨rfl, by omega, by omega⟩
    · split at h
      · injection h with h
        subst h
        rw [if_neg (by omega), Lib.decDigits_two (by omega) (by omega)]
        exact ⟨rfl, by omega, by omega⟩
      · cases h
def asT : List Value → Option (List ByteArray)
  | [] => some []
  | .string s :: r => (asT r).map (s :: ·)
  | _ => none
theorem asT_ok : ∀ {cs : List Value} {l : List ByteArray}, asT cs = some l → cs = l.map .string
  | [], l, h => by obtain rfl := Option.some.inj h; rfl
  | v :: r, l, h => by
    unfold asT at h
    split at h
    · rename_i e; cases e
    · rename_i n r' e
      injection e with e1 e2
      subst e1 e2
      rw [Option.map_eq_some_iff] at h
      obtain ⟨l', h1, rfl⟩ := h
      rw [asT_ok h1]; rfl
    · cases h
def textsAt (A : AH) : Value → Option (List ByteArray)
  | .slice none 0 0 => some []
  | .slice (some ⟨i, o, none⟩) n c => match A[i]? with
    | some (.row cs .own 1 _) => if n ≤ c ∧ o + n ≤ cs.length then asT ((cs.drop o).take n) else none
    | _ => none
  | _ => none
theorem textsAt_ok {A : AH} {v : Value} {l : List ByteArray} (h : textsAt A v = some l) : SlT A v l := by
  unfold textsAt at h
  split at h
  · obtain rfl := Option.some.inj h
    exact ⟨rfl, .inl ⟨rfl, rfl⟩⟩
  · split at h
    · split at h
      · rename_i i o n c _ cs ex hA hn
        have e := asT_ok h
        have hl : l.length = n := by
          have := congrArg List.length e
          rw [List.length_map, List.length_take, List.length_drop] at this
          omega
        refine ⟨by rw [List.length_map, Nat.mul_one], .inr (.inr ⟨i, o, c, cs, .own, ex, by rw [hl], by omega, hA, by decide, by omega, fun j hj => ?_⟩)⟩
        rw [← e, List.getElem?_take_of_lt (by omega), List.getElem?_drop]
      · cases h
    · cases h
  · cases h
def orcT : FuncId → List Value → AH → Option (Value × AH) := fun f args A =>
  if f = strings_Join then match args with
    | [v, .string s] => match textsAt A v with
      | some l => if l.length < 1000 ∧ (joinT l s).size < 1000 then some (.string (joinT l s), A) else none
      | none => none
    | _ => none
  else if f = strconv_Itoa then match args with
    | [.int .i64 n] => if isG A then (numW n).map fun s => (.string s, A) else none
    | _ => none
  else none
theorem orcT_ok : CallOk 3 Tryd.prog orcT := by
  intro f args A v A' h K k
  unfold orcT at h
  split at h
  · rename_i hf
    subst hf
    split at h
    · split at h
      · rename_i l hl
        split at h
        · rename_i s _ hs
          injection h with h
          injection h with h1 h2
          subst h1 h2
          exact join_spec joinsTexts (textsAt_ok hl) (by omega) (by omega) k
        · cases h
      · cases h
    · cases h
  · split at h
    · rename_i hf
      subst hf
      split at h
      · split at h
        · rename_i n hg
          rw [Option.map_eq_some_iff] at h
          obtain ⟨s, h1, h2⟩ := h
          obtain ⟨rfl, b0, b1⟩ := numW_ok h1
          injection h2 with h3 h4
          subst h3 h4
          exact itoa_spec (isG_ok hg) (by omega) (by omega) k
        · cases h
      · cases h
    · cases h
theorem awake_run : (runO Tryd.prog tab orcT (fun _ => false) 100000 60 chantrylaw40_awake [] G3).map (·.1) = some (.bool true) := by kernel_rfl
theorem wake {A : AH} {Q : Value → AH → Prop} (hg : Le G3 A) (hq : Q (.bool true) A) : ACalls 3 Tryd.prog chantrylaw40_awake [] Q A :=
  ACalls.runO (A0 := G3) mixed rfl (by decide +kernel) tabOk orcT_ok awake_run rfl rfl hg hq
end Go.AS.C


namespace Go.AS.C
open Go Go.Proofs
set_option linter.unusedVariables false
set_option linter.unusedSimpArgs false
set_option maxRecDepth 10000

end Go.AS.C


namespace Go.AS.C
open Go Go.Proofs
set_option linter.unusedVariables false
set_option linter.unusedSimpArgs false
set_option maxRecDepth 10000

/-! Steps as lines, plainly. -/
/-- The name of a kind of steps. -/
def stepN (k : Int) : ByteArray := nameT stepsL.tail k
def stepP (s : StepV) : List ByteArray :=
  if s.kind = 1 then s.texts.map (fun t => hexT ⟨t.toArray⟩) else if s.kind = 2 ∨ s.kind = 4 ∨ s.kind = 9 then s.ids.map hexT
  else if s.kind = 10 then [numT s.n] else if s.kind = 11 then s.masks.map numT else []
/-- A step's line. -/
def stepL (s : StepV) : ByteArray := lineT (stepN s.kind :: stepP s)
def SmallT (s : StepV) : Prop := I64 s.kind ∧ I64 s.n ∧ s.texts.length ≤ 70 ∧ (∀ t ∈ s.texts, t.length ≤ 1100) ∧ s.ids.length ≤ 70 ∧ (∀ t ∈ s.ids, t.size ≤ 70) ∧ s.masks.length ≤ 1030 ∧ ∀ m ∈ s.masks, I64 m
theorem stepP_1 {s : StepV} (h : s.kind = 1) : stepP s = s.texts.map (fun t => hexT ⟨t.toArray⟩) := if_pos h
theorem stepP_2 {s : StepV} (h : s.kind = 2 ∨ s.kind = 4 ∨ s.kind = 9) : stepP s = s.ids.map hexT := by
  unfold stepP; rw [if_neg (by omega), if_pos h]
theorem stepP_10 {s : StepV} (h : s.kind = 10) : stepP s = [numT s.n] := by
  unfold stepP; rw [if_neg (by omega), if_neg (by omega), if_pos h]
theorem stepP_11 {s : StepV} (h : s.kind = 11) : stepP s = s.masks.map numT := by
  unfold stepP; rw [if_neg (by omega), if_neg (by omega), if_neg (by omega), if_pos h]
theorem stepP_0 {s : StepV} (h1 : s.kind ≠ 1) (h2 : ¬ (s.kind = 2 ∨ s.kind = 4 ∨ s.kind = 9)) (h3 : s.kind ≠ 10) (h4 : s.kind ≠ 11) : stepP s = [] := by
  unfold stepP; rw [if_neg h1, if_neg h2, if_neg h3, if_neg h4]
theorem lineT_one (x : ByteArray) : lineT [x] = x := by rw [lineT_cons]; simp
theorem stepN_out {k : Int} (h : k < 0 ∨ 13 ≤ k) : stepN k = ⟨#[63]⟩ := by
  unfold stepN nameT
  rw [if_pos]
  have : stepsL.tail.length = 12 := rfl
  omega
theorem stepL_out {s : StepV} (h : s.kind < 0 ∨ 13 ≤ s.kind) : stepL s = ⟨#[63]⟩ := by
  unfold stepL
  rw [stepP_0 (by omega) (by omega) (by omega) (by omega), stepN_out h, lineT_one]
theorem kind_of {n : Int} (h : ¬ (n < 0 ∨ 13 ≤ n)) : ∃ k : Nat, n = (k : Int) ∧ k < 13 ∧ kVs[k]? = some (.string (stepN n)) := by
  obtain ⟨k, rfl⟩ : ∃ k : Nat, n = k := ⟨n.toNat, by omega⟩
  refine ⟨k, rfl, by omega, ?_⟩
  have : ∀ k : Fin 13, stepN ((k.val : Nat) : Int) = stepsL.getD k.val ⟨#[]⟩ := by decide +kernel
  have h1 := this ⟨k, by omega⟩
  simp only at h1
  rw [h1]
  unfold kVs
  have hl : stepsL.length = 13 := rfl
  rw [List.getElem?_map, List.getElem?_eq_getElem (by omega), List.getD_eq_getElem?_getD, List.getElem?_eq_getElem (by omega)]
  rfl
theorem iarrG {g k n : Nat} {v : Int} (h : v = (k : Int)) (hk : k < n) (B : AH) : sIarr B (.pointer (some ⟨g, 0, none⟩)) (.int .i64 v) n 1 = some (.pointer (some ⟨g, k, none⟩), B) := by
  subst h
  unfold sIarr
  simp only [asI, Option.bind_some]
  rw [if_pos ⟨by omega, by omega⟩]
  simp
theorem rowG0 : rowAt G3 0 = some (kVs, .ro, 0, true) := rfl
theorem byts_one1 {A : AH} {v : Value} {l : List (List UInt8)} (h : Byts A v l) : one1 v := by
  obtain ⟨vs, h1, _⟩ := h
  exact Sl.one1 h1
theorem byts_lenB {A : AH} {v : Value} {l : List (List UInt8)} (h : Byts A v l) (B : AH) : sLens B false v = some (.int .i64 l.length, B) := by
  obtain ⟨vs, h1, h2⟩ := h
  rw [All2.len _ _ h2]
  exact Sl.lenB h1 B
theorem byts_atL {A : AH} {v : Value} {l : List (List UInt8)} (h : Byts A v l) {j : Nat} {bs : List UInt8} (hj : l[j]? = some bs) :
    ∃ p x, (∀ (B : AH) (n : Int), n = (j : Int) → sIaddr B v (.int .i64 n) 1 = some (p, B)) ∧ (∀ B, Le A B → sLoad1 B p = some (x, B)) ∧ Byt A x bs := by
  obtain ⟨vs, h1, h2⟩ := h
  have hlt := lt_of_get hj
  rw [All2.len _ _ h2] at hlt
  obtain ⟨x, hx⟩ : ∃ x, vs[j]? = some x := ⟨_, List.getElem?_eq_getElem hlt⟩
  obtain ⟨p, p1, p2⟩ := Sl.at1L h1 hx
  exact ⟨p, x, p1, p2, All2.get _ _ h2 j x bs hx hj⟩
theorem ints_atL {A : AH} {v : Value} {l : List Int} (h : SlI A .i64 v l) {j : Nat} {n : Int} (hj : l[j]? = some n) :
    ∃ p, (∀ (B : AH) (n : Int), n = (j : Int) → sIaddr B v (.int .i64 n) 1 = some (p, B)) ∧ ∀ B, Le A B → sLoad1 B p = some (.int .i64 n, B) :=
  Sl.at1L h (by unfold ints; rw [List.getElem?_map, hj]; rfl)
theorem ownT_last {A : AH} {a0 : Nat} (l : List ByteArray) (h : a0 ≤ A.length) : OwnT a0 (A ++ [.row (l.map .string) .own 1 true]) (.slice (some ⟨A.length, 0, none⟩) l.length l.length) l :=
  ⟨by rw [List.length_map, Nat.mul_one], .inr (.inr ⟨A.length, 0, l.length, l.map .string, true, rfl, Nat.le_refl _, h, get_last _ _, by rw [List.length_map]; omega, fun j hj => by rw [Nat.zero_add]⟩)⟩
theorem flat_tail_len {m : Nat} : ∀ {l : List ByteArray}, (∀ t ∈ l, t.size ≤ m) → (l.flatMap tail1).length ≤ l.length * (m + 1)
  | [], _ => by simp
  | x :: l, h => by
    have h1 := h x (by simp)
    have ih := flat_tail_len (l := l) fun t ht => h t (by simp [ht])
    have h2 := tail1_len x
    rw [List.flatMap_cons, List.length_append, List.length_cons, Nat.succ_mul]
    omega
theorem flat_tail_le {m n N : Nat} {l : List ByteArray} (h : ∀ t ∈ l, t.size ≤ m) (hl : l.length ≤ n) (hN : n * (m + 1) ≤ N) : (l.flatMap tail1).length ≤ N :=
  Nat.le_trans (flat_tail_len h) (Nat.le_trans (Nat.mul_le_mul_right _ hl) hN)
theorem stepN_size (k : Int) : (stepN k).size ≤ 20 := by
  by_cases h : k < 0 ∨ 13 ≤ k
  · rw [stepN_out h]; decide
  · obtain ⟨n, rfl⟩ : ∃ n : Nat, k = n := ⟨k.toNat, by omega⟩
    have : ∀ k : Fin 13, (stepN ((k.val : Nat) : Int)).size ≤ 20 := by decide +kernel
    exact this ⟨n, by omega⟩
theorem stepP_len {s : StepV} (h : SmallT s) : ((stepP s).flatMap tail1).length ≤ 1000000 := by
  obtain ⟨sk, sn, st1, st2, si1, si2, sm1, sm2⟩ := h
  unfold stepP
  split
  · refine flat_tail_le (m := 2201) (n := 70) ?_ (by rw [List.length_map]; exact st1) (by omega)
    intro t ht
    rw [List.mem_map] at ht
    obtain ⟨w, hw, rfl⟩ := ht
    have := st2 w hw
    rw [hexT_size]
    show 1 + 2 * w.length ≤ _
    omega
  · split
    · refine flat_tail_le (m := 141) (n := 70) ?_ (by rw [List.length_map]; exact si1) (by omega)
      intro t ht
      rw [List.mem_map] at ht
      obtain ⟨w, hw, rfl⟩ := ht
      have := si2 w hw
      rw [hexT_size]
      omega
    · split
      · refine flat_tail_le (m := 21) (n := 1) ?_ (by simp) (by omega)
        intro t ht
        rw [List.mem_singleton] at ht
        subst ht
        exact numT_size sn.1 (by have := sn.2; omega)
      · split
        · refine flat_tail_le (m := 21) (n := 1030) ?_ (by rw [List.length_map]; exact sm1) (by omega)
          intro t ht
          rw [List.mem_map] at ht
          obtain ⟨w, hw, rfl⟩ := ht
          have := sm2 w hw
          exact numT_size this.1 (by have := this.2; omega)
        · simp
theorem stepL_size {s : StepV} (h : SmallT s) : (stepL s).size ≤ 1000020 := by
  unfold stepL
  rw [lineT_cons]
  show ((stepN s.kind).data.toList ++ (stepP s).flatMap tail1).length ≤ _
  have h1 := stepP_len h
  have h2 := stepN_size s.kind
  have h3 := bl_size (stepN s.kind)
  rw [List.length_append]
  omega
theorem stepP_count {s : StepV} (h : SmallT s) : (stepP s).length ≤ 1030 := by
  obtain ⟨sk, sn, st1, st2, si1, si2, sm1, sm2⟩ := h
  unfold stepP
  split
  · rw [List.length_map]; omega
  · split
    · rw [List.length_map]; omega
    · split
      · simp
      · split
        · rw [List.length_map]; omega
        · simp
end Go.AS.C


namespace Go.AS
open Go
set_option linter.unusedVariables false
set_option linter.unusedSimpArgs false
section
variable {A B : AH} {v : Value} {sz : Nat} {es : List (List Value)}
/-- An element's fields, by one address. -/
theorem Sl.elfs (h : Sl A sz v es.length es.flatten) (he : ∀ e ∈ es, e.length = sz ∧ ones e = true) {j : Nat} {e : List Value} {x0 : Value} (hj : es[j]? = some e) (h0 : e[0]? = some x0) :
    ∃ p, (∀ (B : AH) (n : Int), n = (j : Int) → sIaddr B v (.int .i64 n) sz = some (p, B)) ∧ ∀ o x, e[o]? = some x → ∃ q, (∀ B, sFaddr B p o = some (q, B)) ∧ ∀ B, Le A B → sLoad1 B q = some (x, B) := by
  obtain ⟨p, q, p1, p2, p3⟩ := Sl.elfL h he hj h0
  refine ⟨p, p1, fun o x hx => ?_⟩
  obtain ⟨p', q', u1, u2, u3⟩ := Sl.elfL h he hj hx
  have e : p' = p := by
    have h1 := p1 A j rfl
    rw [u1 A j rfl] at h1
    injection h1 with h1
    injection h1 with h1 _
  subst e
  exact ⟨q', u2, u3⟩
theorem SlR.lenB {n : Nat} {cs : List Value} (h : SlR A sz v n cs) (B : AH) : sLens B false v = some (.int .i64 n, B) := by
  obtain ⟨h0, h⟩ := h
  rcases h with ⟨rfl, rfl⟩ | ⟨rfl, rfl⟩ | ⟨i, o, c, rc, st, bsz, ex, rfl, h2, h3, h4, h5, h6⟩ <;> simp [sLens]
theorem SlR.el (h : SlR A sz v es.length es.flatten) (he : ∀ e ∈ es, e.length = sz ∧ ones e = true) {j : Nat} {e : List Value} (hj : es[j]? = some e) :
    ∃ p, blkOf p = blkOf v ∧ (∀ (B : AH) (n : Int), n = (j : Int) → sIaddr B v (.int .i64 n) sz = some (p, B)) ∧ sLoadn A p sz = some (.agg e.toArray, A) ∧ ∀ B, (∀ k b, A[k]? = some b → k ∈ blkOf v → B[k]? = some b) → sLoadn B p sz = some (.agg e.toArray, B) := by
  obtain ⟨p, p1, p2⟩ := h.atn (lt_of_get hj)
  rw [flat_cut he hj] at p2
  refine ⟨p, iaddr_blk p1, ?_, p2, fun B hB => ?_⟩
  · rintro B n rfl; exact iaddr_any p1 B
  · have hb := iaddr_blk p1
    unfold sLoadn at p2 ⊢
    split at p2
    · rename_i i o
      rw [Option.bind_eq_some_iff] at p2
      obtain ⟨r, q1, q2⟩ := p2
      rw [Option.map_eq_some_iff] at q2
      obtain ⟨l, q2, q3⟩ := q2
      injection q3 with q3 q4
      obtain ⟨r1, r2, r3, r4⟩ := r
      obtain ⟨g1, g2⟩ := getRow_some q1
      have g3 := hB i _ g1 (by rw [← hb]; simp [blkOf])
      have : getRow B i = some (r1, r2, r3, r4) := by unfold getRow; simp only [g3, if_neg g2]
      simp only [this, Option.bind_some, q2, Option.map_some, q3]
    · cases p2
theorem SlR.elf (h : SlR A sz v es.length es.flatten) (he : ∀ e ∈ es, e.length = sz ∧ ones e = true) {j o : Nat} {e : List Value} {x : Value} (hj : es[j]? = some e) (ho : e[o]? = some x) :
    ∃ p q, blkOf q = blkOf v ∧ (∀ (B : AH) (n : Int), n = (j : Int) → sIaddr B v (.int .i64 n) sz = some (p, B)) ∧ (∀ B, sFaddr B p o = some (q, B)) ∧ sLoad1 A q = some (x, A) := by
  have hel := (he e (List.mem_of_getElem? hj)).1
  have hlt := lt_of_get ho
  obtain ⟨p, q, p1, p2, p3⟩ := h.field (v0 := x) (lt_of_get hj) (off := o) (by omega) (by rw [flat_at he hj (by omega)]; exact ho)
  refine ⟨p, q, ?_, ?_, faddr_any p2, p3⟩
  · rw [faddr_blk p2, iaddr_blk p1]
  · rintro B n rfl; exact iaddr_any p1 B
theorem SlR.elfL (h : SlR A sz v es.length es.flatten) (he : ∀ e ∈ es, e.length = sz ∧ ones e = true) {j o : Nat} {e : List Value} {x : Value} (hj : es[j]? = some e) (ho : e[o]? = some x) :
    ∃ p q, (∀ (B : AH) (n : Int), n = (j : Int) → sIaddr B v (.int .i64 n) sz = some (p, B)) ∧ (∀ B, sFaddr B p o = some (q, B)) ∧ ∀ B, Le A B → sLoad1 B q = some (x, B) := by
  obtain ⟨p, q, _, p1, p2, p3⟩ := h.elf he hj ho
  exact ⟨p, q, p1, p2, fun B hB => load1_keep p3 (fun k b hb _ => hB.get hb)⟩
/-- An element's fields, by one address. -/
theorem SlR.elfs (h : SlR A sz v es.length es.flatten) (he : ∀ e ∈ es, e.length = sz ∧ ones e = true) {j : Nat} {e : List Value} {x0 : Value} (hj : es[j]? = some e) (h0 : e[0]? = some x0) :
    ∃ p, (∀ (B : AH) (n : Int), n = (j : Int) → sIaddr B v (.int .i64 n) sz = some (p, B)) ∧ ∀ o x, e[o]? = some x → ∃ q, (∀ B, sFaddr B p o = some (q, B)) ∧ ∀ B, Le A B → sLoad1 B q = some (x, B) := by
  obtain ⟨p, q, p1, p2, p3⟩ := SlR.elfL h he hj h0
  refine ⟨p, p1, fun o x hx => ?_⟩
  obtain ⟨p', q', u1, u2, u3⟩ := SlR.elfL h he hj hx
  have e : p' = p := by
    have h1 := p1 A j rfl
    rw [u1 A j rfl] at h1
    injection h1 with h1
    injection h1 with h1 _
  subst e
  exact ⟨q', u2, u3⟩
/-- A literal of two elements. -/
theorem litE2 (A : AH) {z e f : List Value} (hz : z.length = sz) (he : e.length = sz) (hf : f.length = sz) (ho : ones e = true) (hp : ones f = true) :
    sLit A z sz 2 [(0, sz, .agg e.toArray), (sz, sz, .agg f.toArray)] = some (.slice (some ⟨A.length, 0, none⟩) 2 2, A ++ [.row (e ++ f) .own sz true]) := by
  unfold sLit
  have ec : (Value.agg e.toArray).cells = e.toArray := rfl
  have fc : (Value.agg f.toArray).cells = f.toArray := rfl
  have e1 : (List.replicate 2 z).flatten = z ++ z := by simp [List.replicate]
  rw [e1]
  unfold fillA
  rw [ec]
  rw [if_pos ⟨by simpa using he, by rw [List.length_append]; omega, by simpa using ho⟩]
  have e2 : setAll (z ++ z) 0 e.toArray.toList = e ++ z := by
    unfold setAll
    simp only [List.take_zero, List.nil_append, Nat.zero_add]
    rw [he, ← hz, List.drop_left]
  rw [e2]
  unfold fillA
  rw [fc]
  rw [if_pos ⟨by simpa using hf, by rw [List.length_append]; omega, by simpa using hp⟩]
  have e3 : setAll (e ++ z) sz f.toArray.toList = e ++ f := by
    unfold setAll
    show (e ++ z).take sz ++ f ++ (e ++ z).drop (sz + f.length) = e ++ f
    rw [← he, List.take_left, List.drop_of_length_le (by rw [List.length_append]; omega), List.append_nil]
  rw [e3]
  unfold fillA
  rfl
theorem sl_two {st : St} {ex : Bool} {e f : List Value} (A : AH) (he : e.length = sz) (hf : f.length = sz) (hs : st ≠ .dead) : Sl (A ++ [.row (e ++ f) st sz ex]) sz (.slice (some ⟨A.length, 0, none⟩) 2 2) [e, f].length [e, f].flatten := by
  refine ⟨by simp; omega, .inr (.inr ⟨A.length, 0, 2, e ++ f, st, ex, rfl, Nat.le_refl _, by simp, hs, by simp; omega, fun j hj => by simp⟩)⟩
end
end Go.AS


namespace Go.AS.C
open Go Go.Proofs
set_option linter.unusedVariables false
set_option linter.unusedSimpArgs false
set_option maxRecDepth 10000

/-! Steps in a slice; whether they are too large. -/
/-- An element that is a step. -/
def StepR (A : AH) (s : StepV) (r : List Value) : Prop := ∃ t i m : Value, r = [ii s.kind, t, i, ii s.n, m] ∧ Byts A t s.texts ∧ SlT A i s.ids ∧ SlI A .i64 m s.masks
theorem StepR.le {A B : AH} {s : StepV} {r : List Value} (h : StepR A s r) (hl : Le A B) : StepR B s r := by
  obtain ⟨t, i, m, h1, h2, h3, h4⟩ := h
  exact ⟨t, i, m, h1, h2.le hl, h3.le hl, h4.le hl⟩
def StepsA (A : AH) (v : Value) (l : List StepV) : Prop := ∃ rows : List (List Value), SlR A 5 v rows.length rows.flatten ∧ All2 (StepR A) l rows
theorem StepsA.le {A B : AH} {v : Value} {l : List StepV} (h : StepsA A v l) (hl : Le A B) : StepsA B v l := by
  obtain ⟨rows, h1, h2⟩ := h
  exact ⟨rows, h1.le hl, All2.imp (fun s r hr => StepR.le hr hl) _ _ h2⟩
theorem StepsA.len {A : AH} {v : Value} {l : List StepV} (h : StepsA A v l) (B : AH) : sLens B false v = some (ii l.length, B) := by
  obtain ⟨rows, h1, h2⟩ := h
  have := SlR.lenB h1 B
  rw [All2.len _ _ h2] at this
  exact this
theorem stepR_ok {A : AH} {s : StepV} {r : List Value} (h : StepR A s r) : r.length = 5 ∧ ones r = true := by
  obtain ⟨t, i, m, rfl, h1, h2, h3⟩ := h
  have e1 := (byts_one1 h1).2
  have e2 := (Sl.one1 h2).2
  have e3 := (Sl.one1 h3).2
  refine ⟨rfl, ?_⟩
  simp only [ones, List.all_cons, List.all_nil, e1, e2, e3]
  rfl
theorem all2_mem {α β : Type} {R : α → β → Prop} : ∀ {l : List α} {r : List β}, All2 R l r → ∀ b ∈ r, ∃ a, R a b
  | [], [], _, b, hb => by cases hb
  | a :: l, c :: r, h, b, hb => by
    rcases List.mem_cons.1 hb with rfl | hb
    · exact ⟨a, h.1⟩
    · exact all2_mem h.2 b hb
  | [], _ :: _, h, _, _ => h.elim
  | _ :: _, [], h, _, _ => h.elim
/-- A step in a slice: where it stands, and its parts. -/
theorem StepsA.at {A : AH} {v : Value} {l : List StepV} (h : StepsA A v l) {j : Nat} {s : StepV} (hj : l[j]? = some s) : ∃ t i m p q0 q1 q2 q3 q4, Byts A t s.texts ∧ SlT A i s.ids ∧ SlI A .i64 m s.masks ∧
    (∀ (B : AH) (n : Int), n = (j : Int) → sIaddr B v (.int .i64 n) 5 = some (p, B)) ∧ ((∀ B, sFaddr B p 0 = some (q0, B)) ∧ ∀ B, Le A B → sLoad1 B q0 = some (ii s.kind, B)) ∧ ((∀ B, sFaddr B p 1 = some (q1, B)) ∧ ∀ B, Le A B → sLoad1 B q1 = some (t, B)) ∧
    ((∀ B, sFaddr B p 2 = some (q2, B)) ∧ ∀ B, Le A B → sLoad1 B q2 = some (i, B)) ∧ ((∀ B, sFaddr B p 3 = some (q3, B)) ∧ ∀ B, Le A B → sLoad1 B q3 = some (ii s.n, B)) ∧ ((∀ B, sFaddr B p 4 = some (q4, B)) ∧ ∀ B, Le A B → sLoad1 B q4 = some (m, B)) := by
  obtain ⟨rows, h1, h2⟩ := h
  have hlt := lt_of_get hj
  have hl := All2.len _ _ h2
  obtain ⟨r, hr⟩ : ∃ r, rows[j]? = some r := ⟨_, List.getElem?_eq_getElem (by omega)⟩
  have hok : ∀ e ∈ rows, e.length = 5 ∧ ones e = true := fun e he => by
    obtain ⟨a, ha⟩ := all2_mem h2 e he
    exact stepR_ok ha
  obtain ⟨t, i, m, rfl, b1, b2, b3⟩ := All2.get _ _ h2 j s r hj hr
  obtain ⟨p, p1, p2⟩ := SlR.elfs h1 hok hr rfl
  obtain ⟨q0, c0⟩ := p2 0 _ rfl
  obtain ⟨q1, c1⟩ := p2 1 _ rfl
  obtain ⟨q2, c2⟩ := p2 2 _ rfl
  obtain ⟨q3, c3⟩ := p2 3 _ rfl
  obtain ⟨q4, c4⟩ := p2 4 _ rfl
  exact ⟨t, i, m, p, q0, q1, q2, q3, q4, b1, b2, b3, p1, c0, c1, c2, c3, c4⟩
/-- The same, the whole step. -/
theorem StepsA.load {A : AH} {v : Value} {l : List StepV} (h : StepsA A v l) {j : Nat} {s : StepV} (hj : l[j]? = some s) : ∃ p x, (∀ (B : AH) (n : Int), n = (j : Int) → sIaddr B v (.int .i64 n) 5 = some (p, B)) ∧ (∀ B, Le A B → sLoadn B p 5 = some (x, B)) ∧ StepA A x s := by
  obtain ⟨rows, h1, h2⟩ := h
  have hlt := lt_of_get hj
  have hl := All2.len _ _ h2
  obtain ⟨r, hr⟩ : ∃ r, rows[j]? = some r := ⟨_, List.getElem?_eq_getElem (by omega)⟩
  have hok : ∀ e ∈ rows, e.length = 5 ∧ ones e = true := fun e he => by
    obtain ⟨a, ha⟩ := all2_mem h2 e he
    exact stepR_ok ha
  obtain ⟨p, _, p1, _, p3⟩ := SlR.el h1 hok (j := j) (e := r) hr
  obtain ⟨t, i, m, rfl, b1, b2, b3⟩ := All2.get _ _ h2 j s r hj hr
  exact ⟨p, _, p1, fun B hB => p3 B (fun k b hb _ => hB.get hb), t, i, m, rfl, b1, b2, b3⟩
def SmallL (s : StepV) : Prop := s.texts.length ≤ 70 ∧ s.ids.length ≤ 70 ∧ s.masks.length ≤ 1030 ∧ (∀ t ∈ s.texts, t.length ≤ 1100) ∧ ∀ t ∈ s.ids, t.size ≤ 70
theorem small_step {s : StepV} (h : SmallL s) (r : RangeT s) : SmallT s := ⟨r.1, r.2.1, h.1, h.2.2.2.1, h.2.1, h.2.2.2.2, h.2.2.1, r.2.2.1⟩
def LargeS (l : List StepV) (most : Int) (v : Value) : Prop := ∃ b, v = .bool b ∧ (b = false → (l.length : Int) ≤ most ∧ ∀ s ∈ l, SmallL s)
theorem large39_spec {A : AH} {v : Value} {l : List StepV} {most : Int} {Q : Value → AH → Prop} (hx : StepsA A v l) (hl : l.length < 2 ^ 50) (hm : I64 most) (hr : ∀ s ∈ l, s.texts.length < 2 ^ 50 ∧ s.ids.length < 2 ^ 50 ∧ s.masks.length < 2 ^ 50 ∧ (∀ t ∈ s.texts, t.length < 2 ^ 50) ∧ ∀ t ∈ s.ids, t.size < 2 ^ 50)
    (hq : ∀ b : Bool, (b = false → (l.length : Int) ≤ most ∧ ∀ s ∈ l, SmallL s) → Q (.bool b) A) : ACalls 3 Tryd.prog chantryref39_Large [v, ii most] Q A := by
  refine ACalls.pure (S := LargeS l most) (fun v ⟨b, e, h⟩ => by rw [e]; exact hq b h) ?_
  have big : LargeS l most (.bool true) := ⟨true, rfl, fun h => by cases h⟩
  refine ACalls.of_fits mixed fits_chantryref39_Large rfl ?_
  unfold ic_chantryref39_Large
  have i0 : initA [v, ii most] 0 = v := rfl
  have i1 : initA [v, ii most] 1 = ii most := rfl
  generalize initA [v, ii most] = a at i0 i1
  have hll := hx.len
  obtain ⟨hm1, hm2⟩ := hm
  by_cases h1 : most < (l.length : Int)
  · simp (maxSteps := 1000000) (disch := omega) only [stepS, reduceIte, Nat.reduceBEq, Nat.reduceEqDiff, tupleOf, stepT, stepX, heapR, lensR, Nat.reduceAdd, Nat.reduceLeDiff, i0, i1, hll]
    exact ⟨.refl _, rfl, big⟩
  refine W_mid (fun a B => B = A ∧ a 0 = v ∧ a 1 = ii most) ?_ ?_
  · simp (maxSteps := 1000000) (disch := omega) only [stepS, reduceIte, Nat.reduceBEq, Nat.reduceEqDiff, tupleOf, stepT, stepX, heapR, lensR, Nat.reduceAdd, Nat.reduceLeDiff, i0, i1]
  clear i0 i1
  rintro a B ⟨hB, g0, g1⟩
  obtain rfl : A = B := hB.symm
  clear hB
  refine W_mid (fun a B => B = A ∧ a 0 = v) ?_ ?_
  · simp (maxSteps := 1000000) (disch := omega) only [stepS, reduceIte, Nat.reduceBEq, Nat.reduceEqDiff, tupleOf, stepT, stepX, heapR, lensR, Nat.reduceAdd, Nat.reduceLeDiff, g0, g1, hll]
  clear g0 g1
  rintro a B ⟨hB, g0⟩
  obtain rfl : A = B := hB.symm
  clear hB
  refine W_midR (fun a B => B = A ∧ ∀ s ∈ l, SmallL s) ?_ ?_
  · simp (maxSteps := 1000000) (disch := omega) only [stepS, reduceIte, Nat.reduceBEq, Nat.reduceEqDiff, tupleOf, stepT, g0]
    refine W_loop (fun a' D => ∃ j : Nat, j ≤ l.length ∧ D = A ∧ a' 0 = v ∧ a' 5 = ii j ∧ ∀ w ∈ l.take j, SmallL w) (fun a' _ => l.length - (iv (a' 5)).toNat) ?_ ?_
    · refine ⟨0, Nat.zero_le _, rfl, ?_⟩
      simp (maxSteps := 1000000) (disch := omega) only [stepS, reduceIte, Nat.reduceBEq, Nat.reduceEqDiff, tupleOf, stepT, g0]
      simp
    · clear g0
      rintro a2 D ⟨j, hj, hD, g0, g5, hs⟩
      obtain rfl : A = D := hD.symm
      clear hD
      rcases Nat.lt_or_ge j l.length with hlt | hge
      · obtain ⟨w, hw⟩ := get_some hlt
        have hwr := hr w (List.mem_of_getElem? hw)
        obtain ⟨r1, r2, r3, r4, r5⟩ := hwr
        obtain ⟨t, i, m, p, q0, q1, q2, q3, q4, ht, hi, hmm, p1, c0, ⟨u1, c1⟩, ⟨u2, c2⟩, c3, u4, c4⟩ := hx.at hw
        have c1 := c1 A (.refl _)
        have c2 := c2 A (.refl _)
        have c4 := c4 A (.refl _)
        have lt := byts_lenB ht
        have li := SlT.len hi
        have lm : ∀ B, sLens B false m = some (ii w.masks.length, B) := Sl.lenB hmm
        have htk : l.take (j + 1) = l.take j ++ [w] := by rw [List.take_add_one, hw]; rfl
        by_cases d1 : w.texts.length ≤ 70
        · by_cases d2 : w.ids.length ≤ 70
          · by_cases d3 : w.masks.length ≤ 1030
            · simp (maxSteps := 1000000) (disch := omega) only [stepS, reduceIte, Nat.reduceBEq, Nat.reduceEqDiff, tupleOf, stepT, stepX, heapR, lensR, Nat.reduceAdd, Nat.reduceLeDiff, g0, g5, hll, p1, u1, u2, u4, c1, c2, c4, lt, li, lm]
              refine W_loop (fun a' D => ∃ i : Nat, i ≤ w.texts.length ∧ D = A ∧ a' 0 = v ∧ a' 5 = ii j ∧ a' 6 = ii i ∧ ∀ t ∈ w.texts.take i, t.length ≤ 1100) (fun a' _ => w.texts.length - (iv (a' 6)).toNat) ?_ ?_
              · refine ⟨0, Nat.zero_le _, rfl, ?_⟩
                simp (maxSteps := 1000000) (disch := omega) only [stepS, reduceIte, Nat.reduceBEq, Nat.reduceEqDiff, tupleOf, stepT, stepX, heapR, lensR, Nat.reduceAdd, Nat.reduceLeDiff, g0, g5]
                simp
              · clear g0 g5
                rintro a3 D ⟨n, hn, hD, g0, g5, g6, hs1⟩
                obtain rfl : A = D := hD.symm
                clear hD
                rcases Nat.lt_or_ge n w.texts.length with hnl | hnl
                · obtain ⟨y, hy⟩ := get_some hnl
                  have ry := r4 y (List.mem_of_getElem? hy)
                  obtain ⟨z, x, z1, z2, hx2⟩ := byts_atL ht hy
                  have z2 := z2 A (.refl _)
                  have ly := Byt.len hx2
                  have hyk : w.texts.take (n + 1) = w.texts.take n ++ [y] := by rw [List.take_add_one, hy]; rfl
                  by_cases d4 : y.length ≤ 1100
                  · simp (maxSteps := 1000000) (disch := omega) only [stepS, reduceIte, Nat.reduceBEq, Nat.reduceEqDiff, tupleOf, stepT, stepX, heapR, lensR, Nat.reduceAdd, Nat.reduceLeDiff, g0, g5, g6, p1, u1, c1, lt, z1, z2, ly]
                    refine ⟨⟨n + 1, by omega, rfl, fun x hx => ?_⟩, by omega⟩
                    rw [hyk, List.mem_append, List.mem_singleton] at hx
                    rcases hx with hx | rfl
                    · exact hs1 x hx
                    · exact d4
                  · simp (maxSteps := 1000000) (disch := omega) only [stepS, reduceIte, Nat.reduceBEq, Nat.reduceEqDiff, tupleOf, stepT, stepX, heapR, lensR, Nat.reduceAdd, Nat.reduceLeDiff, g0, g5, g6, p1, u1, c1, lt, z1, z2, ly]
                    exact .inr ⟨.refl _, rfl, big⟩
                · rw [List.take_of_length_le hnl] at hs1
                  simp (maxSteps := 1000000) (disch := omega) only [stepS, reduceIte, Nat.reduceBEq, Nat.reduceEqDiff, tupleOf, stepT, stepX, heapR, lensR, Nat.reduceAdd, Nat.reduceLeDiff, g0, g5, g6, p1, u1, c1, lt]
                  refine W_loop (fun a' D => ∃ i : Nat, i ≤ w.ids.length ∧ D = A ∧ a' 0 = v ∧ a' 5 = ii j ∧ a' 7 = ii i ∧ ∀ t ∈ w.ids.take i, t.size ≤ 70) (fun a' _ => w.ids.length - (iv (a' 7)).toNat) ?_ ?_
                  · refine ⟨0, Nat.zero_le _, rfl, ?_⟩
                    simp (maxSteps := 1000000) (disch := omega) only [stepS, reduceIte, Nat.reduceBEq, Nat.reduceEqDiff, tupleOf, stepT, stepX, heapR, lensR, Nat.reduceAdd, Nat.reduceLeDiff, g0, g5]
                    simp
                  · clear g0 g5 g6 hn hnl
                    rintro a3 D ⟨n, hn, hD, g0, g5, g6, hs2⟩
                    obtain rfl : A = D := hD.symm
                    clear hD
                    rcases Nat.lt_or_ge n w.ids.length with hnl | hnl
                    · obtain ⟨y, hy⟩ := get_some hnl
                      have ry := r5 y (List.mem_of_getElem? hy)
                      obtain ⟨z, z1, z2⟩ := SlT.at hi hy
                      have z2 := z2 A (.refl _)
                      have hyk : w.ids.take (n + 1) = w.ids.take n ++ [y] := by rw [List.take_add_one, hy]; rfl
                      by_cases d4 : y.size ≤ 70
                      · simp (maxSteps := 1000000) (disch := omega) only [stepS, reduceIte, Nat.reduceBEq, Nat.reduceEqDiff, tupleOf, stepT, stepX, heapR, lensR, Nat.reduceAdd, Nat.reduceLeDiff, g0, g5, g6, p1, u2, c2, li, z1, z2]
                        refine ⟨⟨n + 1, by omega, rfl, fun x hx => ?_⟩, by omega⟩
                        rw [hyk, List.mem_append, List.mem_singleton] at hx
                        rcases hx with hx | rfl
                        · exact hs2 x hx
                        · exact d4
                      · simp (maxSteps := 1000000) (disch := omega) only [stepS, reduceIte, Nat.reduceBEq, Nat.reduceEqDiff, tupleOf, stepT, stepX, heapR, lensR, Nat.reduceAdd, Nat.reduceLeDiff, g0, g5, g6, p1, u2, c2, li, z1, z2]
                        exact .inr ⟨.refl _, rfl, big⟩
                    · rw [List.take_of_length_le hnl] at hs2
                      simp (maxSteps := 1000000) (disch := omega) only [stepS, reduceIte, Nat.reduceBEq, Nat.reduceEqDiff, tupleOf, stepT, stepX, heapR, lensR, Nat.reduceAdd, Nat.reduceLeDiff, g0, g5, g6, p1, u2, c2, li]
                      refine ⟨⟨j + 1, by omega, rfl, fun x hx => ?_⟩, by omega⟩
                      rw [htk, List.mem_append, List.mem_singleton] at hx
                      rcases hx with hx | rfl
                      · exact hs x hx
                      · exact ⟨d1, d2, d3, hs1, hs2⟩
            · simp (maxSteps := 1000000) (disch := omega) only [stepS, reduceIte, Nat.reduceBEq, Nat.reduceEqDiff, tupleOf, stepT, stepX, heapR, lensR, Nat.reduceAdd, Nat.reduceLeDiff, g0, g5, hll, p1, u1, u2, u4, c1, c2, c4, lt, li, lm]
              exact .inr ⟨.refl _, rfl, big⟩
          · simp (maxSteps := 1000000) (disch := omega) only [stepS, reduceIte, Nat.reduceBEq, Nat.reduceEqDiff, tupleOf, stepT, stepX, heapR, lensR, Nat.reduceAdd, Nat.reduceLeDiff, g0, g5, hll, p1, u1, u2, u4, c1, c2, c4, lt, li, lm]
            exact .inr ⟨.refl _, rfl, big⟩
        · simp (maxSteps := 1000000) (disch := omega) only [stepS, reduceIte, Nat.reduceBEq, Nat.reduceEqDiff, tupleOf, stepT, stepX, heapR, lensR, Nat.reduceAdd, Nat.reduceLeDiff, g0, g5, hll, p1, u1, u2, u4, c1, c2, c4, lt, li, lm]
          exact .inr ⟨.refl _, rfl, big⟩
      · simp (maxSteps := 1000000) (disch := omega) only [stepS, reduceIte, Nat.reduceBEq, Nat.reduceEqDiff, tupleOf, stepT, stepX, heapR, lensR, Nat.reduceAdd, Nat.reduceLeDiff, g0, g5, hll]
        rw [List.take_of_length_le hge] at hs
        exact .inl hs
  rintro a B ⟨hB, hall⟩
  subst hB
  simp (maxSteps := 1000000) (disch := omega) only [stepS, reduceIte, Nat.reduceBEq, Nat.reduceEqDiff, tupleOf, stepT]
  exact ⟨.refl _, rfl, false, rfl, fun _ => ⟨by omega, hall⟩⟩
end Go.AS.C


namespace Go.AS.C
open Go Go.Proofs
set_option linter.unusedVariables false
set_option linter.unusedSimpArgs false
set_option maxRecDepth 10000

theorem tell_Step_spec {A : AH} {x : Value} {s : StepV} {Q : Value → AH → Prop} (hg : Le G3 A) (hx : StepA A x s) (hs : SmallT s) (hq : Q (.string (stepL s)) A) : ACalls 3 Tryd.prog tell_Step [x] Q A := by
  refine ACalls.pure1 _ rfl hq fun Q hq => ?_
  obtain ⟨t, i, m, rfl, ht, hi, hm⟩ := hx
  obtain ⟨sk, sn, st1, st2, si1, si2, sm1, sm2⟩ := hs
  refine ACalls.of_fits mixed fits_tell_Step rfl ?_
  unfold ic_tell_Step
  have i0 : initA [.agg #[ii s.kind, t, i, ii s.n, m]] 0 = .agg #[ii s.kind, t, i, ii s.n, m] := rfl
  generalize initA [.agg #[ii s.kind, t, i, ii s.n, m]] = a at i0
  have ot := (byts_one1 ht).2
  have oi := (Sl.one1 hi).2
  have om := (Sl.one1 hm).2
  refine W_mid (fun a B => B = A ++ [.row [ii s.kind, t, i, ii s.n, m] .own 0 true] ∧ a 1 = ptr A.length) ?_ ?_
  · simp (maxSteps := 1000000) (disch := omega) only [stepS, reduceIte, Nat.reduceBEq, Nat.reduceEqDiff, tupleOf, stepT, stepX, heapR, lensR, Nat.reduceAdd, Nat.reduceLeDiff, i0, ot, oi, om]
  rintro a B0 ⟨hB, g1⟩
  have k0 : Le A B0 := by rw [hB]; exact .push _ _
  have r1 : rowAt B0 A.length = some ([ii s.kind, t, i, ii s.n, m], .own, 0, true) := by rw [hB]; exact rowAt_own (get_last _ _)
  clear i0 hB
  have rG : rowAt B0 0 = some (kVs, .ro, 0, true) := ((hg.trans k0)).row rowG0
  have hA0 : 0 < B0.length := by have := (hg.trans k0).len; simp [G3] at this; omega
  have kv0 : kVs[0]? = some (.string ⟨#[63]⟩) := rfl
  have xg0 : ∀ B : AH, sIarr B (.pointer (some ⟨0, 0, none⟩)) (.int .i64 0) 13 1 = some (.pointer (some ⟨0, 0, none⟩), B) := fun _ => rfl
  by_cases hk : s.kind < 0 ∨ 13 ≤ s.kind
  · have hq2 := hq B0 k0
    rw [stepL_out hk] at hq2
    rcases hk with hk | hk
    · simp (maxSteps := 1000000) (disch := omega) only [stepS, reduceIte, Nat.reduceBEq, Nat.reduceEqDiff, tupleOf, stepT, stepX, heapR, lensR, Nat.reduceAdd, Nat.reduceLeDiff, g1, r1, rG, xg0, kv0]
      exact hq2
    · by_cases hk2 : s.kind < 0
      · omega
      · simp (maxSteps := 1000000) (disch := omega) only [stepS, reduceIte, Nat.reduceBEq, Nat.reduceEqDiff, tupleOf, stepT, stepX, heapR, lensR, Nat.reduceAdd, Nat.reduceLeDiff, g1, r1, rG, xg0, kv0]
        exact hq2
  obtain ⟨k, hk2, hk3, hkv⟩ := kind_of hk
  have xg : ∀ B : AH, sIarr B (.pointer (some ⟨0, 0, none⟩)) (.int .i64 s.kind) 13 1 = some (.pointer (some ⟨0, k, none⟩), B) := iarrG hk2 hk3
  refine W_mid (fun a B => B = B0 ∧ a 1 = ptr A.length) ?_ ?_
  · simp (maxSteps := 1000000) (disch := omega) only [stepS, reduceIte, Nat.reduceBEq, Nat.reduceEqDiff, tupleOf, stepT, stepX, heapR, lensR, Nat.reduceAdd, Nat.reduceLeDiff, g1, r1, rG]
  rintro a B' ⟨hB, g1⟩
  obtain rfl : B0 = B' := hB.symm
  clear hB
  have l1 := lit1 (A := B0) (z := .string ⟨#[]⟩) (len := 1) (ps := [(0, 1, .string (stepN s.kind))]) [.string (stepN s.kind)] rfl rfl (fun x hx => by
    simp only [List.mem_cons, List.not_mem_nil, or_false] at hx
    subst hx; exact one1_str _)
  have own0 : OwnT B0.length (B0 ++ [.row [.string (stepN s.kind)] .own 1 true]) (.slice (some ⟨B0.length, 0, none⟩) 1 1) [stepN s.kind] := ownT_last [stepN s.kind] (Nat.le_refl _)
  refine W_mid (fun a B => ∃ u, Le B0 B ∧ a 1 = ptr A.length ∧ a 3 = u ∧ OwnT B0.length B u [stepN s.kind]) ?_ ?_
  · simp (maxSteps := 1000000) (disch := omega) only [stepS, reduceIte, Nat.reduceBEq, Nat.reduceEqDiff, tupleOf, stepT, stepX, heapR, lensR, Nat.reduceAdd, Nat.reduceLeDiff, g1, r1, rG, xg, hkv, l1]
    exact ⟨_, Le.push _ _, rfl, own0⟩
  clear g1 l1 own0
  rintro a B1 ⟨u, k1, g1, g3, o3⟩
  have r2 := k1.row r1
  refine W_mid (fun a B => ∃ u, Le B0 B ∧ a 3 = u ∧ OwnT B0.length B u (stepN s.kind :: stepP s)) ?_ ?_
  · by_cases h1 : s.kind = 1
    · have lt := byts_lenB ht
      simp (maxSteps := 1000000) (disch := omega) only [stepS, reduceIte, Nat.reduceBEq, Nat.reduceEqDiff, tupleOf, stepT, stepX, heapR, lensR, Nat.reduceAdd, Nat.reduceLeDiff, g1, g3, r2, lt]
      refine W_loop (fun a' B => ∃ j : Nat, j ≤ s.texts.length ∧ Le B0 B ∧ a' 30 = t ∧ a' 31 = ii s.texts.length ∧ a' 32 = ii j ∧ OwnT B0.length B (a' 3) (stepN s.kind :: (s.texts.take j).map (fun t => hexT ⟨t.toArray⟩))) (fun a' _ => s.texts.length - (iv (a' 32)).toNat) ?_ ?_
      · refine ⟨0, Nat.zero_le _, k1, ?_⟩
        simp (maxSteps := 1000000) (disch := omega) only [stepS, reduceIte, Nat.reduceBEq, Nat.reduceEqDiff, tupleOf, stepT, stepX, heapR, lensR, Nat.reduceAdd, Nat.reduceLeDiff, g1, g3, r2, lt]
        exact ⟨rfl, o3⟩
      · clear g1 g3 o3
        rintro a2 B ⟨j, hj, hle, g7, g8, g9, o3⟩
        obtain ⟨y, g3⟩ : ∃ y, a2 3 = y := ⟨_, rfl⟩
        rw [g3] at o3
        rcases Nat.lt_or_ge j s.texts.length with hlt | hge
        · obtain ⟨w, hw⟩ := get_some hlt
          have hsw := st2 w (List.mem_of_getElem? hw)
          obtain ⟨p, x, p1, p2, hx⟩ := byts_atL ht hw
          have p3 := p2 B (k0.trans hle)
          have hxs := (hx.le (k0.trans hle)).str
          have htk : s.texts.take (j + 1) = s.texts.take j ++ [w] := by rw [List.take_add_one, hw]; rfl
          simp (maxSteps := 1000000) (disch := omega) only [stepS, reduceIte, Nat.reduceBEq, Nat.reduceEqDiff, tupleOf, stepT, stepX, heapR, lensR, Nat.reduceAdd, Nat.reduceLeDiff, hxs, g3, g7, g8, g9, p1, p3]
          refine tell_digits_spec (s := ⟨w.toArray⟩) (by show w.length < _; omega) fun D kD => ?_
          obtain ⟨l1, x, F, q1, q2, q3, q4, q5⟩ := OwnT.push (hexT ⟨w.toArray⟩) (hle.trans kD) (OwnT.le o3 kD) (by rw [List.length_cons, List.length_map, List.length_take]; omega)
          simp (maxSteps := 1000000) (disch := omega) only [stepS, reduceIte, Nat.reduceBEq, Nat.reduceEqDiff, tupleOf, stepT, stepX, heapR, lensR, Nat.reduceAdd, Nat.reduceLeDiff, g3, g7, g8, g9, l1, q1]
          refine ⟨⟨j + 1, by omega, q2, rfl, ?_⟩, by omega⟩
          rw [htk, List.map_append]
          exact q3
        · rw [List.take_of_length_le (by omega)] at o3
          simp (maxSteps := 1000000) (disch := omega) only [stepS, reduceIte, Nat.reduceBEq, Nat.reduceEqDiff, tupleOf, stepT, stepX, heapR, lensR, Nat.reduceAdd, Nat.reduceLeDiff, g3, g7, g8, g9]
          refine ⟨_, hle, rfl, ?_⟩
          rw [stepP_1 h1]
          exact o3
    · by_cases h2 : s.kind = 2 ∨ s.kind = 4 ∨ s.kind = 9
      · have li := SlT.len hi
        rcases h2 with h2 | h2 | h2
        · simp (maxSteps := 1000000) (disch := omega) only [stepS, reduceIte, Nat.reduceBEq, Nat.reduceEqDiff, tupleOf, stepT, stepX, heapR, lensR, Nat.reduceAdd, Nat.reduceLeDiff, g1, g3, r2, li]
          refine W_loop (fun a' B => ∃ j : Nat, j ≤ s.ids.length ∧ Le B0 B ∧ a' 48 = i ∧ a' 49 = ii s.ids.length ∧ a' 50 = ii j ∧ OwnT B0.length B (a' 3) (stepN s.kind :: (s.ids.take j).map hexT)) (fun a' _ => s.ids.length - (iv (a' 50)).toNat) ?_ ?_
          · refine ⟨0, Nat.zero_le _, k1, ?_⟩
            simp (maxSteps := 1000000) (disch := omega) only [stepS, reduceIte, Nat.reduceBEq, Nat.reduceEqDiff, tupleOf, stepT, stepX, heapR, lensR, Nat.reduceAdd, Nat.reduceLeDiff, g1, g3, r2, li]
            exact ⟨rfl, o3⟩
          · clear g1 g3 o3
            rintro a2 B ⟨j, hj, hle, g7, g8, g9, o3⟩
            obtain ⟨y, g3⟩ : ∃ y, a2 3 = y := ⟨_, rfl⟩
            rw [g3] at o3
            rcases Nat.lt_or_ge j s.ids.length with hlt | hge
            · obtain ⟨w, hw⟩ := get_some hlt
              have hsw := si2 w (List.mem_of_getElem? hw)
              obtain ⟨p, p1, p2⟩ := SlT.at hi hw
              have p3 := p2 B (k0.trans hle)
              have htk : s.ids.take (j + 1) = s.ids.take j ++ [w] := by rw [List.take_add_one, hw]; rfl
              simp (maxSteps := 1000000) (disch := omega) only [stepS, reduceIte, Nat.reduceBEq, Nat.reduceEqDiff, tupleOf, stepT, stepX, heapR, lensR, Nat.reduceAdd, Nat.reduceLeDiff, g3, g7, g8, g9, p1, p3]
              refine tell_digits_spec (s := w) (by omega) fun D kD => ?_
              obtain ⟨l1, x, F, q1, q2, q3, q4, q5⟩ := OwnT.push (hexT w) (hle.trans kD) (OwnT.le o3 kD) (by rw [List.length_cons, List.length_map, List.length_take]; omega)
              simp (maxSteps := 1000000) (disch := omega) only [stepS, reduceIte, Nat.reduceBEq, Nat.reduceEqDiff, tupleOf, stepT, stepX, heapR, lensR, Nat.reduceAdd, Nat.reduceLeDiff, g3, g7, g8, g9, l1, q1]
              refine ⟨⟨j + 1, by omega, q2, rfl, ?_⟩, by omega⟩
              rw [htk, List.map_append]
              exact q3
            · rw [List.take_of_length_le (by omega)] at o3
              simp (maxSteps := 1000000) (disch := omega) only [stepS, reduceIte, Nat.reduceBEq, Nat.reduceEqDiff, tupleOf, stepT, stepX, heapR, lensR, Nat.reduceAdd, Nat.reduceLeDiff, g3, g7, g8, g9]
              refine ⟨_, hle, rfl, ?_⟩
              rw [stepP_2 (.inl h2)]
              exact o3
        · simp (maxSteps := 1000000) (disch := omega) only [stepS, reduceIte, Nat.reduceBEq, Nat.reduceEqDiff, tupleOf, stepT, stepX, heapR, lensR, Nat.reduceAdd, Nat.reduceLeDiff, g1, g3, r2, li]
          refine W_loop (fun a' B => ∃ j : Nat, j ≤ s.ids.length ∧ Le B0 B ∧ a' 48 = i ∧ a' 49 = ii s.ids.length ∧ a' 50 = ii j ∧ OwnT B0.length B (a' 3) (stepN s.kind :: (s.ids.take j).map hexT)) (fun a' _ => s.ids.length - (iv (a' 50)).toNat) ?_ ?_
          · refine ⟨0, Nat.zero_le _, k1, ?_⟩
            simp (maxSteps := 1000000) (disch := omega) only [stepS, reduceIte, Nat.reduceBEq, Nat.reduceEqDiff, tupleOf, stepT, stepX, heapR, lensR, Nat.reduceAdd, Nat.reduceLeDiff, g1, g3, r2, li]
            exact ⟨rfl, o3⟩
          · clear g1 g3 o3
            rintro a2 B ⟨j, hj, hle, g7, g8, g9, o3⟩
            obtain ⟨y, g3⟩ : ∃ y, a2 3 = y := ⟨_, rfl⟩
            rw [g3] at o3
            rcases Nat.lt_or_ge j s.ids.length with hlt | hge
            · obtain ⟨w, hw⟩ := get_some hlt
              have hsw := si2 w (List.mem_of_getElem? hw)
              obtain ⟨p, p1, p2⟩ := SlT.at hi hw
              have p3 := p2 B (k0.trans hle)
              have htk : s.ids.take (j + 1) = s.ids.take j ++ [w] := by rw [List.take_add_one, hw]; rfl
              simp (maxSteps := 1000000) (disch := omega) only [stepS, reduceIte, Nat.reduceBEq, Nat.reduceEqDiff, tupleOf, stepT, stepX, heapR, lensR, Nat.reduceAdd, Nat.reduceLeDiff, g3, g7, g8, g9, p1, p3]
              refine tell_digits_spec (s := w) (by omega) fun D kD => ?_
              obtain ⟨l1, x, F, q1, q2, q3, q4, q5⟩ := OwnT.push (hexT w) (hle.trans kD) (OwnT.le o3 kD) (by rw [List.length_cons, List.length_map, List.length_take]; omega)
              simp (maxSteps := 1000000) (disch := omega) only [stepS, reduceIte, Nat.reduceBEq, Nat.reduceEqDiff, tupleOf, stepT, stepX, heapR, lensR, Nat.reduceAdd, Nat.reduceLeDiff, g3, g7, g8, g9, l1, q1]
              refine ⟨⟨j + 1, by omega, q2, rfl, ?_⟩, by omega⟩
              rw [htk, List.map_append]
              exact q3
            · rw [List.take_of_length_le (by omega)] at o3
              simp (maxSteps := 1000000) (disch := omega) only [stepS, reduceIte, Nat.reduceBEq, Nat.reduceEqDiff, tupleOf, stepT, stepX, heapR, lensR, Nat.reduceAdd, Nat.reduceLeDiff, g3, g7, g8, g9]
              refine ⟨_, hle, rfl, ?_⟩
              rw [stepP_2 (.inr (.inl h2))]
              exact o3
        · simp (maxSteps := 1000000) (disch := omega) only [stepS, reduceIte, Nat.reduceBEq, Nat.reduceEqDiff, tupleOf, stepT, stepX, heapR, lensR, Nat.reduceAdd, Nat.reduceLeDiff, g1, g3, r2, li]
          refine W_loop (fun a' B => ∃ j : Nat, j ≤ s.ids.length ∧ Le B0 B ∧ a' 48 = i ∧ a' 49 = ii s.ids.length ∧ a' 50 = ii j ∧ OwnT B0.length B (a' 3) (stepN s.kind :: (s.ids.take j).map hexT)) (fun a' _ => s.ids.length - (iv (a' 50)).toNat) ?_ ?_
          · refine ⟨0, Nat.zero_le _, k1, ?_⟩
            simp (maxSteps := 1000000) (disch := omega) only [stepS, reduceIte, Nat.reduceBEq, Nat.reduceEqDiff, tupleOf, stepT, stepX, heapR, lensR, Nat.reduceAdd, Nat.reduceLeDiff, g1, g3, r2, li]
            exact ⟨rfl, o3⟩
          · clear g1 g3 o3
            rintro a2 B ⟨j, hj, hle, g7, g8, g9, o3⟩
            obtain ⟨y, g3⟩ : ∃ y, a2 3 = y := ⟨_, rfl⟩
            rw [g3] at o3
            rcases Nat.lt_or_ge j s.ids.length with hlt | hge
            · obtain ⟨w, hw⟩ := get_some hlt
              have hsw := si2 w (List.mem_of_getElem? hw)
              obtain ⟨p, p1, p2⟩ := SlT.at hi hw
              have p3 := p2 B (k0.trans hle)
              have htk : s.ids.take (j + 1) = s.ids.take j ++ [w] := by rw [List.take_add_one, hw]; rfl
              simp (maxSteps := 1000000) (disch := omega) only [stepS, reduceIte, Nat.reduceBEq, Nat.reduceEqDiff, tupleOf, stepT, stepX, heapR, lensR, Nat.reduceAdd, Nat.reduceLeDiff, g3, g7, g8, g9, p1, p3]
              refine tell_digits_spec (s := w) (by omega) fun D kD => ?_
              obtain ⟨l1, x, F, q1, q2, q3, q4, q5⟩ := OwnT.push (hexT w) (hle.trans kD) (OwnT.le o3 kD) (by rw [List.length_cons, List.length_map, List.length_take]; omega)
              simp (maxSteps := 1000000) (disch := omega) only [stepS, reduceIte, Nat.reduceBEq, Nat.reduceEqDiff, tupleOf, stepT, stepX, heapR, lensR, Nat.reduceAdd, Nat.reduceLeDiff, g3, g7, g8, g9, l1, q1]
              refine ⟨⟨j + 1, by omega, q2, rfl, ?_⟩, by omega⟩
              rw [htk, List.map_append]
              exact q3
            · rw [List.take_of_length_le (by omega)] at o3
              simp (maxSteps := 1000000) (disch := omega) only [stepS, reduceIte, Nat.reduceBEq, Nat.reduceEqDiff, tupleOf, stepT, stepX, heapR, lensR, Nat.reduceAdd, Nat.reduceLeDiff, g3, g7, g8, g9]
              refine ⟨_, hle, rfl, ?_⟩
              rw [stepP_2 (.inr (.inr h2))]
              exact o3
      · by_cases h3 : s.kind = 10
        · simp (maxSteps := 1000000) (disch := omega) only [stepS, reduceIte, Nat.reduceBEq, Nat.reduceEqDiff, tupleOf, stepT, stepX, heapR, lensR, Nat.reduceAdd, Nat.reduceLeDiff, g1, g3, r2]
          refine itoa_spec (n := s.n) (hg.trans (k0.trans k1)) sn.1 (by have := sn.2; omega) ?_
          obtain ⟨l1, x, F, q1, q2, q3, q4, q5⟩ := OwnT.push (numT s.n) k1 o3 (by simp)
          simp (maxSteps := 1000000) (disch := omega) only [stepS, reduceIte, Nat.reduceBEq, Nat.reduceEqDiff, tupleOf, stepT, stepX, heapR, lensR, Nat.reduceAdd, Nat.reduceLeDiff, g3, l1, q1]
          refine ⟨_, q2, rfl, ?_⟩
          rw [stepP_10 h3]
          exact q3
        · by_cases h4 : s.kind = 11
          · have lm : ∀ B, sLens B false m = some (ii s.masks.length, B) := fun B => by
              have := Sl.lenB hm B
              exact this
            simp (maxSteps := 1000000) (disch := omega) only [stepS, reduceIte, Nat.reduceBEq, Nat.reduceEqDiff, tupleOf, stepT, stepX, heapR, lensR, Nat.reduceAdd, Nat.reduceLeDiff, g1, g3, r2, lm]
            refine W_loop (fun a' B => ∃ j : Nat, j ≤ s.masks.length ∧ Le B0 B ∧ a' 71 = m ∧ a' 72 = ii s.masks.length ∧ a' 73 = ii j ∧ OwnT B0.length B (a' 3) (stepN s.kind :: (s.masks.take j).map numT)) (fun a' _ => s.masks.length - (iv (a' 73)).toNat) ?_ ?_
            · refine ⟨0, Nat.zero_le _, k1, ?_⟩
              simp (maxSteps := 1000000) (disch := omega) only [stepS, reduceIte, Nat.reduceBEq, Nat.reduceEqDiff, tupleOf, stepT, stepX, heapR, lensR, Nat.reduceAdd, Nat.reduceLeDiff, g1, g3, r2, lm]
              exact ⟨rfl, o3⟩
            · clear g1 g3 o3
              rintro a2 B ⟨j, hj, hle, g7, g8, g9, o3⟩
              obtain ⟨y, g3⟩ : ∃ y, a2 3 = y := ⟨_, rfl⟩
              rw [g3] at o3
              rcases Nat.lt_or_ge j s.masks.length with hlt | hge
              · obtain ⟨w, hw⟩ := get_some hlt
                have hsw := sm2 w (List.mem_of_getElem? hw)
                obtain ⟨p, p1, p2⟩ := ints_atL hm hw
                have p3 := p2 B (k0.trans hle)
                have htk : s.masks.take (j + 1) = s.masks.take j ++ [w] := by rw [List.take_add_one, hw]; rfl
                simp (maxSteps := 1000000) (disch := omega) only [stepS, reduceIte, Nat.reduceBEq, Nat.reduceEqDiff, tupleOf, stepT, stepX, heapR, lensR, Nat.reduceAdd, Nat.reduceLeDiff, g3, g7, g8, g9, p1, p3]
                refine itoa_spec (n := w) (hg.trans (k0.trans hle)) hsw.1 (by have := hsw.2; omega) ?_
                obtain ⟨l1, x, F, q1, q2, q3, q4, q5⟩ := OwnT.push (numT w) (hle) (o3) (by rw [List.length_cons, List.length_map, List.length_take]; omega)
                simp (maxSteps := 1000000) (disch := omega) only [stepS, reduceIte, Nat.reduceBEq, Nat.reduceEqDiff, tupleOf, stepT, stepX, heapR, lensR, Nat.reduceAdd, Nat.reduceLeDiff, g3, g7, g8, g9, l1, q1]
                refine ⟨⟨j + 1, by omega, q2, rfl, ?_⟩, by omega⟩
                rw [htk, List.map_append]
                exact q3
              · rw [List.take_of_length_le (by omega)] at o3
                simp (maxSteps := 1000000) (disch := omega) only [stepS, reduceIte, Nat.reduceBEq, Nat.reduceEqDiff, tupleOf, stepT, stepX, heapR, lensR, Nat.reduceAdd, Nat.reduceLeDiff, g3, g7, g8, g9]
                refine ⟨_, hle, rfl, ?_⟩
                rw [stepP_11 h4]
                exact o3
          · simp (maxSteps := 1000000) (disch := omega) only [stepS, reduceIte, Nat.reduceBEq, Nat.reduceEqDiff, tupleOf, stepT, stepX, heapR, lensR, Nat.reduceAdd, Nat.reduceLeDiff, g1, g3, r2]
            refine ⟨_, k1, rfl, ?_⟩
            rw [stepP_0 h1 h2 h3 h4]
            exact o3
  clear g1 g3 o3 r2
  rintro a B ⟨u, hle, g3, o3⟩
  have hz := stepL_size (s := s) ⟨sk, sn, st1, st2, si1, si2, sm1, sm2⟩
  have hc := stepP_count (s := s) ⟨sk, sn, st1, st2, si1, si2, sm1, sm2⟩
  simp (maxSteps := 1000000) (disch := omega) only [stepS, reduceIte, Nat.reduceBEq, Nat.reduceEqDiff, tupleOf, stepT, stepX, heapR, lensR, Nat.reduceAdd, Nat.reduceLeDiff, g3]
  refine tell_line_spec (OwnT.sl o3) (by rw [List.length_cons]; omega) (by show (stepL s).size ≤ _; omega) ?_
  simp (maxSteps := 1000000) (disch := omega) only [stepS, reduceIte, Nat.reduceBEq, Nat.reduceEqDiff, tupleOf, stepT, stepX, heapR, lensR, Nat.reduceAdd, Nat.reduceLeDiff]
  exact hq _ (k0.trans hle)
end Go.AS.C


namespace Go.AS.C
open Go Go.Proofs
set_option linter.unusedVariables false
set_option linter.unusedSimpArgs false
set_option maxRecDepth 10000

end Go.AS.C


namespace Go.AS.C
open Go Go.Proofs
set_option linter.unusedVariables false
set_option linter.unusedSimpArgs false
set_option maxRecDepth 10000

/-! Replies and faults as lines. -/
end Go.AS.C


namespace Go.AS.C
open Go Go.Proofs
set_option linter.unusedVariables false
set_option linter.unusedSimpArgs false
set_option maxRecDepth 10000

end Go.AS.C


namespace Go.AS.C
open Go Go.Proofs
set_option linter.unusedVariables false
set_option linter.unusedSimpArgs false
set_option maxRecDepth 10000

theorem stateL_len {s : StateV} (h : SmallS s) : (stateL s).length < 2 ^ 50 := by
  obtain ⟨⟨h1, _⟩, ⟨h2, _⟩, ⟨h3, _⟩, ⟨h4, _⟩⟩ := h
  unfold stateL
  simp only [List.length_append, List.length_map]
  omega
theorem stepA_R {A : AH} {x : Value} {s : StepV} (h : StepA A x s) : ∃ r, x = .agg r.toArray ∧ StepR A s r := by
  obtain ⟨t, i, m, rfl, h1, h2, h3⟩ := h
  exact ⟨_, rfl, t, i, m, rfl, h1, h2, h3⟩
theorem range_lt {s : StepV} (h : RangeT s) : s.texts.length < 2 ^ 50 ∧ s.ids.length < 2 ^ 50 ∧ s.masks.length < 2 ^ 50 ∧ (∀ t ∈ s.texts, t.length < 2 ^ 50) ∧ ∀ t ∈ s.ids, t.size < 2 ^ 50 := ⟨h.2.2.2.1, h.2.2.2.2.1, h.2.2.2.2.2.1, h.2.2.2.2.2.2.1, h.2.2.2.2.2.2.2⟩
end Go.AS.C


namespace Go.AS.C
open Go Go.Proofs
set_option linter.unusedVariables false
set_option linter.unusedSimpArgs false
set_option maxRecDepth 10000

/-! Lines that are the same have the same parts. -/
/-- Nothing, or a space first. -/
def Spc (r : List UInt8) : Prop := r = [] ∨ ∃ t, r = 32 :: t
theorem split32 : ∀ {x y r s : List UInt8}, 32 ∉ x → 32 ∉ y → Spc r → Spc s → x ++ r = y ++ s → x = y ∧ r = s
  | [], [], r, s, _, _, _, _, h => ⟨rfl, h⟩
  | [], b :: y, r, s, _, hy, hr, _, h => by
    rcases hr with rfl | ⟨t, rfl⟩
    · cases h
    · injection h with h1 _
      subst h1
      exact absurd (List.mem_cons_self) hy
  | a :: x, [], r, s, hx, _, _, hs, h => by
    rcases hs with rfl | ⟨t, rfl⟩
    · cases h
    · injection h with h1 _
      subst h1
      exact absurd (List.mem_cons_self) hx
  | a :: x, b :: y, r, s, hx, hy, hr, hs, h => by
    injection h with h1 h2
    subst h1
    obtain ⟨e1, e2⟩ := split32 (fun hm => hx (List.mem_cons_of_mem _ hm)) (fun hm => hy (List.mem_cons_of_mem _ hm)) hr hs h2
    exact ⟨by rw [e1], e2⟩
/-- What digits say. -/
def valD (l : List UInt8) : Nat := l.foldl (fun a b => a * 10 + (b.toNat - 48)) 0
theorem dig_nat (d : Nat) (h : d < 10) : (UInt8.ofNat (48 + d)).toNat = 48 + d := by rw [UInt8.toNat_ofNat']; omega
theorem valD_dec (n : Nat) : valD (Lib.decDigits n) = n := by
  induction n using Nat.strongRecOn with
  | _ n ih =>
    rw [Lib.decDigits]
    split
    · rename_i h
      simp only [valD, List.foldl_cons, List.foldl_nil]
      rw [dig_nat n h]; omega
    · rename_i h
      have := ih (n / 10) (by omega)
      unfold valD at this ⊢
      rw [List.foldl_append, this]
      simp only [List.foldl_cons, List.foldl_nil]
      rw [dig_nat (n % 10) (by omega)]; omega
theorem dec_inj {m n : Nat} (h : Lib.decDigits m = Lib.decDigits n) : m = n := by rw [← valD_dec m, h, valD_dec]
theorem dec_mem (n : Nat) : ∀ c ∈ Lib.decDigits n, 48 ≤ c.toNat := by
  induction n using Nat.strongRecOn with
  | _ n ih =>
    intro c hc
    rw [Lib.decDigits] at hc
    split at hc
    · rename_i h
      simp only [List.mem_singleton] at hc
      rw [hc, dig_nat n h]; omega
    · rename_i h
      rw [List.mem_append, List.mem_singleton] at hc
      rcases hc with hc | rfl
      · exact ih _ (by omega) c hc
      · rw [dig_nat _ (by omega)]; omega
theorem itoa_mem {n : Int} : 32 ∉ Lib.itoa n := by
  unfold Lib.itoa
  split
  · intro h
    rcases List.mem_cons.1 h with h | h
    · exact absurd h (by decide)
    · exact absurd (dec_mem _ _ h) (by decide)
  · intro h
    exact absurd (dec_mem _ _ h) (by decide)
theorem itoa_inj {m n : Int} (h : Lib.itoa m = Lib.itoa n) : m = n := by
  have no : ∀ k l : Nat, 45 :: Lib.decDigits k ≠ Lib.decDigits l := fun k l h => by
    have := dec_mem l 45 (by rw [← h]; exact List.mem_cons_self)
    exact absurd this (by decide)
  unfold Lib.itoa at h
  split at h
  · split at h
    · injection h with _ h
      have := dec_inj h
      omega
    · exact absurd h (no _ _)
  · split at h
    · exact absurd h.symm (no _ _)
    · have := dec_inj h
      omega
theorem hexC_inj : ∀ i j : Fin 16, hexC i.val = hexC j.val → i = j := by decide +kernel
theorem hexC_mem : ∀ i : Fin 16, hexC i.val ≠ 32 := by decide +kernel
theorem hexD_inj {a b : UInt8} (h : hexD a = hexD b) : a = b := by
  unfold hexD at h
  have ha := a.toNat_lt
  have hb := b.toNat_lt
  injection h with h1 h2
  injection h2 with h2 _
  have e1 := hexC_inj ⟨a.toNat / 16, by omega⟩ ⟨b.toNat / 16, by omega⟩ h1
  have e2 := hexC_inj ⟨a.toNat % 16, by omega⟩ ⟨b.toNat % 16, by omega⟩ h2
  have f1 : a.toNat / 16 = b.toNat / 16 := congrArg Fin.val e1
  have f2 : a.toNat % 16 = b.toNat % 16 := congrArg Fin.val e2
  exact UInt8.toNat_inj.1 (by omega)
theorem hexP_inj : ∀ {a b : List UInt8}, hexP a = hexP b → a = b
  | [], [], _ => rfl
  | [], y :: b, h => by cases h
  | x :: a, [], h => by cases h
  | x :: a, y :: b, h => by
    have e : ∀ (z : UInt8) (l : List UInt8), hexP (z :: l) = hexC (z.toNat / 16) :: hexC (z.toNat % 16) :: hexP l := fun z l => rfl
    rw [e, e] at h
    injection h with h1 h
    injection h with h2 h3
    rw [hexP_inj h3, hexD_inj (a := x) (b := y) (by unfold hexD; rw [h1, h2])]
theorem hexP_mem (l : List UInt8) : 32 ∉ hexP l := by
  intro h
  unfold hexP at h
  rw [List.mem_flatMap] at h
  obtain ⟨c, _, hc⟩ := h
  have hcl := c.toNat_lt
  unfold hexD at hc
  simp only [List.mem_cons, List.not_mem_nil, or_false] at hc
  rcases hc with h | h
  · exact hexC_mem ⟨c.toNat / 16, by omega⟩ h.symm
  · exact hexC_mem ⟨c.toNat % 16, by omega⟩ h.symm
theorem hexT_mem (s : ByteArray) : 32 ∉ (hexT s).data.toList := by
  intro h
  rcases List.mem_cons.1 h with h | h
  · exact absurd h (by decide)
  · exact hexP_mem _ h
theorem bl_inj {a b : ByteArray} (h : a.data.toList = b.data.toList) : a = b := ByteArray.ext (Array.toList_inj.1 h)
theorem hexT_inj {a b : ByteArray} (h : (hexT a).data.toList = (hexT b).data.toList) : a = b := by
  unfold hexT at h
  simp only [List.cons.injEq, true_and] at h
  exact bl_inj (hexP_inj h)
theorem numT_inj {m n : Int} (h : numT m = numT n) : m = n := by
  unfold numT at h
  injection h with h
  exact itoa_inj (by simpa using h)
theorem hexT_inj' {a b : ByteArray} (h : hexT a = hexT b) : a = b := hexT_inj (by rw [h])
theorem numT_mem (n : Int) : 32 ∉ (numT n).data.toList := by
  unfold numT
  simpa using itoa_mem
/-- Parts without blanks, each behind a blank. -/
theorem spc_tails (l : List ByteArray) : Spc (l.flatMap tail1) := by
  cases l with
  | nil => exact .inl rfl
  | cons x l => exact .inr ⟨_, rfl⟩
theorem tails_inj : ∀ {l m : List ByteArray}, (∀ t ∈ l, 32 ∉ t.data.toList) → (∀ t ∈ m, 32 ∉ t.data.toList) → l.flatMap tail1 = m.flatMap tail1 → l = m
  | [], [], _, _, _ => rfl
  | [], y :: m, _, _, h => by rw [List.flatMap_cons] at h; cases h
  | x :: l, [], _, _, h => by rw [List.flatMap_cons] at h; cases h
  | x :: l, y :: m, hl, hm, h => by
    rw [List.flatMap_cons, List.flatMap_cons] at h
    unfold tail1 at h
    rw [List.cons_append, List.cons_append] at h
    injection h with _ h
    obtain ⟨h1, h2⟩ := split32 (hl x (by simp)) (hm y (by simp)) (spc_tails l) (spc_tails m) h
    rw [bl_inj h1, tails_inj (fun t ht => hl t (by simp [ht])) (fun t ht => hm t (by simp [ht])) h2]
theorem line_inj {x y : ByteArray} {l m : List ByteArray} (hx : 32 ∉ x.data.toList) (hy : 32 ∉ y.data.toList) (hl : ∀ t ∈ l, 32 ∉ t.data.toList) (hm : ∀ t ∈ m, 32 ∉ t.data.toList) (h : lineT (x :: l) = lineT (y :: m)) : x = y ∧ l = m := by
  rw [lineT_cons, lineT_cons] at h
  injection h with h
  have h0 : x.data.toList ++ l.flatMap tail1 = y.data.toList ++ m.flatMap tail1 := by simpa using h
  obtain ⟨h1, h2⟩ := split32 hx hy (spc_tails l) (spc_tails m) h0
  exact ⟨bl_inj h1, tails_inj hl hm h2⟩
theorem map_inj_of {α β : Type} {f : α → β} : ∀ {l m : List α}, (∀ a ∈ l, ∀ b ∈ m, f a = f b → a = b) → l.map f = m.map f → l = m
  | [], [], _, _ => rfl
  | [], y :: m, _, h => by cases h
  | x :: l, [], _, h => by cases h
  | x :: l, y :: m, hf, h => by
    rw [List.map_cons, List.map_cons] at h
    injection h with h1 h2
    rw [hf x (by simp) y (by simp) h1, map_inj_of (fun a ha b hb => hf a (by simp [ha]) b (by simp [hb])) h2]
end Go.AS.C


namespace Go.AS.C
open Go Go.Proofs
set_option linter.unusedVariables false
set_option linter.unusedSimpArgs false
set_option maxRecDepth 10000

/-! Plainly: two states told the same are the same; two steps too. -/
def NoB (s : ByteArray) : Prop := 32 ∉ s.data.toList
def NoBS (s : StateV) : Prop := (∀ w ∈ s.counts, NoB w.name) ∧ (∀ w ∈ s.members, NoB w.name) ∧ (∀ w ∈ s.values, NoB w.name) ∧ ∀ w ∈ s.lines, NoB w.name
theorem lineC_inj {a b : CountV} (ha : NoB a.name) (hb : NoB b.name) (h : lineC a = lineC b) : a = b := by
  unfold lineC at h
  have := line_inj (x := countT) (y := countT) (l := [a.name, numT a.n]) (m := [b.name, numT b.n]) (by decide) (by decide) (by
    intro t ht
    simp only [List.mem_cons, List.not_mem_nil, or_false] at ht
    rcases ht with rfl | rfl
    · exact ha
    · exact numT_mem _) (by
    intro t ht
    simp only [List.mem_cons, List.not_mem_nil, or_false] at ht
    rcases ht with rfl | rfl
    · exact hb
    · exact numT_mem _) h
  obtain ⟨_, h⟩ := this
  injection h with h1 h2
  injection h2 with h2 _
  cases a; cases b
  simp only at h1 h2
  rw [h1, numT_inj h2]
theorem lineW_inj {what : ByteArray} (hw : NoB what) {a b : WordV} (ha : NoB a.name) (hb : NoB b.name) (h : lineW what a = lineW what b) : a = b := by
  unfold lineW at h
  have := line_inj (x := what) (y := what) (l := [a.name, hexT a.text]) (m := [b.name, hexT b.text]) hw hw (by
    intro t ht
    simp only [List.mem_cons, List.not_mem_nil, or_false] at ht
    rcases ht with rfl | rfl
    · exact ha
    · exact hexT_mem _) (by
    intro t ht
    simp only [List.mem_cons, List.not_mem_nil, or_false] at ht
    rcases ht with rfl | rfl
    · exact hb
    · exact hexT_mem _) h
  obtain ⟨_, h⟩ := this
  injection h with h1 h2
  injection h2 with h2 _
  cases a; cases b
  simp only at h1 h2
  rw [h1, hexT_inj' h2]
/-- A line's first letter. -/
def hd (t : ByteArray) : Option UInt8 := t.data.toList.head?
theorem hd_C (w : CountV) : hd (lineC w) = some 99 := by
  unfold lineC hd; rw [lineT_cons]; rfl
theorem hd_W (c : UInt8) (r : List UInt8) (w : WordV) : hd (lineW ⟨(c :: r).toArray⟩ w) = some c := by
  unfold lineW hd; rw [lineT_cons]; rfl
theorem filter_all {α : Type} {p : α → Bool} {l : List α} (h : ∀ a ∈ l, p a = true) : l.filter p = l := List.filter_eq_self.2 h
theorem filter_none {α : Type} {p : α → Bool} {l : List α} (h : ∀ a ∈ l, p a = false) : l.filter p = [] := by
  rw [List.filter_eq_nil_iff]
  intro a ha
  rw [h a ha]
  decide
theorem stateL_inj {a b : StateV} (ha : NoBS a) (hb : NoBS b) (h : stateL a = stateL b) : a = b := by
  have fc : ∀ (l : List CountV) (c : UInt8), (l.map lineC).filter (fun t => hd t == some c) = if c = 99 then l.map lineC else [] := by
    intro l c
    by_cases hn : c = 99
    · rw [if_pos hn]
      refine filter_all fun t ht => ?_
      rw [List.mem_map] at ht
      obtain ⟨w, _, rfl⟩ := ht
      rw [hn, hd_C]; rfl
    · rw [if_neg hn]
      refine filter_none fun t ht => ?_
      rw [List.mem_map] at ht
      obtain ⟨w, _, rfl⟩ := ht
      rw [hd_C, beq_eq_false_iff_ne]
      intro e
      injection e with e
      exact hn e.symm
  have fw : ∀ (d : UInt8) (r : List UInt8) (l : List WordV) (c : UInt8), (l.map (lineW ⟨(d :: r).toArray⟩)).filter (fun t => hd t == some c) = if c = d then l.map (lineW ⟨(d :: r).toArray⟩) else [] := by
    intro d r l c
    by_cases hn : c = d
    · rw [if_pos hn]
      refine filter_all fun t ht => ?_
      rw [List.mem_map] at ht
      obtain ⟨w, _, rfl⟩ := ht
      rw [hd_W, hn]; simp
    · rw [if_neg hn]
      refine filter_none fun t ht => ?_
      rw [List.mem_map] at ht
      obtain ⟨w, _, rfl⟩ := ht
      rw [hd_W, beq_eq_false_iff_ne]
      intro e
      injection e with e
      exact hn e.symm
  have em : memberT = ⟨(109 :: [101, 109, 98, 101, 114]).toArray⟩ := rfl
  have ev : valueT = ⟨(118 :: [97, 108, 117, 101]).toArray⟩ := rfl
  have el : linesT = ⟨(108 :: [105, 110, 101]).toArray⟩ := rfl
  have key : ∀ (s : StateV) (c : UInt8), (stateL s).filter (fun t => hd t == some c) = (if c = 99 then s.counts.map lineC else []) ++ (if c = 109 then s.members.map (lineW memberT) else []) ++ (if c = 118 then s.values.map (lineW valueT) else []) ++ (if c = 108 then s.lines.map (lineW linesT) else []) := by
    intro s c
    unfold stateL
    rw [List.filter_append, List.filter_append, List.filter_append, fc, em, fw, ev, fw, el, fw]
  have h1 := key a 99
  have h2 := key a 109
  have h3 := key a 118
  have h4 := key a 108
  rw [h, key b 99] at h1
  rw [h, key b 109] at h2
  rw [h, key b 118] at h3
  rw [h, key b 108] at h4
  have d1 : (99 : UInt8) ≠ 109 := by decide
  have d2 : (99 : UInt8) ≠ 118 := by decide
  have d3 : (99 : UInt8) ≠ 108 := by decide
  have d4 : (109 : UInt8) ≠ 118 := by decide
  have d5 : (109 : UInt8) ≠ 108 := by decide
  have d6 : (118 : UInt8) ≠ 108 := by decide
  simp only [if_true, d1, d2, d3, d4, d5, d6, d1.symm, d2.symm, d3.symm, d4.symm, d5.symm, d6.symm, if_false, List.append_nil, List.nil_append] at h1 h2 h3 h4
  have e1 := map_inj_of (fun x hx y hy => lineC_inj (hb.1 x hx) (ha.1 y hy)) h1
  have e2 := map_inj_of (fun x hx y hy => lineW_inj (what := memberT) (by unfold NoB; decide) (hb.2.1 x hx) (ha.2.1 y hy)) h2
  have e3 := map_inj_of (fun x hx y hy => lineW_inj (what := valueT) (by unfold NoB; decide) (hb.2.2.1 x hx) (ha.2.2.1 y hy)) h3
  have e4 := map_inj_of (fun x hx y hy => lineW_inj (what := linesT) (by unfold NoB; decide) (hb.2.2.2 x hx) (ha.2.2.2 y hy)) h4
  cases a; cases b
  simp only at e1 e2 e3 e4
  rw [e1, e2, e3, e4]
/-- What a step of a kind may have. -/
def MayT (s : StepV) : Prop := (1 ≤ s.kind ∧ s.kind ≤ 12) ∧ (s.kind ≠ 1 → s.texts = []) ∧ (¬ (s.kind = 2 ∨ s.kind = 4 ∨ s.kind = 9) → s.ids = []) ∧ (s.kind ≠ 10 → s.n = 0) ∧ (s.kind ≠ 11 → s.masks = [])
theorem stepN_inj {a b : Int} (ha : 1 ≤ a ∧ a ≤ 12) (hb : 1 ≤ b ∧ b ≤ 12) (h : stepN a = stepN b) : a = b := by
  obtain ⟨k, rfl⟩ : ∃ k : Nat, a = k := ⟨a.toNat, by omega⟩
  obtain ⟨m, rfl⟩ : ∃ m : Nat, b = m := ⟨b.toNat, by omega⟩
  have : ∀ k m : Fin 13, stepN ((k.val : Nat) : Int) = stepN ((m.val : Nat) : Int) → k = m := by decide +kernel
  have := this ⟨k, by omega⟩ ⟨m, by omega⟩ h
  injection this with e
  rw [e]
theorem stepN_mem (a : Int) : NoB (stepN a) := by
  by_cases h : a < 0 ∨ 13 ≤ a
  · rw [stepN_out h]; unfold NoB; decide
  · obtain ⟨k, rfl⟩ : ∃ k : Nat, a = k := ⟨a.toNat, by omega⟩
    have : ∀ k : Fin 13, 32 ∉ (stepN ((k.val : Nat) : Int)).data.toList := by decide +kernel
    exact this ⟨k, by omega⟩
theorem stepP_mem (s : StepV) : ∀ t ∈ stepP s, 32 ∉ t.data.toList := by
  intro t ht
  unfold stepP at ht
  split at ht
  · rw [List.mem_map] at ht
    obtain ⟨w, _, rfl⟩ := ht
    exact hexT_mem _
  · split at ht
    · rw [List.mem_map] at ht
      obtain ⟨w, _, rfl⟩ := ht
      exact hexT_mem _
    · split at ht
      · rw [List.mem_singleton] at ht
        subst ht
        exact numT_mem _
      · split at ht
        · rw [List.mem_map] at ht
          obtain ⟨w, _, rfl⟩ := ht
          exact numT_mem _
        · cases ht
theorem stepL_inj {a b : StepV} (ha : MayT a) (hb : MayT b) (h : stepL a = stepL b) : a = b := by
  unfold stepL at h
  obtain ⟨h1, h2⟩ := line_inj (stepN_mem _) (stepN_mem _) (stepP_mem a) (stepP_mem b) h
  obtain ⟨ak, at', ai, an, am⟩ := ha
  obtain ⟨bk, bt, bi, bn, bm⟩ := hb
  have hk := stepN_inj ak bk h1
  have et : a.texts = b.texts := by
    by_cases c : a.kind = 1
    · rw [stepP_1 c, stepP_1 (hk ▸ c)] at h2
      refine map_inj_of (fun x _ y _ e => ?_) h2
      have e2 := hexT_inj' e
      injection e2 with e2
      simpa using e2
    · rw [at' c, bt (hk ▸ c)]
  have ei : a.ids = b.ids := by
    by_cases c : a.kind = 2 ∨ a.kind = 4 ∨ a.kind = 9
    · rw [stepP_2 c, stepP_2 (hk ▸ c)] at h2
      exact map_inj_of (fun x _ y _ e => hexT_inj' e) h2
    · rw [ai c, bi (hk ▸ c)]
  have en : a.n = b.n := by
    by_cases c : a.kind = 10
    · rw [stepP_10 c, stepP_10 (hk ▸ c)] at h2
      injection h2 with h2 _
      exact numT_inj h2
    · rw [an c, bn (hk ▸ c)]
  have em : a.masks = b.masks := by
    by_cases c : a.kind = 11
    · rw [stepP_11 c, stepP_11 (hk ▸ c)] at h2
      exact map_inj_of (fun x _ y _ e => numT_inj e) h2
    · rw [am c, bm (hk ▸ c)]
  cases a; cases b
  simp only at hk et ei en em
  rw [hk, et, ei, en, em]
end Go.AS.C


namespace Go.AS.C
open Go Go.Proofs
set_option linter.unusedVariables false
set_option linter.unusedSimpArgs false
set_option maxRecDepth 10000

theorem take_eq_succ {α : Type} {xs ys : List α} {k : Nat} {x y : α} (hx : xs[k]? = some x) (hy : ys[k]? = some y) : xs.take (k + 1) = ys.take (k + 1) ↔ xs.take k = ys.take k ∧ x = y := by
  rw [List.take_add_one, List.take_add_one, hx, hy]
  constructor
  · intro h
    have := List.append_inj' h rfl
    exact ⟨this.1, by simpa using this.2⟩
  · rintro ⟨h1, rfl⟩; rw [h1]
theorem str_inj {a b : List UInt8} : ((⟨a.toArray⟩ : ByteArray) = ⟨b.toArray⟩) ↔ a = b := by
  constructor
  · intro h; injection h with h; simpa using h
  · rintro rfl; rfl
theorem ref01_Bytes_spec {A : AH} {u v : Value} {xs ys : List (List UInt8)} {Q : Value → AH → Prop} (hu : Byts A u xs) (hv : Byts A v ys) (hl : xs.length < 2 ^ 60) (hl2 : ys.length < 2 ^ 60) (hq : Q (.bool (decide (xs = ys))) A) : ACalls 3 Tryd.prog chantryref01_Bytes [u, v] Q A := by
  refine ACalls.of_fits mixed fits_chantryref01_Bytes rfl ?_
  unfold ic_chantryref01_Bytes
  have i0 : initA [u, v] 0 = u := rfl
  have i1 : initA [u, v] 1 = v := rfl
  generalize initA [u, v] = a at i0 i1
  by_cases h : xs.length = ys.length
  · simp (maxSteps := 1000000) (disch := omega) only [stepS, reduceIte, Nat.reduceBEq, Nat.reduceEqDiff, tupleOf, stepT, i0, i1, hu.len, hv.len]
    refine W_loop (fun a' B => B = A ∧ ∃ k : Nat, k ≤ xs.length ∧ a' 0 = u ∧ a' 1 = v ∧ a' 5 = ii k ∧ xs.take k = ys.take k) (fun a' _ => xs.length - (iv (a' 5)).toNat) ?_ ?_
    · refine ⟨rfl, 0, by omega, ?_⟩
      simp (maxSteps := 1000000) (disch := omega) only [stepS, reduceIte, Nat.reduceBEq, Nat.reduceEqDiff, tupleOf, stepT, i0, i1]
      exact ⟨rfl, rfl⟩
    · rintro a2 B ⟨rfl, k, hk, g0, g1, g5, he⟩
      rcases Nat.lt_or_ge k xs.length with hlt | hge
      · obtain ⟨x, hx⟩ : ∃ x, xs[k]? = some x := ⟨_, List.getElem?_eq_getElem hlt⟩
        obtain ⟨y, hy⟩ : ∃ y, ys[k]? = some y := ⟨_, List.getElem?_eq_getElem (by omega)⟩
        obtain ⟨p, x', p1, p2, p3⟩ := hu.at1 hx
        obtain ⟨q, y', q1, q2, q3⟩ := hv.at1 hy
        by_cases hxy : x = y
        · subst hxy
          simp (maxSteps := 1000000) (disch := omega) only [stepS, reduceIte, Nat.reduceBEq, Nat.reduceEqDiff, tupleOf, stepT, g0, g1, g5, hu.len, hv.len, p1, p2, p3.str, q1, q2, q3.str]
          exact ⟨⟨k + 1, by omega, rfl, (take_eq_succ hx hy).2 ⟨he, rfl⟩⟩, by omega⟩
        · have hne : decide ((⟨x.toArray⟩ : ByteArray) ≠ ⟨y.toArray⟩) = true := by simpa [str_inj] using hxy
          simp (maxSteps := 1000000) (disch := omega) only [stepS, reduceIte, Nat.reduceBEq, Nat.reduceEqDiff, tupleOf, stepT, g0, g1, g5, hu.len, hv.len, p1, p2, p3.str, q1, q2, q3.str, hne]
          have hf : decide (xs = ys) = false := by
            apply decide_eq_false
            rintro rfl
            rw [hx] at hy
            exact hxy (Option.some.inj hy)
          rw [hf] at hq
          exact hq
      · simp (maxSteps := 1000000) (disch := omega) only [stepS, reduceIte, Nat.reduceBEq, Nat.reduceEqDiff, tupleOf, stepT, g0, g1, g5, hu.len, hv.len]
        rw [List.take_of_length_le hge, List.take_of_length_le (by omega)] at he
        have hf : decide (xs = ys) = true := decide_eq_true he
        rw [hf] at hq
        exact hq
  · simp (maxSteps := 1000000) (disch := omega) only [stepS, reduceIte, Nat.reduceBEq, Nat.reduceEqDiff, tupleOf, stepT, i0, i1, hu.len, hv.len]
    have hf : decide (xs = ys) = false := decide_eq_false (fun e => h (by rw [e]))
    rw [hf] at hq
    exact hq
end Go.AS.C


namespace Go.AS.C
open Go Go.Proofs
set_option linter.unusedVariables false
set_option linter.unusedSimpArgs false
set_option maxRecDepth 10000

/-! Whether two lists are the same. -/
theorem count_eq {a b : CountV} : (countE a = countE b) ↔ a = b := by
  cases a; cases b
  simp [countE]
theorem word_eq {a b : WordV} : (wordE a = wordE b) ↔ a = b := by
  cases a; cases b
  simp [wordE]
theorem le_max {n : Nat} (h : n ≤ 200) : n ≤ maxLen := Nat.le_trans h (by decide)
theorem eqC {A : AH} {a b : CountV} (ha : SmallC a) (hb : SmallC b) : (a = b → sEqagg A true (Tryd.prog.keyLits 8 48) (.agg #[.string a.name, ii a.n]) (.agg #[.string b.name, ii b.n]) = some (.bool false, A)) ∧ (a ≠ b → sEqagg A true (Tryd.prog.keyLits 8 48) (.agg #[.string a.name, ii a.n]) (.agg #[.string b.name, ii b.n]) = some (.bool true, A)) :=
  ⟨fun h => eqagg_flat (b := true) (ks := [.str, .int .i64]) (xs := countE a) (ys := countE b) (by kernel_rfl) ⟨le_max (by have := ha.1; omega), FK.hasI ha.2, trivial⟩ ⟨le_max (by have := hb.1; omega), FK.hasI hb.2, trivial⟩ ⟨fun _ => count_eq.2 h, fun _ => rfl⟩,
   fun h => eqagg_flat (b := false) (ks := [.str, .int .i64]) (xs := countE a) (ys := countE b) (by kernel_rfl) ⟨le_max (by have := ha.1; omega), FK.hasI ha.2, trivial⟩ ⟨le_max (by have := hb.1; omega), FK.hasI hb.2, trivial⟩ ⟨(fun h => by cases h), fun e => absurd (count_eq.1 e) h⟩⟩
theorem eqW {A : AH} {a b : WordV} (ha : SmallW a) (hb : SmallW b) : (a = b → sEqagg A true (Tryd.prog.keyLits 8 50) (.agg #[.string a.name, .string a.text]) (.agg #[.string b.name, .string b.text]) = some (.bool false, A)) ∧ (a ≠ b → sEqagg A true (Tryd.prog.keyLits 8 50) (.agg #[.string a.name, .string a.text]) (.agg #[.string b.name, .string b.text]) = some (.bool true, A)) :=
  ⟨fun h => eqagg_flat (b := true) (ks := [.str, .str]) (xs := wordE a) (ys := wordE b) (by kernel_rfl) ⟨le_max (by have := ha.1; omega), le_max ha.2, trivial⟩ ⟨le_max (by have := hb.1; omega), le_max hb.2, trivial⟩ ⟨fun _ => word_eq.2 h, fun _ => rfl⟩,
   fun h => eqagg_flat (b := false) (ks := [.str, .str]) (xs := wordE a) (ys := wordE b) (by kernel_rfl) ⟨le_max (by have := ha.1; omega), le_max ha.2, trivial⟩ ⟨le_max (by have := hb.1; omega), le_max hb.2, trivial⟩ ⟨(fun h => by cases h), fun e => absurd (word_eq.1 e) h⟩⟩
theorem ref19_Same_spec {A : AH} {v w : Value} {l m : List CountV} {Q : Value → AH → Prop} (hv : CountsA A v l) (hw : CountsA A w m) (rv : ∀ c ∈ l, SmallC c) (rw' : ∀ c ∈ m, SmallC c) (hl : l.length < 2 ^ 50) (hm : m.length < 2 ^ 50) (hq : ∀ b : Bool, (b = true ↔ l = m) → Q (.bool b) A) : ACalls 3 Tryd.prog chantryref19_Same [v, w] Q A := by
  refine ACalls.of_fits mixed fits_chantryref19_Same rfl ?_
  unfold ic_chantryref19_Same
  have i0 : initA [v, w] 0 = v := rfl
  have i1 : initA [v, w] 1 = w := rfl
  generalize initA [v, w] = a at i0 i1
  have hvl := hv.len
  have hwl := hw.len
  by_cases hn : l.length = m.length
  · simp (maxSteps := 1000000) (disch := omega) only [stepS, reduceIte, Nat.reduceBEq, Nat.reduceEqDiff, tupleOf, stepT, i0, i1, hvl, hwl]
    refine W_loop (fun a' B => B = A ∧ ∃ k : Nat, k ≤ l.length ∧ l.take k = m.take k ∧ a' 0 = v ∧ a' 1 = w ∧ a' 5 = ii k) (fun a' _ => l.length - (iv (a' 5)).toNat) ?_ ?_
    · refine ⟨rfl, 0, by omega, rfl, ?_⟩
      simp (maxSteps := 1000000) (disch := omega) only [stepS, reduceIte, Nat.reduceBEq, Nat.reduceEqDiff, tupleOf, stepT, i0, i1]
      (all_goals (and_intros <;> first | rfl | assumption | (push_cast; rfl) | (congr 1; omega) | omega | (simp; done)))
    · rintro a2 B ⟨rfl, k, hk, hn2, g0, g1, g5⟩
      rcases Nat.lt_or_ge k l.length with hlt | hge
      · obtain ⟨s, hs⟩ := get_some hlt
        obtain ⟨t, ht⟩ := get_some (l := m) (k := k) (by omega)
        obtain ⟨p, p1, p2⟩ := hv.at hs
        have p3 := p2 B (.refl _)
        obtain ⟨q, q1, q2⟩ := hw.at ht
        have q3 := q2 B (.refl _)
        by_cases hst : s = t
        · have hd := (eqC (A := B) (rv s (List.mem_of_getElem? hs)) (rw' t (List.mem_of_getElem? ht))).1 hst
          simp (maxSteps := 1000000) (disch := omega) only [stepS, reduceIte, Nat.reduceBEq, Nat.reduceEqDiff, tupleOf, stepT, g0, g1, g5, hvl, hwl, p1, p3, q1, q3, hd]
          refine ⟨⟨k + 1, by omega, ?_, rfl⟩, by omega⟩
          rw [List.take_add_one, List.take_add_one, hs, ht, hn2, hst]
        · have hd := (eqC (A := B) (rv s (List.mem_of_getElem? hs)) (rw' t (List.mem_of_getElem? ht))).2 hst
          simp (maxSteps := 1000000) (disch := omega) only [stepS, reduceIte, Nat.reduceBEq, Nat.reduceEqDiff, tupleOf, stepT, g0, g1, g5, hvl, hwl, p1, p3, q1, q3, hd]
          exact hq false ⟨(fun h => by cases h), fun h => by subst h; rw [hs] at ht; injection ht with ht; exact absurd ht hst⟩
      · rw [List.take_of_length_le hge, List.take_of_length_le (by omega)] at hn2
        simp (maxSteps := 1000000) (disch := omega) only [stepS, reduceIte, Nat.reduceBEq, Nat.reduceEqDiff, tupleOf, stepT, g0, g1, g5, hvl]
        exact hq true ⟨fun _ => hn2, fun _ => rfl⟩
  · simp (maxSteps := 1000000) (disch := omega) only [stepS, reduceIte, Nat.reduceBEq, Nat.reduceEqDiff, tupleOf, stepT, i0, i1, hvl, hwl]
    exact hq false ⟨(fun h => by cases h), fun h => absurd (by rw [h]) hn⟩
theorem ref20_SameWords_spec {A : AH} {v w : Value} {l m : List WordV} {Q : Value → AH → Prop} (hv : WordsA A v l) (hw : WordsA A w m) (rv : ∀ c ∈ l, SmallW c) (rw' : ∀ c ∈ m, SmallW c) (hl : l.length < 2 ^ 50) (hm : m.length < 2 ^ 50) (hq : ∀ b : Bool, (b = true ↔ l = m) → Q (.bool b) A) : ACalls 3 Tryd.prog chantryref20_SameWords [v, w] Q A := by
  refine ACalls.of_fits mixed fits_chantryref20_SameWords rfl ?_
  unfold ic_chantryref20_SameWords
  have i0 : initA [v, w] 0 = v := rfl
  have i1 : initA [v, w] 1 = w := rfl
  generalize initA [v, w] = a at i0 i1
  have hvl := hv.len
  have hwl := hw.len
  by_cases hn : l.length = m.length
  · simp (maxSteps := 1000000) (disch := omega) only [stepS, reduceIte, Nat.reduceBEq, Nat.reduceEqDiff, tupleOf, stepT, i0, i1, hvl, hwl]
    refine W_loop (fun a' B => B = A ∧ ∃ k : Nat, k ≤ l.length ∧ l.take k = m.take k ∧ a' 0 = v ∧ a' 1 = w ∧ a' 5 = ii k) (fun a' _ => l.length - (iv (a' 5)).toNat) ?_ ?_
    · refine ⟨rfl, 0, by omega, rfl, ?_⟩
      simp (maxSteps := 1000000) (disch := omega) only [stepS, reduceIte, Nat.reduceBEq, Nat.reduceEqDiff, tupleOf, stepT, i0, i1]
      (all_goals (and_intros <;> first | rfl | assumption | (push_cast; rfl) | (congr 1; omega) | omega | (simp; done)))
    · rintro a2 B ⟨rfl, k, hk, hn2, g0, g1, g5⟩
      rcases Nat.lt_or_ge k l.length with hlt | hge
      · obtain ⟨s, hs⟩ := get_some hlt
        obtain ⟨t, ht⟩ := get_some (l := m) (k := k) (by omega)
        obtain ⟨p, p1, p2⟩ := hv.at hs
        have p3 := p2 B (.refl _)
        obtain ⟨q, q1, q2⟩ := hw.at ht
        have q3 := q2 B (.refl _)
        by_cases hst : s = t
        · have hd := (eqW (A := B) (rv s (List.mem_of_getElem? hs)) (rw' t (List.mem_of_getElem? ht))).1 hst
          simp (maxSteps := 1000000) (disch := omega) only [stepS, reduceIte, Nat.reduceBEq, Nat.reduceEqDiff, tupleOf, stepT, g0, g1, g5, hvl, hwl, p1, p3, q1, q3, hd]
          refine ⟨⟨k + 1, by omega, ?_, rfl⟩, by omega⟩
          rw [List.take_add_one, List.take_add_one, hs, ht, hn2, hst]
        · have hd := (eqW (A := B) (rv s (List.mem_of_getElem? hs)) (rw' t (List.mem_of_getElem? ht))).2 hst
          simp (maxSteps := 1000000) (disch := omega) only [stepS, reduceIte, Nat.reduceBEq, Nat.reduceEqDiff, tupleOf, stepT, g0, g1, g5, hvl, hwl, p1, p3, q1, q3, hd]
          exact hq false ⟨(fun h => by cases h), fun h => by subst h; rw [hs] at ht; injection ht with ht; exact absurd ht hst⟩
      · rw [List.take_of_length_le hge, List.take_of_length_le (by omega)] at hn2
        simp (maxSteps := 1000000) (disch := omega) only [stepS, reduceIte, Nat.reduceBEq, Nat.reduceEqDiff, tupleOf, stepT, g0, g1, g5, hvl]
        exact hq true ⟨fun _ => hn2, fun _ => rfl⟩
  · simp (maxSteps := 1000000) (disch := omega) only [stepS, reduceIte, Nat.reduceBEq, Nat.reduceEqDiff, tupleOf, stepT, i0, i1, hvl, hwl]
    exact hq false ⟨(fun h => by cases h), fun h => absurd (by rw [h]) hn⟩
theorem ref01_Ints_spec {A : AH} {v w : Value} {l m : List Int} {Q : Value → AH → Prop} (hv : SlI A .i64 v l) (hw : SlI A .i64 w m) (hl : l.length < 2 ^ 50) (hm : m.length < 2 ^ 50) (hq : ∀ b : Bool, (b = true ↔ l = m) → Q (.bool b) A) : ACalls 3 Tryd.prog chantryref01_Ints [v, w] Q A := by
  refine ACalls.of_fits mixed fits_chantryref01_Ints rfl ?_
  unfold ic_chantryref01_Ints
  have i0 : initA [v, w] 0 = v := rfl
  have i1 : initA [v, w] 1 = w := rfl
  generalize initA [v, w] = a at i0 i1
  have hvl := (Sl.lenB hv : ∀ B, sLens B false v = some (ii l.length, B))
  have hwl := (Sl.lenB hw : ∀ B, sLens B false w = some (ii m.length, B))
  by_cases hn : l.length = m.length
  · simp (maxSteps := 1000000) (disch := omega) only [stepS, reduceIte, Nat.reduceBEq, Nat.reduceEqDiff, tupleOf, stepT, i0, i1, hvl, hwl]
    refine W_loop (fun a' B => B = A ∧ ∃ k : Nat, k ≤ l.length ∧ l.take k = m.take k ∧ a' 0 = v ∧ a' 1 = w ∧ a' 5 = ii k) (fun a' _ => l.length - (iv (a' 5)).toNat) ?_ ?_
    · refine ⟨rfl, 0, by omega, rfl, ?_⟩
      simp (maxSteps := 1000000) (disch := omega) only [stepS, reduceIte, Nat.reduceBEq, Nat.reduceEqDiff, tupleOf, stepT, i0, i1]
      (all_goals (and_intros <;> first | rfl | assumption | (push_cast; rfl) | (congr 1; omega) | omega | (simp; done)))
    · rintro a2 B ⟨rfl, k, hk, hn2, g0, g1, g5⟩
      rcases Nat.lt_or_ge k l.length with hlt | hge
      · obtain ⟨s, hs⟩ := get_some hlt
        obtain ⟨t, ht⟩ := get_some (l := m) (k := k) (by omega)
        obtain ⟨p, p1, p2⟩ := ints_atL hv hs
        have p3 := p2 B (.refl _)
        obtain ⟨q, q1, q2⟩ := ints_atL hw ht
        have q3 := q2 B (.refl _)
        by_cases hst : s = t
        · have hd : decide (s ≠ t) = false := decide_eq_false (fun h => h hst)
          simp (maxSteps := 1000000) (disch := omega) only [stepS, reduceIte, Nat.reduceBEq, Nat.reduceEqDiff, tupleOf, stepT, g0, g1, g5, hvl, hwl, p1, p3, q1, q3, hd]
          refine ⟨⟨k + 1, by omega, ?_, rfl⟩, by omega⟩
          rw [List.take_add_one, List.take_add_one, hs, ht, hn2, hst]
        · have hd : decide (s ≠ t) = true := decide_eq_true hst
          simp (maxSteps := 1000000) (disch := omega) only [stepS, reduceIte, Nat.reduceBEq, Nat.reduceEqDiff, tupleOf, stepT, g0, g1, g5, hvl, hwl, p1, p3, q1, q3, hd]
          exact hq false ⟨(fun h => by cases h), fun h => by subst h; rw [hs] at ht; injection ht with ht; exact absurd ht hst⟩
      · rw [List.take_of_length_le hge, List.take_of_length_le (by omega)] at hn2
        simp (maxSteps := 1000000) (disch := omega) only [stepS, reduceIte, Nat.reduceBEq, Nat.reduceEqDiff, tupleOf, stepT, g0, g1, g5, hvl]
        exact hq true ⟨fun _ => hn2, fun _ => rfl⟩
  · simp (maxSteps := 1000000) (disch := omega) only [stepS, reduceIte, Nat.reduceBEq, Nat.reduceEqDiff, tupleOf, stepT, i0, i1, hvl, hwl]
    exact hq false ⟨(fun h => by cases h), fun h => absurd (by rw [h]) hn⟩
theorem ref23_Same_spec {A : AH} {x y : Value} {s t : StateV} {Q : Value → AH → Prop} (hx : StateA A x s) (hy : StateA A y t) (hs : SmallS s) (ht : SmallS t) (hq : ∀ b : Bool, (b = true ↔ s = t) → Q (.bool b) A) : ACalls 3 Tryd.prog chantryref23_Same [x, y] Q A := by
  refine ACalls.pure (S := fun v => ∃ b : Bool, v = .bool b ∧ (b = true ↔ s = t)) (fun v ⟨b, e, h⟩ => by rw [e]; exact hq b h) ?_
  obtain ⟨c, m, v, l, rfl, hc, hm, hv, hl⟩ := hx
  obtain ⟨c', m', v', l', rfl, hc', hm', hv', hl'⟩ := hy
  refine ACalls.of_fits mixed fits_chantryref23_Same rfl ?_
  unfold ic_chantryref23_Same
  have i0 : initA [.agg #[c, m, v, l], .agg #[c', m', v', l']] 0 = .agg #[c, m, v, l] := rfl
  have i1 : initA [.agg #[c, m, v, l], .agg #[c', m', v', l']] 1 = .agg #[c', m', v', l'] := rfl
  generalize initA [.agg #[c, m, v, l], .agg #[c', m', v', l']] = a at i0 i1
  have oc := (Sl.one1 hc).2
  have om := (Sl.one1 hm).2
  have ov := (Sl.one1 hv).2
  have ol := (Sl.one1 hl).2
  have oc' := (Sl.one1 hc').2
  have om' := (Sl.one1 hm').2
  have ov' := (Sl.one1 hv').2
  have ol' := (Sl.one1 hl').2
  refine W_mid (fun a B => B = A ++ [.row [c, m, v, l] .own 0 true] ++ [.row [c', m', v', l'] .own 0 true] ∧ a 2 = ptr A.length ∧ a 3 = ptr (A.length + 1)) ?_ ?_
  · simp (maxSteps := 1000000) (disch := omega) only [stepS, reduceIte, Nat.reduceBEq, Nat.reduceEqDiff, tupleOf, stepT, stepX, heapR, lensR, Nat.reduceAdd, Nat.reduceLeDiff, i0, i1, oc, om, ov, ol, oc', om', ov', ol']
  rintro a B0 ⟨hB, g2, g3⟩
  have k0 : Le A B0 := by rw [hB]; exact (Le.push _ _).trans (.push _ _)
  have r1 : rowAt B0 A.length = some ([c, m, v, l], .own, 0, true) := by rw [hB]; exact (Le.push _ _).row (rowAt_own (get_last _ _))
  have r2 : rowAt B0 (A.length + 1) = some ([c', m', v', l'], .own, 0, true) := by
    rw [hB]
    have := rowAt_own (get_last (A ++ [Blk.row [c, m, v, l] .own 0 true]) (.row [c', m', v', l'] .own 0 true))
    simpa using this
  clear i0 i1 hB
  obtain ⟨⟨sc, sc2⟩, ⟨sm, sm2⟩, ⟨sv, sv2⟩, ⟨sl, sl2⟩⟩ := hs
  obtain ⟨⟨tc, tc2⟩, ⟨tm, tm2⟩, ⟨tv, tv2⟩, ⟨tl, tl2⟩⟩ := ht
  have fin : ∀ b1 b2 b3 b4 : Bool, (b1 = true ↔ s.counts = t.counts) → (b2 = true ↔ s.members = t.members) → (b3 = true ↔ s.values = t.values) → (b4 = true ↔ s.lines = t.lines) → ((b1 && b2 && b3 && b4) = true ↔ s = t) := by
    intro b1 b2 b3 b4 h1 h2 h3 h4
    cases s; cases t
    simp only at h1 h2 h3 h4
    simp only [Bool.and_eq_true, h1, h2, h3, h4, StateV.mk.injEq, and_assoc]
  have no : ∀ {p : Prop}, (false = true ↔ p) → (false = true ↔ p) := fun h => h
  have nn : ∀ {α : Type} (f : StateV → α), (false = true ↔ f s = f t) → (false = true ↔ s = t) := fun f h => ⟨(fun h => by cases h), fun e => by rw [e] at h; exact h.2 rfl⟩
  simp (maxSteps := 1000000) (disch := omega) only [stepS, reduceIte, Nat.reduceBEq, Nat.reduceEqDiff, tupleOf, stepT, stepX, heapR, lensR, Nat.reduceAdd, Nat.reduceLeDiff, g2, g3, r1, r2]
  refine ref19_Same_spec (hc.le k0) (hc'.le k0) sc2 tc2 (by omega) (by omega) fun b1 h1 => ?_
  cases b1 with
  | false =>
    simp (maxSteps := 1000000) (disch := omega) only [stepS, reduceIte, Nat.reduceBEq, Nat.reduceEqDiff, tupleOf, stepT, stepX, heapR, lensR, Nat.reduceAdd, Nat.reduceLeDiff, g2, g3, r1, r2]
    exact ⟨k0, rfl, false, rfl, nn StateV.counts h1⟩
  | true =>
  simp (maxSteps := 1000000) (disch := omega) only [stepS, reduceIte, Nat.reduceBEq, Nat.reduceEqDiff, tupleOf, stepT, stepX, heapR, lensR, Nat.reduceAdd, Nat.reduceLeDiff, g2, g3, r1, r2]
  refine ref20_SameWords_spec (hm.le k0) (hm'.le k0) sm2 tm2 (by omega) (by omega) fun b2 h2 => ?_
  cases b2 with
  | false =>
    simp (maxSteps := 1000000) (disch := omega) only [stepS, reduceIte, Nat.reduceBEq, Nat.reduceEqDiff, tupleOf, stepT, stepX, heapR, lensR, Nat.reduceAdd, Nat.reduceLeDiff, g2, g3, r1, r2]
    exact ⟨k0, rfl, false, rfl, nn StateV.members h2⟩
  | true =>
  simp (maxSteps := 1000000) (disch := omega) only [stepS, reduceIte, Nat.reduceBEq, Nat.reduceEqDiff, tupleOf, stepT, stepX, heapR, lensR, Nat.reduceAdd, Nat.reduceLeDiff, g2, g3, r1, r2]
  refine ref20_SameWords_spec (hv.le k0) (hv'.le k0) sv2 tv2 (by omega) (by omega) fun b3 h3 => ?_
  cases b3 with
  | false =>
    simp (maxSteps := 1000000) (disch := omega) only [stepS, reduceIte, Nat.reduceBEq, Nat.reduceEqDiff, tupleOf, stepT, stepX, heapR, lensR, Nat.reduceAdd, Nat.reduceLeDiff, g2, g3, r1, r2]
    exact ⟨k0, rfl, false, rfl, nn StateV.values h3⟩
  | true =>
  simp (maxSteps := 1000000) (disch := omega) only [stepS, reduceIte, Nat.reduceBEq, Nat.reduceEqDiff, tupleOf, stepT, stepX, heapR, lensR, Nat.reduceAdd, Nat.reduceLeDiff, g2, g3, r1, r2]
  refine ref20_SameWords_spec (hl.le k0) (hl'.le k0) sl2 tl2 (by omega) (by omega) fun b4 h4 => ?_
  cases b4 with
  | false =>
    simp (maxSteps := 1000000) (disch := omega) only [stepS, reduceIte, Nat.reduceBEq, Nat.reduceEqDiff, tupleOf, stepT, stepX, heapR, lensR, Nat.reduceAdd, Nat.reduceLeDiff, g2, g3, r1, r2]
    exact ⟨k0, rfl, false, rfl, nn StateV.lines h4⟩
  | true =>
    simp (maxSteps := 1000000) (disch := omega) only [stepS, reduceIte, Nat.reduceBEq, Nat.reduceEqDiff, tupleOf, stepT, stepX, heapR, lensR, Nat.reduceAdd, Nat.reduceLeDiff, g2, g3, r1, r2]
    exact ⟨k0, rfl, true, rfl, fin true true true true h1 h2 h3 h4⟩
theorem ref39_Same_spec {A : AH} {v w : Value} {l m : List StepV} {Q : Value → AH → Prop} (hv : StepsA A v l) (hw : StepsA A w m) (rl : ∀ s ∈ l, SmallT s) (rm : ∀ s ∈ m, SmallT s) (hl : l.length < 2 ^ 50) (hm : m.length < 2 ^ 50) (hq : ∀ b : Bool, (b = true ↔ l = m) → Q (.bool b) A) : ACalls 3 Tryd.prog chantryref39_Same [v, w] Q A := by
  refine ACalls.of_fits mixed fits_chantryref39_Same rfl ?_
  unfold ic_chantryref39_Same
  have i0 : initA [v, w] 0 = v := rfl
  have i1 : initA [v, w] 1 = w := rfl
  generalize initA [v, w] = a at i0 i1
  have hvl := hv.len
  have hwl := hw.len
  by_cases hn : l.length = m.length
  · simp (maxSteps := 1000000) (disch := omega) only [stepS, reduceIte, Nat.reduceBEq, Nat.reduceEqDiff, tupleOf, stepT, i0, i1, hvl, hwl]
    refine W_loop (fun a' B => B = A ∧ ∃ k : Nat, k ≤ l.length ∧ l.take k = m.take k ∧ a' 0 = v ∧ a' 1 = w ∧ a' 5 = ii k) (fun a' _ => l.length - (iv (a' 5)).toNat) ?_ ?_
    · refine ⟨rfl, 0, by omega, rfl, ?_⟩
      simp (maxSteps := 1000000) (disch := omega) only [stepS, reduceIte, Nat.reduceBEq, Nat.reduceEqDiff, tupleOf, stepT, i0, i1]
      (all_goals (and_intros <;> first | rfl | assumption | (push_cast; rfl) | (congr 1; omega) | omega | (simp; done)))
    · rintro a2 B ⟨rfl, k, hk, hn2, g0, g1, g5⟩
      rcases Nat.lt_or_ge k l.length with hlt | hge
      · obtain ⟨s, hs⟩ := get_some hlt
        obtain ⟨t, ht⟩ := get_some (l := m) (k := k) (by omega)
        obtain ⟨_, _, st1, _, si1, _, sm1, _⟩ := rl s (List.mem_of_getElem? hs)
        obtain ⟨_, _, tt1, _, ti1, _, tm1, _⟩ := rm t (List.mem_of_getElem? ht)
        obtain ⟨x1, x2, x3, p, q0, q1, q2, q3, q4, b1, b2, b3, p1, ⟨u0, c0⟩, ⟨u1, c1⟩, ⟨u2, c2⟩, ⟨u3, c3⟩, ⟨u4, c4⟩⟩ := hv.at hs
        obtain ⟨y1, y2, y3, p', q0', q1', q2', q3', q4', d1, d2, d3, p1', ⟨u0', c0'⟩, ⟨u1', c1'⟩, ⟨u2', c2'⟩, ⟨u3', c3'⟩, ⟨u4', c4'⟩⟩ := hw.at ht
        have c0 := c0 B (.refl _)
        have c1 := c1 B (.refl _)
        have c2 := c2 B (.refl _)
        have c3 := c3 B (.refl _)
        have c4 := c4 B (.refl _)
        have c0' := c0' B (.refl _)
        have c1' := c1' B (.refl _)
        have c2' := c2' B (.refl _)
        have c3' := c3' B (.refl _)
        have c4' := c4' B (.refl _)
        have nope : ∀ {α : Type} (f : StepV → α), f s ≠ f t → (false = true ↔ l = m) := fun f h => ⟨(fun h => by cases h), fun e => by subst e; rw [hs] at ht; injection ht with ht; exact absurd (by rw [ht]) h⟩
        by_cases e1 : s.kind = t.kind
        · by_cases e2 : s.n = t.n
          · simp (maxSteps := 1000000) (disch := omega) only [stepS, reduceIte, Nat.reduceBEq, Nat.reduceEqDiff, tupleOf, stepT, g0, g1, g5, hvl, hwl, p1, p1', u0, c0, u0', c0', u3, c3, u3', c3', u1, c1, u1', c1']
            refine ref01_Bytes_spec b1 d1 (by omega) (by omega) ?_
            by_cases e3 : s.texts = t.texts
            · rw [decide_eq_true e3]
              simp (maxSteps := 1000000) (disch := omega) only [stepS, reduceIte, Nat.reduceBEq, Nat.reduceEqDiff, tupleOf, stepT, g0, g1, g5, p1, p1', u2, c2, u2', c2']
              refine ref01_Texts_spec b2 d2 (by omega) (by omega) fun b4 h4 => ?_
              cases b4 with
              | false =>
                simp (maxSteps := 1000000) (disch := omega) only [stepS, reduceIte, Nat.reduceBEq, Nat.reduceEqDiff, tupleOf, stepT, g0, g1, g5]
                exact hq _ (nope StepV.ids (fun e => by have := h4.2 e; cases this))
              | true =>
                simp (maxSteps := 1000000) (disch := omega) only [stepS, reduceIte, Nat.reduceBEq, Nat.reduceEqDiff, tupleOf, stepT, g0, g1, g5, p1, p1', u4, c4, u4', c4']
                refine ref01_Ints_spec b3 d3 (by omega) (by omega) fun b5 h5 => ?_
                cases b5 with
                | false =>
                  simp (maxSteps := 1000000) (disch := omega) only [stepS, reduceIte, Nat.reduceBEq, Nat.reduceEqDiff, tupleOf, stepT, g0, g1, g5]
                  exact hq _ (nope StepV.masks (fun e => by have := h5.2 e; cases this))
                | true =>
                  simp (maxSteps := 1000000) (disch := omega) only [stepS, reduceIte, Nat.reduceBEq, Nat.reduceEqDiff, tupleOf, stepT, g0, g1, g5]
                  refine ⟨⟨k + 1, by omega, ?_, rfl⟩, by omega⟩
                  have h4 := h4.1 rfl
                  have h5 := h5.1 rfl
                  have est : s = t := by
                    cases s; cases t
                    simp only at e1 e2 e3 h4 h5
                    rw [e1, e2, e3, h4, h5]
                  rw [List.take_add_one, List.take_add_one, hs, ht, hn2, est]
            · rw [decide_eq_false e3]
              simp (maxSteps := 1000000) (disch := omega) only [stepS, reduceIte, Nat.reduceBEq, Nat.reduceEqDiff, tupleOf, stepT, g0, g1, g5]
              exact hq _ (nope StepV.texts e3)
          · simp (maxSteps := 1000000) (disch := omega) only [stepS, reduceIte, Nat.reduceBEq, Nat.reduceEqDiff, tupleOf, stepT, g0, g1, g5, hvl, hwl, p1, p1', u0, c0, u0', c0', u3, c3, u3', c3']
            exact hq _ (nope StepV.n e2)
        · simp (maxSteps := 1000000) (disch := omega) only [stepS, reduceIte, Nat.reduceBEq, Nat.reduceEqDiff, tupleOf, stepT, g0, g1, g5, hvl, hwl, p1, p1', u0, c0, u0', c0']
          exact hq _ (nope StepV.kind e1)
      · rw [List.take_of_length_le hge, List.take_of_length_le (by omega)] at hn2
        simp (maxSteps := 1000000) (disch := omega) only [stepS, reduceIte, Nat.reduceBEq, Nat.reduceEqDiff, tupleOf, stepT, g0, g1, g5, hvl]
        exact hq true ⟨fun _ => hn2, fun _ => rfl⟩
  · simp (maxSteps := 1000000) (disch := omega) only [stepS, reduceIte, Nat.reduceBEq, Nat.reduceEqDiff, tupleOf, stepT, i0, i1, hvl, hwl]
    exact hq false ⟨(fun h => by cases h), fun h => absurd (by rw [h]) hn⟩
end Go.AS.C


namespace Go.AS.C
open Go Go.Proofs
set_option linter.unusedVariables false
set_option linter.unusedSimpArgs false
set_option maxRecDepth 10000

/-! Whether steps may be. -/
abbrev usesT (b0 b1 b2 b3 b4 : Bool) : Value := .tuple #[.bool b0, .bool b1, .bool b2, .bool b3, .bool b4]
def usesV (k : Int) : Value := usesT (decide (k = 1)) (decide (k = 2 ∨ k = 4 ∨ k = 9)) (decide (k = 10)) (decide (k = 11)) (decide (1 ≤ k ∧ k ≤ 12))
theorem uses_spec {A : AH} {k : Int} {Q : Value → AH → Prop} (hk : I64 k) (hq : Q (usesV k) A) : ACalls 3 Tryd.prog chantryref39_uses [ii k] Q A := by
  refine ACalls.of_fits mixed fits_chantryref39_uses rfl ?_
  unfold ic_chantryref39_uses
  have i0 : initA [ii k] 0 = ii k := rfl
  generalize initA [ii k] = a at i0
  by_cases h : 1 ≤ k ∧ k ≤ 12
  · rcases (by omega : k = 1 ∨ k = 2 ∨ k = 3 ∨ k = 4 ∨ k = 5 ∨ k = 6 ∨ k = 7 ∨ k = 8 ∨ k = 9 ∨ k = 10 ∨ k = 11 ∨ k = 12) with h | h | h | h | h | h | h | h | h | h | h | h
    · subst h
      have e : usesV 1 = usesT true false false false true := rfl
      rw [e] at hq
      simp (maxSteps := 1000000) (disch := omega) only [stepS, reduceIte, Nat.reduceBEq, Nat.reduceEqDiff, tupleOf, stepT, i0]
      exact hq
    · subst h
      have e : usesV 2 = usesT false true false false true := rfl
      rw [e] at hq
      simp (maxSteps := 1000000) (disch := omega) only [stepS, reduceIte, Nat.reduceBEq, Nat.reduceEqDiff, tupleOf, stepT, i0]
      exact hq
    · subst h
      have e : usesV 3 = usesT false false false false true := rfl
      rw [e] at hq
      simp (maxSteps := 1000000) (disch := omega) only [stepS, reduceIte, Nat.reduceBEq, Nat.reduceEqDiff, tupleOf, stepT, i0]
      exact hq
    · subst h
      have e : usesV 4 = usesT false true false false true := rfl
      rw [e] at hq
      simp (maxSteps := 1000000) (disch := omega) only [stepS, reduceIte, Nat.reduceBEq, Nat.reduceEqDiff, tupleOf, stepT, i0]
      exact hq
    · subst h
      have e : usesV 5 = usesT false false false false true := rfl
      rw [e] at hq
      simp (maxSteps := 1000000) (disch := omega) only [stepS, reduceIte, Nat.reduceBEq, Nat.reduceEqDiff, tupleOf, stepT, i0]
      exact hq
    · subst h
      have e : usesV 6 = usesT false false false false true := rfl
      rw [e] at hq
      simp (maxSteps := 1000000) (disch := omega) only [stepS, reduceIte, Nat.reduceBEq, Nat.reduceEqDiff, tupleOf, stepT, i0]
      exact hq
    · subst h
      have e : usesV 7 = usesT false false false false true := rfl
      rw [e] at hq
      simp (maxSteps := 1000000) (disch := omega) only [stepS, reduceIte, Nat.reduceBEq, Nat.reduceEqDiff, tupleOf, stepT, i0]
      exact hq
    · subst h
      have e : usesV 8 = usesT false false false false true := rfl
      rw [e] at hq
      simp (maxSteps := 1000000) (disch := omega) only [stepS, reduceIte, Nat.reduceBEq, Nat.reduceEqDiff, tupleOf, stepT, i0]
      exact hq
    · subst h
      have e : usesV 9 = usesT false true false false true := rfl
      rw [e] at hq
      simp (maxSteps := 1000000) (disch := omega) only [stepS, reduceIte, Nat.reduceBEq, Nat.reduceEqDiff, tupleOf, stepT, i0]
      exact hq
    · subst h
      have e : usesV 10 = usesT false false true false true := rfl
      rw [e] at hq
      simp (maxSteps := 1000000) (disch := omega) only [stepS, reduceIte, Nat.reduceBEq, Nat.reduceEqDiff, tupleOf, stepT, i0]
      exact hq
    · subst h
      have e : usesV 11 = usesT false false false true true := rfl
      rw [e] at hq
      simp (maxSteps := 1000000) (disch := omega) only [stepS, reduceIte, Nat.reduceBEq, Nat.reduceEqDiff, tupleOf, stepT, i0]
      exact hq
    · subst h
      have e : usesV 12 = usesT false false false false true := rfl
      rw [e] at hq
      simp (maxSteps := 1000000) (disch := omega) only [stepS, reduceIte, Nat.reduceBEq, Nat.reduceEqDiff, tupleOf, stepT, i0]
      exact hq
  · have e : usesV k = usesT false false false false false := by
      unfold usesV
      rw [decide_eq_false (by omega), decide_eq_false (by omega), decide_eq_false (by omega), decide_eq_false (by omega), decide_eq_false (by omega)]
    rw [e] at hq
    simp (maxSteps := 1000000) (disch := omega) only [stepS, reduceIte, Nat.reduceBEq, Nat.reduceEqDiff, tupleOf, stepT, i0]
    exact hq
set_option maxHeartbeats 2000000 in
theorem may_spec {A : AH} {x : Value} {s : StepV} {Q : Value → AH → Prop} (hx : StepA A x s) (hs : SmallT s) (hq : ∀ b : Bool, (b = true → MayT s) → Q (.bool b) A) : ACalls 3 Tryd.prog chantryref39_may [x] Q A := by
  refine ACalls.pure (S := fun v => ∃ b : Bool, v = .bool b ∧ (b = true → MayT s)) (fun v ⟨b, e, h⟩ => by rw [e]; exact hq b h) ?_
  obtain ⟨t, i, m, rfl, ht, hi, hm⟩ := hx
  obtain ⟨sk, sn, st1, st2, si1, si2, sm1, sm2⟩ := hs
  refine ACalls.of_fits mixed fits_chantryref39_may rfl ?_
  unfold ic_chantryref39_may
  have i0 : initA [.agg #[ii s.kind, t, i, ii s.n, m]] 0 = .agg #[ii s.kind, t, i, ii s.n, m] := rfl
  generalize initA [.agg #[ii s.kind, t, i, ii s.n, m]] = a at i0
  have ot := (byts_one1 ht).2
  have oi := (Sl.one1 hi).2
  have om := (Sl.one1 hm).2
  refine W_mid (fun a B => B = A ++ [.row [ii s.kind, t, i, ii s.n, m] .own 0 true] ∧ a 1 = ptr A.length) ?_ ?_
  · simp (maxSteps := 1000000) (disch := omega) only [stepS, reduceIte, Nat.reduceBEq, Nat.reduceEqDiff, tupleOf, stepT, stepX, heapR, lensR, Nat.reduceAdd, Nat.reduceLeDiff, i0, ot, oi, om]
  rintro a B0 ⟨hB, g1⟩
  have k0 : Le A B0 := by rw [hB]; exact .push _ _
  have r1 : rowAt B0 A.length = some ([ii s.kind, t, i, ii s.n, m], .own, 0, true) := by rw [hB]; exact rowAt_own (get_last _ _)
  have hA := lt_of_get (rowAt_get r1)
  clear i0 hB
  have no : ∃ b : Bool, Value.bool false = .bool b ∧ (b = true → MayT s) := ⟨false, rfl, fun h => by cases h⟩
  have lt := byts_lenB ht
  have li := SlT.len hi
  have lm : ∀ B, sLens B false m = some (ii s.masks.length, B) := Sl.lenB hm
  have x0 : ∀ B, sExt B (usesV s.kind) 0 = some (.bool (decide (s.kind = 1)), B) := fun _ => rfl
  have x1 : ∀ B, sExt B (usesV s.kind) 1 = some (.bool (decide (s.kind = 2 ∨ s.kind = 4 ∨ s.kind = 9)), B) := fun _ => rfl
  have x2 : ∀ B, sExt B (usesV s.kind) 2 = some (.bool (decide (s.kind = 10)), B) := fun _ => rfl
  have x3 : ∀ B, sExt B (usesV s.kind) 3 = some (.bool (decide (s.kind = 11)), B) := fun _ => rfl
  have x4 : ∀ B, sExt B (usesV s.kind) 4 = some (.bool (decide (1 ≤ s.kind ∧ s.kind ≤ 12)), B) := fun _ => rfl
  obtain ⟨b0, hb0⟩ : ∃ b, b = decide (s.kind = 1) := ⟨_, rfl⟩
  obtain ⟨b1, hb1⟩ : ∃ b, b = decide (s.kind = 2 ∨ s.kind = 4 ∨ s.kind = 9) := ⟨_, rfl⟩
  obtain ⟨b2, hb2⟩ : ∃ b, b = decide (s.kind = 10) := ⟨_, rfl⟩
  obtain ⟨b3, hb3⟩ : ∃ b, b = decide (s.kind = 11) := ⟨_, rfl⟩
  obtain ⟨b4, hb4⟩ : ∃ b, b = decide (1 ≤ s.kind ∧ s.kind ≤ 12) := ⟨_, rfl⟩
  rw [← hb0] at x0
  rw [← hb1] at x1
  rw [← hb2] at x2
  rw [← hb3] at x3
  rw [← hb4] at x4
  refine W_mid (fun a B => B = B0 ∧ a 1 = ptr A.length ∧ a 3 = .bool b0 ∧ a 4 = .bool b1 ∧ a 5 = .bool b2 ∧ a 6 = .bool b3 ∧ a 7 = .bool b4) ?_ ?_
  · simp (maxSteps := 1000000) (disch := omega) only [stepS, reduceIte, Nat.reduceBEq, Nat.reduceEqDiff, tupleOf, stepT, stepX, heapR, lensR, Nat.reduceAdd, Nat.reduceLeDiff, g1, r1]
    refine uses_spec sk ?_
    simp (maxSteps := 1000000) (disch := omega) only [stepS, reduceIte, Nat.reduceBEq, Nat.reduceEqDiff, tupleOf, stepT, stepX, heapR, lensR, Nat.reduceAdd, Nat.reduceLeDiff, g1, r1, x0, x1, x2, x3, x4]
  clear g1
  rintro a B ⟨hB, g1, g3, g4, g5, g6, g7⟩
  obtain rfl : B0 = B := hB.symm
  clear hB x0 x1 x2 x3 x4
  refine W_midR (fun a B => MayT s ∧ B = B0 ∧ a 1 = ptr A.length) ?_ ?_
  · by_cases hk : ¬ (1 ≤ s.kind ∧ s.kind ≤ 12)
    · rw [decide_eq_false (by omega)] at hb4
      subst hb4
      simp (maxSteps := 1000000) (disch := omega) only [stepS, reduceIte, Nat.reduceBEq, Nat.reduceEqDiff, tupleOf, stepT, stepX, heapR, lensR, Nat.reduceAdd, Nat.reduceLeDiff, g1, g3, g4, g5, g6, g7, r1, reduceCtorEq, false_and, false_or, true_and]
      exact ⟨k0, rfl, no⟩
    · have hk : 1 ≤ s.kind ∧ s.kind ≤ 12 := by omega
      by_cases c1 : s.kind = 1
      · skip
        rw [decide_eq_true (c1)] at hb0
        rw [decide_eq_false (by omega)] at hb1
        rw [decide_eq_false (by omega)] at hb2
        rw [decide_eq_false (by omega)] at hb3
        rw [decide_eq_true hk] at hb4
        subst hb0 hb1 hb2 hb3 hb4
        by_cases d1 : s.ids.length = 0
        · skip
          by_cases d2 : s.n = 0
          · skip
            by_cases d3 : s.masks.length = 0
            · skip
              simp (maxSteps := 1000000) (disch := omega) only [stepS, reduceIte, Nat.reduceBEq, Nat.reduceEqDiff, tupleOf, stepT, stepX, heapR, lensR, Nat.reduceAdd, Nat.reduceLeDiff, g1, g3, g4, g5, g6, g7, r1, lt, li, lm, reduceCtorEq, false_and, or_false, true_and]
              all_goals exact ⟨hk, fun h => absurd (c1) h, fun _ => List.length_eq_zero_iff.1 d1, fun _ => d2, fun _ => List.length_eq_zero_iff.1 d3⟩
            · simp (maxSteps := 1000000) (disch := omega) only [stepS, reduceIte, Nat.reduceBEq, Nat.reduceEqDiff, tupleOf, stepT, stepX, heapR, lensR, Nat.reduceAdd, Nat.reduceLeDiff, g1, g3, g4, g5, g6, g7, r1, lt, li, lm, reduceCtorEq, false_and, false_or, true_and]
              exact ⟨k0, rfl, no⟩
          · simp (maxSteps := 1000000) (disch := omega) only [stepS, reduceIte, Nat.reduceBEq, Nat.reduceEqDiff, tupleOf, stepT, stepX, heapR, lensR, Nat.reduceAdd, Nat.reduceLeDiff, g1, g3, g4, g5, g6, g7, r1, lt, li, lm, reduceCtorEq, false_and, false_or, true_and]
            exact ⟨k0, rfl, no⟩
        · simp (maxSteps := 1000000) (disch := omega) only [stepS, reduceIte, Nat.reduceBEq, Nat.reduceEqDiff, tupleOf, stepT, stepX, heapR, lensR, Nat.reduceAdd, Nat.reduceLeDiff, g1, g3, g4, g5, g6, g7, r1, lt, li, lm, reduceCtorEq, false_and, false_or, true_and]
          exact ⟨k0, rfl, no⟩
      · by_cases c2 : s.kind = 2 ∨ s.kind = 4 ∨ s.kind = 9
        · skip
          rw [decide_eq_false (c1)] at hb0
          rw [decide_eq_true (c2)] at hb1
          rw [decide_eq_false (by omega)] at hb2
          rw [decide_eq_false (by omega)] at hb3
          rw [decide_eq_true hk] at hb4
          subst hb0 hb1 hb2 hb3 hb4
          by_cases d0 : s.texts.length = 0
          · skip
            by_cases d2 : s.n = 0
            · skip
              by_cases d3 : s.masks.length = 0
              · skip
                simp (maxSteps := 1000000) (disch := omega) only [stepS, reduceIte, Nat.reduceBEq, Nat.reduceEqDiff, tupleOf, stepT, stepX, heapR, lensR, Nat.reduceAdd, Nat.reduceLeDiff, g1, g3, g4, g5, g6, g7, r1, lt, li, lm, reduceCtorEq, false_and, or_false, true_and]
                all_goals exact ⟨hk, fun _ => List.length_eq_zero_iff.1 d0, fun h => absurd (c2) h, fun _ => d2, fun _ => List.length_eq_zero_iff.1 d3⟩
              · simp (maxSteps := 1000000) (disch := omega) only [stepS, reduceIte, Nat.reduceBEq, Nat.reduceEqDiff, tupleOf, stepT, stepX, heapR, lensR, Nat.reduceAdd, Nat.reduceLeDiff, g1, g3, g4, g5, g6, g7, r1, lt, li, lm, reduceCtorEq, false_and, false_or, true_and]
                exact ⟨k0, rfl, no⟩
            · simp (maxSteps := 1000000) (disch := omega) only [stepS, reduceIte, Nat.reduceBEq, Nat.reduceEqDiff, tupleOf, stepT, stepX, heapR, lensR, Nat.reduceAdd, Nat.reduceLeDiff, g1, g3, g4, g5, g6, g7, r1, lt, li, lm, reduceCtorEq, false_and, false_or, true_and]
              exact ⟨k0, rfl, no⟩
          · simp (maxSteps := 1000000) (disch := omega) only [stepS, reduceIte, Nat.reduceBEq, Nat.reduceEqDiff, tupleOf, stepT, stepX, heapR, lensR, Nat.reduceAdd, Nat.reduceLeDiff, g1, g3, g4, g5, g6, g7, r1, lt, li, lm, reduceCtorEq, false_and, false_or, true_and]
            exact ⟨k0, rfl, no⟩
        · by_cases c3 : s.kind = 10
          · skip
            rw [decide_eq_false (c1)] at hb0
            rw [decide_eq_false (c2)] at hb1
            rw [decide_eq_true (c3)] at hb2
            rw [decide_eq_false (by omega)] at hb3
            rw [decide_eq_true hk] at hb4
            subst hb0 hb1 hb2 hb3 hb4
            by_cases d0 : s.texts.length = 0
            · skip
              by_cases d1 : s.ids.length = 0
              · skip
                by_cases d3 : s.masks.length = 0
                · skip
                  simp (maxSteps := 1000000) (disch := omega) only [stepS, reduceIte, Nat.reduceBEq, Nat.reduceEqDiff, tupleOf, stepT, stepX, heapR, lensR, Nat.reduceAdd, Nat.reduceLeDiff, g1, g3, g4, g5, g6, g7, r1, lt, li, lm, reduceCtorEq, false_and, or_false, true_and]
                  all_goals exact ⟨hk, fun _ => List.length_eq_zero_iff.1 d0, fun _ => List.length_eq_zero_iff.1 d1, fun h => absurd (c3) h, fun _ => List.length_eq_zero_iff.1 d3⟩
                · simp (maxSteps := 1000000) (disch := omega) only [stepS, reduceIte, Nat.reduceBEq, Nat.reduceEqDiff, tupleOf, stepT, stepX, heapR, lensR, Nat.reduceAdd, Nat.reduceLeDiff, g1, g3, g4, g5, g6, g7, r1, lt, li, lm, reduceCtorEq, false_and, false_or, true_and]
                  exact ⟨k0, rfl, no⟩
              · simp (maxSteps := 1000000) (disch := omega) only [stepS, reduceIte, Nat.reduceBEq, Nat.reduceEqDiff, tupleOf, stepT, stepX, heapR, lensR, Nat.reduceAdd, Nat.reduceLeDiff, g1, g3, g4, g5, g6, g7, r1, lt, li, lm, reduceCtorEq, false_and, false_or, true_and]
                exact ⟨k0, rfl, no⟩
            · simp (maxSteps := 1000000) (disch := omega) only [stepS, reduceIte, Nat.reduceBEq, Nat.reduceEqDiff, tupleOf, stepT, stepX, heapR, lensR, Nat.reduceAdd, Nat.reduceLeDiff, g1, g3, g4, g5, g6, g7, r1, lt, li, lm, reduceCtorEq, false_and, false_or, true_and]
              exact ⟨k0, rfl, no⟩
          · by_cases c4 : s.kind = 11
            · skip
              rw [decide_eq_false (c1)] at hb0
              rw [decide_eq_false (c2)] at hb1
              rw [decide_eq_false (c3)] at hb2
              rw [decide_eq_true (c4)] at hb3
              rw [decide_eq_true hk] at hb4
              subst hb0 hb1 hb2 hb3 hb4
              by_cases d0 : s.texts.length = 0
              · skip
                by_cases d1 : s.ids.length = 0
                · skip
                  by_cases d2 : s.n = 0
                  · skip
                    simp (maxSteps := 1000000) (disch := omega) only [stepS, reduceIte, Nat.reduceBEq, Nat.reduceEqDiff, tupleOf, stepT, stepX, heapR, lensR, Nat.reduceAdd, Nat.reduceLeDiff, g1, g3, g4, g5, g6, g7, r1, lt, li, lm, reduceCtorEq, false_and, or_false, true_and]
                    all_goals exact ⟨hk, fun _ => List.length_eq_zero_iff.1 d0, fun _ => List.length_eq_zero_iff.1 d1, fun _ => d2, fun h => absurd (c4) h⟩
                  · simp (maxSteps := 1000000) (disch := omega) only [stepS, reduceIte, Nat.reduceBEq, Nat.reduceEqDiff, tupleOf, stepT, stepX, heapR, lensR, Nat.reduceAdd, Nat.reduceLeDiff, g1, g3, g4, g5, g6, g7, r1, lt, li, lm, reduceCtorEq, false_and, false_or, true_and]
                    exact ⟨k0, rfl, no⟩
                · simp (maxSteps := 1000000) (disch := omega) only [stepS, reduceIte, Nat.reduceBEq, Nat.reduceEqDiff, tupleOf, stepT, stepX, heapR, lensR, Nat.reduceAdd, Nat.reduceLeDiff, g1, g3, g4, g5, g6, g7, r1, lt, li, lm, reduceCtorEq, false_and, false_or, true_and]
                  exact ⟨k0, rfl, no⟩
              · simp (maxSteps := 1000000) (disch := omega) only [stepS, reduceIte, Nat.reduceBEq, Nat.reduceEqDiff, tupleOf, stepT, stepX, heapR, lensR, Nat.reduceAdd, Nat.reduceLeDiff, g1, g3, g4, g5, g6, g7, r1, lt, li, lm, reduceCtorEq, false_and, false_or, true_and]
                exact ⟨k0, rfl, no⟩
            · skip
              rw [decide_eq_false (c1)] at hb0
              rw [decide_eq_false (c2)] at hb1
              rw [decide_eq_false (c3)] at hb2
              rw [decide_eq_false (c4)] at hb3
              rw [decide_eq_true hk] at hb4
              subst hb0 hb1 hb2 hb3 hb4
              by_cases d0 : s.texts.length = 0
              · skip
                by_cases d1 : s.ids.length = 0
                · skip
                  by_cases d2 : s.n = 0
                  · skip
                    by_cases d3 : s.masks.length = 0
                    · skip
                      simp (maxSteps := 1000000) (disch := omega) only [stepS, reduceIte, Nat.reduceBEq, Nat.reduceEqDiff, tupleOf, stepT, stepX, heapR, lensR, Nat.reduceAdd, Nat.reduceLeDiff, g1, g3, g4, g5, g6, g7, r1, lt, li, lm, reduceCtorEq, false_and, or_false, true_and]
                      all_goals exact ⟨hk, fun _ => List.length_eq_zero_iff.1 d0, fun _ => List.length_eq_zero_iff.1 d1, fun _ => d2, fun _ => List.length_eq_zero_iff.1 d3⟩
                    · simp (maxSteps := 1000000) (disch := omega) only [stepS, reduceIte, Nat.reduceBEq, Nat.reduceEqDiff, tupleOf, stepT, stepX, heapR, lensR, Nat.reduceAdd, Nat.reduceLeDiff, g1, g3, g4, g5, g6, g7, r1, lt, li, lm, reduceCtorEq, false_and, false_or, true_and]
                      exact ⟨k0, rfl, no⟩
                  · simp (maxSteps := 1000000) (disch := omega) only [stepS, reduceIte, Nat.reduceBEq, Nat.reduceEqDiff, tupleOf, stepT, stepX, heapR, lensR, Nat.reduceAdd, Nat.reduceLeDiff, g1, g3, g4, g5, g6, g7, r1, lt, li, lm, reduceCtorEq, false_and, false_or, true_and]
                    exact ⟨k0, rfl, no⟩
                · simp (maxSteps := 1000000) (disch := omega) only [stepS, reduceIte, Nat.reduceBEq, Nat.reduceEqDiff, tupleOf, stepT, stepX, heapR, lensR, Nat.reduceAdd, Nat.reduceLeDiff, g1, g3, g4, g5, g6, g7, r1, lt, li, lm, reduceCtorEq, false_and, false_or, true_and]
                  exact ⟨k0, rfl, no⟩
              · simp (maxSteps := 1000000) (disch := omega) only [stepS, reduceIte, Nat.reduceBEq, Nat.reduceEqDiff, tupleOf, stepT, stepX, heapR, lensR, Nat.reduceAdd, Nat.reduceLeDiff, g1, g3, g4, g5, g6, g7, r1, lt, li, lm, reduceCtorEq, false_and, false_or, true_and]
                exact ⟨k0, rfl, no⟩
  clear g1 g3 g4 g5 g6 g7
  rintro a B ⟨hmay, hB, g1⟩
  obtain rfl : B0 = B := hB.symm
  clear hB
  have ob : ∀ b : Bool, ∃ b' : Bool, Value.bool b = .bool b' ∧ (b' = true → MayT s) := fun b => ⟨b, rfl, fun _ => hmay⟩
  refine W_midR (fun a B => B = B0 ∧ a 1 = ptr A.length) ?_ ?_
  · by_cases d4 : s.texts.length ≤ 64
    · by_cases d6 : s.ids.length ≤ 64
      · by_cases d8 : 0 ≤ s.n
        · by_cases d10 : s.n ≤ 2147483647
          · by_cases d12 : s.masks.length ≤ 1024
            · simp (maxSteps := 1000000) (disch := omega) only [stepS, reduceIte, Nat.reduceBEq, Nat.reduceEqDiff, tupleOf, stepT, stepX, heapR, lensR, Nat.reduceAdd, Nat.reduceLeDiff, g1, r1, lt, li, lm, reduceCtorEq, false_and, or_false, true_and]
            · simp (maxSteps := 1000000) (disch := omega) only [stepS, reduceIte, Nat.reduceBEq, Nat.reduceEqDiff, tupleOf, stepT, stepX, heapR, lensR, Nat.reduceAdd, Nat.reduceLeDiff, g1, r1, lt, li, lm, reduceCtorEq, false_and, false_or, true_and]
              exact ⟨k0, rfl, ob _⟩
          · simp (maxSteps := 1000000) (disch := omega) only [stepS, reduceIte, Nat.reduceBEq, Nat.reduceEqDiff, tupleOf, stepT, stepX, heapR, lensR, Nat.reduceAdd, Nat.reduceLeDiff, g1, r1, lt, li, lm, reduceCtorEq, false_and, false_or, true_and]
            exact ⟨k0, rfl, ob _⟩
        · simp (maxSteps := 1000000) (disch := omega) only [stepS, reduceIte, Nat.reduceBEq, Nat.reduceEqDiff, tupleOf, stepT, stepX, heapR, lensR, Nat.reduceAdd, Nat.reduceLeDiff, g1, r1, lt, li, lm, reduceCtorEq, false_and, false_or, true_and]
          exact ⟨k0, rfl, ob _⟩
      · simp (maxSteps := 1000000) (disch := omega) only [stepS, reduceIte, Nat.reduceBEq, Nat.reduceEqDiff, tupleOf, stepT, stepX, heapR, lensR, Nat.reduceAdd, Nat.reduceLeDiff, g1, r1, lt, li, lm, reduceCtorEq, false_and, false_or, true_and]
        exact ⟨k0, rfl, ob _⟩
    · simp (maxSteps := 1000000) (disch := omega) only [stepS, reduceIte, Nat.reduceBEq, Nat.reduceEqDiff, tupleOf, stepT, stepX, heapR, lensR, Nat.reduceAdd, Nat.reduceLeDiff, g1, r1, lt, li, lm, reduceCtorEq, false_and, false_or, true_and]
      exact ⟨k0, rfl, ob _⟩
  clear g1
  rintro a B ⟨hB, g1⟩
  obtain rfl : B0 = B := hB.symm
  clear hB
  refine W_midR (fun a B => B = B0 ∧ a 1 = ptr A.length) ?_ ?_
  · by_cases d1 : s.kind = 2
    · by_cases d2 : s.ids.length = 1
      · simp (maxSteps := 1000000) (disch := omega) only [stepS, reduceIte, Nat.reduceBEq, Nat.reduceEqDiff, tupleOf, stepT, stepX, heapR, lensR, Nat.reduceAdd, Nat.reduceLeDiff, g1, r1, lt, li, lm, reduceCtorEq, false_and, or_false, true_and]
      · simp (maxSteps := 1000000) (disch := omega) only [stepS, reduceIte, Nat.reduceBEq, Nat.reduceEqDiff, tupleOf, stepT, stepX, heapR, lensR, Nat.reduceAdd, Nat.reduceLeDiff, g1, r1, lt, li, lm, reduceCtorEq, false_and, false_or, true_and]
        exact ⟨k0, rfl, ob _⟩
    · by_cases d3 : s.kind = 4
      · by_cases d2 : s.ids.length = 1
        · simp (maxSteps := 1000000) (disch := omega) only [stepS, reduceIte, Nat.reduceBEq, Nat.reduceEqDiff, tupleOf, stepT, stepX, heapR, lensR, Nat.reduceAdd, Nat.reduceLeDiff, g1, r1, lt, li, lm, reduceCtorEq, false_and, or_false, true_and]
        · simp (maxSteps := 1000000) (disch := omega) only [stepS, reduceIte, Nat.reduceBEq, Nat.reduceEqDiff, tupleOf, stepT, stepX, heapR, lensR, Nat.reduceAdd, Nat.reduceLeDiff, g1, r1, lt, li, lm, reduceCtorEq, false_and, false_or, true_and]
          exact ⟨k0, rfl, ob _⟩
      · simp (maxSteps := 1000000) (disch := omega) only [stepS, reduceIte, Nat.reduceBEq, Nat.reduceEqDiff, tupleOf, stepT, stepX, heapR, lensR, Nat.reduceAdd, Nat.reduceLeDiff, g1, r1, lt, li, lm, reduceCtorEq, false_and, or_false, true_and]
  clear g1
  rintro a B ⟨hB, g1⟩
  obtain rfl : B0 = B := hB.symm
  clear hB
  refine W_midR (fun a B => B = B0 ∧ a 1 = ptr A.length) ?_ ?_
  · simp (maxSteps := 1000000) (disch := omega) only [stepS, reduceIte, Nat.reduceBEq, Nat.reduceEqDiff, tupleOf, stepT, stepX, heapR, lensR, Nat.reduceAdd, Nat.reduceLeDiff, g1]
    refine W_loop (fun a' D => ∃ j : Nat, j ≤ s.texts.length ∧ D = B0 ∧ a' 1 = ptr A.length ∧ a' 8 = ii j) (fun a' _ => s.texts.length - (iv (a' 8)).toNat) ?_ ?_
    · refine ⟨0, Nat.zero_le _, rfl, ?_⟩
      simp (maxSteps := 1000000) (disch := omega) only [stepS, reduceIte, Nat.reduceBEq, Nat.reduceEqDiff, tupleOf, stepT, stepX, heapR, lensR, Nat.reduceAdd, Nat.reduceLeDiff, g1]
      (all_goals (and_intros <;> first | rfl | assumption | (push_cast; rfl) | (congr 1; omega) | omega | (simp; done)))
    · clear g1
      rintro a2 D ⟨j, hj, hD, g1, g8⟩
      obtain rfl : B0 = D := hD.symm
      clear hD
      rcases Nat.lt_or_ge j s.texts.length with hlt | hge
      · obtain ⟨w, hw⟩ := get_some hlt
        obtain ⟨p, x, p1, p2, hx⟩ := byts_atL ht hw
        have p3 := p2 B0 k0
        have ly := Byt.len (hx.le k0)
        have ry := st2 w (List.mem_of_getElem? hw)
        by_cases d8 : w.length ≤ 1024
        · simp (maxSteps := 1000000) (disch := omega) only [stepS, reduceIte, Nat.reduceBEq, Nat.reduceEqDiff, tupleOf, stepT, stepX, heapR, lensR, Nat.reduceAdd, Nat.reduceLeDiff, g1, g8, r1, lt, p1, p3, ly]
          exact ⟨⟨j + 1, by omega, rfl⟩, by omega⟩
        · simp (maxSteps := 1000000) (disch := omega) only [stepS, reduceIte, Nat.reduceBEq, Nat.reduceEqDiff, tupleOf, stepT, stepX, heapR, lensR, Nat.reduceAdd, Nat.reduceLeDiff, g1, g8, r1, lt, p1, p3, ly]
          exact .inr ⟨k0, rfl, ob _⟩
      · simp (maxSteps := 1000000) (disch := omega) only [stepS, reduceIte, Nat.reduceBEq, Nat.reduceEqDiff, tupleOf, stepT, stepX, heapR, lensR, Nat.reduceAdd, Nat.reduceLeDiff, g1, g8, r1, lt]
        (all_goals (and_intros <;> first | rfl | assumption | (push_cast; rfl) | (congr 1; omega) | omega | (simp; done)))
  clear g1
  rintro a B ⟨hB, g1⟩
  obtain rfl : B0 = B := hB.symm
  clear hB
  refine W_midR (fun a B => B = B0 ∧ a 1 = ptr A.length) ?_ ?_
  · simp (maxSteps := 1000000) (disch := omega) only [stepS, reduceIte, Nat.reduceBEq, Nat.reduceEqDiff, tupleOf, stepT, stepX, heapR, lensR, Nat.reduceAdd, Nat.reduceLeDiff, g1]
    refine W_loop (fun a' D => ∃ j : Nat, j ≤ s.ids.length ∧ D = B0 ∧ a' 1 = ptr A.length ∧ a' 9 = ii j) (fun a' _ => s.ids.length - (iv (a' 9)).toNat) ?_ ?_
    · refine ⟨0, Nat.zero_le _, rfl, ?_⟩
      simp (maxSteps := 1000000) (disch := omega) only [stepS, reduceIte, Nat.reduceBEq, Nat.reduceEqDiff, tupleOf, stepT, stepX, heapR, lensR, Nat.reduceAdd, Nat.reduceLeDiff, g1]
      (all_goals (and_intros <;> first | rfl | assumption | (push_cast; rfl) | (congr 1; omega) | omega | (simp; done)))
    · clear g1
      rintro a2 D ⟨j, hj, hD, g1, g8⟩
      obtain rfl : B0 = D := hD.symm
      clear hD
      rcases Nat.lt_or_ge j s.ids.length with hlt | hge
      · obtain ⟨w, hw⟩ := get_some hlt
        obtain ⟨p, p1, p2⟩ := SlT.at hi hw
        have p3 := p2 B0 k0
        have ry := si2 w (List.mem_of_getElem? hw)
        by_cases d8 : w.size ≤ 64
        · simp (maxSteps := 1000000) (disch := omega) only [stepS, reduceIte, Nat.reduceBEq, Nat.reduceEqDiff, tupleOf, stepT, stepX, heapR, lensR, Nat.reduceAdd, Nat.reduceLeDiff, g1, g8, r1, li, p1, p3]
          exact ⟨⟨j + 1, by omega, rfl⟩, by omega⟩
        · simp (maxSteps := 1000000) (disch := omega) only [stepS, reduceIte, Nat.reduceBEq, Nat.reduceEqDiff, tupleOf, stepT, stepX, heapR, lensR, Nat.reduceAdd, Nat.reduceLeDiff, g1, g8, r1, li, p1, p3]
          exact .inr ⟨k0, rfl, ob _⟩
      · simp (maxSteps := 1000000) (disch := omega) only [stepS, reduceIte, Nat.reduceBEq, Nat.reduceEqDiff, tupleOf, stepT, stepX, heapR, lensR, Nat.reduceAdd, Nat.reduceLeDiff, g1, g8, r1, li]
        (all_goals (and_intros <;> first | rfl | assumption | (push_cast; rfl) | (congr 1; omega) | omega | (simp; done)))
  clear g1
  rintro a B ⟨hB, g1⟩
  obtain rfl : B0 = B := hB.symm
  clear hB
  refine W_midR (fun a B => B = B0 ∧ a 1 = ptr A.length) ?_ ?_
  · simp (maxSteps := 1000000) (disch := omega) only [stepS, reduceIte, Nat.reduceBEq, Nat.reduceEqDiff, tupleOf, stepT, stepX, heapR, lensR, Nat.reduceAdd, Nat.reduceLeDiff, g1]
    refine W_loop (fun a' D => ∃ j : Nat, j ≤ s.masks.length ∧ D = B0 ∧ a' 1 = ptr A.length ∧ a' 10 = ii j) (fun a' _ => s.masks.length - (iv (a' 10)).toNat) ?_ ?_
    · refine ⟨0, Nat.zero_le _, rfl, ?_⟩
      simp (maxSteps := 1000000) (disch := omega) only [stepS, reduceIte, Nat.reduceBEq, Nat.reduceEqDiff, tupleOf, stepT, stepX, heapR, lensR, Nat.reduceAdd, Nat.reduceLeDiff, g1]
      (all_goals (and_intros <;> first | rfl | assumption | (push_cast; rfl) | (congr 1; omega) | omega | (simp; done)))
    · clear g1
      rintro a2 D ⟨j, hj, hD, g1, g8⟩
      obtain rfl : B0 = D := hD.symm
      clear hD
      rcases Nat.lt_or_ge j s.masks.length with hlt | hge
      · obtain ⟨w, hw⟩ := get_some hlt
        obtain ⟨p, p1, p2⟩ := ints_atL hm hw
        have p3 := p2 B0 k0
        have ry := sm2 w (List.mem_of_getElem? hw)
        by_cases d8 : 0 ≤ w
        · by_cases d10 : w ≤ 15
          · simp (maxSteps := 1000000) (disch := omega) only [stepS, reduceIte, Nat.reduceBEq, Nat.reduceEqDiff, tupleOf, stepT, stepX, heapR, lensR, Nat.reduceAdd, Nat.reduceLeDiff, g1, g8, r1, lm, p1, p3]
            exact ⟨⟨j + 1, by omega, rfl⟩, by omega⟩
          · simp (maxSteps := 1000000) (disch := omega) only [stepS, reduceIte, Nat.reduceBEq, Nat.reduceEqDiff, tupleOf, stepT, stepX, heapR, lensR, Nat.reduceAdd, Nat.reduceLeDiff, g1, g8, r1, lm, p1, p3]
            exact .inr ⟨k0, rfl, ob _⟩
        · simp (maxSteps := 1000000) (disch := omega) only [stepS, reduceIte, Nat.reduceBEq, Nat.reduceEqDiff, tupleOf, stepT, stepX, heapR, lensR, Nat.reduceAdd, Nat.reduceLeDiff, g1, g8, r1, lm, p1, p3]
          exact .inr ⟨k0, rfl, ob _⟩
      · simp (maxSteps := 1000000) (disch := omega) only [stepS, reduceIte, Nat.reduceBEq, Nat.reduceEqDiff, tupleOf, stepT, stepX, heapR, lensR, Nat.reduceAdd, Nat.reduceLeDiff, g1, g8, r1, lm]
        (all_goals (and_intros <;> first | rfl | assumption | (push_cast; rfl) | (congr 1; omega) | omega | (simp; done)))
  clear g1
  rintro a B ⟨hB, g1⟩
  obtain rfl : B0 = B := hB.symm
  clear hB
  simp (maxSteps := 1000000) (disch := omega) only [stepS, reduceIte, Nat.reduceBEq, Nat.reduceEqDiff, tupleOf, stepT, stepX, heapR, lensR, Nat.reduceAdd, Nat.reduceLeDiff, g1]
  exact ⟨k0, rfl, ob _⟩
end Go.AS.C


namespace Go.AS.C
open Go Go.Proofs
set_option linter.unusedVariables false
set_option linter.unusedSimpArgs false
set_option maxRecDepth 10000

theorem ref39_Check_spec {A : AH} {v : Value} {l : List StepV} {Q : Value → AH → Prop} (hx : StepsA A v l) (hl : l.length < 2 ^ 50) (hr : ∀ s ∈ l, SmallT s) (hq : ∀ e : Int, (e = 0 → ∀ s ∈ l, MayT s) → Q (ii e) A) : ACalls 3 Tryd.prog chantryref39_Check [v] Q A := by
  refine ACalls.of_fits mixed fits_chantryref39_Check rfl ?_
  unfold ic_chantryref39_Check
  have i0 : initA [v] 0 = v := rfl
  generalize initA [v] = a at i0
  have hll := hx.len
  by_cases h1 : 256 < (l.length : Int)
  · simp (maxSteps := 1000000) (disch := omega) only [stepS, reduceIte, Nat.reduceBEq, Nat.reduceEqDiff, tupleOf, stepT, i0, hll]
    exact hq 4 (fun h => by cases h)
  · simp (maxSteps := 1000000) (disch := omega) only [stepS, reduceIte, Nat.reduceBEq, Nat.reduceEqDiff, tupleOf, stepT, i0, hll]
    refine W_loop (fun a' D => ∃ j : Nat, j ≤ l.length ∧ D = A ∧ a' 0 = v ∧ a' 3 = ii j ∧ ∀ w ∈ l.take j, MayT w) (fun a' _ => l.length - (iv (a' 3)).toNat) ?_ ?_
    · refine ⟨0, Nat.zero_le _, rfl, ?_⟩
      simp (maxSteps := 1000000) (disch := omega) only [stepS, reduceIte, Nat.reduceBEq, Nat.reduceEqDiff, tupleOf, stepT, i0]
      simp
    · rintro a2 D ⟨j, hj, hD, g0, g3, hs⟩
      obtain rfl : A = D := hD.symm
      clear hD
      rcases Nat.lt_or_ge j l.length with hlt | hge
      · obtain ⟨w, hw⟩ := get_some hlt
        obtain ⟨p, x, p1, p2, hx2⟩ := hx.load hw
        have p3 := p2 A (.refl _)
        have htk : l.take (j + 1) = l.take j ++ [w] := by rw [List.take_add_one, hw]; rfl
        simp (maxSteps := 1000000) (disch := omega) only [stepS, reduceIte, Nat.reduceBEq, Nat.reduceEqDiff, tupleOf, stepT, g0, g3, hll, p1, p3]
        refine may_spec hx2 (hr w (List.mem_of_getElem? hw)) fun b hb => ?_
        cases b with
        | false =>
          simp (maxSteps := 1000000) (disch := omega) only [stepS, reduceIte, Nat.reduceBEq, Nat.reduceEqDiff, tupleOf, stepT, g0, g3]
          exact hq 1 (fun h => by cases h)
        | true =>
          simp (maxSteps := 1000000) (disch := omega) only [stepS, reduceIte, Nat.reduceBEq, Nat.reduceEqDiff, tupleOf, stepT, g0, g3]
          refine ⟨⟨j + 1, by omega, rfl, fun x hx => ?_⟩, by omega⟩
          rw [htk, List.mem_append, List.mem_singleton] at hx
          rcases hx with hx | rfl
          · exact hs x hx
          · exact hb rfl
      · simp (maxSteps := 1000000) (disch := omega) only [stepS, reduceIte, Nat.reduceBEq, Nat.reduceEqDiff, tupleOf, stepT, g0, g3, hll]
        rw [List.take_of_length_le hge] at hs
        exact hq 0 (fun _ => hs)
end Go.AS.C


namespace Go.AS.C
open Go Go.Proofs
set_option linter.unusedVariables false
set_option linter.unusedSimpArgs false
set_option maxRecDepth 10000

/-! Two steps in an array. -/
def TwoA (A : AH) (x : Value) (s t : StepV) : Prop := ∃ r q, x = .agg (r ++ q).toArray ∧ StepR A s r ∧ StepR A t q
theorem law_two {A : AH} {F : Nat} {v : Value} (h : GoodV Tryd.prog A (F + 5) 46 v) : ∃ s t : StepV, TwoA A v s t ∧ RangeT s ∧ RangeT t := by
  unfold GoodV at h
  rw [Tryd.underlying46] at h
  obtain ⟨cs, rfl, h⟩ := h
  unfold Good at h
  rw [Tryd.underlying46] at h
  obtain ⟨hl, hf⟩ := h
  have e : Tryd.prog.cellsOf 26 = 5 := by kernel_rfl
  have e2 : Tryd.prog.cellsOf 46 = 10 := by kernel_rfl
  rw [e2] at hl
  rw [e] at hf
  have h0 := hf 0 (by decide)
  have h1 := hf 1 (by decide)
  obtain ⟨s, hs, rs⟩ := good_step h0
  obtain ⟨t, ht, rt⟩ := good_step h1
  obtain ⟨r, er, hr⟩ := stepA_R hs
  obtain ⟨q, eq, hq⟩ := stepA_R ht
  injection er with er
  injection eq with eq
  have er := congrArg Array.toList er
  have eq := congrArg Array.toList eq
  simp only at er eq
  refine ⟨s, t, ⟨r, q, ?_, hr, hq⟩, rs, rt⟩
  rw [← er, ← eq]
  have : cs.toList.take 5 ++ (cs.toList.drop 5).take 5 = cs.toList := by
    rw [List.take_of_length_le (l := cs.toList.drop 5) (by rw [List.length_drop]; omega), List.take_append_drop]
  simp only [Nat.zero_mul, List.drop_zero, Nat.one_mul]
  rw [this]
theorem sla_two {B : AH} {z : Nat} {cs : List Value} (h : rowAt B z = some (cs, .own, 0, true)) (hl : cs.length = 10) :
    sSla B (.pointer (some ⟨z, 0, none⟩)) none (some (.int .i64 1)) none 2 5 = some (.slice (some ⟨z, 0, none⟩) 1 2, B) ∧ sSla B (.pointer (some ⟨z, 0, none⟩)) (some (.int .i64 1)) none none 2 5 = some (.slice (some ⟨z, 5, none⟩) 1 1, B) := by
  have h : getRow B z = some (cs, .own, 0, true) := h
  constructor
  · unfold sSla
    have e : boundsA 2 2 none (some (.int .i64 1)) none = some (0, 1, 2) := rfl
    simp only [e, h, Option.bind_some]
    rw [if_pos ⟨by simp, by omega⟩]
    rfl
  · unfold sSla
    have e : boundsA 2 2 (some (.int .i64 1)) none none = some (1, 2, 2) := rfl
    simp only [e, h, Option.bind_some]
    rw [if_pos ⟨by simp, by omega⟩]
    rfl
theorem eql32 (b : UInt8) : (decide ((b.toNat : Int) = 32)) = decide (b = 32) := by
  rw [Bool.eq_iff_iff, decide_eq_true_iff, decide_eq_true_iff]
  constructor
  · intro h
    apply UInt8.toNat_inj.1
    show b.toNat = 32
    omega
  · rintro rfl; rfl
theorem TellUnlike_spec {A : AH} {x y z : Value} {s t : StateV} {p q : StepV} {Q : Value → AH → Prop} (hg : Le G3 A) (hx : StateA A x s) (hy : StateA A y t) (hz : TwoA A z p q) (rs : RangeS s) (rt : RangeS t) (rp : RangeT p) (rq : RangeT q) (hq : ∀ A', Q (.bool true) A') : ACalls 3 Tryd.prog chantrylaw40_TellUnlike [x, y, z] Q A := by
  have hx0 := hx
  have hy0 := hy
  obtain ⟨c, m, v, l, rfl, hc, hm, hv, hl⟩ := hx
  obtain ⟨c', m', v', l', rfl, hc', hm', hv', hl'⟩ := hy
  obtain ⟨pr, qr, rfl, hp1, hp2⟩ := hz
  have hp0 := hp1
  have hq0 := hp2
  obtain ⟨pt, pi, pm, rfl, hpt, hpi, hpm⟩ := hp1
  obtain ⟨qt, qi, qm, rfl, hqt, hqi, hqm⟩ := hp2
  refine ACalls.of_fits mixed fits_chantrylaw40_TellUnlike rfl ?_
  unfold ic_chantrylaw40_TellUnlike
  obtain ⟨cz, hcz⟩ : ∃ cz : List Value, cz = [ii p.kind, pt, pi, ii p.n, pm, ii q.kind, qt, qi, ii q.n, qm] := ⟨_, rfl⟩
  have ez : [ii p.kind, pt, pi, ii p.n, pm] ++ [ii q.kind, qt, qi, ii q.n, qm] = cz := by rw [hcz]; rfl
  rw [ez]
  have i0 : initA [.agg #[c, m, v, l], .agg #[c', m', v', l'], .agg cz.toArray] 0 = .agg #[c, m, v, l] := rfl
  have i1 : initA [.agg #[c, m, v, l], .agg #[c', m', v', l'], .agg cz.toArray] 1 = .agg #[c', m', v', l'] := rfl
  have i2 : initA [.agg #[c, m, v, l], .agg #[c', m', v', l'], .agg cz.toArray] 2 = .agg cz.toArray := rfl
  generalize initA [.agg #[c, m, v, l], .agg #[c', m', v', l'], .agg cz.toArray] = a at i0 i1 i2
  have oc := (Sl.one1 hc).2
  have om := (Sl.one1 hm).2
  have ov := (Sl.one1 hv).2
  have ol := (Sl.one1 hl).2
  have oc' := (Sl.one1 hc').2
  have om' := (Sl.one1 hm').2
  have ov' := (Sl.one1 hv').2
  have ol' := (Sl.one1 hl').2
  have op1 := (stepR_ok hp0).2
  have op2 := (stepR_ok hq0).2
  have ocz : ones cz = true := by
    rw [← ez]
    unfold ones at op1 op2 ⊢
    rw [List.all_append, op1, op2]
    rfl
  refine W_mid (fun a B => B = A ++ [.row [c, m, v, l] .own 0 true] ++ [.row [c', m', v', l'] .own 0 true] ++ [.row cz .own 0 true] ∧ a 3 = ptr A.length ∧ a 4 = ptr (A.length + 1) ∧ a 5 = ptr (A.length + 2)) ?_ ?_
  · simp (maxSteps := 1000000) (disch := omega) only [stepS, reduceIte, Nat.reduceBEq, Nat.reduceEqDiff, tupleOf, stepT, stepX, heapR, lensR, Nat.reduceAdd, Nat.reduceLeDiff, i0, i1, i2, oc, om, ov, ol, oc', om', ov', ol', ocz]
  rintro a B0 ⟨hB, g3, g4, g5⟩
  have k0 : Le A B0 := by rw [hB]; exact ((Le.push _ _).trans (.push _ _)).trans (.push _ _)
  have r1 : rowAt B0 A.length = some ([c, m, v, l], .own, 0, true) := by rw [hB]; exact ((Le.push _ _).trans (.push _ _)).row (rowAt_own (get_last _ _))
  have r2 : rowAt B0 (A.length + 1) = some ([c', m', v', l'], .own, 0, true) := by
    rw [hB]
    have := (Le.push _ (.row cz .own 0 true)).row (rowAt_own (get_last (A ++ [Blk.row [c, m, v, l] .own 0 true]) (.row [c', m', v', l'] .own 0 true)))
    simpa using this
  have r3 : rowAt B0 (A.length + 2) = some (cz, .own, 0, true) := by
    rw [hB]
    have := rowAt_own (get_last (A ++ [Blk.row [c, m, v, l] .own 0 true] ++ [Blk.row [c', m', v', l'] .own 0 true]) (.row cz .own 0 true))
    simpa using this
  have hl2 : B0.length = A.length + 3 := by rw [hB]; simp
  clear i0 i1 i2 hB
  have hA1 := lt_of_get (rowAt_get r1)
  have hA2 := lt_of_get (rowAt_get r2)
  have hA3 := lt_of_get (rowAt_get r3)
  have z0 : ∀ B : AH, sIarr B (.pointer (some ⟨A.length + 2, 0, none⟩)) (.int .i64 0) 2 5 = some (.pointer (some ⟨A.length + 2, 0, none⟩), B) := fun _ => rfl
  have z1 : ∀ B : AH, sIarr B (.pointer (some ⟨A.length + 2, 0, none⟩)) (.int .i64 1) 2 5 = some (.pointer (some ⟨A.length + 2, 5, none⟩), B) := fun _ => rfl
  have d0 : ∀ B : AH, rowAt B (A.length + 2) = some (cz, .own, 0, true) → sLoadn B (.pointer (some ⟨A.length + 2, 0, none⟩)) 5 = some (.agg #[ii p.kind, pt, pi, ii p.n, pm], B) := fun B h => by
    rw [ldnR, h, ldnQ_some, hcz]; rfl
  have d1 : ∀ B : AH, rowAt B (A.length + 2) = some (cz, .own, 0, true) → sLoadn B (.pointer (some ⟨A.length + 2, 5, none⟩)) 5 = some (.agg #[ii q.kind, qt, qi, ii q.n, qm], B) := fun B h => by
    rw [ldnR, h, ldnQ_some, hcz]; rfl
  have c0 : cut cz 0 5 = some [ii p.kind, pt, pi, ii p.n, pm] := by rw [hcz]; rfl
  have c5 : cut cz 5 5 = some [ii q.kind, qt, qi, ii q.n, qm] := by rw [hcz]; rfl
  have lit2 : ∀ B : AH, sLit B [.int .i64 0, .slice none 0 0, .slice none 0 0, .int .i64 0, .slice none 0 0] 5 2 [(0, 5, .agg #[ii p.kind, pt, pi, ii p.n, pm]), (5, 5, .agg #[ii q.kind, qt, qi, ii q.n, qm])] = some (.slice (some ⟨B.length, 0, none⟩) 2 2, B ++ [.row ([ii p.kind, pt, pi, ii p.n, pm] ++ [ii q.kind, qt, qi, ii q.n, qm]) .own 5 true]) := fun B => litE2 (sz := 5) B rfl rfl rfl op1 op2
  have steps : ∀ B : AH, Le A B → StepsA (B ++ [.row ([ii p.kind, pt, pi, ii p.n, pm] ++ [ii q.kind, qt, qi, ii q.n, qm]) .own 5 true]) (.slice (some ⟨B.length, 0, none⟩) 2 2) [p, q] := fun B hB =>
    ⟨_, (sl_two (sz := 5) (st := .own) (ex := true) B rfl rfl (by decide)).r, ⟨pt, pi, pm, rfl, hpt.le (hB.trans (.push _ _)), hpi.le (hB.trans (.push _ _)), hpm.le (hB.trans (.push _ _))⟩, ⟨qt, qi, qm, rfl, hqt.le (hB.trans (.push _ _)), hqi.le (hB.trans (.push _ _)), hqm.le (hB.trans (.push _ _))⟩, trivial⟩
  have hpA : StepA A (.agg #[ii p.kind, pt, pi, ii p.n, pm]) p := ⟨pt, pi, pm, rfl, hpt, hpi, hpm⟩
  have hqA : StepA A (.agg #[ii q.kind, qt, qi, ii q.n, qm]) q := ⟨qt, qi, qm, rfl, hqt, hqi, hqm⟩
  refine W_midR (fun a B => (SmallS s ∧ SmallS t ∧ SmallT p ∧ SmallT q) ∧ Le B0 B ∧ a 3 = ptr A.length ∧ a 4 = ptr (A.length + 1) ∧ a 5 = ptr (A.length + 2)) ?_ ?_
  · have hgB := hg.trans k0
    simp (maxSteps := 1000000) (disch := omega) only [stepS, reduceIte, Nat.reduceBEq, Nat.reduceEqDiff, tupleOf, stepT, stepX, heapR, lensR, Nat.reduceAdd, Nat.reduceLeDiff, g3, g4, g5, r1, r2, r3]
    refine large_spec (hx0.le k0) fun b hb => ?_
    cases b with
    | true =>
      simp (maxSteps := 1000000) (disch := omega) only [stepS, reduceIte, Nat.reduceBEq, Nat.reduceEqDiff, tupleOf, stepT, stepX, heapR, lensR, Nat.reduceAdd, Nat.reduceLeDiff, g3, g4, g5, r1, r2, r3]
      refine wake hgB ?_
      simp (maxSteps := 1000000) (disch := omega) only [stepS, reduceIte, Nat.reduceBEq, Nat.reduceEqDiff, tupleOf, stepT, stepX, heapR, lensR, Nat.reduceAdd, Nat.reduceLeDiff, reduceCtorEq, false_and, false_or, true_and]
      exact hq _
    | false =>
    have hs := small_of (hb rfl) rs
    simp (maxSteps := 1000000) (disch := omega) only [stepS, reduceIte, Nat.reduceBEq, Nat.reduceEqDiff, tupleOf, stepT, stepX, heapR, lensR, Nat.reduceAdd, Nat.reduceLeDiff, g3, g4, g5, r1, r2, r3]
    refine large_spec (hy0.le k0) fun b hb => ?_
    cases b with
    | true =>
      simp (maxSteps := 1000000) (disch := omega) only [stepS, reduceIte, Nat.reduceBEq, Nat.reduceEqDiff, tupleOf, stepT, stepX, heapR, lensR, Nat.reduceAdd, Nat.reduceLeDiff, g3, g4, g5, r1, r2, r3]
      refine wake hgB ?_
      simp (maxSteps := 1000000) (disch := omega) only [stepS, reduceIte, Nat.reduceBEq, Nat.reduceEqDiff, tupleOf, stepT, stepX, heapR, lensR, Nat.reduceAdd, Nat.reduceLeDiff, reduceCtorEq, false_and, false_or, true_and]
      exact hq _
    | false =>
    have ht := small_of (hb rfl) rt
    have k2 : Le B0 (B0 ++ [.row ([ii p.kind, pt, pi, ii p.n, pm] ++ [ii q.kind, qt, qi, ii q.n, qm]) .own 5 true]) := .push _ _
    have lit3 := lit2 B0
    have hst := steps B0 k0
    generalize B0 ++ [.row ([ii p.kind, pt, pi, ii p.n, pm] ++ [ii q.kind, qt, qi, ii q.n, qm]) .own 5 true] = B1 at k2 lit3 hst
    simp (maxSteps := 1000000) (disch := omega) only [stepS, reduceIte, Nat.reduceBEq, Nat.reduceEqDiff, tupleOf, stepT, stepX, heapR, lensR, Nat.reduceAdd, Nat.reduceLeDiff, g3, g4, g5, r1, r2, r3, z0, z1, c0, c5, lit3]
    refine large39_spec (most := 2) hst (by simp) ⟨by decide, by decide⟩ (fun x hx => ?_) fun b hb => ?_
    · simp only [List.mem_cons, List.not_mem_nil, or_false] at hx
      rcases hx with rfl | rfl
      · exact range_lt rp
      · exact range_lt rq
    cases b with
    | true =>
      simp (maxSteps := 1000000) (disch := omega) only [stepS, reduceIte, Nat.reduceBEq, Nat.reduceEqDiff, tupleOf, stepT, stepX, heapR, lensR, Nat.reduceAdd, Nat.reduceLeDiff, g3, g4, g5]
      refine wake (hgB.trans k2) ?_
      simp (maxSteps := 1000000) (disch := omega) only [stepS, reduceIte, Nat.reduceBEq, Nat.reduceEqDiff, tupleOf, stepT, stepX, heapR, lensR, Nat.reduceAdd, Nat.reduceLeDiff, reduceCtorEq, false_and, false_or, true_and]
      exact hq _
    | false =>
    obtain ⟨_, hsm⟩ := hb rfl
    simp (maxSteps := 1000000) (disch := omega) only [stepS, reduceIte, Nat.reduceBEq, Nat.reduceEqDiff, tupleOf, stepT, stepX, heapR, lensR, Nat.reduceAdd, Nat.reduceLeDiff, g3, g4, g5, reduceCtorEq, false_and, or_false, true_and]
    exact ⟨⟨hs, ht, small_step (hsm p (by simp)) rp, small_step (hsm q (by simp)) rq⟩, k2⟩
  clear g3 g4 g5
  rintro a B1 ⟨⟨ss, st, sp, sq⟩, k1, g3, g4, g5⟩
  have kA := k0.trans k1
  have q1 := k1.row r1
  have q2 := k1.row r2
  have q3 := k1.row r3
  have hB1 := k1.len
  clear r1 r2 r3
  have ss0 := ss
  have st0 := st
  obtain ⟨⟨nc, _⟩, ⟨nm, _⟩, ⟨nv, _⟩, ⟨nl, _⟩⟩ := ss0
  obtain ⟨⟨nc', _⟩, ⟨nm', _⟩, ⟨nv', _⟩, ⟨nl', _⟩⟩ := st0
  have lowr : ∀ {D : AH} {x : Value} {n : Nat} {cs : List Value}, OwnS B1.length D 2 x n cs → ∀ R : List Nat, (∀ k ∈ R, k < B1.length) → ∀ k ∈ R, k ∉ blkOf x := fun h R hR k hk hm => by
    have h1 := (OwnS.ge h k hm).1
    have := hR k hk
    omega
  refine W_mid (fun a B => ∃ u, Le B1 B ∧ a 3 = ptr A.length ∧ a 4 = ptr (A.length + 1) ∧ a 5 = ptr (A.length + 2) ∧ a 7 = u ∧ CountsA B u (s.counts ++ t.counts)) ?_ ?_
  · have l0 : sLit B1 [.string ⟨#[]⟩, .int .i64 0] 2 0 [] = some (.slice (some ⟨B1.length, 0, none⟩) 0 0, B1 ++ [.row [] .own 2 true]) := rfl
    have k2 : Le B1 (B1 ++ [.row [] .own 2 true]) := .push _ _
    have w0 := (lit_noneE (A0 := B1) B1 [.string ⟨#[]⟩, .int .i64 0] 2 (.refl _)).2
    obtain ⟨x1, D1, e1, j1, w1, f1⟩ := OwnE.app (bytes := 24) k2 w0 (hc.le (kA.trans k2)) (countE_ok _) (by decide) (by rw [List.length_map]; simp; omega) (by decide)
    obtain ⟨x2, D2, e2, j2, w2, f2⟩ := OwnE.app (bytes := 24) j1 w1 (hc'.le (kA.trans j1)) (countE_ok _) (by decide) (by simp; omega) (by decide)
    have rd1 := f1.rd (lowr w0.2 [A.length + 1, A.length] (by simp; omega))
    simp (maxSteps := 1000000) (disch := omega) only [stepS, reduceIte, Nat.reduceBEq, Nat.reduceEqDiff, tupleOf, stepT, stepX, heapR, lensR, Nat.reduceAdd, Nat.reduceLeDiff, g3, g4, g5, q1, q2, l0, e1, e2]
    refine ⟨rd1, x2, j2, rfl, ?_⟩
    unfold CountsA
    rw [List.map_append]
    exact w2.2.sl
  clear g3 g4 g5
  rintro a B2 ⟨u, k2, g3, g4, g5, g7, hu⟩
  have hgB := hg.trans (kA.trans k2)
  have q1 := k2.row q1
  have q2 := k2.row q2
  have q3 := k2.row q3
  have hB2 := k2.len
  refine W_midR (fun a B => (∀ w ∈ s.counts ++ t.counts, NoB w.name) ∧ B = B2 ∧ a 3 = ptr A.length ∧ a 4 = ptr (A.length + 1) ∧ a 5 = ptr (A.length + 2)) ?_ ?_
  · simp (maxSteps := 1000000) (disch := omega) only [stepS, reduceIte, Nat.reduceBEq, Nat.reduceEqDiff, tupleOf, stepT, stepX, heapR, lensR, Nat.reduceAdd, Nat.reduceLeDiff, g3, g4, g5, g7]
    have lw := hu.len
    generalize hW : s.counts ++ t.counts = ws at *
    have hwl : ws.length ≤ 200 := by rw [← hW]; simp; omega
    have hws : ∀ w ∈ ws, w.name.size ≤ 100 := by
      rw [← hW]
      intro w hw; rw [List.mem_append] at hw; exact hw.elim (fun h => (ss.1.2 w h).1) (fun h => (st.1.2 w h).1)
    refine W_loop (fun a' D => ∃ j : Nat, j ≤ ws.length ∧ D = B2 ∧ a' 3 = ptr A.length ∧ a' 4 = ptr (A.length + 1) ∧ a' 5 = ptr (A.length + 2) ∧ a' 7 = u ∧ a' 8 = ii j ∧ ∀ w ∈ ws.take j, NoB w.name) (fun a' _ => ws.length - (iv (a' 8)).toNat) ?_ ?_
    · refine ⟨0, Nat.zero_le _, rfl, ?_⟩
      simp (maxSteps := 1000000) (disch := omega) only [stepS, reduceIte, Nat.reduceBEq, Nat.reduceEqDiff, tupleOf, stepT, stepX, heapR, lensR, Nat.reduceAdd, Nat.reduceLeDiff, g3, g4, g5, g7]
      simp
    · clear g3 g4 g5 g7
      rintro a2 D ⟨j, hj, hD, g3, g4, g5, g7, g8, hs⟩
      obtain rfl : B2 = D := hD.symm
      clear hD
      rcases Nat.lt_or_ge j ws.length with hlt | hge
      · obtain ⟨w, hw⟩ := get_some hlt
        have hwz := hws w (List.mem_of_getElem? hw)
        obtain ⟨p, q, p1, p2, p3⟩ := hu.fld hw (o := 0) (x := .string w.name) rfl
        have p3 := p3 B2 (.refl _)
        have htk : ws.take (j + 1) = ws.take j ++ [w] := by rw [List.take_add_one, hw]; rfl
        have bN := bl_size w.name
        simp (maxSteps := 1000000) (disch := omega) only [stepS, reduceIte, Nat.reduceBEq, Nat.reduceEqDiff, tupleOf, stepT, stepX, heapR, lensR, Nat.reduceAdd, Nat.reduceLeDiff, g3, g4, g5, g7, g8, lw]
        refine W_loop (fun a' D => ∃ i : Nat, i ≤ w.name.data.toList.length ∧ D = B2 ∧ a' 3 = ptr A.length ∧ a' 4 = ptr (A.length + 1) ∧ a' 5 = ptr (A.length + 2) ∧ a' 7 = u ∧ a' 8 = ii j ∧ a' 9 = ii i ∧ 32 ∉ w.name.data.toList.take i) (fun a' _ => w.name.data.toList.length - (iv (a' 9)).toNat) ?_ ?_
        · refine ⟨0, Nat.zero_le _, rfl, ?_⟩
          simp (maxSteps := 1000000) (disch := omega) only [stepS, reduceIte, Nat.reduceBEq, Nat.reduceEqDiff, tupleOf, stepT, stepX, heapR, lensR, Nat.reduceAdd, Nat.reduceLeDiff, g3, g4, g5, g7, g8]
          simp
        · clear g3 g4 g5 g7 g8
          rintro a3 D ⟨n, hn, hD, g3, g4, g5, g7, g8, g9, hs1⟩
          obtain rfl : B2 = D := hD.symm
          clear hD
          rcases Nat.lt_or_ge n w.name.data.toList.length with hnl | hnl
          · obtain ⟨b, hb⟩ := get_some hnl
            have hbk : w.name.data.toList.take (n + 1) = w.name.data.toList.take n ++ [b] := by rw [List.take_add_one, hb]; rfl
            have ix := idx_str (A := B2) (k := .i64) hb
            by_cases d4 : b = 32
            · have ed : decide ((b.toNat : Int) = 32) = true := by rw [eql32]; exact decide_eq_true d4
              simp (maxSteps := 1000000) (disch := omega) only [stepS, reduceIte, Nat.reduceBEq, Nat.reduceEqDiff, tupleOf, stepT, stepX, heapR, lensR, Nat.reduceAdd, Nat.reduceLeDiff, g3, g4, g5, g7, g8, g9, p1, p2, p3, ix, ed]
              refine wake hgB ?_
              simp (maxSteps := 1000000) (disch := omega) only [stepS, reduceIte, Nat.reduceBEq, Nat.reduceEqDiff, tupleOf, stepT, stepX, heapR, lensR, Nat.reduceAdd, Nat.reduceLeDiff, reduceCtorEq, false_and, false_or, true_and]
              exact hq _
            · have ed : decide ((b.toNat : Int) = 32) = false := by rw [eql32]; exact decide_eq_false d4
              simp (maxSteps := 1000000) (disch := omega) only [stepS, reduceIte, Nat.reduceBEq, Nat.reduceEqDiff, tupleOf, stepT, stepX, heapR, lensR, Nat.reduceAdd, Nat.reduceLeDiff, g3, g4, g5, g7, g8, g9, p1, p2, p3, ix, ed]
              refine ⟨⟨n + 1, by omega, rfl, ?_⟩, by omega⟩
              rw [hbk, List.mem_append, List.mem_singleton]
              exact fun h => h.elim hs1 (fun e => d4 e.symm)
          · rw [List.take_of_length_le hnl] at hs1
            simp (maxSteps := 1000000) (disch := omega) only [stepS, reduceIte, Nat.reduceBEq, Nat.reduceEqDiff, tupleOf, stepT, stepX, heapR, lensR, Nat.reduceAdd, Nat.reduceLeDiff, g3, g4, g5, g7, g8, g9, p1, p2, p3]
            refine ⟨⟨j + 1, by omega, rfl, fun x hx => ?_⟩, by omega⟩
            rw [htk, List.mem_append, List.mem_singleton] at hx
            rcases hx with hx | rfl
            · exact hs x hx
            · exact hs1
      · rw [List.take_of_length_le hge] at hs
        simp (maxSteps := 1000000) (disch := omega) only [stepS, reduceIte, Nat.reduceBEq, Nat.reduceEqDiff, tupleOf, stepT, stepX, heapR, lensR, Nat.reduceAdd, Nat.reduceLeDiff, g3, g4, g5, g7, g8, lw]
        exact .inl hs
  clear g3 g4 g5 g7 hu
  rintro a B ⟨noC, hB, g3, g4, g5⟩
  obtain rfl : B2 = B := hB.symm
  clear hB
  have lowr : ∀ {D : AH} {x : Value} {n : Nat} {cs : List Value}, OwnS B2.length D 2 x n cs → ∀ R : List Nat, (∀ k ∈ R, k < B2.length) → ∀ k ∈ R, k ∉ blkOf x := fun h R hR k hk hm => by
    have h1 := (OwnS.ge h k hm).1
    have := hR k hk
    omega
  have kA2 := kA.trans k2
  refine W_mid (fun a B => ∃ u, Le B2 B ∧ a 3 = ptr A.length ∧ a 4 = ptr (A.length + 1) ∧ a 5 = ptr (A.length + 2) ∧ a 10 = u ∧ OwnE B2.length B 2 u ((s.members ++ s.values ++ s.lines).map wordE)) ?_ ?_
  · have l0 : sLit B2 [.string ⟨#[]⟩, .string ⟨#[]⟩] 2 0 [] = some (.slice (some ⟨B2.length, 0, none⟩) 0 0, B2 ++ [.row [] .own 2 true]) := rfl
    have k3 : Le B2 (B2 ++ [.row [] .own 2 true]) := .push _ _
    have w0 := (lit_noneE (A0 := B2) B2 [.string ⟨#[]⟩, .string ⟨#[]⟩] 2 (.refl _)).2
    obtain ⟨x1, D1, e1, j1, w1, f1⟩ := OwnE.app (bytes := 32) k3 w0 (hm.le (kA2.trans k3)) (wordE_ok _) (by decide) (by rw [List.length_map]; simp; omega) (by decide)
    obtain ⟨x2, D2, e2, j2, w2, f2⟩ := OwnE.app (bytes := 32) j1 w1 (hv.le (kA2.trans j1)) (wordE_ok _) (by decide) (by simp; omega) (by decide)
    obtain ⟨x3, D3, e3, j3, w3, f3⟩ := OwnE.app (bytes := 32) j2 w2 (hl.le (kA2.trans j2)) (wordE_ok _) (by decide) (by simp; omega) (by decide)
    have rd1 := f1.rd (lowr w0.2 [A.length, A.length, A.length] (by simp; omega))
    have rd2 := f2.rd (lowr w1.2 [A.length, A.length, A.length] (by simp; omega))
    simp (maxSteps := 1000000) (disch := omega) only [stepS, reduceIte, Nat.reduceBEq, Nat.reduceEqDiff, tupleOf, stepT, stepX, heapR, lensR, Nat.reduceAdd, Nat.reduceLeDiff, g3, g4, g5, q1, q2, l0, e1, e2, e3]
    refine ⟨rd1, rd2, x3, j3, rfl, ?_⟩
    rw [List.map_append, List.map_append]
    exact w3
  clear g3 g4 g5
  rintro a B ⟨u, k3, g3, g4, g5, g10, w3⟩
  have q1' := k3.row q1
  have q2' := k3.row q2
  refine W_mid (fun a B => ∃ u, Le B2 B ∧ a 3 = ptr A.length ∧ a 4 = ptr (A.length + 1) ∧ a 5 = ptr (A.length + 2) ∧ a 10 = u ∧ WordsA B u ((s.members ++ s.values ++ s.lines) ++ (t.members ++ t.values ++ t.lines))) ?_ ?_
  · obtain ⟨x1, D1, e1, j1, w4, f1⟩ := OwnE.app (bytes := 32) k3 w3 (hm'.le (kA2.trans k3)) (wordE_ok _) (by decide) (by simp; omega) (by decide)
    obtain ⟨x2, D2, e2, j2, w5, f2⟩ := OwnE.app (bytes := 32) j1 w4 (hv'.le (kA2.trans j1)) (wordE_ok _) (by decide) (by simp; omega) (by decide)
    obtain ⟨x3, D3, e3, j3, w6, f3⟩ := OwnE.app (bytes := 32) j2 w5 (hl'.le (kA2.trans j2)) (wordE_ok _) (by decide) (by simp; omega) (by decide)
    have rd1 := f1.rd (lowr w3.2 [A.length + 1, A.length + 1] (by simp; omega))
    have rd2 := f2.rd (lowr w4.2 [A.length + 1, A.length + 1] (by simp; omega))
    simp (maxSteps := 1000000) (disch := omega) only [stepS, reduceIte, Nat.reduceBEq, Nat.reduceEqDiff, tupleOf, stepT, stepX, heapR, lensR, Nat.reduceAdd, Nat.reduceLeDiff, g3, g4, g5, g10, q1', q2', e1, e2, e3]
    refine ⟨rd1, rd2, x3, j3, rfl, ?_⟩
    have := w6.2.sl
    unfold WordsA
    simpa only [List.map_append, List.append_assoc] using this
  clear g3 g4 g5 g10 w3 q1' q2' k3
  rintro a B3 ⟨u, k3, g3, g4, g5, g7, hu⟩
  have hgB := hgB.trans k3
  have q1 := k3.row q1
  have q2 := k3.row q2
  have q3 := k3.row q3
  have hB3 := k3.len
  clear lowr
  refine W_midR (fun a B => (∀ w ∈ (s.members ++ s.values ++ s.lines) ++ (t.members ++ t.values ++ t.lines), NoB w.name) ∧ B = B3 ∧ a 3 = ptr A.length ∧ a 4 = ptr (A.length + 1) ∧ a 5 = ptr (A.length + 2)) ?_ ?_
  · simp (maxSteps := 1000000) (disch := omega) only [stepS, reduceIte, Nat.reduceBEq, Nat.reduceEqDiff, tupleOf, stepT, stepX, heapR, lensR, Nat.reduceAdd, Nat.reduceLeDiff, g3, g4, g5, g7]
    have lw := hu.len
    generalize hW : (s.members ++ s.values ++ s.lines) ++ (t.members ++ t.values ++ t.lines) = ws at *
    have hwl : ws.length ≤ 200 := by rw [← hW]; simp; omega
    have hws : ∀ w ∈ ws, w.name.size ≤ 100 := by
      rw [← hW]
      simp only [List.mem_append]
      intro w hw
      rcases hw with ((h | h) | h) | ((h | h) | h)
      · exact (ss.2.1.2 w h).1
      · exact (ss.2.2.1.2 w h).1
      · exact (ss.2.2.2.2 w h).1
      · exact (st.2.1.2 w h).1
      · exact (st.2.2.1.2 w h).1
      · exact (st.2.2.2.2 w h).1
    refine W_loop (fun a' D => ∃ j : Nat, j ≤ ws.length ∧ D = B3 ∧ a' 3 = ptr A.length ∧ a' 4 = ptr (A.length + 1) ∧ a' 5 = ptr (A.length + 2) ∧ a' 10 = u ∧ a' 11 = ii j ∧ ∀ w ∈ ws.take j, NoB w.name) (fun a' _ => ws.length - (iv (a' 11)).toNat) ?_ ?_
    · refine ⟨0, Nat.zero_le _, rfl, ?_⟩
      simp (maxSteps := 1000000) (disch := omega) only [stepS, reduceIte, Nat.reduceBEq, Nat.reduceEqDiff, tupleOf, stepT, stepX, heapR, lensR, Nat.reduceAdd, Nat.reduceLeDiff, g3, g4, g5, g7]
      simp
    · clear g3 g4 g5 g7
      rintro a2 D ⟨j, hj, hD, g3, g4, g5, g7, g8, hs⟩
      obtain rfl : B3 = D := hD.symm
      clear hD
      rcases Nat.lt_or_ge j ws.length with hlt | hge
      · obtain ⟨w, hw⟩ := get_some hlt
        have hwz := hws w (List.mem_of_getElem? hw)
        obtain ⟨p, q, p1, p2, p3⟩ := hu.fld hw (o := 0) (x := .string w.name) rfl
        have p3 := p3 B3 (.refl _)
        have htk : ws.take (j + 1) = ws.take j ++ [w] := by rw [List.take_add_one, hw]; rfl
        have bN := bl_size w.name
        simp (maxSteps := 1000000) (disch := omega) only [stepS, reduceIte, Nat.reduceBEq, Nat.reduceEqDiff, tupleOf, stepT, stepX, heapR, lensR, Nat.reduceAdd, Nat.reduceLeDiff, g3, g4, g5, g7, g8, lw]
        refine W_loop (fun a' D => ∃ i : Nat, i ≤ w.name.data.toList.length ∧ D = B3 ∧ a' 3 = ptr A.length ∧ a' 4 = ptr (A.length + 1) ∧ a' 5 = ptr (A.length + 2) ∧ a' 10 = u ∧ a' 11 = ii j ∧ a' 12 = ii i ∧ 32 ∉ w.name.data.toList.take i) (fun a' _ => w.name.data.toList.length - (iv (a' 12)).toNat) ?_ ?_
        · refine ⟨0, Nat.zero_le _, rfl, ?_⟩
          simp (maxSteps := 1000000) (disch := omega) only [stepS, reduceIte, Nat.reduceBEq, Nat.reduceEqDiff, tupleOf, stepT, stepX, heapR, lensR, Nat.reduceAdd, Nat.reduceLeDiff, g3, g4, g5, g7, g8]
          simp
        · clear g3 g4 g5 g7 g8
          rintro a3 D ⟨n, hn, hD, g3, g4, g5, g7, g8, g9, hs1⟩
          obtain rfl : B3 = D := hD.symm
          clear hD
          rcases Nat.lt_or_ge n w.name.data.toList.length with hnl | hnl
          · obtain ⟨b, hb⟩ := get_some hnl
            have hbk : w.name.data.toList.take (n + 1) = w.name.data.toList.take n ++ [b] := by rw [List.take_add_one, hb]; rfl
            have ix := idx_str (A := B3) (k := .i64) hb
            by_cases d4 : b = 32
            · have ed : decide ((b.toNat : Int) = 32) = true := by rw [eql32]; exact decide_eq_true d4
              simp (maxSteps := 1000000) (disch := omega) only [stepS, reduceIte, Nat.reduceBEq, Nat.reduceEqDiff, tupleOf, stepT, stepX, heapR, lensR, Nat.reduceAdd, Nat.reduceLeDiff, g3, g4, g5, g7, g8, g9, p1, p2, p3, ix, ed]
              refine wake hgB ?_
              simp (maxSteps := 1000000) (disch := omega) only [stepS, reduceIte, Nat.reduceBEq, Nat.reduceEqDiff, tupleOf, stepT, stepX, heapR, lensR, Nat.reduceAdd, Nat.reduceLeDiff, reduceCtorEq, false_and, false_or, true_and]
              exact hq _
            · have ed : decide ((b.toNat : Int) = 32) = false := by rw [eql32]; exact decide_eq_false d4
              simp (maxSteps := 1000000) (disch := omega) only [stepS, reduceIte, Nat.reduceBEq, Nat.reduceEqDiff, tupleOf, stepT, stepX, heapR, lensR, Nat.reduceAdd, Nat.reduceLeDiff, g3, g4, g5, g7, g8, g9, p1, p2, p3, ix, ed]
              refine ⟨⟨n + 1, by omega, rfl, ?_⟩, by omega⟩
              rw [hbk, List.mem_append, List.mem_singleton]
              exact fun h => h.elim hs1 (fun e => d4 e.symm)
          · rw [List.take_of_length_le hnl] at hs1
            simp (maxSteps := 1000000) (disch := omega) only [stepS, reduceIte, Nat.reduceBEq, Nat.reduceEqDiff, tupleOf, stepT, stepX, heapR, lensR, Nat.reduceAdd, Nat.reduceLeDiff, g3, g4, g5, g7, g8, g9, p1, p2, p3]
            refine ⟨⟨j + 1, by omega, rfl, fun x hx => ?_⟩, by omega⟩
            rw [htk, List.mem_append, List.mem_singleton] at hx
            rcases hx with hx | rfl
            · exact hs x hx
            · exact hs1
      · rw [List.take_of_length_le hge] at hs
        simp (maxSteps := 1000000) (disch := omega) only [stepS, reduceIte, Nat.reduceBEq, Nat.reduceEqDiff, tupleOf, stepT, stepX, heapR, lensR, Nat.reduceAdd, Nat.reduceLeDiff, g3, g4, g5, g7, g8, lw]
        exact .inl hs
  clear g3 g4 g5 g7 hu
  rintro a B ⟨noW, hB, g3, g4, g5⟩
  obtain rfl : B3 = B := hB.symm
  clear hB
  have nS : NoBS s := ⟨fun w h => noC w (by simp [h]), fun w h => noW w (by simp [h]), fun w h => noW w (by simp [h]), fun w h => noW w (by simp [h])⟩
  have nT : NoBS t := ⟨fun w h => noC w (by simp [h]), fun w h => noW w (by simp [h]), fun w h => noW w (by simp [h]), fun w h => noW w (by simp [h])⟩
  have kA3 := kA2.trans k3
  refine W_mid (fun a B => Le B3 B ∧ a 3 = ptr A.length ∧ a 4 = ptr (A.length + 1) ∧ a 5 = ptr (A.length + 2)) ?_ ?_
  · simp (maxSteps := 1000000) (disch := omega) only [stepS, reduceIte, Nat.reduceBEq, Nat.reduceEqDiff, tupleOf, stepT, stepX, heapR, lensR, Nat.reduceAdd, Nat.reduceLeDiff, g3, g4, g5, q1, q2]
    refine tell_State_spec hgB (hx0.le kA3) ss fun C w k4 o1 => ?_
    have q1' := k4.row q1
    have q2' := k4.row q2
    simp (maxSteps := 1000000) (disch := omega) only [stepS, reduceIte, Nat.reduceBEq, Nat.reduceEqDiff, tupleOf, stepT, stepX, heapR, lensR, Nat.reduceAdd, Nat.reduceLeDiff, g3, g4, g5, q1', q2', k4.rd]
    refine tell_State_spec (hgB.trans k4) (hy0.le (kA3.trans k4)) st fun D w' k5 o2 => ?_
    have q1'' := k5.row q1'
    have q2'' := k5.row q2'
    simp (maxSteps := 1000000) (disch := omega) only [stepS, reduceIte, Nat.reduceBEq, Nat.reduceEqDiff, tupleOf, stepT, stepX, heapR, lensR, Nat.reduceAdd, Nat.reduceLeDiff, g3, g4, g5, q1'', q2'', k5.rd]
    refine ref01_Texts_spec ((OwnT.sl o1).le k5) (OwnT.sl o2) (stateL_len ss) (stateL_len st) fun b1 h1 => ?_
    simp (maxSteps := 1000000) (disch := omega) only [stepS, reduceIte, Nat.reduceBEq, Nat.reduceEqDiff, tupleOf, stepT, stepX, heapR, lensR, Nat.reduceAdd, Nat.reduceLeDiff, g3, g4, g5, q1'', q2'']
    refine ref23_Same_spec (hx0.le ((kA3.trans k4).trans k5)) (hy0.le ((kA3.trans k4).trans k5)) ss st fun b2 h2 => ?_
    obtain rfl : b1 = b2 := by
      rw [Bool.eq_iff_iff, h1, h2]
      exact ⟨stateL_inj nS nT, fun h => by rw [h]⟩
    cases b1
    · simp (maxSteps := 1000000) (disch := omega) only [stepS, reduceIte, Nat.reduceBEq, Nat.reduceEqDiff, tupleOf, stepT, stepX, heapR, lensR, Nat.reduceAdd, Nat.reduceLeDiff, g3, g4, g5, bne_self_eq_false]
      exact k4.trans k5
    · simp (maxSteps := 1000000) (disch := omega) only [stepS, reduceIte, Nat.reduceBEq, Nat.reduceEqDiff, tupleOf, stepT, stepX, heapR, lensR, Nat.reduceAdd, Nat.reduceLeDiff, g3, g4, g5, bne_self_eq_false]
      exact k4.trans k5
  clear g3 g4 g5
  rintro a B4 ⟨k4, g3, g4, g5⟩
  have q3 := k4.row q3
  have hgB := hgB.trans k4
  have kA4 := kA3.trans k4
  have hB4 := k4.len
  refine W_midR (fun a B => (MayT p ∧ MayT q) ∧ Le B4 B ∧ a 5 = ptr (A.length + 2)) ?_ ?_
  · have k5 : Le B4 (B4 ++ [.row ([ii p.kind, pt, pi, ii p.n, pm] ++ [ii q.kind, qt, qi, ii q.n, qm]) .own 5 true]) := .push _ _
    have lit3 := lit2 B4
    have hst := steps B4 kA4
    generalize B4 ++ [.row ([ii p.kind, pt, pi, ii p.n, pm] ++ [ii q.kind, qt, qi, ii q.n, qm]) .own 5 true] = B5 at k5 lit3 hst
    simp (maxSteps := 1000000) (disch := omega) only [stepS, reduceIte, Nat.reduceBEq, Nat.reduceEqDiff, tupleOf, stepT, stepX, heapR, lensR, Nat.reduceAdd, Nat.reduceLeDiff, g5, q3, z0, z1, c0, c5, lit3]
    refine ref39_Check_spec hst (by simp) (fun x hx => ?_) fun e he => ?_
    · simp only [List.mem_cons, List.not_mem_nil, or_false] at hx
      rcases hx with rfl | rfl
      · exact sp
      · exact sq
    by_cases h0 : e = 0
    · have he := he h0
      simp (maxSteps := 1000000) (disch := omega) only [stepS, reduceIte, Nat.reduceBEq, Nat.reduceEqDiff, tupleOf, stepT, stepX, heapR, lensR, Nat.reduceAdd, Nat.reduceLeDiff, g5, reduceCtorEq, false_and, or_false, true_and]
      exact ⟨⟨he p (by simp), he q (by simp)⟩, k5⟩
    · simp (maxSteps := 1000000) (disch := omega) only [stepS, reduceIte, Nat.reduceBEq, Nat.reduceEqDiff, tupleOf, stepT, stepX, heapR, lensR, Nat.reduceAdd, Nat.reduceLeDiff, g5]
      refine wake (hgB.trans k5) ?_
      simp (maxSteps := 1000000) (disch := omega) only [stepS, reduceIte, Nat.reduceBEq, Nat.reduceEqDiff, tupleOf, stepT, stepX, heapR, lensR, Nat.reduceAdd, Nat.reduceLeDiff, reduceCtorEq, false_and, false_or, true_and]
      exact hq _
  clear g3 g4 g5
  rintro a B5 ⟨⟨mp, mq⟩, k5, g5⟩
  have q3 := k5.row q3
  have hgB := hgB.trans k5
  have kA5 := kA4.trans k5
  have hcl : cz.length = 10 := by rw [hcz]; rfl
  obtain ⟨s1, s2⟩ := sla_two q3 hcl
  have hg5 := rowAt_get q3
  have sa : StepsA B5 (.slice (some ⟨A.length + 2, 0, none⟩) 1 2) [p] := ⟨[[ii p.kind, pt, pi, ii p.n, pm]], ⟨rfl, .inr (.inr ⟨A.length + 2, 0, 2, cz, .own, 0, true, rfl, by simp, hg5, by decide, by rw [hcl]; simp, fun j hj => by
    rw [← ez, Nat.zero_add, List.getElem?_append_left (by simpa using hj)]; rfl⟩)⟩, ⟨pt, pi, pm, rfl, hpt.le kA5, hpi.le kA5, hpm.le kA5⟩, trivial⟩
  have sb : StepsA B5 (.slice (some ⟨A.length + 2, 5, none⟩) 1 1) [q] := ⟨[[ii q.kind, qt, qi, ii q.n, qm]], ⟨rfl, .inr (.inr ⟨A.length + 2, 5, 1, cz, .own, 0, true, rfl, by simp, hg5, by decide, by rw [hcl]; simp, fun j hj => by
    rw [← ez, List.getElem?_append_right (by simp)]; simp⟩)⟩, ⟨qt, qi, qm, rfl, hqt.le kA5, hqi.le kA5, hqm.le kA5⟩, trivial⟩
  simp (maxSteps := 1000000) (disch := omega) only [stepS, reduceIte, Nat.reduceBEq, Nat.reduceEqDiff, tupleOf, stepT, stepX, heapR, lensR, Nat.reduceAdd, Nat.reduceLeDiff, g5, q3, z0, z1, c0, c5, s1, s2]
  refine tell_Step_spec hgB (hpA.le kA5) sp ?_
  simp (maxSteps := 1000000) (disch := omega) only [stepS, reduceIte, Nat.reduceBEq, Nat.reduceEqDiff, tupleOf, stepT, stepX, heapR, lensR, Nat.reduceAdd, Nat.reduceLeDiff, g5, q3, z0, z1, c0, c5, s1, s2]
  refine tell_Step_spec hgB (hqA.le kA5) sq ?_
  simp (maxSteps := 1000000) (disch := omega) only [stepS, reduceIte, Nat.reduceBEq, Nat.reduceEqDiff, tupleOf, stepT, stepX, heapR, lensR, Nat.reduceAdd, Nat.reduceLeDiff, g5, eq_strD]
  refine ref39_Same_spec sa sb (fun x hx => by rw [List.mem_singleton] at hx; subst hx; exact sp) (fun x hx => by rw [List.mem_singleton] at hx; subst hx; exact sq) (by simp) (by simp) fun b hb => ?_
  have eb : decide (stepL p = stepL q) = b := by
    rw [Bool.eq_iff_iff, decide_eq_true_iff, hb]
    exact ⟨fun h => by rw [stepL_inj mp mq h], fun h => by injection h with h _; rw [h]⟩
  rw [eb]
  cases b
  · simp (maxSteps := 1000000) (disch := omega) only [stepS, reduceIte, Nat.reduceBEq, Nat.reduceEqDiff, tupleOf, stepT, stepX, heapR, lensR, Nat.reduceAdd, Nat.reduceLeDiff, g5]
    refine wake hgB ?_
    simp (maxSteps := 1000000) (disch := omega) only [stepS, reduceIte, Nat.reduceBEq, Nat.reduceEqDiff, tupleOf, stepT, stepX, heapR, lensR, Nat.reduceAdd, Nat.reduceLeDiff]
    exact hq _
  · simp (maxSteps := 1000000) (disch := omega) only [stepS, reduceIte, Nat.reduceBEq, Nat.reduceEqDiff, tupleOf, stepT, stepX, heapR, lensR, Nat.reduceAdd, Nat.reduceLeDiff, g5]
    refine wake hgB ?_
    simp (maxSteps := 1000000) (disch := omega) only [stepS, reduceIte, Nat.reduceBEq, Nat.reduceEqDiff, tupleOf, stepT, stepX, heapR, lensR, Nat.reduceAdd, Nat.reduceLeDiff]
    exact hq _
theorem TellUnlike_law {A : AH} {v0 v1 v2 : Value} (hG : Le [kBs, kBf, kBn] A) (g0 : GoodV Tryd.prog A 9 31 v0) (g1 : GoodV Tryd.prog A 9 31 v1) (g2 : GoodV Tryd.prog A 9 46 v2) : ACalls 3 Tryd.prog chantrylaw40_TellUnlike [v0, v1, v2] (fun v _ => v = .bool true) A := by
  obtain ⟨s, hs, rs⟩ := law_state g0
  obtain ⟨t, ht, rt⟩ := law_state g1
  obtain ⟨p, q, hz, rp, rq⟩ := law_two g2
  exact TellUnlike_spec hG hs ht hz rs rt rp rq fun _ => rfl
end Go.AS.C
