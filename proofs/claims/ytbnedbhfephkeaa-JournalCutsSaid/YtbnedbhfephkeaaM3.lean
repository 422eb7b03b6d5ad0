/- Lemmas for the proof of a given statement; no conditions. -/
import Derived.Test.YtbnedbhfephkeaaM2
import Derived.ChangeVars
import Derived.OpenShut
import Derived.MakeChecks
namespace Go.AS
open Go
set_option linter.unusedVariables false
set_option linter.unusedSimpArgs false

/-! Rules whose conditions are sought by 'omega' («T» of step.py). -/

section
variable {A B : AH} {v : Value} {sz n : Nat} {cs : List Value}

theorem addI (a b : Int) (h1 : -9223372036854775808 ≤ a + b) (h2 : a + b < 9223372036854775808) : binA .add (.int .i64 a) (.int .i64 b) = some (.int .i64 (a + b)) := binA_addi a b h1 h2
theorem subI (a b : Int) (h1 : -9223372036854775808 ≤ a - b) (h2 : a - b < 9223372036854775808) : binA .sub (.int .i64 a) (.int .i64 b) = some (.int .i64 (a - b)) := binA_subi a b h1 h2
theorem mulI (a b : Int) (h1 : -9223372036854775808 ≤ a * b) (h2 : a * b < 9223372036854775808) : binA .mul (.int .i64 a) (.int .i64 b) = some (.int .i64 (a * b)) := binA_muli a b h1 h2
theorem quoI (a b : Int) (h0 : 0 ≤ a) (hb : 0 < b) (h : a < 9223372036854775808) : binA .quo (.int .i64 a) (.int .i64 b) = some (.int .i64 (a / b)) := by
  simp only [binA]
  rw [if_pos ⟨trivial, by omega⟩, Int.tdiv_eq_ediv_of_nonneg h0, wrap_i64]
  · have := Int.ediv_nonneg h0 (Int.le_of_lt hb); omega
  · have := Int.ediv_le_self b h0; omega
theorem remI (a b : Int) (h0 : 0 ≤ a) (hb : 0 < b) : binA .rem (.int .i64 a) (.int .i64 b) = some (.int .i64 (a % b)) := by
  simp only [binA]
  rw [if_pos ⟨trivial, by omega⟩, Int.tmod_eq_emod_of_nonneg h0]
theorem shrI (a : Int) (k : IntKind) (n : Int) (h0 : 0 ≤ n) (h : n ≤ 64) : binA .shr (.int .i64 a) (.int k n) = some (.int .i64 (a / 2 ^ n.toNat)) := by
  simp only [binA]
  rw [if_neg (by omega)]
  have : min n.toNat IntKind.i64.bits = n.toNat := by
    show min n.toNat 64 = n.toNat
    omega
  rw [this, Int.fdiv_eq_ediv_of_nonneg _ (Int.le_of_lt (Int.pow_pos (by decide)))]
theorem eqlI (k : IntKind) (a b : Int) : binA .eql (.int k a) (.int k b) = some (.bool (decide (a = b))) := by
  rw [binA_eql]; congr 2
theorem neqI (k : IntKind) (a b : Int) : binA .neq (.int k a) (.int k b) = some (.bool (decide (a ≠ b))) := by
  rw [binA_neq]; congr 2
  rw [Bool.eq_iff_iff]; simp
theorem eqS (a b : ByteArray) : binA .eql (.string a) (.string b) = some (.bool (decide (a = b))) := by
  simp only [binA, toList_data]
  congr 2
  rw [Bool.eq_iff_iff]
  simp only [beq_iff_eq, decide_eq_true_eq]
  constructor
  · intro h
    cases a; cases b
    simp only [Array.toList_inj] at h
    rw [h]
  · rintro rfl; rfl
theorem neS (a b : ByteArray) : binA .neq (.string a) (.string b) = some (.bool (decide (a ≠ b))) := by
  have := eqS a b
  simp only [binA, Option.some.injEq, Value.bool.injEq] at this ⊢
  rw [this]
  simp
theorem beqB (A : AH) (a b : Bool) : sBeq A false (.bool a) (.bool b) = some (.bool (a == b), A) := by simp [sBeq]
theorem bneB (A : AH) (a b : Bool) : sBeq A true (.bool a) (.bool b) = some (.bool (a != b), A) := by
  simp only [sBeq]
  cases a <;> cases b <;> rfl
theorem lenS {A : AH} {s : ByteArray} : sLens A true (.string s) = some (.int .i64 s.size, A) := id rfl
theorem lenV {A : AH} {p : Option Addr} {n c : Nat} : sLens A false (.slice p n c) = some (.int .i64 n, A) := id rfl
theorem convI (A : AH) (a : Int) (h1 : -9223372036854775808 ≤ a) (h2 : a < 9223372036854775808) : sConv A .i64 (.int .i64 a) = some (.int .i64 a, A) := conv_ii_ii A a h1 h2
theorem pickB {A : AH} {b : Bool} {x y : Value} : sPick A (.bool b) x y = some (if b = true then x else y, A) := id rfl
theorem ext2 {x y z : Value} : sExt A (.tuple #[x, y, z]) 2 = some (z, A) := id rfl
theorem ext30 {x y z : Value} : sExt A (.tuple #[x, y, z]) 0 = some (x, A) := id rfl
theorem ext31 {x y z : Value} : sExt A (.tuple #[x, y, z]) 1 = some (y, A) := id rfl

theorem inBlockA_ne {R : Exit → AT → AH → Prop} {a : AT} {i j : Nat} (h : j ≠ i) : inBlockA i R (.exit j) a A = R (.exit j) a A := inBlockA_other (by simpa using h)
theorem gd_undef {w : Bool} : gd undef w = false := by cases w <;> rfl
theorem dec_nrefl {α : Sort _} {a : α} [Decidable (a ≠ a)] : decide (a ≠ a) = false := decide_eq_false (fun h => h rfl)
theorem dec_refl {α : Sort _} {a : α} [Decidable (a = a)] : decide (a = a) = true := decide_eq_true rfl

theorem mnI (A : AH) (a b : Int) : sMn A (.int .i64 a) (.int .i64 b) = some (.int .i64 (min a b), A) := by
  simp only [sMn, asI, Option.map_some]
  congr 3
  split <;> omega
theorem mxI (A : AH) (a b : Int) : sMx A (.int .i64 a) (.int .i64 b) = some (.int .i64 (max a b), A) := by
  simp only [sMx, asI, Option.map_some]
  congr 3
  split <;> omega
theorem W_scope {G : Nat} {P : Program} {x : IC} {R : Exit → AT → AH → Prop} {a : AT} : W G P (.scope x) R a A = W G P x (noGotoA R) a A := id rfl

/-- An element's part. -/
theorem SlR.field {v0 : Value} (h : SlR A sz v n cs) {j off : Nat} (hj : j < n) (ho : off < sz) (hc : cs[j * sz + off]? = some v0) :
    ∃ p q, sIaddr A v (.int .i64 (j : Int)) sz = some (p, A) ∧ sFaddr A p off = some (q, A) ∧ sLoad1 A q = some (v0, A) := by
  obtain ⟨h0, h⟩ := h
  have hm : j * sz + sz ≤ n * sz := by
    have := Nat.mul_le_mul_right sz (show j + 1 ≤ n by omega)
    rw [Nat.add_mul, Nat.one_mul] at this
    exact this
  rcases h with ⟨rfl, rfl⟩ | ⟨rfl, rfl⟩ | ⟨i, o, c, rc, st, bsz, ex, rfl, h2, h3, h4, h5, h6⟩
  · omega
  · omega
  · refine ⟨.pointer (some ⟨i, o + j * sz, none⟩), .pointer (some ⟨i, o + j * sz + off, none⟩), ?_, rfl, ?_⟩
    · unfold sIaddr
      simp only [asI, Option.bind_some]
      rw [if_pos ⟨by omega, by omega⟩]
      simp
    · unfold sLoad1 getRow
      simp only [h3, if_neg h4, Option.bind_some]
      rw [Nat.add_assoc, h6 _ (by omega), hc]
      rfl
/-- An element of many cells. -/
theorem SlR.atn (h : SlR A sz v n cs) {j : Nat} (hj : j < n) :
    ∃ p, sIaddr A v (.int .i64 (j : Int)) sz = some (p, A) ∧ sLoadn A p sz = some (.agg ((cs.drop (j * sz)).take sz).toArray, A) := by
  obtain ⟨h0, h⟩ := h
  have hm : j * sz + sz ≤ n * sz := by
    have := Nat.mul_le_mul_right sz (show j + 1 ≤ n by omega)
    rw [Nat.add_mul, Nat.one_mul] at this
    exact this
  rcases h with ⟨rfl, rfl⟩ | ⟨rfl, rfl⟩ | ⟨i, o, c, rc, st, bsz, ex, rfl, h2, h3, h4, h5, h6⟩
  · omega
  · omega
  · refine ⟨.pointer (some ⟨i, o + j * sz, none⟩), ?_, ?_⟩
    · unfold sIaddr
      simp only [asI, Option.bind_some]
      rw [if_pos ⟨by omega, by omega⟩]
      simp
    · unfold sLoadn getRow
      simp only [h3, if_neg h4, Option.bind_some]
      unfold cut
      rw [if_pos (by omega)]
      simp only [Option.map_some]
      congr 4
      apply List.ext_getElem?
      intro k
      rcases Nat.lt_or_ge k sz with hk | hk
      · rw [List.getElem?_take_of_lt hk, List.getElem?_take_of_lt hk, List.getElem?_drop, List.getElem?_drop, Nat.add_assoc, h6 _ (by omega)]
      · rw [List.getElem?_eq_none (by simp; omega), List.getElem?_eq_none (by simp; omega)]
theorem Sl.field {v0 : Value} (h : Sl A sz v n cs) {j off : Nat} (hj : j < n) (ho : off < sz) (hc : cs[j * sz + off]? = some v0) :
    ∃ p q, sIaddr A v (.int .i64 (j : Int)) sz = some (p, A) ∧ sFaddr A p off = some (q, A) ∧ sLoad1 A q = some (v0, A) := h.r.field hj ho hc
theorem Sl.atn (h : Sl A sz v n cs) {j : Nat} (hj : j < n) :
    ∃ p, sIaddr A v (.int .i64 (j : Int)) sz = some (p, A) ∧ sLoadn A p sz = some (.agg ((cs.drop (j * sz)).take sz).toArray, A) := h.r.atn hj

/-- Rows of cells, one behind the other, each of so many. -/
theorem fmap_get {α : Type} {l : List α} {f : α → List Value} {k : Nat} (hf : ∀ x ∈ l, (f x).length = k) {j : Nat} {x : α} (hx : l[j]? = some x) {o : Nat} (ho : o < k) : (l.flatMap f)[j * k + o]? = (f x)[o]? := by
  induction l generalizing j with
  | nil => simp at hx
  | cons y l ih =>
    have hy := hf y (by simp)
    rw [List.flatMap_cons]
    cases j with
    | zero =>
      simp only [List.getElem?_cons_zero, Option.some.injEq] at hx
      subst hx
      rw [Nat.zero_mul, Nat.zero_add, List.getElem?_append_left (by omega)]
    | succ j =>
      rw [List.getElem?_append_right (by rw [hy, Nat.add_mul]; omega)]
      rw [← ih (fun x h => hf x (by simp [h])) (by simpa using hx)]
      congr 1
      rw [hy, Nat.add_mul]; omega
theorem fmap_len {α : Type} {l : List α} {f : α → List Value} {k : Nat} (hf : ∀ x ∈ l, (f x).length = k) : (l.flatMap f).length = l.length * k := by
  induction l with
  | nil => simp
  | cons y l ih =>
    rw [List.flatMap_cons, List.length_append, hf y (by simp), ih (fun x h => hf x (by simp [h])), List.length_cons, Nat.add_mul]
    omega
theorem fmap_cut {α : Type} {l : List α} {f : α → List Value} {k : Nat} (hf : ∀ x ∈ l, (f x).length = k) {j : Nat} {x : α} (hx : l[j]? = some x) : ((l.flatMap f).drop (j * k)).take k = f x := by
  have hfx := hf x (List.mem_of_getElem? hx)
  have hl := fmap_len hf
  have hj := lt_of_get hx
  have hm : j * k + k ≤ l.length * k := by
    have := Nat.mul_le_mul_right k (show j + 1 ≤ l.length by omega)
    rw [Nat.add_mul, Nat.one_mul] at this
    exact this
  apply List.ext_getElem?
  intro o
  rcases Nat.lt_or_ge o k with ho | ho
  · rw [List.getElem?_take_of_lt ho, List.getElem?_drop, fmap_get hf hx ho]
  · rw [List.getElem?_eq_none (by simp; omega), List.getElem?_eq_none (by omega)]

/-- What a call gives that leads nowhere: the heap is as it was. -/
theorem ACalls.pure {G : Nat} {P : Program} {f : FuncId} {args : List Value} {A : AH} {S : Value → Prop} {Q : Value → AH → Prop} (hq : ∀ v, S v → Q v A) (h : ACalls G P f args (fun u A' => Le A A' ∧ flatT u = true ∧ S u) A) : ACalls G P f args Q A := by
  intro μ args' w hr h1 h2
  refine (h μ args' w hr h1 h2).mono ?_
  rintro e w' ⟨v, v', μ', A', rfl, hv, hr', hs, ⟨s, rfl⟩, hf, hS⟩
  obtain ⟨r, rfl⟩ := hs.pre
  refine ⟨v, v', μ, A, rfl, hv.flatT hf, hr.narrow hr' hs.size, ?_, hq v hS⟩
  exact ⟨⟨[], by simp⟩, hs.os, hs.tape, hs.output, hs.size, hs.keep, fun i b e hb ho he _ => ⟨i, b, e, hb, ho, he, rfl⟩⟩
end
end Go.AS

namespace Go.AS
open Go Go.RowKit Go.WideShapes
set_option linter.unusedVariables false
set_option linter.unusedSimpArgs false

/-! What a law's row takes of its arguments, as the laws' specs take it (law.py). -/

section
variable {P : Program} {A : AH} {F : Nat} {t e e2 : TypeId} {v : Value}
theorem reach_lt : reachBytes < 2 ^ 50 := by decide
theorem le_mul_of {a b : Nat} (hb : 0 < b) (h : a * b ≤ reachBytes) : a < 2 ^ 50 :=
  Nat.lt_of_le_of_lt (Nat.le_trans (Nat.le_mul_of_pos_right a hb) h) reach_lt
theorem law_bytes (hu : P.underlying t = some (.slice e)) (he : P.underlying e = some (.int .u8)) (hc : P.cellsOf e = 1) (hb : 0 < P.bytesOf e) (h : GoodV P A (F + 2) t v) : ∃ bs : List UInt8, Byt A v bs ∧ bs.length < 2 ^ 50 := by
  obtain ⟨bs, h1, h2⟩ := good_bytes hu he hc h
  exact ⟨bs, h1, le_mul_of hb h2⟩
theorem law_strs (hu : P.underlying t = some (.slice e)) (he : P.underlying e = some .string) (hc : P.cellsOf e = 1) (hb : 0 < P.bytesOf e) (h : GoodV P A (F + 2) t v) : ∃ l : List ByteArray, Sl A 1 v l.length (l.map .string) ∧ l.length < 2 ^ 50 ∧ ∀ s ∈ l, s.size < 2 ^ 50 := by
  obtain ⟨l, h1, h2, h3⟩ := good_strs hu he hc h
  exact ⟨l, h1, le_mul_of hb h2, fun s hs => Nat.lt_of_le_of_lt (h3 s hs) reach_lt⟩
theorem law_str (hu : P.underlying t = some .string) (h : GoodV P A (F + 1) t v) : ∃ s : ByteArray, v = .string s ∧ s.size < 2 ^ 50 := by
  obtain ⟨s, h1, h2⟩ := good_str hu h
  exact ⟨s, h1, Nat.lt_of_le_of_lt h2 reach_lt⟩
theorem wfI64 {n : Int} (h : (Lit.int .i64 n).wf = true) : -9223372036854775808 ≤ n ∧ n < 9223372036854775808 := by
  simp [Lit.wf, IntKind.bits, IntKind.signed, IntKind.min, IntKind.max] at h
  omega
theorem law_int (hu : P.underlying t = some (.int .i64)) (h : GoodV P A (F + 1) t v) : ∃ n : Int, v = .int .i64 n ∧ -9223372036854775808 ≤ n ∧ n < 9223372036854775808 := by
  obtain ⟨n, h1, h2⟩ := good_int hu h
  exact ⟨n, h1, wfI64 h2⟩
theorem law_ints (hu : P.underlying t = some (.slice e)) (he : P.underlying e = some (.int .i64)) (hc : P.cellsOf e = 1) (hb : 0 < P.bytesOf e) (h : GoodV P A (F + 2) t v) : ∃ l : List Int, Sl A 1 v l.length (ints .i64 l) ∧ l.length < 2 ^ 50 ∧ ∀ n ∈ l, -9223372036854775808 ≤ n ∧ n < 9223372036854775808 := by
  obtain ⟨l, h1, h2, h3⟩ := good_ints hu he hc h
  exact ⟨l, h1, le_mul_of hb h2, fun s hs => wfI64 (h3 s hs)⟩
theorem law_bytess (hu : P.underlying t = some (.slice e)) (he : P.underlying e = some (.slice e2)) (he2 : P.underlying e2 = some (.int .u8)) (hc : P.cellsOf e = 1) (hc2 : P.cellsOf e2 = 1) (hb : 0 < P.bytesOf e) (hb2 : 0 < P.bytesOf e2) (h : GoodV P A (F + 3) t v) :
    ∃ bss : List (List UInt8), Byts A v bss ∧ bss.length < 2 ^ 50 ∧ ∀ bs ∈ bss, bs.length < 2 ^ 50 := by
  obtain ⟨l, h1, h2, h3⟩ := good_bytess hu he he2 hc hc2 h
  exact ⟨l, h1, le_mul_of hb h2, fun s hs => le_mul_of hb2 (h3 s hs)⟩
end
end Go.AS

namespace Go.AS
open Go
set_option linter.unusedVariables false
set_option linter.unusedSimpArgs false

/-! Where one block alone is turned (a struct behind a pointer). -/

/-- All but block i is as it was. -/
def Keep (A : AH) (i : Nat) (A' : AH) : Prop := A.length ≤ A'.length ∧ ∀ k b, k ≠ i → A[k]? = some b → A'[k]? = some b

section
variable {A B C A0 : AH} {v : Value} {sz n i a0 : Nat} {cs : List Value}
theorem Keep.refl (A : AH) (i : Nat) : Keep A i A := ⟨Nat.le_refl _, fun _ _ _ h => h⟩
theorem Keep.trans (h : Keep A i B) (k : Keep B i C) : Keep A i C := ⟨Nat.le_trans h.1 k.1, fun j b hj hb => k.2 j b hj (h.2 j b hj hb)⟩
theorem Le.kp (h : Le A B) (i : Nat) : Keep A i B := ⟨h.len, fun k b _ hb => h.get hb⟩
theorem Keep.le (h : Keep A i B) (hl : Le A0 A) (hi : A0.length ≤ i) : Le A0 B := by
  refine Le.of_get (fun k hk => ?_) (Nat.le_trans hl.len h.1)
  have hb : A0[k]? = some A0[k] := List.getElem?_eq_getElem hk
  rw [hb, h.2 k _ (by omega) (hl.get hb)]
theorem Keep.set (A : AH) (i : Nat) (b : Blk) : Keep A i (A.set i b) := ⟨by rw [List.length_set]; exact Nat.le_refl _, fun k c hk hc => by rw [List.getElem?_set_ne (by omega)]; exact hc⟩
theorem SlR.kp (h : SlR A sz v n cs) (hk : Keep A i B) (hi : ∀ o c, v ≠ .slice (some ⟨i, o, none⟩) n c) : SlR B sz v n cs :=
  h.keep (fun j b hb ⟨o, c, e⟩ => hk.2 j b (fun ej => hi o c (by rw [← ej]; exact e)) hb)
theorem Sl.kp (h : Sl A sz v n cs) (hk : Keep A i B) {z : Nat} {zc : List Value} {zst : St} {zex : Bool} (hi : A[i]? = some (.row zc zst z zex)) (hz : z ≠ sz) : Sl B sz v n cs := by
  obtain ⟨h0, h⟩ := h
  refine ⟨h0, ?_⟩
  rcases h with h | h | ⟨j, o, c, rc, st, ex, h1, h2, h3, h4, h5, h6⟩
  · exact .inl h
  · exact .inr (.inl h)
  · refine .inr (.inr ⟨j, o, c, rc, st, ex, h1, h2, hk.2 j _ ?_ h3, h4, h5, h6⟩)
    rintro rfl
    rw [hi] at h3
    injection h3 with h3
    injection h3 with _ _ h3 _
    exact hz h3
theorem Byt.kp {bs : List UInt8} (h : Byt A v bs) (hk : Keep A i B) {zc : List Value} {zst : St} {zex : Bool} (hi : A[i]? = some (.row zc zst 0 zex)) : Byt B v bs := Sl.kp h hk hi (by omega)
theorem OwnS.kp (h : OwnS a0 A sz v n cs) (hk : Keep A i B) {z : Nat} {zc : List Value} {zst : St} {zex : Bool} (hi : A[i]? = some (.row zc zst z zex)) (hz : z ≠ sz) : OwnS a0 B sz v n cs := by
  obtain ⟨h0, h⟩ := h
  refine ⟨h0, ?_⟩
  rcases h with h | h | ⟨j, o, c, rc, ex, h1, h2, h3, h4, h5, h6⟩
  · exact .inl h
  · exact .inr (.inl h)
  · refine .inr (.inr ⟨j, o, c, rc, ex, h1, h2, h3, hk.2 j _ ?_ h4, h5, h6⟩)
    rintro rfl
    rw [hi] at h4
    injection h4 with h4
    injection h4 with _ _ h4 _
    exact hz h4
theorem OwnB.kp {bs : List UInt8} (h : OwnB a0 A v bs) (hk : Keep A i B) {zc : List Value} {zst : St} {zex : Bool} (hi : A[i]? = some (.row zc zst 0 zex)) : OwnB a0 B v bs := OwnS.kp h hk hi (by omega)

theorem isnil_ptr {A : AH} {x : Addr} {t : TypeId} {neg : Bool} : (if kindOf (.pointer t) (.pointer (some x)) = true then sIsnil A (.pointer (some x)) neg else none) = some (.bool neg, A) := by
  simp [kindOf, sIsnil]
theorem nilc_ptr {A : AH} {x : Addr} : sNilc A (.pointer (some x)) = some (.pointer (some x), A) := id rfl
theorem faddr_ptr {A : AH} {i o k : Nat} : sFaddr A (.pointer (some ⟨i, o, none⟩)) k = some (.pointer (some ⟨i, o + k, none⟩), A) := id rfl
/-- A part of a struct behind a pointer: read. -/
theorem row_load {cs : List Value} {st : St} {ex : Bool} (h : A[i]? = some (.row cs st sz ex)) (hst : st ≠ .dead) {o : Nat} {v : Value} (hv : cs[o]? = some v) : sLoad1 A (.pointer (some ⟨i, o, none⟩)) = some (v, A) := by
  unfold sLoad1 getRow
  simp only [h, if_neg hst, Option.bind_some, hv]
  rfl
/-- A part of a struct behind a pointer: written. -/
theorem row_store {cs : List Value} {ex : Bool} (h : A[i]? = some (.row cs .own sz ex)) {o : Nat} {v : Value} (ho : o < cs.length) (hv : one1 v) :
    sStore A (.pointer (some ⟨i, o, none⟩)) v 1 = some (undef, A.set i (.row (cs.set o v) .own sz ex)) := store1 h ho hv.1 hv.2
/-- A whole struct behind a pointer: read, from its beginning on. -/
theorem row_loadn {cs : List Value} {st : St} {ex : Bool} (h : A[i]? = some (.row cs st sz ex)) (hst : st ≠ .dead) {m : Nat} (hm : m = cs.length) : sLoadn A (.pointer (some ⟨i, 0, none⟩)) m = some (.agg cs.toArray, A) := by
  subst hm
  unfold sLoadn getRow
  simp only [h, if_neg hst, Option.bind_some]
  unfold cut
  rw [if_pos (by omega)]
  simp
/-- A whole struct behind a pointer: written. -/
theorem row_storen {cs : List Value} {ex : Bool} (h : A[i]? = some (.row cs .own sz ex)) {ds : List Value} (hl : ds.length = cs.length) (ho : ones ds = true) {m : Nat} (hm : m = cs.length) :
    sStore A (.pointer (some ⟨i, 0, none⟩)) (.agg ds.toArray) m = some (undef, A.set i (.row ds .own sz ex)) := by
  subst hm
  unfold sStore
  have e : (Value.agg ds.toArray).cells = ds.toArray := rfl
  rw [e]
  simp only [List.size_toArray]
  rw [if_pos hl]
  unfold wr
  simp only [h]
  rw [if_pos ⟨by omega, ho⟩]
  simp only [Option.map_some]
  congr 4
  unfold setAll
  simp [hl]
theorem Keep.rd (h : Keep A i B) {R : List Nat} (hR : ∀ k ∈ R, k ≠ i) : RdOk R A B := fun k hk b hb => h.2 k b (hR k hk) hb
theorem Sl.blk (h : Sl A sz v n cs) {p : Nat} {z : Nat} {zc : List Value} {zst : St} {zex : Bool} (hi : A[p]? = some (.row zc zst z zex)) (hz : z ≠ sz) : ∀ k ∈ blkOf v, k ≠ p := by
  obtain ⟨h0, h⟩ := h
  intro k hk
  rcases h with ⟨rfl, _⟩ | ⟨rfl, _⟩ | ⟨j, o, c, rc, st, ex, rfl, h2, h3, h4, h5, h6⟩
  · cases hk
  · cases hk
  · simp only [blkOf, List.mem_singleton] at hk
    rintro rfl
    subst hk
    rw [hi] at h3
    injection h3 with h3
    injection h3 with _ _ h3 _
    exact hz h3
theorem iaddr_blk {v i p : Value} {sz : Nat} {A' : AH} (h : sIaddr A v i sz = some (p, A')) : blkOf p = blkOf v := by
  unfold sIaddr at h
  split at h
  · rw [Option.bind_eq_some_iff] at h
    obtain ⟨j, _, h⟩ := h
    split at h
    · injection h with h; injection h with h1 h2; subst h1; rfl
    · cases h
  · cases h
theorem set_get {b b' : Blk} (h : A[i]? = some b) : (A.set i b')[i]? = some b' := by rw [List.getElem?_set_self (lt_of_get h)]
end
end Go.AS

namespace Go.AS
open Go
set_option linter.unusedVariables false
set_option linter.unusedSimpArgs false

/-! Slices of slices of bytes, of the call's own. -/

section
variable {A B A0 : AH} {v w t : Value} {sz n a0 : Nat} {cs : List Value}

theorem appBase_len {s : Value} {r : List Value × AH × Nat} (h : appBase A s sz = some r) : r.2.1.length = A.length := by
  unfold appBase at h
  split at h
  · injection h with h; subst h; rfl
  · split at h
    · split at h
      · injection h with h; subst h
        simp only
        split <;> simp
      · cases h
    · cases h
  · injection h with h; subst h; rfl
  · cases h
/-- What is appended to stands in a new row. -/
theorem app_fresh {s x : Value} {p : Option Addr} {k c bytes : Nat} {v' : Value} {A' : AH} (hx : x = .slice p k c) (hk : k ≠ 0) (h : sApp A s x sz bytes = some (v', A')) : blkOf v' = [A.length] := by
  subst hx
  unfold sApp at h
  simp only [Option.bind_eq_some_iff] at h
  obtain ⟨new, _, h⟩ := h
  unfold appA at h
  cases hf : appF A s new k sz bytes with
  | some r =>
    rw [hf] at h
    obtain rfl := Option.some.inj h
    unfold appF at hf
    split at hf
    · split at hf
      · split at hf
        · injection hf with hf; injection hf with h2 h3; subst h2; rfl
        · cases hf
      · cases hf
    · cases hf
  | none =>
  rw [hf, Option.none_or] at h
  unfold appA0 at h
  rw [if_neg hk, Option.bind_eq_some_iff] at h
  obtain ⟨r, h1, h⟩ := h
  split at h
  · injection h with h; injection h with h2 h3; subst h2
    show [r.2.1.length] = _
    rw [appBase_len h1]
  · cases h
/-- How long a slice is (for measures). -/
def lenOf : Value → Nat | .slice _ n _ => n | _ => 0
theorem Byt.lenOf {bs : List UInt8} (h : Byt A v bs) : AS.lenOf v = bs.length := by
  obtain ⟨p, c, hs, _⟩ := h.shape
  rw [hs]; rfl
theorem Byt.lt {bs : List UInt8} (h : Byt A v bs) : ∀ k ∈ blkOf v, k < A.length := by
  obtain ⟨_, h⟩ := h
  intro k hk
  rcases h with ⟨rfl, _⟩ | ⟨rfl, _⟩ | ⟨j, o, c, rc, st, ex, rfl, h2, h3, _⟩
  · cases hk
  · cases hk
  · simp only [blkOf, List.mem_singleton] at hk; subst hk; exact lt_of_get h3
theorem Byt.keepB {bs : List UInt8} (h : Byt A v bs) (hk : ∀ i b, A[i]? = some b → i ∈ blkOf v → B[i]? = some b) : Byt B v bs :=
  Sl.keep h (fun i b hb ⟨o, c, e⟩ => hk i b hb (by rw [e]; simp [blkOf]))
theorem OwnS.ge (h : OwnS a0 A sz v n cs) : ∀ k ∈ blkOf v, a0 ≤ k ∧ k < A.length := by
  obtain ⟨_, h⟩ := h
  intro k hk
  rcases h with ⟨rfl, _⟩ | ⟨rfl, _⟩ | ⟨j, o, c, rc, ex, rfl, h2, h3, h4, _⟩
  · cases hk
  · cases hk
  · simp only [blkOf, List.mem_singleton] at hk; subst hk; exact ⟨h3, lt_of_get h4⟩

/-- What is cut out of a slice stands where it stood. -/
theorem sll_blk {v u : Value} {lo hi mx : Option Value} {A' : AH} (h : sSll A v lo hi mx sz = some (u, A')) : ∀ k ∈ blkOf u, k ∈ blkOf v := by
  unfold sSll at h
  split at h
  · rw [Option.map_eq_some_iff] at h
    obtain ⟨_, _, h⟩ := h
    injection h with h; subst h
    intro k hk; cases hk
  · rw [Option.map_eq_some_iff] at h
    obtain ⟨_, _, h⟩ := h
    injection h with h; subst h
    intro k hk; cases hk
  · rw [Option.bind_eq_some_iff] at h
    obtain ⟨r, _, h⟩ := h
    rw [Option.bind_eq_some_iff] at h
    obtain ⟨b, _, h⟩ := h
    split at h
    · injection h with h; injection h with h; subst h
      intro k hk; cases hk
    · split at h
      · injection h with h; injection h with h; subst h
        intro k hk; exact hk
      · cases h
  · cases h

/-- A slice of the call's own, of slices of bytes. -/
def OwnBs (a0 : Nat) (A : AH) (w : Value) (bss : List (List UInt8)) : Prop :=
  ∃ vs : List Value, OwnS a0 A 1 w vs.length vs ∧ All2 (fun x bs => Byt A x bs) vs bss ∧ ∀ x ∈ vs, ∀ k ∈ blkOf x, k ∉ blkOf w
theorem OwnBs.nil (a0 : Nat) (A : AH) : OwnBs a0 A (.slice none 0 0) [] := ⟨[], OwnS.nil _ _ _, trivial, fun x h => by cases h⟩
theorem OwnBs.le {bss : List (List UInt8)} (h : OwnBs a0 A w bss) (hl : Le A B) : OwnBs a0 B w bss := by
  obtain ⟨vs, h1, h2, h3⟩ := h
  exact ⟨vs, h1.le hl, All2.imp (fun x bs hx => Byt.le hx hl) _ _ h2, h3⟩
theorem OwnBs.byts {bss : List (List UInt8)} (h : OwnBs a0 A w bss) : Byts A w bss := by
  obtain ⟨vs, h1, h2, _⟩ := h
  exact ⟨vs, h1.sl, h2⟩
theorem Byts.le {bss : List (List UInt8)} (h : Byts A w bss) (hl : Le A B) : Byts B w bss := by
  obtain ⟨vs, h1, h2⟩ := h
  exact ⟨vs, h1.le hl, All2.imp (fun x bs hx => Byt.le hx hl) _ _ h2⟩
theorem Byts.len {bss : List (List UInt8)} (h : Byts A w bss) : sLens A false w = some (.int .i64 bss.length, A) := by
  obtain ⟨vs, h1, h2⟩ := h
  rw [All2.len _ _ h2]
  exact h1.len
theorem Byts.at1 {bss : List (List UInt8)} (h : Byts A w bss) {j : Nat} {bs : List UInt8} (hj : bss[j]? = some bs) :
    ∃ p x, sIaddr A w (.int .i64 (j : Int)) 1 = some (p, A) ∧ sLoad1 A p = some (x, A) ∧ Byt A x bs := by
  obtain ⟨vs, h1, h2⟩ := h
  have hlt := lt_of_get hj
  rw [All2.len _ _ h2] at hlt
  obtain ⟨x, hx⟩ : ∃ x, vs[j]? = some x := ⟨_, List.getElem?_eq_getElem hlt⟩
  obtain ⟨p, p1, p2⟩ := h1.at1 hx
  exact ⟨p, x, p1, p2, All2.get _ _ h2 j x bs hx hj⟩
theorem all2_append {α β : Type} {R : α → β → Prop} : ∀ {a : List α} {b : List β} {c : List α} {d : List β}, All2 R a b → All2 R c d → All2 R (a ++ c) (b ++ d)
  | [], [], _, _, _, h => h
  | x :: a, y :: b, _, _, h1, h2 => ⟨h1.1, all2_append h1.2 h2⟩
theorem All2.get_imp {α β : Type} {R S : α → β → Prop} : ∀ {a : List α} {b : List β}, All2 R a b → (∀ (j : Nat) x y, a[j]? = some x → b[j]? = some y → R x y → S x y) → All2 S a b
  | [], [], _, _ => trivial
  | x :: a, y :: b, h, k => ⟨k 0 x y rfl rfl h.1, All2.get_imp h.2 (fun j u v hu hv => k (j + 1) u v (by simpa using hu) (by simpa using hv))⟩
/-- One more slice of bytes. -/
theorem OwnBs.push {bss : List (List UInt8)} {x : List UInt8} (hl : Le A0 A) (h : OwnBs A0.length A w bss) (ht : Byt A t x) (hn : ∀ k ∈ blkOf t, k ∉ blkOf w) (hs : bss.length ≤ 2 ^ 40) :
    ∃ w' A', sApp (A ++ [.row [t] .own 1 true]) w (.slice (some ⟨A.length, 0, none⟩) 1 1) 1 24 = some (w', A') ∧ Le A0 A' ∧ OwnBs A0.length A' w' (bss ++ [x]) ∧ (∀ i b, A[i]? = some b → i ∉ blkOf w → A'[i]? = some b) := by
  obtain ⟨vs, h1, h2, h3⟩ := h
  have k1 : Le A (A ++ [.row [t] .own 1 true]) := .push _ _
  have hlen := All2.len _ _ h2
  have ht1 : ones [t] = true := by
    obtain ⟨p, c, hs, _⟩ := ht.shape
    rw [hs]; rfl
  obtain ⟨w', A', e1, e2, e3, e4⟩ := app_cells (bytes := 24) (hl.trans k1) (h1.le k1) (sl_last A (cs := [t]) (st := .own) (ex := true) (c := 1) (by simp) (by simp)) ht1 (by omega) (by simp; omega) (by omega)
  have hf := app_fresh rfl (by simp) e1
  have keep : ∀ i b, A[i]? = some b → i ∉ blkOf w → A'[i]? = some b := fun i b hb hi => e4 i b (k1.get hb) (fun o c e => hi (by rw [e]; simp [blkOf]))
  refine ⟨w', A', e1, e2, ⟨vs ++ [t], by simpa using e3, all2_append (All2.get_imp h2 ?_) ⟨ht.keepB (fun i b hb hi => keep i b hb (hn i hi)), trivial⟩, ?_⟩, keep⟩
  · intro j y bs hy hb hyb
    exact hyb.keepB (fun i b hb' hi => keep i b hb' (h3 y (List.mem_of_getElem? hy) i hi))
  · intro y hy k hk
    rw [hf]
    have : k < A.length := by
      rcases List.mem_append.1 hy with hy | hy
      · obtain ⟨j, hj⟩ := List.mem_iff_getElem?.1 hy
        have hjl := lt_of_get hj
        obtain ⟨bs, hb⟩ : ∃ bs, bss[j]? = some bs := ⟨_, List.getElem?_eq_getElem (by omega)⟩
        exact (All2.get _ _ h2 j y bs hj hb).lt k hk
      · simp only [List.mem_singleton] at hy; subst hy; exact ht.lt k hk
    simp
    omega
end
end Go.AS

namespace Go.AS
open Go Go.RowKit Go.WideShapes
set_option linter.unusedVariables false
set_option linter.unusedSimpArgs false

/-! Package variables that are only read: the first G blocks. -/

/-- Rows of values that lead nowhere, read only. -/
def gloB : Blk → Bool
  | .row cs .ro 0 false => cs.all fun v => flatV v && v.oneCell'
  | _ => false

theorem gloB_row {b : Blk} (h : gloB b = true) : ∃ cs, b = .row cs .ro 0 false ∧ ∀ v ∈ cs, flatV v = true ∧ v.oneCell' = true := by
  unfold gloB at h
  split at h
  · rw [List.all_eq_true] at h
    exact ⟨_, rfl, fun v hv => by simpa using h v hv⟩
  · cases h

section
variable {G : Nat} {P : Program} {w : World}
/-- One variable more. -/
theorem Rel.addGlo {μ : Mu} {A : AH} (h : Rel 0 μ A w) (hno : ∀ (i : Nat) b, A[i]? = some b → b.isOwn = false) {b : Nat} {cs : List Value} {rc : Array Value} {T : TypeId} {fr : Nat × Nat}
    (hb : w.heap[b]? = some (.cells rc T fr)) (hc : rc.toList = cs) (hf : ∀ v ∈ cs, flatV v = true ∧ v.oneCell' = true) : Rel 0 (μ ++ [⟨b, 0, cs.length, 0⟩]) (A ++ [.row cs .ro 0 false]) w := by
  subst hc
  refine h.addRo hno (o := 0) hb ?_ (Nat.le_refl _)
  intro j v hj
  have := hf v (List.mem_of_getElem? hj)
  exact ⟨this.2, by rw [Nat.zero_add]; simpa using hj, this.1⟩
theorem Rel.glo_up {μ : Mu} {A : AH} (h : Rel 0 μ A w) (hg : ∀ g, g < G → ∃ e : Ent, μ[g]? = some e ∧ e.blk = g ∧ e.off = 0) : Rel G μ A w :=
  ⟨h.len, hg, h.lt, h.row, h.szs, h.sit, h.mp, h.apart⟩

/-- A call with arguments that lead nowhere, that was run in the heap of the package variables alone, does the same in any heap, and leaves it as it is. -/
theorem ACalls.closedG {A0 : AH} (hG : A0.length = G) (hro : A0.all gloB = true) {f : FuncId} {args : List Value} {v : Value} (ha : args.all flatV = true) (hv : flatV v = true) {A : AH} (hle : Le A0 A) {Q : Value → AH → Prop} (h : ACalls G P f args (fun u _ => u = v) A0) (hq : Q v A) : ACalls G P f args Q A := by
  intro μ args' w hr h1 h2
  obtain ⟨s, rfl⟩ := hle
  have hlen := hr.len
  rw [List.length_append] at hlen
  have hall : ∀ (i : Nat) b, A0[i]? = some b → ∃ cs, b = .row cs .ro 0 false ∧ ∀ v ∈ cs, flatV v = true ∧ v.oneCell' = true := fun i b hb => gloB_row (List.all_eq_true.1 hro b (List.mem_of_getElem? hb))
  have up : ∀ {i : Nat} {b : Blk}, A0[i]? = some b → (A0 ++ s)[i]? = some b := fun hb => by
    rw [List.getElem?_append_left (lt_of_get hb), hb]
  have dn : ∀ {i : Nat} {e : Ent}, (μ.take A0.length)[i]? = some e → μ[i]? = some e ∧ i < A0.length := fun he => by
    have := lt_of_get he
    rw [List.length_take] at this
    rw [List.getElem?_take_of_lt (by omega)] at he
    exact ⟨he, by omega⟩
  have hr0 : Rel G (μ.take A0.length) A0 w := by
    refine ⟨by simp; omega, ?_, ?_, ?_, ?_, ?_, ?_, ?_⟩
    · intro g hg
      obtain ⟨e, g1, g2, g3⟩ := hr.glo g hg
      exact ⟨e, by rw [List.getElem?_take_of_lt (by omega)]; exact g1, g2, g3⟩
    · intro i e he; exact hr.lt i e (dn he).1
    · intro i cs st sz ex e hb he hst
      obtain ⟨cs', e1, e2⟩ := hall i _ hb
      obtain ⟨rc, T, fr, g1, g2, g3, g4⟩ := hr.row i cs st sz ex e (up hb) (dn he).1 hst
      injection e1 with e3 e4 e5 e6
      subst e3 e4
      refine ⟨rc, T, fr, g1, fun j v hj => ?_, g3, fun h => by cases h⟩
      obtain ⟨q1, v', q2, q3⟩ := g2 j v hj
      have hf := e2 v (List.mem_of_getElem? hj)
      rw [q3.eq_of_flat hf.1] at q2
      exact ⟨q1, v, q2, .flat hf.1⟩
    · intro i cs st sz ex e hb he; exact hr.szs i cs st sz ex e (up hb) (dn he).1
    · intro i t p e hb he
      obtain ⟨cs', e1, _⟩ := hall i _ hb
      cases e1
    · intro i es e hb he
      obtain ⟨cs', e1, _⟩ := hall i _ hb
      cases e1
    · intro i k b b' e e' hb hb' ho ha2 hne he he'
      obtain ⟨cs', e1, _⟩ := hall i _ hb
      subst e1
      cases ho
  refine (h (μ.take A0.length) args' w hr0 h1 (fun j u u' hu hu' => ?_)).mono ?_
  · have hf := (List.all_eq_true.1 ha) u (List.mem_of_getElem? hu)
    rw [(h2 j u u' hu hu').eq_of_flat hf]
    exact .flat hf
  rintro e w' ⟨u, u', μ', A', rfl, hu, hr', hs, rfl⟩
  have hk : ∀ r, r < w.heap.size → w'.heap[r]? = w.heap[r]? := fun r hr1 => hs.keep r hr1 (by
    intro i b e hb ho
    obtain ⟨cs', e1, _⟩ := hall i _ hb
    subst e1
    cases ho)
  refine ⟨u, u', μ, A0 ++ s, rfl, ?_, ?_, ?_, hq⟩
  · rw [hu.eq_of_flat hv]; exact .flat hv
  · refine ⟨hr.len, hr.glo, ?_, ?_, hr.szs, ?_, ?_, hr.apart⟩
    · intro i e he
      exact Nat.lt_of_lt_of_le (hr.lt i e he) hs.size
    · intro i cs st sz ex e hb he hst
      obtain ⟨rc, T, fr, g1, g2⟩ := hr.row i cs st sz ex e hb he hst
      exact ⟨rc, T, fr, by rw [hk _ (hr.lt i e he)]; exact g1, g2⟩
    · intro i s p e hb he
      rw [hk _ (hr.lt i e he)]; exact hr.sit i s p e hb he
    · intro i es e hb he
      rw [hk _ (hr.lt i e he)]; exact hr.mp i es e hb he
  · exact ⟨⟨[], by simp⟩, hs.os, hs.tape, hs.output, hs.size, fun r hr1 _ => hk r hr1, fun i b e hb ho he _ => ⟨i, b, e, hb, ho, he, rfl⟩⟩
theorem ACalls.runG (hm : P.follows .mixedOrders = true) {A0 : AH} (hG : A0.length = G) (hro : A0.all gloB = true) {tab : List (Nat × CodeE)} (ht : ∀ p ∈ tab, Fits P G p.1 p.2.ic p.2.rs p.2.np) {n d : Nat} {f : FuncId} {args : List Value} {v : Value} (h : (runF P tab n d f args A0).map (·.1) = some v) (ha : args.all flatV = true) (hv : flatV v = true)
    {A : AH} (hle : Le A0 A) {Q : Value → AH → Prop} (hq : Q v A) : ACalls G P f args Q A := by
  rw [Option.map_eq_some_iff] at h
  obtain ⟨⟨u, A'⟩, h, rfl⟩ := h
  exact ACalls.closedG hG hro ha hv hle (runF_ok hm ht n d f args A0 u A' h _ rfl) hq

variable {H : Type} {enc : TypeId × Value → H} {base : Nat} {held : Bool}
/-- A LAW'S ENTRY where there are package variables. -/
theorem calls_of_trodG {F b0 : Nat} {ts : List TypeId} {args : Array Value} {ds : List (DataW H)} {ps : List MemPlace} {f : FuncId} {μ0 : Mu} {A0 : AH} (h0 : Rel 0 μ0 A0 w) (hno : ∀ (i : Nat) b, A0[i]? = some b → b.isOwn = false) (hg : ∀ g, g < G → ∃ e : Ent, μ0[g]? = some e ∧ e.blk = g ∧ e.off = 0)
    (hts : ts.all (fun t => dataT P F t) = true) (ht : DataW.TrodAll enc P w base (fun _ => true) held ts args.toList ds ps) (hw : ∀ n ∈ DataW.weightsEach P ts ds, n ≤ reachBytes)
    (hv : ∀ (j : Nat) t v, ts[j]? = some t → args[j]? = some v → Value.okWide P w .any b0 t v)
    (h : ∀ (us : List Value) (A : AH), us.length = ts.length → Le A0 A → (∀ (j : Nat) t u, ts[j]? = some t → us[j]? = some u → GoodV P A F t u) → ACalls G P f us (fun v _ => v = .bool true) A) :
    Calls P f args w fun e w' => e = .returned (.bool true) ∧ Below w.heap.size w w' := by
  rw [List.all_eq_true] at hts
  obtain ⟨μ, A, us, g1, g2, g3, g4, g5⟩ := open_all ts args.toList ds ps μ0 A0 hts ht hw (fun j t v a b => hv j t v a (by simpa using b)) h0 hno
  have hrel : Rel G μ A w := g1.rel.glo_up (fun g hgg => by
    obtain ⟨e, e1, e2, e3⟩ := hg g hgg
    obtain ⟨r, rfl⟩ := g1.pre
    exact ⟨e, pre_get e1, e2, e3⟩)
  refine (h us A g2 g1.le g5 μ args w hrel (by rw [g2, ← g3, Array.length_toList]) (fun j u v a b => g4 j u v a (by simpa using b))).mono ?_
  rintro e w' ⟨v, v', μ', A', rfl, hv, hr', hs, rfl⟩
  obtain rfl := hv.bool
  refine ⟨rfl, hs.os, hs.tape, hs.output, hs.size, fun k hk => hs.keep k hk ?_⟩
  intro i b e hb ho
  rw [g1.noOwn i b hb] at ho
  cases ho
end
end Go.AS

namespace Go.AS
open Go Go.RowKit Go.WideShapes
set_option linter.unusedVariables false
set_option linter.unusedSimpArgs false

/-! What a laid variable gives: a table of numbers. -/

section
variable {H : Type} {enc : TypeId × Value → H} {P : Program} {w : World}
theorem var_block {n : String} {g : Nat} {cs : Array Value} (hg : P.globalNamed n = some g) (h : w.var? P n = some cs) : ∃ T fr, w.heap[g]? = some (.cells cs T fr) := by
  simp only [World.var?, hg, Option.bind_some] at h
  split at h
  · injection h with h
    subst h
    exact ⟨_, _, by assumption⟩
  · cases h
theorem glo_ints {b0 f : Nat} {sp : Nat → Bool} {held : Bool} {t e : TypeId} {k : IntKind} {l : List Int} {N : Nat} {cs : List Value} {p : List MemPlace} (ht : P.underlying t = some (.array N e)) (he : P.underlying e = some (.int k)) (hce : P.cellsOf e = 1) (hct : P.cellsOf t = N)
    (h : DataW.trod enc P w b0 sp held f t cs = some (.agg (l.map fun n => .lit (.int k n)), p)) : cs = l.map fun n => .int k n := by
  obtain ⟨xs, m, rfl, hx, hlen, hn, hel⟩ := DataW.trod_array ht h
  rw [hce] at hel
  rw [hct] at hlen
  simp only [Prod.mk.injEq, DataW.agg.injEq] at hx
  have hl : l.length = N := by rw [← hn, ← List.length_map (f := fun n => (DataW.lit (.int k n) : DataW H)), hx.1, List.length_map]
  apply List.ext_getElem?
  intro j
  rcases Nat.lt_or_ge j N with hj | hj
  · have h1 := hel j hj
    have h2 : ((cs.drop (j * 1)).take 1) = [cs[j]'(by omega)] := by
      rw [Nat.mul_one, List.drop_eq_getElem_cons (by omega)]
      rfl
    rw [h2] at h1
    have hxj : j < xs.length := by omega
    rw [List.getElem?_eq_getElem hxj] at h1
    obtain ⟨n, e1, e2, _⟩ := DataW.trod_int he h1
    have h3 : (xs.map (·.1))[j]? = some (.lit (.int k n)) := by rw [List.getElem?_map, List.getElem?_eq_getElem hxj, Option.map_some, e2]
    rw [← hx.1, List.getElem?_map, List.getElem?_eq_getElem (by omega)] at h3
    simp only [Option.map_some, Option.some.injEq, DataW.lit.injEq, Lit.int.injEq, true_and] at h3
    rw [List.getElem?_map, List.getElem?_eq_getElem (by omega), List.getElem?_eq_getElem (by omega), Option.map_some, h3]
    rw [List.cons.injEq] at e1
    rw [e1.1]
  · rw [List.getElem?_eq_none (by omega), List.getElem?_eq_none (by simp; omega)]
/-- One table of numbers is laid. -/
theorem laid_ints {n : String} {g : Nat} {t e : TypeId} {k : IntKind} {l : List Int} {N : Nat} (hg : P.globalNamed n = some g) (hgt : (P.globals[g]?).map (·.type) = some t) (ht : P.underlying t = some (.array N e)) (he : P.underlying e = some (.int k)) (hce : P.cellsOf e = 1) (hct : P.cellsOf t = N)
    (h : laidMetH P [(n, .agg (l.map fun m => .lit (.int k m)))] w) : ∃ rc T fr, w.heap[g]? = some (.cells rc T fr) ∧ rc.toList = l.map fun m => .int k m := by
  rw [MakeChecks.laidMetH_plain _ _ _ (by rfl)] at h
  obtain ⟨ps, ⟨g0, t0, cs0, f0, p0, q0, hg0, ht0, hv0, hd0, _⟩, _⟩ := h
  obtain rfl := Option.some.inj (hg.symm.trans hg0)
  obtain rfl := Option.some.inj (hgt.symm.trans ht0)
  obtain ⟨T, fr, hb⟩ := var_block hg hv0
  exact ⟨cs0, T, fr, hb, glo_ints ht he hce hct hd0⟩
theorem rel_none : Rel 0 [] [] w := by
  refine ⟨rfl, fun g hg => by omega, ?_, ?_, ?_, ?_, ?_, ?_⟩ <;> · intros; simp_all
end
end Go.AS

namespace Go.AS
open Go
set_option linter.unusedVariables false
set_option linter.unusedSimpArgs false

/-! Rows that are no more written: what an append leaves readable. Runs with answers that are known. -/

section
variable {G : Nat} {P : Program} {μ : Mu} {A : AH} {w : World}

/-- A block is cut, and less is asked of it. -/
theorem Rel.cutSt (h : Rel G μ A w) {i m : Nat} {cs : List Value} {st : St} {sz : Nat} {ex : Bool} (hi : A[i]? = some (.row cs st sz ex)) (hst : st = .own) : Rel G μ (A.set i (.row (cs.take m) .fz sz false)) w := by
  subst hst
  refine ⟨by simp [h.len], h.glo, h.lt, ?_, ?_, ?_, ?_, ?_⟩
  · intro k cs' st2 sz' ex' e hb he hst
    rcases get_set hb with ⟨rfl, q, _⟩ | ⟨_, hb⟩
    · injection q with q1 q2 q3 q4; subst q1 q2 q3 q4
      obtain ⟨rc, T, fr, g1, g2, g3, g4⟩ := h.row k _ .own _ _ e hi he (by decide)
      refine ⟨rc, T, fr, g1, fun j v hj => ?_, by rw [List.length_take]; omega, fun hh => ⟨(g4 rfl).1, (g4 rfl).2.1, fun h => by cases h⟩⟩
      have hlt := lt_of_get hj
      rw [List.length_take] at hlt
      rw [List.getElem?_take_of_lt (by omega)] at hj
      exact g2 j v hj
    · exact h.row k cs' st2 sz' ex' e hb he hst
  · intro k cs' st2 sz' ex' e hb he
    rcases get_set hb with ⟨rfl, q, _⟩ | ⟨_, hb⟩
    · injection q with _ _ q; subst q; exact h.szs k _ _ _ _ e hi he
    · exact h.szs k cs' st2 sz' ex' e hb he
  · intro k s p e hb he
    rcases get_set hb with ⟨rfl, q, _⟩ | ⟨_, hb⟩
    · cases q
    · exact h.sit k s p e hb he
  · intro k es e hb he
    rcases get_set hb with ⟨rfl, q, _⟩ | ⟨_, hb⟩
    · cases q
    · exact h.mp k es e hb he
  · intro k l b b' e e' hb hb' ho ha hne he he'
    rcases get_set hb with ⟨rfl, rfl, _⟩ | ⟨_, hb2⟩
    · rcases get_set hb' with ⟨rfl, _, _⟩ | ⟨_, hb3⟩
      · exact absurd rfl hne
      · exact h.apart k l _ b' e e' hi hb3 rfl ha hne he he'
    · rcases get_set hb' with ⟨rfl, rfl, _⟩ | ⟨_, hb3⟩
      · exact h.apart k l b _ e e' hb2 hi ho rfl hne he he'
      · exact h.apart k l b b' e e' hb2 hb3 ho ha hne he he'
theorem Stp.cutSt (μ : Mu) (w : World) {i : Nat} {cs ds : List Value} {st : St} {sz : Nat} {ex ex' : Bool} (hi : A[i]? = some (.row cs st sz ex)) (hst : st = .own) : Stp μ A w μ (A.set i (.row ds .fz sz ex')) w := by
  subst hst
  refine ⟨⟨[], by simp⟩, rfl, rfl, rfl, Nat.le_refl _, fun _ _ _ => rfl, ?_⟩
  intro k b e hb ho he _
  rcases get_set hb with ⟨rfl, rfl, _⟩ | ⟨_, hb⟩
  · exact ⟨k, _, e, hi, rfl, he, rfl⟩
  · exact ⟨k, b, e, hb, ho, he, rfl⟩

/-- The first of what a call gave. -/
def head0 : Value → Value
  | .tuple vs => vs.toList.headD undef
  | v => v
/-- The row of the slice that a call gave first is no more written. -/
def frz (v : Value) (A : AH) : AH := match head0 v with
  | .slice (some ⟨i, o, none⟩) n _ => match A[i]? with
    | some (.row cs .own sz ex) => A.set i (.row (cs.take (o + n * sz)) .fz sz false)
    | _ => A
  | _ => A
theorem Rel.frz (h : Rel G μ A w) (v : Value) : Rel G μ (frz v A) w ∧ Stp μ A w μ (AS.frz v A) w := by
  unfold AS.frz
  split
  · split
    · rename_i hrow
      exact ⟨h.cutSt hrow rfl, Stp.cutSt μ w hrow rfl⟩
    · exact ⟨h, Stp.refl _ _ _⟩
  · exact ⟨h, Stp.refl _ _ _⟩
theorem ACalls.frz {f : FuncId} {args : List Value} {Q : Value → AH → Prop} (h : ACalls G P f args (fun v A' => Q v (AS.frz v A')) A) : ACalls G P f args Q A := by
  intro μ args' w hr h1 h2
  refine (h μ args' w hr h1 h2).mono ?_
  rintro e w' ⟨v, v', μ', A', he, hv, hr', hs, hq⟩
  obtain ⟨r1, r2⟩ := hr'.frz v
  exact ⟨v, v', μ', _, he, hv, r1, hs.trans r2, hq⟩

/-- A function, run, with some answers that are known (orc), and some whose first slice is no more written (fz). -/
def runO (P : Program) (tab : List (Nat × CodeE)) (orc : FuncId → List Value → AH → Option (Value × AH)) (fz : FuncId → Bool) (n : Nat) : Nat → FuncId → List Value → AH → Option (Value × AH)
  | 0, _, _, _ => none
  | d + 1, f, args, A => match orc f args A with
    | some r => some r
    | none => match tab.find? (fun p => p.1 == f) with
      | some (_, c) => if args.length = c.np then
          match runC P (runO P tab orc fz n d) n c.ic (initE args 0 .lf) A with
          | some (.normal, a, A') => (resVs a.at A' c.rs).map fun vs => (tupleOf vs, if fz f then frz (tupleOf vs) A' else A')
          | some (.ret, a, A') => (resVs a.at A' c.rs).map fun vs => (tupleOf vs, if fz f then frz (tupleOf vs) A' else A')
          | _ => none
        else none
      | none => none

theorem runO_ok (hm : P.follows .mixedOrders = true) {tab : List (Nat × CodeE)} (ht : ∀ p ∈ tab, Fits P G p.1 p.2.ic p.2.rs p.2.np) {orc : FuncId → List Value → AH → Option (Value × AH)} (ho : CallOk G P orc) (fz : FuncId → Bool) (n : Nat) : ∀ d, CallOk G P (runO P tab orc fz n d)
  | 0 => fun f args A v A' h => by cases h
  | d + 1 => fun f args A v A' h K k => by
    unfold runO at h
    split at h
    · rename_i r hr
      injection h with h; subst h
      exact ho _ _ _ _ _ hr K k
    · split at h
      · rename_i g c hf
        have h1 := ht _ (List.mem_of_find?_eq_some hf)
        have h2 : g = f := by simpa using List.find?_some hf
        subst h2
        split at h
        · rename_i hn
          split at h
          · rename_i a A1 hr
            rw [Option.map_eq_some_iff] at h
            obtain ⟨vs, hv, h⟩ := h
            injection h with h3 h4; subst h3
            split at h4
            · subst h4
              exact ACalls.frz (ACalls.of_fits hm h1 hn (by rw [init_at]; exact runC_ok (runO_ok hm ht ho fz n d) n _ _ _ _ _ _ hr _ ⟨vs, hv, k⟩))
            · subst h4
              exact ACalls.of_fits hm h1 hn (by rw [init_at]; exact runC_ok (runO_ok hm ht ho fz n d) n _ _ _ _ _ _ hr _ ⟨vs, hv, k⟩)
          · rename_i a A1 hr
            rw [Option.map_eq_some_iff] at h
            obtain ⟨vs, hv, h⟩ := h
            injection h with h3 h4; subst h3
            split at h4
            · subst h4
              exact ACalls.frz (ACalls.of_fits hm h1 hn (by rw [init_at]; exact runC_ok (runO_ok hm ht ho fz n d) n _ _ _ _ _ _ hr _ ⟨vs, hv, k⟩))
            · subst h4
              exact ACalls.of_fits hm h1 hn (by rw [init_at]; exact runC_ok (runO_ok hm ht ho fz n d) n _ _ _ _ _ _ hr _ ⟨vs, hv, k⟩)
          · cases h
        · cases h
      · cases h

def orc0 : FuncId → List Value → AH → Option (Value × AH) := fun _ _ _ => none
theorem orc0_ok : CallOk G P orc0 := fun _ _ _ _ _ h => by cases h
/-- A run in the heap of the package variables alone holds in any heap. -/
theorem ACalls.runO (hm : P.follows .mixedOrders = true) {A0 : AH} (hG : A0.length = G) (hro : A0.all gloB = true) {tab : List (Nat × CodeE)} (ht : ∀ p ∈ tab, Fits P G p.1 p.2.ic p.2.rs p.2.np) {orc : FuncId → List Value → AH → Option (Value × AH)} (ho : CallOk G P orc) {fz : FuncId → Bool} {n d : Nat} {f : FuncId} {args : List Value} {v : Value}
    (h : (AS.runO P tab orc fz n d f args A0).map (·.1) = some v) (ha : args.all flatV = true) (hv : flatV v = true) {A : AH} (hle : Le A0 A) {Q : Value → AH → Prop} (hq : Q v A) : ACalls G P f args Q A := by
  rw [Option.map_eq_some_iff] at h
  obtain ⟨⟨u, A'⟩, h, rfl⟩ := h
  exact ACalls.closedG hG hro ha hv hle (runO_ok hm ht ho fz n d f args A0 u A' h _ rfl) hq
end
end Go.AS
