/- Lemmas for the proof of a given statement; no conditions. -/
import Derived.Test.YtghagepgphaboaaDoorM5
import Derived.Sort.Grow
import Derived.Sort.EncStr
import Derived.Lib.Join
import Derived.Below
import Derived.Shelf.Strings.FuncGrows
import Derived.Shelf.Strings.Builder1
import Derived.Shelf.Strings.Builder2
import Derived.Shelf.Strings.OnBuilder
import Derived.Shelf.GgClosure.StringsIndexFunc
import Derived.Shelf.GgClosure.StringsIndexFuncTop
set_option maxHeartbeats 1000000

namespace Go.AS.C
open Go Go.Proofs
set_option linter.unusedVariables false
set_option linter.unusedSimpArgs false
set_option maxRecDepth 10000

theorem mixed : Tryd.prog.follows .mixedOrders = true := by kernel_rfl

end Go.AS.C


namespace Go.AS.C
open Go Go.Proofs
set_option linter.unusedVariables false
set_option linter.unusedSimpArgs false
set_option maxRecDepth 10000

theorem num_is_spec {A : AH} {n : Int} {Q : Value → AH → Prop} (hq : Q (.bool (decide (0 ≤ n ∧ n ≤ 2147483647))) A) : ACalls 1 Tryd.prog num_is [ii n] Q A := by
  refine ACalls.of_fits mixed fits_num_is rfl ?_
  unfold ic_num_is
  have i0 : initA [ii n] 0 = ii n := rfl
  generalize initA [ii n] = a at i0
  by_cases h : (0 : Int) ≤ n
  · have h1 : (n ≥ 0) = True := by simp [h]
    simp only [stepS, reduceIte, Nat.reduceBEq, Nat.reduceEqDiff, tupleOf, i0, binA_geq, binA_leq, h1]
    simpa [h] using hq
  · have h1 : (n ≥ 0) = False := by simp; omega
    simp only [stepS, reduceIte, Nat.reduceBEq, Nat.reduceEqDiff, tupleOf, i0, binA_geq, binA_leq, h1]
    simpa [h] using hq

end Go.AS.C


namespace Go.AS.C
open Go Go.Proofs
set_option linter.unusedVariables false
set_option linter.unusedSimpArgs false
set_option maxRecDepth 10000

end Go.AS.C


namespace Go.AS.C
open Go Go.Proofs
set_option linter.unusedVariables false
set_option linter.unusedSimpArgs false
set_option maxRecDepth 10000

theorem slices_Clone_spec {A : AH} {v : Value} {xs : List UInt8} {Q : Value → AH → Prop} (hv : Byt A v xs) (hl : xs.length ≤ 2 ^ 40) (hq : ∀ u A', Le A A' → OwnB A.length A' u xs → Q u A') :
    ACalls 1 Tryd.prog slices_Clone_byte_byte [v] Q A := by
  refine ACalls.of_fits mixed fits_slices_Clone_byte_byte rfl ?_
  unfold ic_slices_Clone_byte_byte
  have i0 : initA [v] 0 = v := rfl
  generalize initA [v] = a at i0
  obtain ⟨p, c, hs, hp⟩ := hv.shape
  cases p with
  | none =>
    have c1 : (if kindOf (.slice 5) v = true then sIsnil A v false else none) = some (.bool true, A) := by subst hs; rfl
    simp only [stepS, reduceIte, Nat.reduceBEq, Nat.reduceEqDiff, tupleOf, i0, c1]
    rw [hp rfl] at hq
    exact hq _ _ (.refl _) (OwnB.nil _ _)
  | some b =>
    have c1 : (if kindOf (.slice 5) v = true then sIsnil A v false else none) = some (.bool false, A) := by subst hs; rfl
    obtain ⟨v', A', q1, q2, q3, _⟩ := app_bytes (A0 := A) (A := A ++ [.row [] .own 1 true]) (v := .slice (some ⟨A.length, 0, none⟩) 0 0) (bs := []) (.push _ _) (own_lit_none (.refl _)) (hv.le (.push _ _)) (by simp; omega)
    simp only [stepS, reduceIte, Nat.reduceBEq, Nat.reduceEqDiff, tupleOf, i0, c1, lit_none, q1]
    exact hq _ _ q2 q3

end Go.AS.C


namespace Go.AS.C
open Go Go.Proofs
set_option linter.unusedVariables false
set_option linter.unusedSimpArgs false
set_option maxRecDepth 10000

/-- A cursor: none: it is bad; else what is left. -/
abbrev CurS := Option (List UInt8)
/-- A cursor behind a pointer. -/
def CurA (a0 : Nat) (A : AH) (i : Nat) (st : CurS) : Prop :=
  ∃ v : Value, (a0 ≤ i ∧ ∀ k ∈ blkOf v, k < i) ∧ A[i]? = some (.row [v, .bool st.isNone] .own 0 true) ∧ (match st with | none => v = .slice none 0 0 | some bs => Byt A v bs ∧ bs.length ≤ 2 ^ 40)
abbrev ptr (i : Nat) : Value := .pointer (some ⟨i, 0, none⟩)
def takeC (st : CurS) (n : Int) : CurS × List UInt8 := match st with
  | none => (none, [])
  | some bs => if 0 ≤ n ∧ n ≤ bs.length then (some (bs.drop n.toNat), bs.take n.toNat) else (none, [])
def byteC (st : CurS) : CurS × Nat := match st with
  | none => (none, 0)
  | some [] => (none, 0)
  | some (b :: r) => (some r, b.toNat)
def textC (st : CurS) : CurS × List UInt8 := match st with
  | none => (none, [])
  | some bs => match getN bs with | some (n, k) => if n ≤ 262144 then takeC (some (bs.drop k)) n else (none, []) | none => (none, [])
def leftC (st : CurS) : Nat := match st with | none => 0 | some bs => bs.length

theorem CurA.keep {a0 i j : Nat} {A B : AH} {st : CurS} (h : CurA a0 A i st) (hk : Keep A j B) (hij : i ≠ j) (hj : ∀ c, A[j]? = some c → ∃ cs t sz ex, c = .row cs t sz ex ∧ sz ≠ 1) : CurA a0 B i st := by
  obtain ⟨v, h1, h2, h3⟩ := h
  refine ⟨v, h1, hk.2 i _ hij h2, ?_⟩
  cases st with
  | none => exact h3
  | some bs =>
    refine ⟨?_, h3.2⟩
    cases hc : A[j]? with
    | some c =>
      obtain ⟨cs, t, sz, ex, rfl, hsz⟩ := hj c hc
      exact Sl.kp h3.1 hk hc hsz
    | none =>
      refine Sl.keep h3.1 (fun k b hb _ => hk.2 k b ?_ hb)
      rintro rfl
      rw [hc] at hb; cases hb
theorem CurA.le {a0 i : Nat} {A B : AH} {st : CurS} (h : CurA a0 A i st) (hl : Le A B) : CurA a0 B i st := by
  obtain ⟨v, h1, h2, h3⟩ := h
  refine ⟨v, h1, hl.get h2, ?_⟩
  cases st with
  | none => exact h3
  | some bs => exact ⟨h3.1.le hl, h3.2⟩

/-- What a cursor leads to stands ahead of it. -/
theorem CurA.keepB {a0 i : Nat} {A B : AH} {st : CurS} (h : CurA a0 A i st) (hk : ∀ j b, A[j]? = some b → j ≤ i → B[j]? = some b) : CurA a0 B i st := by
  obtain ⟨v, h1, h2, h3⟩ := h
  refine ⟨v, h1, hk i _ h2 (Nat.le_refl _), ?_⟩
  cases st with
  | none => exact h3
  | some bs => exact ⟨h3.1.keepB fun j b hb hj => hk j b hb (Nat.le_of_lt (h1.2 j hj)), h3.2⟩
theorem CurA.lt {a0 i : Nat} {A : AH} {st : CurS} (h : CurA a0 A i st) : i < A.length := by
  obtain ⟨v, _, h2, _⟩ := h
  exact lt_of_get h2

section
variable {A A0 : AH} {i : Nat} {st : CurS} {Q : Value → AH → Prop}
end
end Go.AS.C


namespace Go.AS
open Go
set_option linter.unusedVariables false
set_option linter.unusedSimpArgs false

/-! Slices of elements of some cells each, of the call's own: read, written, swapped. -/

/-- All but the row at which v leads is as it was. -/
def KeepV (A : AH) (v : Value) (A' : AH) : Prop := A.length ≤ A'.length ∧ ∀ k b, A[k]? = some b → k ∉ blkOf v → A'[k]? = some b
def OwnE (a0 : Nat) (A : AH) (sz : Nat) (v : Value) (es : List (List Value)) : Prop := (∀ e ∈ es, e.length = sz ∧ ones e = true) ∧ OwnS a0 A sz v es.length es.flatten

section
variable {A B C A0 : AH} {v w : Value} {sz n a0 : Nat} {cs : List Value} {es fs : List (List Value)}
theorem KeepV.refl (A : AH) (v : Value) : KeepV A v A := ⟨Nat.le_refl _, fun _ _ h _ => h⟩
theorem KeepV.trans (h : KeepV A v B) (k : KeepV B v C) : KeepV A v C := ⟨Nat.le_trans h.1 k.1, fun j b hb hj => k.2 j b (h.2 j b hb hj) hj⟩
theorem KeepV.le (h : KeepV A v B) (hl : Le A0 A) (hi : ∀ k ∈ blkOf v, A0.length ≤ k) : Le A0 B := by
  refine Le.of_get (fun k hk => ?_) (Nat.le_trans hl.len h.1)
  have hb : A0[k]? = some A0[k] := List.getElem?_eq_getElem hk
  rw [hb, h.2 k _ (hl.get hb) (fun hm => by have := hi k hm; omega)]
theorem iaddr_any {x i p : Value} {A' : AH} (h : sIaddr A x i sz = some (p, A')) (B : AH) : sIaddr B x i sz = some (p, B) := by
  unfold sIaddr at h ⊢
  split at h
  · rw [Option.bind_eq_some_iff] at h
    obtain ⟨j, h1, h⟩ := h
    split at h
    · rename_i hc
      injection h with h; injection h with h2 h3; subst h2
      simp only [h1, Option.bind_some]
      rw [if_pos hc]
    · cases h
  · cases h
theorem ones_flatten (h : ∀ e ∈ es, e.length = sz ∧ ones e = true) : ones es.flatten = true := by
  unfold ones
  rw [List.all_eq_true]
  intro x hx
  obtain ⟨e, he, hx⟩ := List.mem_flatten.1 hx
  have := (h e he).2
  unfold ones at this
  rw [List.all_eq_true] at this
  exact this x hx
theorem flat_len' (h : ∀ e ∈ es, e.length = sz ∧ ones e = true) : es.flatten.length = es.length * sz := flat_len es sz (fun j c hc => (h c (List.mem_of_getElem? hc)).1)
theorem flat_cut (h : ∀ e ∈ es, e.length = sz ∧ ones e = true) {j : Nat} {e : List Value} (hj : es[j]? = some e) : (es.flatten.drop (j * sz)).take sz = e := by
  have h1 := flat_part es j e hj
  have h2 := flat_len_take es sz (fun j c hc => (h c (List.mem_of_getElem? hc)).1) j (Nat.le_of_lt (lt_of_get hj))
  rw [h2, (h e (List.mem_of_getElem? hj)).1] at h1
  exact h1
theorem flat_at (h : ∀ e ∈ es, e.length = sz ∧ ones e = true) {j o : Nat} {e : List Value} (hj : es[j]? = some e) (ho : o < sz) : es.flatten[j * sz + o]? = e[o]? := by
  have := flat_cut h hj
  rw [← this, List.getElem?_take_of_lt ho, List.getElem?_drop]
/-- An element is read. -/
theorem Sl.el (h : Sl A sz v es.length es.flatten) (he : ∀ e ∈ es, e.length = sz ∧ ones e = true) {j : Nat} {e : List Value} (hj : es[j]? = some e) :
    ∃ p, blkOf p = blkOf v ∧ (∀ (B : AH) (n : Int), n = (j : Int) → sIaddr B v (.int .i64 n) sz = some (p, B)) ∧ sLoadn A p sz = some (.agg e.toArray, A) ∧ ∀ B, (∀ k b, A[k]? = some b → k ∈ blkOf v → B[k]? = some b) → sLoadn B p sz = some (.agg e.toArray, B) := by
  obtain ⟨p, p1, p2⟩ := h.atn (lt_of_get hj)
  rw [flat_cut he hj] at p2
  refine ⟨p, iaddr_blk p1, ?_, p2, fun B hB => ?_⟩
  · rintro B n rfl; exact iaddr_any p1 B
  · have hb := iaddr_blk p1
    unfold sLoadn at p2 ⊢
    split at p2
    · rename_i i o
      rw [Option.bind_eq_some_iff] at p2
      obtain ⟨r, q1, q2⟩ := p2
      rw [Option.map_eq_some_iff] at q2
      obtain ⟨l, q2, q3⟩ := q2
      injection q3 with q3 q4
      obtain ⟨r1, r2, r3, r4⟩ := r
      obtain ⟨g1, g2⟩ := getRow_some q1
      have g3 := hB i _ g1 (by rw [← hb]; simp [blkOf])
      have : getRow B i = some (r1, r2, r3, r4) := by unfold getRow; simp only [g3, if_neg g2]
      simp only [this, Option.bind_some, q2, Option.map_some, q3]
    · cases p2
theorem OwnE.el (h : OwnE a0 A sz v es) {j : Nat} {e : List Value} (hj : es[j]? = some e) :
    ∃ p, blkOf p = blkOf v ∧ (∀ (B : AH) (n : Int), n = (j : Int) → sIaddr B v (.int .i64 n) sz = some (p, B)) ∧ sLoadn A p sz = some (.agg e.toArray, A) ∧ ∀ B, (∀ k b, A[k]? = some b → k ∈ blkOf v → B[k]? = some b) → sLoadn B p sz = some (.agg e.toArray, B) := Sl.el h.2.sl h.1 hj
/-- An element is written. -/
theorem OwnE.put (h : OwnE a0 A sz v es) {j : Nat} {e : List Value} (hj : j < es.length) (h1 : e.length = sz) (h2 : ones e = true) {p : Value} (hp : sIaddr A v (.int .i64 (j : Int)) sz = some (p, A)) :
    ∃ A', sStore A p (.agg e.toArray) sz = some (undef, A') ∧ OwnE a0 A' sz v (es.set j e) ∧ KeepV A v A' := by
  obtain ⟨he, hs⟩ := h
  have hfl := flat_len' he
  have hm : j * sz + sz ≤ es.length * sz := by
    have := Nat.mul_le_mul_right sz (show j + 1 ≤ es.length by omega)
    rw [Nat.add_mul, Nat.one_mul] at this
    exact this
  obtain ⟨h0, hs⟩ := hs
  rcases hs with ⟨rfl, hz⟩ | ⟨rfl, hz⟩ | ⟨i, o, c, rc, ex, rfl, k2, k3, k4, k5, k6⟩
  · omega
  · omega
  · have e1 : sIaddr A (.slice (some ⟨i, o, none⟩) es.length c) (.int .i64 (j : Int)) sz = some (.pointer (some ⟨i, o + j * sz, none⟩), A) := by
      unfold sIaddr
      simp only [asI, Option.bind_some]
      rw [if_pos ⟨by omega, by omega⟩]
      simp
    rw [e1] at hp
    injection hp with hp; injection hp with hp _; subst hp
    have ec : (Value.agg e.toArray).cells = e.toArray := rfl
    refine ⟨A.set i (.row (setAll rc (o + j * sz) e) .own sz ex), ?_, ⟨?_, ?_⟩, ?_⟩
    · unfold sStore
      rw [ec]
      simp only [List.size_toArray]
      rw [if_pos h1]
      unfold wr
      simp only [k4]
      rw [if_pos ⟨by omega, h2⟩]
      rfl
    · intro x hx
      rcases List.mem_or_eq_of_mem_set hx with hx | rfl
      · exact he x hx
      · exact ⟨h1, h2⟩
    · have he' : ∀ x ∈ es.set j e, x.length = sz ∧ ones x = true := by
        intro x hx
        rcases List.mem_or_eq_of_mem_set hx with hx | rfl
        · exact he x hx
        · exact ⟨h1, h2⟩
      have hl2 : (es.set j e).length = es.length := List.length_set ..
      refine ⟨by rw [flat_len' he'], .inr (.inr ⟨i, o, c, setAll rc (o + j * sz) e, ex, by rw [hl2], by rw [hl2]; exact k2, k3, by rw [List.getElem?_set_self (lt_of_get k4)], ?_, ?_⟩)⟩
      · rw [setAll_length _ _ _ (by omega), hl2]; exact k5
      · intro m hm2
        rw [hl2] at hm2
        have hsz : 0 < sz := by
          rcases Nat.eq_zero_or_pos sz with h | h
          · subst h; omega
          · exact h
        rw [setAll_get _ _ _ (by omega)]
        obtain ⟨q, r, rfl, hr⟩ : ∃ q r, m = q * sz + r ∧ r < sz := ⟨m / sz, m % sz, by rw [Nat.mul_comm]; exact (Nat.div_add_mod m sz).symm, Nat.mod_lt _ hsz⟩
        have hq : q < es.length := by
          rcases Nat.lt_or_ge q es.length with h | h
          · exact h
          · have := Nat.mul_le_mul_right sz h; omega
        by_cases hqj : q = j
        · subst hqj
          rw [if_pos ⟨by omega, by omega⟩, flat_at he' (j := q) (o := r) (e := e) (List.getElem?_set_self hq) hr]
          congr 1; omega
        · obtain ⟨x, hx⟩ : ∃ x, es[q]? = some x := ⟨_, List.getElem?_eq_getElem hq⟩
          have hne : ¬ (o + j * sz ≤ o + (q * sz + r) ∧ o + (q * sz + r) < o + j * sz + e.length) := by
            rintro ⟨u1, u2⟩
            rcases Nat.lt_or_gt_of_ne hqj with hlt | hgt
            · have := Nat.mul_le_mul_right sz (show q + 1 ≤ j by omega)
              rw [Nat.add_mul, Nat.one_mul] at this; omega
            · have := Nat.mul_le_mul_right sz (show j + 1 ≤ q by omega)
              rw [Nat.add_mul, Nat.one_mul] at this; omega
          rw [if_neg hne, k6 _ hm2, flat_at he hx hr, flat_at he' (e := x) (by rw [List.getElem?_set_ne (by omega)]; exact hx) hr]
    · refine ⟨by rw [List.length_set]; exact Nat.le_refl _, fun k b hb hk => ?_⟩
      rw [List.getElem?_set_ne (fun h => hk (by subst h; simp [blkOf]))]
      exact hb
theorem OwnE.le (h : OwnE a0 A sz v es) (hl : Le A B) : OwnE a0 B sz v es := ⟨h.1, h.2.le hl⟩
theorem OwnE.ge (h : OwnE a0 A sz v es) : ∀ k ∈ blkOf v, a0 ≤ k ∧ k < A.length := h.2.ge
theorem OwnE.len (h : OwnE a0 A sz v es) : sLens A false v = some (.int .i64 es.length, A) := h.2.sl.len
end
end Go.AS


namespace Go.AS
open Go
set_option linter.unusedVariables false
set_option linter.unusedSimpArgs false

/-! Lists in order by a key; rearrangements that keep what has one key in its order. -/

theorem bytesLess_lt : ∀ (x y : List UInt8), Op.bytesLess x y = decide (x < y)
  | [], [] => by simp [Op.bytesLess]
  | _ :: _, [] => by simp [Op.bytesLess]
  | [], _ :: _ => by simp [Op.bytesLess]
  | a :: x, b :: y => by
    rw [Op.bytesLess, bytesLess_lt x y]
    simp only [List.cons_lt_cons_iff]
    by_cases h1 : a < b <;> by_cases h2 : a = b <;> by_cases h3 : x < y <;> simp [h1, h2, h3]

theorem kl_irr (a : List UInt8) : ¬ a < a := List.lt_irrefl a
theorem kl_tr {a b c : List UInt8} (h : a < b) (k : b < c) : a < c := List.lt_trans h k
section
variable {α : Type} {key : α → List UInt8}
/-- A stable rearrangement. -/
def Rk (key : α → List UInt8) (l l' : List α) : Prop := l'.length = l.length ∧ ∀ k, l'.filter (fun e => decide (key e = k)) = l.filter (fun e => decide (key e = k))
/-- In order. -/
def Srt (key : α → List UInt8) (l : List α) : Prop := l.Pairwise fun a b => ¬ key b < key a

theorem Rk.refl (l : List α) : Rk key l l := ⟨rfl, fun _ => rfl⟩
theorem Rk.trans {a b c : List α} (h : Rk key a b) (k : Rk key b c) : Rk key a c := ⟨k.1.trans h.1, fun x => (k.2 x).trans (h.2 x)⟩
theorem Rk.app {a b c d : List α} (h : Rk key a b) (k : Rk key c d) : Rk key (a ++ c) (b ++ d) :=
  ⟨by simp [h.1, k.1], fun x => by simp [List.filter_append, h.2 x, k.2 x]⟩
theorem Rk.mem {a b : List α} (h : Rk key a b) {x : α} : x ∈ b ↔ x ∈ a := by
  have := h.2 (key x)
  have e : ∀ l : List α, x ∈ l.filter (fun e => decide (key e = key x)) ↔ x ∈ l := fun l => by simp
  rw [← e b, this, e a]
theorem Srt.app {a b : List α} (ha : Srt key a) (hb : Srt key b) (h : ∀ x ∈ a, ∀ y ∈ b, ¬ key y < key x) : Srt key (a ++ b) :=
  List.pairwise_append.2 ⟨ha, hb, h⟩
theorem Srt.left {a b : List α} (h : Srt key (a ++ b)) : Srt key a := (List.pairwise_append.1 h).1
theorem Srt.right {a b : List α} (h : Srt key (a ++ b)) : Srt key b := (List.pairwise_append.1 h).2.1
theorem Srt.get {l : List α} (h : Srt key l) {i j : Nat} {x y : α} (hi : l[i]? = some x) (hj : l[j]? = some y) (hij : i ≤ j) : ¬ key y < key x := by
  rcases Nat.lt_or_ge i j with hlt | hge
  · obtain ⟨h1, h2⟩ := List.getElem?_eq_some_iff.1 hi
    obtain ⟨h3, h4⟩ := List.getElem?_eq_some_iff.1 hj
    have := List.pairwise_iff_getElem.1 h i j h1 h3 hlt
    rw [h2, h4] at this
    exact this
  · have : i = j := by omega
    subst this
    rw [hi] at hj
    obtain rfl := Option.some.inj hj
    exact kl_irr _
theorem Srt.one (x : α) : Srt key [x] := by simp [Srt]
theorem Srt.nil : Srt key ([] : List α) := by simp [Srt]
end
end Go.AS


namespace Go.AS
open Go
set_option maxRecDepth 100000
/-! Codes of library functions that are alike in many chapters (printed by geni.py). -/
end Go.AS


namespace Go.AS
open Go
set_option linter.unusedVariables false
set_option linter.unusedSimpArgs false
set_option maxRecDepth 10000

section
variable {G : Nat} {P : Program} (hm : P.follows .mixedOrders = true) {sz a0 : Nat} {A : AH} {v fv : Value} {Q : Value → AH → Prop}
include hm
end
end Go.AS


namespace Go.AS
open Go
set_option linter.unusedVariables false
set_option linter.unusedSimpArgs false
set_option maxRecDepth 10000

section
variable {G : Nat} {P : Program} (hm : P.follows .mixedOrders = true) {sz a0 : Nat} {A : AH} {v fv : Value} {Q : Value → AH → Prop} {dom : List Value → Prop} {key : List Value → List UInt8}
include hm
end
end Go.AS


namespace Go.AS
open Go
set_option linter.unusedVariables false
set_option linter.unusedSimpArgs false

section
variable {α : Type} {key : α → List UInt8}
theorem get_some {l : List α} {k : Nat} (h : k < l.length) : ∃ x, l[k]? = some x := ⟨_, List.getElem?_eq_getElem h⟩
end
end Go.AS


namespace Go.AS
open Go
set_option linter.unusedVariables false
set_option linter.unusedSimpArgs false
set_option maxRecDepth 10000

section
variable {G : Nat} {P : Program} (hm : P.follows .mixedOrders = true) {sz : Nat} {fv : Value} {dom : List Value → Prop} {key : List Value → List UInt8}

section
variable {A : AH} {v : Value} {a0 : Nat} {X Y : List (List Value)} {r : AT} {R : Exit → AT → AH → Prop}
include hm in
end
end
end Go.AS


namespace Go.AS
open Go
set_option linter.unusedVariables false
set_option linter.unusedSimpArgs false
set_option maxRecDepth 10000

section
variable {G : Nat} {P : Program} (hm : P.follows .mixedOrders = true) {sz : Nat} {fv : Value} {dom : List Value → Prop} {key : List Value → List UInt8}
include hm in
end
end Go.AS


namespace Go.AS
open Go
set_option linter.unusedVariables false
set_option linter.unusedSimpArgs false
set_option maxRecDepth 10000

section
variable {α : Type} {key : α → List UInt8}
/-- In order in parts of so many. -/
def ChS (key : α → List UInt8) (bs : Nat) (l : List α) : Prop := ∀ i, Srt key ((l.drop (i * bs)).take bs)
theorem ChS.nil {bs : Nat} : ChS key bs ([] : List α) := fun i => by simp [Srt]
theorem ChS.push {bs i : Nat} {D S : List α} (h : ChS key bs D) (hD : D.length = i * bs) (hS : S.length ≤ bs) (hs : Srt key S) : ChS key bs (D ++ S) := by
  intro j
  rcases Nat.lt_trichotomy j i with hj | hj | hj
  · have : j * bs + bs ≤ D.length := by
      rw [hD]
      have := Nat.mul_le_mul_right bs (show j + 1 ≤ i by omega)
      rw [Nat.add_mul, Nat.one_mul] at this; exact this
    rw [List.drop_append_of_le_length (by omega), List.take_append_of_le_length (by rw [List.length_drop]; omega)]
    exact h j
  · subst hj
    rw [← hD, List.drop_left, List.take_of_length_le hS]
    exact hs
  · have : (D ++ S).length ≤ j * bs := by
      rw [List.length_append, hD]
      have := Nat.mul_le_mul_right bs (show i + 1 ≤ j by omega)
      rw [Nat.add_mul, Nat.one_mul] at this; omega
    rw [List.drop_of_length_le this]
    simp [Srt]
theorem ChS.all {bs : Nat} {l : List α} (h : ChS key bs l) (hl : l.length ≤ bs) : Srt key l := by
  have := h 0
  rw [Nat.zero_mul, List.drop_zero, List.take_of_length_le hl] at this
  exact this
end

section
variable {G : Nat} {P : Program} (hm : P.follows .mixedOrders = true) {sz a0 : Nat} {A : AH} {v fv : Value} {Q : Value → AH → Prop} {dom : List Value → Prop} {key : List Value → List UInt8}
include hm
end
end Go.AS


namespace Go.AS
open Go
set_option linter.unusedVariables false
set_option linter.unusedSimpArgs false

/-! Slices of elements: cut, cleared, appended to. -/
section
variable {A B C A0 : AH} {v w u : Value} {sz n a0 l k : Nat} {cs e z : List Value} {es fs : List (List Value)} {lo hi : Option Value}

theorem flatten_cut (h : ∀ e ∈ es, e.length = sz ∧ ones e = true) (hlk : l ≤ k) (hk : k ≤ es.length) : ((es.take k).drop l).flatten = (es.flatten.drop (l * sz)).take ((k - l) * sz) := by
  have ht : ∀ j, j ≤ es.length → (es.take j).flatten.length = j * sz := fun j hj => flat_len_take es sz (fun j c hc => (h c (List.mem_of_getElem? hc)).1) j hj
  have e1 : es.flatten = ((es.take k).take l).flatten ++ (((es.take k).drop l).flatten ++ (es.drop k).flatten) := by
    rw [← List.append_assoc, ← List.flatten_append, List.take_append_drop, ← List.flatten_append, List.take_append_drop]
  have l1 : ((es.take k).take l).flatten.length = l * sz := by
    rw [List.take_take, Nat.min_eq_left hlk]; exact ht l (by omega)
  have l2 : ((es.take k).drop l).flatten.length = (k - l) * sz := by
    have := ht k hk
    rw [← List.take_append_drop l (es.take k), List.flatten_append, List.length_append, l1] at this
    rw [Nat.sub_mul]; omega
  rw [e1, ← l1, List.drop_left, ← l2, List.take_left]
/-- A part of a slice. -/
theorem OwnE.cut (h : OwnE a0 A sz v es) (hlk : l ≤ k) (hk : k ≤ es.length) (hb : ∀ c, es.length ≤ c → boundsA es.length c lo hi none = some (l, k, c)) :
    ∃ u, (∀ j ∈ blkOf u, j ∈ blkOf v) ∧ (∃ p c, u = .slice p (k - l) c) ∧ ∀ B fs, OwnE a0 B sz v fs → fs.length = es.length → sSll B v lo hi none sz = some (u, B) ∧ OwnE a0 B sz u ((fs.take k).drop l) := by
  obtain ⟨he, h0, h⟩ := h
  have mem : ∀ fs : List (List Value), (∀ e ∈ fs, e.length = sz ∧ ones e = true) → ∀ e ∈ (fs.take k).drop l, e.length = sz ∧ ones e = true := fun fs hf e hx => hf e (List.mem_of_mem_take (List.mem_of_mem_drop hx))
  rcases h with ⟨rfl, hz⟩ | ⟨rfl, hz⟩ | ⟨i, o, c, rc, ex, rfl, h2, h3, h4, h5, h6⟩
  · have : l = 0 := by omega
    have : k = 0 := by omega
    subst l k
    refine ⟨.slice none 0 0, fun j hj => hj, ⟨_, _, rfl⟩, fun B fs hf hl => ⟨?_, ?_⟩⟩
    · rw [hz] at hb
      unfold sSll
      simp only [hb 0 (Nat.le_refl _)]
      rfl
    · exact ⟨fun e hx => by simp at hx, OwnS.nil _ _ _⟩
  · have : l = 0 := by omega
    have : k = 0 := by omega
    subst l k
    refine ⟨.slice (some zmk) 0 0, fun j hj => hj, ⟨_, _, rfl⟩, fun B fs hf hl => ⟨?_, ?_⟩⟩
    · rw [hz] at hb
      unfold sSll zmk
      simp only [hb 0 (Nat.le_refl _)]
      rfl
    · exact ⟨fun e hx => by simp at hx, by simp, .inr (.inl ⟨rfl, rfl⟩)⟩
  · refine ⟨.slice (some ⟨i, o + l * sz, none⟩) (k - l) (c - l), fun j hj => hj, ⟨_, _, rfl⟩, fun B fs hf hl => ?_⟩
    obtain ⟨hf1, hf0, hf⟩ := hf
    have hlen : ((fs.take k).drop l).length = k - l := by rw [List.length_drop, List.length_take]; omega
    have hmul : l * sz + (k - l) * sz ≤ es.length * sz := by rw [← Nat.add_mul]; exact Nat.mul_le_mul_right _ (by omega)
    rcases hf with ⟨q, _⟩ | ⟨q, _⟩ | ⟨i', o', c', rc', ex', q, q2, q3, q4, q5, q6⟩
    · cases q
    · cases q
    · injection q with q q7 q8
      injection q with q
      injection q with q9 q10
      subst q9 q10 q8
      constructor
      · unfold sSll
        simp only [hb c h2, Option.bind_some]
        unfold rowSz
        rw [q4]
        simp
      · refine ⟨mem fs hf1, by rw [flat_len' (mem fs hf1)], .inr (.inr ⟨i, o + l * sz, c - l, rc', ex', by rw [hlen], by rw [hlen]; omega, q3, q4, by rw [hlen]; rw [hl] at q5; omega, ?_⟩)⟩
        intro j hj
        rw [hlen] at hj
        rw [flatten_cut hf1 hlk (by omega), List.getElem?_take_of_lt hj, List.getElem?_drop, Nat.add_assoc, q6 _ (by rw [hl]; omega)]
theorem ones_rep (hz : ones z = true) (m : Nat) : ones ((List.replicate m z).flatten) = true := by
  unfold ones at *
  rw [List.all_eq_true] at *
  intro x hx
  obtain ⟨l, h1, h2⟩ := List.mem_flatten.1 hx
  rw [List.mem_replicate] at h1
  rw [h1.2] at h2
  exact hz x h2
/-- What stands from l on is cleared. -/
theorem OwnE.clr (h : OwnE a0 A sz v es) (hl : l ≤ es.length) (hz : z.length = sz) (hz1 : ones z = true) (hu : sSll A v (some (.int .i64 (l : Int))) none none sz = some (u, A)) :
    ∃ A', sClr A u z = some (undef, A') ∧ OwnE a0 A' sz v (es.take l ++ List.replicate (es.length - l) z) ∧ KeepV A v A' := by
  have hE := h
  obtain ⟨he, h0, h⟩ := h
  have hb : ∀ c, es.length ≤ c → boundsA es.length c (some (ii l)) none none = some (l, es.length, c) := fun c hc => bnd_lo hl hc
  rcases h with ⟨rfl, hzz⟩ | ⟨rfl, hzz⟩ | ⟨i, o, c, rc, ex, rfl, h2, h3, h4, h5, h6⟩
  · have : l = 0 := by omega
    subst l
    have hes : es = [] := List.length_eq_zero_iff.1 hzz
    subst hes
    have : sSll A (.slice none 0 0) (some (ii (0 : Nat))) none none sz = some (.slice none 0 0, A) := rfl
    rw [show (Value.int .i64 ((0 : Nat) : Int)) = ii (0 : Nat) from rfl, this] at hu
    injection hu with hu; injection hu with hu; subst hu
    exact ⟨A, rfl, hE, .refl _ _⟩
  · have : l = 0 := by omega
    subst l
    have hes : es = [] := List.length_eq_zero_iff.1 hzz
    subst hes
    have : sSll A (.slice (some zmk) 0 0) (some (ii (0 : Nat))) none none sz = some (.slice (some zmk) 0 0, A) := rfl
    rw [show (Value.int .i64 ((0 : Nat) : Int)) = ii (0 : Nat) from rfl, this] at hu
    injection hu with hu; injection hu with hu; subst hu
    exact ⟨A, rfl, hE, .refl _ _⟩
  · have e : sSll A (.slice (some ⟨i, o, none⟩) es.length c) (some (.int .i64 (l : Int))) none none sz = some (.slice (some ⟨i, o + l * sz, none⟩) (es.length - l) (c - l), A) := by
      unfold sSll
      have := hb c h2
      unfold ii at this
      simp only [this, Option.bind_some]
      unfold rowSz
      rw [h4]
      simp
    rw [e] at hu
    injection hu with hu; injection hu with hu _; subst hu
    by_cases hm : es.length - l = 0
    · rw [hm]
      have : l = es.length := by omega
      subst this
      refine ⟨A, rfl, ?_, .refl _ _⟩
      rw [List.take_length]
      simpa using hE
    · obtain ⟨m, hm'⟩ : ∃ m, es.length - l = m + 1 := ⟨es.length - l - 1, by omega⟩
      have hmul : l * sz + (es.length - l) * sz = es.length * sz := by rw [← Nat.add_mul]; congr 1; omega
      have hrl : ((List.replicate (m + 1) z).flatten).length = (m + 1) * sz := by rw [rep_length, hz]
      rw [hm'] at hmul ⊢
      refine ⟨A.set i (.row (setAll rc (o + l * sz) ((List.replicate (m + 1) z).flatten)) .own sz ex), ?_, ⟨?_, ?_⟩, ?_⟩
      · show (wr A i (o + l * sz) _).map _ = _
        unfold wr
        simp only [h4]
        rw [if_pos ⟨by rw [hrl]; omega, ones_rep hz1 _⟩]
        rfl
      · intro x hx
        rcases List.mem_append.1 hx with hx | hx
        · exact he x (List.mem_of_mem_take hx)
        · rw [(List.mem_replicate.1 hx).2]; exact ⟨hz, hz1⟩
      · have hll : (es.take l ++ List.replicate (m + 1) z).length = es.length := by simp; omega
        have hfl : (es.take l).flatten.length = l * sz := flat_len_take es sz (fun j c hc => (he c (List.mem_of_getElem? hc)).1) l hl
        refine ⟨by rw [hll, List.flatten_append, List.length_append, hfl, hrl]; omega, .inr (.inr ⟨i, o, c, _, ex, by rw [hll], by rw [hll]; exact h2, h3, by rw [List.getElem?_set_self (lt_of_get h4)], ?_, ?_⟩)⟩
        · rw [setAll_length _ _ _ (by rw [hrl]; omega), hll]; exact h5
        · intro j hj
          rw [hll] at hj
          rw [setAll_get _ _ _ (by rw [hrl]; omega), List.flatten_append, hrl]
          rcases Nat.lt_or_ge j (l * sz) with hlt | hge
          · rw [if_neg (by omega), h6 _ hj, List.getElem?_append_left (by omega)]
            conv => lhs; rw [← List.take_append_drop l es, List.flatten_append]
            rw [List.getElem?_append_left (by omega)]
          · rw [if_pos (by omega), List.getElem?_append_right (by omega), hfl]
            congr 1; omega
      · refine ⟨by rw [List.length_set]; exact Nat.le_refl _, fun k b hb' hk => ?_⟩
        rw [List.getElem?_set_ne (fun h => hk (by subst h; simp [blkOf]))]
        exact hb'
theorem OwnE.nil (a0 : Nat) (A : AH) (sz : Nat) : OwnE a0 A sz (.slice none 0 0) [] := ⟨(fun e h => by cases h), OwnS.nil _ _ _⟩
/-- One more element. -/
theorem OwnE.push {bytes : Nat} (hl : Le A0 A) (h : OwnE A0.length A sz v es) (hsz : 0 < sz) (he : e.length = sz) (ho : ones e = true) (hb : 2 * ((es.length + 1) * bytes) ≤ 2 ^ 48) (hb0 : 0 < bytes) :
    ∃ v' A', sApp (A ++ [.row e .own sz true]) v (.slice (some ⟨A.length, 0, none⟩) 1 1) sz bytes = some (v', A') ∧ Le A0 A' ∧ OwnE A0.length A' sz v' (es ++ [e]) ∧ KeepV A v A' ∧ (blkOf v' = [A.length + 1] ∨ blkOf v' = blkOf v) := by
  have k1 : Le A (A ++ [.row e .own sz true]) := .push _ _
  have hs : Sl (A ++ [.row e .own sz true]) sz (.slice (some ⟨A.length, 0, none⟩) 1 1) 1 e :=
    ⟨by simp [he], .inr (.inr ⟨A.length, 0, 1, e, .own, true, rfl, by omega, by simp, by simp, by simp [he], fun j _ => by rw [Nat.zero_add]⟩)⟩
  obtain ⟨v', A', e1, e2, e3, e4⟩ := app_cells (bytes := bytes) (hl.trans k1) (h.2.le k1) hs ho hsz hb hb0
  have hf := app_fresh rfl (by simp) e1
  have hle := k1.len
  refine ⟨v', A', e1, e2, ⟨?_, ?_⟩, ⟨?_, fun i b hb hi => e4 i b (k1.get hb) (fun o c q => hi (by rw [q]; simp [blkOf]))⟩, by simpa using hf⟩
  · intro x hx
    rcases List.mem_append.1 hx with hx | hx
    · exact h.1 x hx
    · rw [List.mem_singleton.1 hx]; exact ⟨he, ho⟩
  · simpa using e3
  · refine Nat.le_trans hle ?_
    have : ∀ i, i < (A ++ [Blk.row e .own sz true]).length → i ∉ blkOf v → i < A'.length := by
      intro i hi hv
      exact lt_of_get (e4 i _ (List.getElem?_eq_getElem hi) (fun o c q => hv (by rw [q]; simp [blkOf])))
    have hlast := this A.length (by simp) (fun hv => by have := (h.2.ge A.length hv).2; omega)
    simp
    omega
end
end Go.AS


namespace Go.AS
open Go
set_option maxRecDepth 100000
/-! Codes of library functions that are alike in many chapters (printed by geni.py). -/
end Go.AS


namespace Go.AS
open Go
set_option linter.unusedVariables false
set_option linter.unusedSimpArgs false
set_option maxRecDepth 10000

section
variable {α : Type} {key : α → List UInt8}
/-- What keeps the order of what has one key keeps the first with each. -/
theorem Rk.find {a b : List α} (h : Rk key a b) (k : List UInt8) : b.find? (fun e => decide (key e = k)) = a.find? (fun e => decide (key e = k)) := by
  rw [← List.head?_filter, ← List.head?_filter, h.2 k]
end

section
variable {G : Nat} {P : Program} (hm : P.follows .mixedOrders = true) {sz a0 : Nat} {A : AH} {v fv : Value} {Q : Value → AH → Prop} {dom : List Value → Prop} {key : List Value → List UInt8}
include hm
end
end Go.AS


namespace Go.AS
open Go
set_option linter.unusedVariables false
set_option linter.unusedSimpArgs false

/-! One by one into a list that rises; what has the key of one that is there goes. -/
section
variable {α β : Type} {key : α → List UInt8}
theorem Rk.map {f : β → α} {kb : β → List UInt8} {a b : List β} (h : Rk kb a b) (hk : ∀ x ∈ a, kb x = key (f x)) : Rk key (a.map f) (b.map f) := by
  refine ⟨by simp [h.1], fun k => ?_⟩
  have aux : ∀ l : List β, (∀ x ∈ l, kb x = key (f x)) → (l.map f).filter (fun e => decide (key e = k)) = (l.filter (fun e => decide (kb e = k))).map f := by
    intro l hl
    rw [List.filter_map]
    congr 1
    apply List.filter_congr
    intro x hx
    simp [hl x hx]
  rw [aux b (fun x hx => hk x (h.mem.1 hx)), aux a hk, h.2 k]
theorem Srt.map {f : β → α} {kb : β → List UInt8} {a : List β} (h : Srt kb a) (hk : ∀ x ∈ a, kb x = key (f x)) : Srt key (a.map f) := by
  unfold Srt at *
  rw [List.pairwise_map]
  exact h.imp_of_mem (fun {x y} hx hy hxy => by rw [← hk x hx, ← hk y hy]; exact hxy)
end
end Go.AS


namespace Go.AS
open Go
set_option linter.unusedVariables false
set_option linter.unusedSimpArgs false

/-! Texts: their order. -/
abbrev bl (s : ByteArray) : List UInt8 := s.data.toList
theorem geS (a b : ByteArray) : binA .geq (.string a) (.string b) = some (.bool (decide (¬ bl a < bl b))) := by
  simp only [binA, toList_data, bytesLess_lt]
  congr 2
  by_cases h : bl a < bl b <;> simp [h]
section
variable {A B : AH} {sz n : Nat} {v x : Value} {cs : List Value}
end
end Go.AS


namespace Go.AS.C
open Go Go.Proofs
set_option linter.unusedVariables false
set_option linter.unusedSimpArgs false
set_option maxRecDepth 10000

/-! Operations, as plain data. -/
theorem textC_text {t : List UInt8} (h : t.length ≤ 262144) (r : List UInt8) : textC (some (textN t ++ r)) = (some r, t) := by
  unfold textC textN
  rw [List.append_assoc]
  simp only [getN_put (n := t.length) (by omega), List.drop_left]
  rw [if_pos h]
  unfold takeC
  simp only [Int.toNat_natCast]
  rw [if_pos ⟨by omega, by rw [List.length_append]; omega⟩, List.drop_left, List.take_left]
theorem textC_ok {l l1 t : List UInt8} (h : textC (some l) = (some l1, t)) : l = textN t ++ l1 := by
  unfold textC at h
  simp only at h
  split at h
  · rename_i n k hg
    obtain ⟨_, _, _, _, h5⟩ := getN_ok hg
    split at h
    · unfold takeC at h
      simp only [Int.toNat_natCast] at h
      split at h
      · rename_i hn
        injection h with h1 h2
        injection h1 with h1
        subst h1 h2
        have ht : ((l.drop k).take n).length = n := by rw [List.length_take]; omega
        unfold textN
        rw [ht, h5, List.append_assoc, List.take_append_drop, List.take_append_drop]
      · injection h with h1 _
        cases h1
    · injection h with h1 _
      cases h1
  · injection h with h1 _
    cases h1
theorem takeC_all {l r : List UInt8} {n : Nat} (h : l.length = n) : takeC (some (l ++ r)) n = (some r, l) := by
  subst h
  unfold takeC
  simp only [Int.toNat_natCast]
  rw [if_pos ⟨by omega, by rw [List.length_append]; omega⟩, List.drop_left, List.take_left]
theorem takeC_ok {l r t : List UInt8} {n : Nat} (h : takeC (some l) n = (some r, t)) : l = t ++ r ∧ t.length = n := by
  unfold takeC at h
  simp only [Int.toNat_natCast] at h
  split at h
  · injection h with h1 h2
    injection h1 with h1
    subst h1 h2
    exact ⟨(List.take_append_drop ..).symm, by rw [List.length_take]; omega⟩
  · injection h with h1 _; cases h1
theorem leB_leN : ∀ l : List UInt8, leB (leN l) l.length = l
  | [] => rfl
  | b :: r => by
    have e : leB (leN (b :: r)) (r.length + 1) = UInt8.ofNat (leN (b :: r)) :: leB (leN (b :: r) / 256) r.length := by
      unfold leB
      rw [List.range_succ_eq_map, List.map_cons, List.map_map]
      congr 1
      · simp
      apply List.map_congr_left
      intro k _
      show UInt8.ofNat (_ / 2 ^ (8 * (k + 1))) = UInt8.ofNat (_ / 256 / 2 ^ (8 * k))
      rw [Nat.div_div_eq_div_mul, show 2 ^ (8 * (k + 1)) = 256 * 2 ^ (8 * k) by rw [Nat.mul_add, Nat.pow_add, Nat.mul_comm]]
    have hb := b.toNat_lt
    rw [List.length_cons, e]
    simp only [leN]
    rw [show (b.toNat + 256 * leN r) / 256 = leN r by omega, leB_leN r]
    congr 1
    apply UInt8.toNat_inj.1
    rw [UInt8.toNat_ofNat']
    omega

structure OpV where
  k : Int
  name : ByteArray
  text : ByteArray
  n : Int
  place : ByteArray
  deriving DecidableEq
abbrev bA (l : List UInt8) : ByteArray := ⟨l.toArray⟩
abbrev e0 : ByteArray := ⟨#[]⟩
theorem bA_bl (s : ByteArray) : bA (bl s) = s := by cases s; rfl
theorem bl_bA (l : List UInt8) : bl (bA l) = l := rfl
theorem bl_size (s : ByteArray) : (bl s).length = s.size := byt_str
def OpV.cs (o : OpV) : List Value := [ii o.k, .string o.name, .string o.text, ii o.n, .string o.place]
abbrev OpV.v (o : OpV) : Value := .agg o.cs.toArray
def OpV.zero : OpV := ⟨0, e0, e0, 0, e0⟩

/-- An operation that a machine holds. -/
def OpV.Fin (o : OpV) : Prop := (-9223372036854775808 ≤ o.k ∧ o.k < 9223372036854775808) ∧ (-9223372036854775808 ≤ o.n ∧ o.n < 9223372036854775808) ∧ o.name.size < 2 ^ 50 ∧ o.text.size < 2 ^ 50 ∧ o.place.size < 2 ^ 50
def hK (k : Int) : Bool := decide (1 ≤ k ∧ k ≤ 7)
def hN (k : Int) : Bool := decide (1 ≤ k ∧ k ≤ 6)
def hT (k : Int) : Bool := decide (2 ≤ k ∧ k ≤ 5)
def hI (k : Int) : Bool := decide (k = 1)
def hA (k : Int) : Bool := decide (5 ≤ k ∧ k ≤ 6)
def hasO (k : Int) : Int := if k = 1 then 5 else if k = 2 ∨ k = 3 ∨ k = 4 then 3 else if k = 5 then 11 else if k = 6 then 9 else if k = 7 then 0 else -1
def nameB (b : UInt8) : Bool := decide (97 ≤ b.toNat ∧ b.toNat ≤ 122 ∨ 48 ≤ b.toNat ∧ b.toNat ≤ 57 ∨ b.toNat = 45)
def nameOk (s : ByteArray) : Bool := (bl s).all nameB && decide (1 ≤ s.size ∧ s.size ≤ 12)
def opOk (o : OpV) : Bool := hK o.k && (if hN o.k then nameOk o.name else decide (o.name = e0)) && decide (o.text.size ≤ 48) && (hT o.k || decide (o.text = e0)) && (hI o.k || decide (o.n = 0)) && (hA o.k || decide (o.place = e0)) &&
  decide (-2147483647 ≤ o.n ∧ o.n ≤ 2147483647) && (decide (o.place = e0) || decide (o.place.size = 32)) && !(decide (o.k = 5) && decide (o.text = e0)) && !(decide (o.k = 6) && decide (o.place = e0))
def bareO (o : OpV) : OpV := ⟨o.k, if hN o.k then o.name else e0, if hT o.k then o.text else e0, if hI o.k then o.n else 0, if hA o.k then o.place else e0⟩
def numO (n : Int) : List UInt8 := (if n < 0 then 1 else 0) :: leB n.natAbs 4
/-- An operation's bytes. -/
def putO (o : OpV) : List UInt8 := UInt8.ofNat o.k.toNat :: ((if hN o.k then textN (bl o.name) else []) ++ ((if hT o.k then textN (bl o.text) else []) ++ ((if hI o.k then numO o.n else []) ++ ((if o.k = 5 then [if o.place = e0 then 0 else 1] else []) ++ bl o.place))))

def tIf (b : Bool) (st : CurS) : CurS × List UInt8 := if b then textC st else (st, [])
def numS (st : CurS) : CurS × Int × Bool :=
  ((takeC (byteC st).1 4).1, if 1 < (byteC st).2 ∨ ((byteC st).2 = 1 ∧ (unfixN (takeC (byteC st).1 4).2).1 = 0) then (0, false) else (((unfixN (takeC (byteC st).1 4).2).1 : Int) * (1 - 2 * ((byteC st).2 : Int)), decide ((unfixN (takeC (byteC st).1 4).2).2 = 0)))
def nIf (b : Bool) (st : CurS) : CurS × Int × Bool := if b then numS st else (st, 0, true)
def plS (k : Int) (st : CurS) : CurS × List UInt8 × Bool :=
  if k = 5 then (if (byteC st).2 = 0 then ((byteC st).1, [], true) else if (byteC st).2 = 1 then ((takeC (byteC st).1 32).1, (takeC (byteC st).1 32).2, true) else ((byteC st).1, [], false)) else ((takeC st 32).1, (takeC st 32).2, true)
def pIf (b : Bool) (k : Int) (st : CurS) : CurS × List UInt8 × Bool := if b then plS k st else (st, [], true)
/-- What op.Get takes, whether numbers and places are right. -/
def parseP (st0 : CurS) : OpV × CurS × Bool :=
  let k : Int := (byteC st0).2
  let s1 := tIf (hN k) (byteC st0).1
  let s2 := tIf (hT k) s1.1
  let s3 := nIf (hI k) s2.1
  let s4 := pIf (hA k) k s3.1
  (⟨k, bA s1.2, bA s2.2, s3.2.1, bA s4.2.1⟩, s4.1, s3.2.2 && s4.2.2)
def getP (bs : List UInt8) : Option (OpV × Nat) :=
  if (parseP (some bs)).2.1.isSome && (parseP (some bs)).2.2 && opOk (parseP (some bs)).1 then some ((parseP (some bs)).1, bs.length - leftC (parseP (some bs)).2.1) else none
theorem opOk_iff {o : OpV} : opOk o = true ↔ hK o.k = true ∧ (if hN o.k then nameOk o.name = true else o.name = e0) ∧ o.text.size ≤ 48 ∧ (hT o.k = true ∨ o.text = e0) ∧ (hI o.k = true ∨ o.n = 0) ∧ (hA o.k = true ∨ o.place = e0) ∧
    (-2147483647 ≤ o.n ∧ o.n ≤ 2147483647) ∧ (o.place = e0 ∨ o.place.size = 32) ∧ ¬ (o.k = 5 ∧ o.text = e0) ∧ ¬ (o.k = 6 ∧ o.place = e0) := by
  unfold opOk
  simp only [Bool.and_eq_true, Bool.or_eq_true, decide_eq_true_eq, Bool.not_eq_true', Bool.and_eq_false_imp, decide_eq_false_iff_not, not_and, and_assoc]
  cases hN o.k <;> simp
theorem nameOk_size {s : ByteArray} (h : nameOk s = true) : 1 ≤ s.size ∧ s.size ≤ 12 := by
  unfold nameOk at h
  rw [Bool.and_eq_true, decide_eq_true_eq] at h
  exact h.2
theorem byteC_cons (b : UInt8) (r : List UInt8) : byteC (some (b :: r)) = (some r, b.toNat) := rfl
theorem numS_num {n : Int} (h : -2147483647 ≤ n ∧ n ≤ 2147483647) (r : List UInt8) : numS (some (numO n ++ r)) = (some r, n, true) := by
  have hu : unfixN (leB n.natAbs 4) = (n.natAbs, 0) := by
    unfold unfixN
    rw [leB_length, if_neg (by omega), leN_leB _ _ (by omega), if_pos (by omega)]
  unfold numS numO
  rw [List.cons_append, byteC_cons]
  have e : takeC (some (leB n.natAbs 4 ++ r)) (4 : Int) = (some r, leB n.natAbs 4) := takeC_all (n := 4) (leB_length _ _)
  simp only [e, hu]
  by_cases hn : n < 0
  · rw [if_pos hn]
    have e1 : (1 : UInt8).toNat = 1 := rfl
    rw [e1, if_neg (by omega)]
    simp
    omega
  · rw [if_neg hn]
    have e1 : (0 : UInt8).toNat = 0 := rfl
    rw [e1, if_neg (by omega)]
    simp
    omega
theorem numS_ok {l r : List UInt8} {n : Int} (h : numS (some l) = (some r, n, true)) : l = numO n ++ r := by
  unfold numS at h
  cases l with
  | nil => injection h with h1 _; cases h1
  | cons s l =>
    rw [byteC_cons] at h
    simp only at h
    cases ht : takeC (some l) 4 with
    | mk st t =>
      rw [ht] at h
      simp only at h
      cases st with
      | none => injection h with h1 _; cases h1
      | some r' =>
        obtain ⟨e1, e2⟩ := takeC_ok (n := 4) ht
        injection h with h1 h2
        injection h1 with h1
        subst h1
        split at h2
        · injection h2 with _ h2; cases h2
        · rename_i hc
          injection h2 with h2 h3
          rw [decide_eq_true_eq] at h3
          have hu : unfixN t = (leN t, 0) := by
            unfold unfixN at h3 ⊢
            rw [if_neg (by omega)] at h3 ⊢
            split at h3
            · rename_i h; rw [if_pos h]
            · cases h3
          rw [hu] at h2 hc
          simp only at h2 hc
          have hl := leB_leN t
          rw [e2] at hl
          unfold numO
          have hs := s.toNat_lt
          rw [List.cons_append, e1]
          rcases Nat.lt_or_ge s.toNat 1 with h0 | h0
          · have e3 : s.toNat = 0 := by omega
            have e4 : n = leN t := by rw [← h2, e3]; simp
            have e5 : s = 0 := UInt8.toNat_inj.1 e3
            rw [if_neg (by omega), e4, Int.natAbs_natCast, hl, e5]
          · have e3 : s.toNat = 1 := by omega
            have e4 : n = -(leN t : Int) := by rw [← h2, e3]; simp
            have e5 : s = 1 := UInt8.toNat_inj.1 e3
            rw [if_pos (by omega), e4, Int.natAbs_neg, Int.natAbs_natCast, hl, e5]
theorem plS_five {s : ByteArray} (h : s = e0 ∨ s.size = 32) (r : List UInt8) : plS 5 (some ((if s = e0 then (0 : UInt8) else 1) :: (bl s ++ r))) = (some r, bl s, true) := by
  unfold plS
  rw [if_pos rfl, byteC_cons]
  by_cases h0 : s = e0
  · rw [if_pos h0, h0]; rfl
  · rw [if_neg h0]
    have e : takeC (some (bl s ++ r)) (32 : Int) = (some r, bl s) := takeC_all (n := 32) (by rw [bl_size]; exact h.resolve_left h0)
    simp only [e]; rfl
theorem opKind {k : Int} (h : hK k = true) : k = 1 ∨ k = 2 ∨ k = 3 ∨ k = 4 ∨ k = 5 ∨ k = 6 ∨ k = 7 := by
  unfold hK at h
  rw [decide_eq_true_eq] at h
  omega
theorem parseP_put {o : OpV} (h : opOk o = true) (r : List UInt8) : parseP (some (putO o ++ r)) = (o, some r, true) := by
  obtain ⟨h1, h2, h3, h4, h5, h6, h7, h8, h9, h10⟩ := opOk_iff.1 h
  obtain ⟨k, name, text, n, place⟩ := o
  simp only at h1 h2 h3 h4 h5 h6 h7 h8 h9 h10
  have ht := fun r => textC_text (t := bl text) (by rw [bl_size]; omega) r
  have hp6 : k = 6 → ∀ r, takeC (some (bl place ++ r)) (32 : Int) = (some r, bl place) := fun hk r => takeC_all (n := 32) (by rw [bl_size]; exact h8.resolve_left (fun h => h10 ⟨hk, h⟩))
  have hp5 := fun r => plS_five h8 r
  have hnn := fun r => numS_num h7 r
  have hname : hN k = true → ∀ r, textC (some (textN (bl name) ++ r)) = (some r, bl name) := fun hk r => textC_text (by rw [hk, if_pos rfl] at h2; have := nameOk_size h2; rw [bl_size]; omega) r
  unfold parseP putO
  rcases opKind h1 with rfl | rfl | rfl | rfl | rfl | rfl | rfl
  all_goals (
    rw [List.cons_append, byteC_cons]
    simp only [hN, hT, hI, hA, tIf, nIf, pIf, decide_true, decide_false, if_true, if_false, Bool.false_eq_true, List.append_assoc, List.nil_append, Int.reduceToNat, Int.reduceEq, Int.reduceLE, and_true, true_and, false_and, and_false, List.cons_append] at hname h2 h4 h5 h6 h9 h10 ⊢)
  · obtain rfl := h4.resolve_left (by simp)
    obtain rfl := h6.resolve_left (by simp)
    simp [hname, hnn, bA_bl]
  · obtain rfl := h5.resolve_left (by simp)
    obtain rfl := h6.resolve_left (by simp)
    simp [hname, ht, bA_bl]
  · obtain rfl := h5.resolve_left (by simp)
    obtain rfl := h6.resolve_left (by simp)
    simp [hname, ht, bA_bl]
  · obtain rfl := h5.resolve_left (by simp)
    obtain rfl := h6.resolve_left (by simp)
    simp [hname, ht, bA_bl]
  · obtain rfl := h5.resolve_left (by simp)
    simp [hname, ht, hp5, bA_bl]
  · obtain rfl := h4.resolve_left (by simp)
    obtain rfl := h5.resolve_left (by simp)
    simp [hname, plS, hp6, bA_bl]
  · obtain rfl := h4.resolve_left (by simp)
    obtain rfl := h5.resolve_left (by simp)
    obtain rfl := h6.resolve_left (by simp)
    subst h2
    simp
theorem tIf_none {b : Bool} {r : List UInt8} {st : CurS} {t : List UInt8} (h : tIf b st = (some r, t)) : ∃ l, st = some l ∧ l = (if b = true then textN t else []) ++ r ∧ (b = false → t = []) := by
  cases st with
  | none => unfold tIf at h; cases b <;> simp [textC] at h
  | some l =>
    refine ⟨l, rfl, ?_⟩
    unfold tIf at h
    cases b with
    | true => exact ⟨by simpa using textC_ok h, fun h => by cases h⟩
    | false =>
      simp only [Bool.false_eq_true, if_false] at h
      injection h with h1 h2
      injection h1 with h1
      subst h1 h2
      exact ⟨by simp, fun _ => rfl⟩
theorem nIf_ok {b : Bool} {r : List UInt8} {st : CurS} {n : Int} (h : nIf b st = (some r, n, true)) : ∃ l, st = some l ∧ l = (if b = true then numO n else []) ++ r ∧ (b = false → n = 0) := by
  cases st with
  | none => unfold nIf at h; cases b <;> simp [numS, byteC, takeC] at h
  | some l =>
    refine ⟨l, rfl, ?_⟩
    unfold nIf at h
    cases b with
    | true => exact ⟨by simpa using numS_ok h, fun h => by cases h⟩
    | false =>
      simp only [Bool.false_eq_true, if_false] at h
      injection h with h1 h2
      injection h1 with h1
      injection h2 with h2 _
      subst h1 h2
      exact ⟨by simp, fun _ => rfl⟩
theorem plS_ok {k : Int} {r l t : List UInt8} (h : plS k (some l) = (some r, t, true)) : l = (if k = 5 then [if bA t = e0 then (0 : UInt8) else 1] else []) ++ t ++ r := by
  unfold plS at h
  split at h
  · rename_i hk
    rw [if_pos hk]
    cases l with
    | nil => simp [byteC] at h
    | cons s l =>
      rw [byteC_cons] at h
      simp only at h
      split at h
      · rename_i h0
        injection h with h1 h2
        injection h1 with h1
        injection h2 with h2 _
        subst h1 h2
        have : s = 0 := UInt8.toNat_inj.1 h0
        subst this
        rfl
      · split at h
        · rename_i h0 h1
          cases ht : takeC (some l) 32 with
          | mk st t' =>
            rw [ht] at h
            simp only at h
            injection h with h2 h3
            injection h3 with h3 _
            subst h2 h3
            obtain ⟨e1, e2⟩ := takeC_ok (n := 32) ht
            have : s = 1 := UInt8.toNat_inj.1 h1
            subst this
            have hne : bA t' ≠ e0 := fun e => by
              have := congrArg bl e
              rw [bl_bA] at this
              rw [this] at e2
              simp at e2
            rw [if_neg hne, e1]
            rfl
        · injection h with _ h; injection h with _ h; cases h
  · rename_i hk
    rw [if_neg hk]
    cases ht : takeC (some l) 32 with
    | mk st t' =>
      rw [ht] at h
      simp only at h
      injection h with h2 h3
      injection h3 with h3 _
      subst h2 h3
      obtain ⟨e1, e2⟩ := takeC_ok (n := 32) ht
      rw [e1]; rfl
theorem plS_none {k : Int} {r t : List UInt8} {b : Bool} : plS k none = (some r, t, b) → False := by
  unfold plS
  intro h
  split at h
  · simp [byteC] at h
  · simp [takeC] at h
theorem pIf_ok {b : Bool} {k : Int} {r : List UInt8} {st : CurS} {t : List UInt8} (hb : b = false → k ≠ 5) (h : pIf b k st = (some r, t, true)) : ∃ l, st = some l ∧ l = (if k = 5 then [if bA t = e0 then (0 : UInt8) else 1] else []) ++ t ++ r := by
  unfold pIf at h
  cases b with
  | true =>
    simp only [if_true] at h
    cases st with
    | none => exact (plS_none h).elim
    | some l => exact ⟨l, rfl, plS_ok h⟩
  | false =>
    simp only [Bool.false_eq_true, if_false] at h
    injection h with h1 h2
    injection h2 with h2 _
    subst h1 h2
    exact ⟨r, rfl, by rw [if_neg (hb rfl)]; rfl⟩
theorem parseP_ok {bs r : List UInt8} {o : OpV} (h : parseP (some bs) = (o, some r, true)) (ho : opOk o = true) : bs = putO o ++ r := by
  obtain ⟨h1, -⟩ := opOk_iff.1 ho
  unfold parseP at h
  simp only [Prod.mk.injEq, Bool.and_eq_true] at h
  obtain ⟨e1, e2, e3, e4⟩ := h
  cases bs with
  | nil =>
    subst e1
    simp [byteC, hK] at h1
  | cons b l =>
    rw [byteC_cons] at e1 e2 e3 e4
    simp only at e1 e2 e3 e4
    generalize hk : (b.toNat : Int) = k at e1 e2 e3 e4
    generalize hs1 : tIf (hN k) (some l) = s1 at e1 e2 e3 e4
    generalize hs2 : tIf (hT k) s1.1 = s2 at e1 e2 e3 e4
    generalize hs3 : nIf (hI k) s2.1 = s3 at e1 e2 e3 e4
    generalize hs4 : pIf (hA k) k s3.1 = s4 at e1 e2 e3 e4
    obtain ⟨c1, t1⟩ := s1
    obtain ⟨c2, t2⟩ := s2
    obtain ⟨c3, n3, b3⟩ := s3
    obtain ⟨c4, t4, b4⟩ := s4
    simp only at e1 e2 e3 e4 hs2 hs3 hs4
    subst e2 e3 e4
    obtain ⟨l3, rfl, q4⟩ := pIf_ok (fun hf h5 => by subst h5; simp [hA] at hf) hs4
    obtain ⟨l2, rfl, q3, z3⟩ := nIf_ok hs3
    obtain ⟨l1, rfl, q2, z2⟩ := tIf_none hs2
    obtain ⟨l0, e, q1, z1⟩ := tIf_none hs1
    injection e with e
    subst e1 e
    unfold putO
    simp only [bl_bA, List.cons_append]
    have hb : UInt8.ofNat k.toNat = b := by
      rw [← hk, Int.toNat_natCast, UInt8.ofNat_toNat]
    rw [hb, q1, q2, q3, q4]
    simp only [List.append_assoc]
theorem getP_iff {bs : List UInt8} {o : OpV} {n : Nat} : getP bs = some (o, n) ↔ opOk o = true ∧ n = (putO o).length ∧ ∃ r, bs = putO o ++ r := by
  constructor
  · intro h
    unfold getP at h
    split at h
    · rename_i hc
      rw [Bool.and_eq_true, Bool.and_eq_true] at hc
      obtain ⟨⟨c1, c2⟩, c3⟩ := hc
      generalize hp : parseP (some bs) = p at h c1 c2 c3
      obtain ⟨o', st, b⟩ := p
      cases st with
      | none => cases c1
      | some r =>
        simp only at c2 c3 h
        subst c2
        have hb := parseP_ok hp c3
        injection h with h
        injection h with h2 h3
        subst h2
        refine ⟨c3, ?_, r, hb⟩
        have : leftC (some r) = r.length := rfl
        rw [this, hb, List.length_append] at h3
        omega
    · cases h
  · rintro ⟨h1, rfl, r, rfl⟩
    unfold getP
    rw [parseP_put h1]
    simp only [Option.isSome_some, h1, Bool.and_self, if_true]
    have : leftC (some r) = r.length := rfl
    rw [this, List.length_append]
    congr 2
    omega
theorem bA_size (l : List UInt8) : (bA l).size = l.length := by simp [ByteArray.size]
end Go.AS.C


namespace Go.AS.C
open Go Go.Proofs
set_option linter.unusedVariables false
set_option linter.unusedSimpArgs false
set_option maxRecDepth 10000

theorem ids_Right_spec {A : AH} {s : ByteArray} {Q : Value → AH → Prop} (hq : Q (.bool (decide (s.size = 32))) A) : ACalls 1 Tryd.prog ids_Right [.string s] Q A := by
  refine ACalls.of_fits mixed fits_ids_Right rfl ?_
  unfold ic_ids_Right
  have i0 : initA [.string s] 0 = .string s := rfl
  generalize initA [.string s] = a at i0
  by_cases h : s.size = 32
  · rw [decide_eq_true h] at hq
    simp (maxSteps := 1000000) (disch := omega) only [stepS, reduceIte, Nat.reduceBEq, Nat.reduceEqDiff, tupleOf, stepT, i0]
    exact hq
  · rw [decide_eq_false h] at hq
    simp (maxSteps := 1000000) (disch := omega) only [stepS, reduceIte, Nat.reduceBEq, Nat.reduceEqDiff, tupleOf, stepT, i0]
    exact hq
end Go.AS.C


namespace Go.AS.C
open Go Go.Proofs
set_option linter.unusedVariables false
set_option linter.unusedSimpArgs false
set_option maxRecDepth 10000

theorem ref04_Right_spec {A : AH} {s : ByteArray} {Q : Value → AH → Prop} (hq : Q (.bool (decide (s.size = 32))) A) : ACalls 1 Tryd.prog chantryref04_Right [.string s] Q A := by
  refine ACalls.of_fits mixed fits_chantryref04_Right rfl ?_
  unfold ic_chantryref04_Right
  have i0 : initA [.string s] 0 = .string s := rfl
  generalize initA [.string s] = a at i0
  by_cases h : s.size = 32
  · rw [decide_eq_true h] at hq
    simp (maxSteps := 1000000) (disch := omega) only [stepS, reduceIte, Nat.reduceBEq, Nat.reduceEqDiff, tupleOf, stepT, i0]
    exact hq
  · rw [decide_eq_false h] at hq
    simp (maxSteps := 1000000) (disch := omega) only [stepS, reduceIte, Nat.reduceBEq, Nat.reduceEqDiff, tupleOf, stepT, i0]
    exact hq
end Go.AS.C


namespace Go.AS
open Go
set_option linter.unusedVariables false
set_option linter.unusedSimpArgs false

/-! Slices of one's own that stand apart; structs that are copied. -/
section
variable {A B C A0 : AH} {v w u x : Value} {sz s2 n m a0 b0 i : Nat} {cs ds e z : List Value} {es fs : List (List Value)}
theorem OwnS.apart (h : OwnS a0 A sz v n cs) (k : OwnS b0 A s2 w m ds) (hs : sz ≠ s2) : ∀ j ∈ blkOf w, j ∉ blkOf v := by
  obtain ⟨_, h⟩ := h
  obtain ⟨_, k⟩ := k
  intro j hj hv
  rcases k with ⟨rfl, _⟩ | ⟨rfl, _⟩ | ⟨i, o, c, rc, ex, rfl, k2, k3, k4, _⟩
  · cases hj
  · cases hj
  · simp only [blkOf, List.mem_singleton] at hj
    subst hj
    rcases h with ⟨rfl, _⟩ | ⟨rfl, _⟩ | ⟨i', o', c', rc', ex', rfl, h2, h3, h4, _⟩
    · cases hv
    · cases hv
    · simp only [blkOf, List.mem_singleton] at hv
      subst hv
      rw [h4] at k4
      injection k4 with k4
      injection k4 with _ _ k4 _
      exact hs k4
theorem OwnE.mono (h : OwnE a0 A sz v es) (hb : b0 ≤ a0) : OwnE b0 A sz v es := ⟨h.1, h.2.mono hb⟩
theorem OwnB.le {bs : List UInt8} (h : OwnB a0 A v bs) (hl : Le A B) : OwnB a0 B v bs := OwnS.le h hl
theorem OwnB.mono {bs : List UInt8} (h : OwnB a0 A v bs) (hb : b0 ≤ a0) : OwnB b0 A v bs := OwnS.mono h hb
theorem Sl.lenB (h : Sl A sz v n cs) (B : AH) : sLens B false v = some (.int .i64 n, B) := by
  obtain ⟨_, h⟩ := h
  rcases h with ⟨rfl, rfl⟩ | ⟨rfl, rfl⟩ | ⟨_, _, _, _, _, _, rfl, _⟩ <;> rfl
theorem KeepV.of_own (h : OwnS a0 A sz v n cs) (hl : A.length ≤ B.length) (hk : ∀ i b, A[i]? = some b → (∀ o c, v ≠ .slice (some ⟨i, o, none⟩) n c) → B[i]? = some b) : KeepV A v B :=
  ⟨hl, fun i b hb hi => hk i b hb (fun o c q => hi (by rw [q]; simp [blkOf]))⟩
theorem appI_len {s : Value} {new : List Value} {k bytes : Nat} {r : Value × AH} (h : appA A s new k sz bytes = some r) : A.length ≤ r.2.length := by
  unfold appA at h
  cases hi : appI A s new k sz bytes with
  | some q =>
    rw [hi] at h
    obtain rfl := Option.some.inj h
    unfold appI at hi
    split at hi
    · split at hi
      · split at hi
        · injection hi with hi; subst hi; simp
        · cases hi
      · cases hi
    · cases hi
  | none =>
  rw [hi, Option.none_or] at h
  unfold appA1 at h
  cases hf : appF A s new k sz bytes with
  | some q =>
    rw [hf] at h
    obtain rfl := Option.some.inj h
    unfold appF at hf
    split at hf
    · split at hf
      · split at hf
        · injection hf with hf; subst hf; simp
        · cases hf
      · cases hf
    · cases hf
  | none =>
  rw [hf, Option.none_or] at h
  unfold appA0 at h
  split at h
  · split at h
    · injection h with h; subst h; exact Nat.le_refl _
    · injection h with h; subst h; exact Nat.le_refl _
    · cases h
  · rw [Option.bind_eq_some_iff] at h
    obtain ⟨q, h1, h⟩ := h
    split at h
    · injection h with h; subst h
      simp only [List.length_append]
      rw [appBase_len h1]; omega
    · cases h
theorem sApp_len {s x : Value} {bytes : Nat} {v' : Value} {A' : AH} (h : sApp A s x sz bytes = some (v', A')) : A.length ≤ A'.length := by
  unfold sApp at h
  split at h
  · rw [Option.bind_eq_some_iff] at h
    obtain ⟨new, _, h⟩ := h
    exact appI_len h
  · cases h
/-- append(v, x...): bytes. -/
theorem OwnB.app {bs xs : List UInt8} (hl : Le A0 A) (h : OwnB A0.length A v bs) (hx : Byt A x xs) (hb : bs.length + xs.length ≤ 2 ^ 47) :
    ∃ v' A', sApp A v x 1 1 = some (v', A') ∧ Le A0 A' ∧ OwnB A0.length A' v' (bs ++ xs) ∧ KeepV A v A' := by
  obtain ⟨v', A', h1, h2, h3, h4⟩ := app_bytes hl h hx hb
  exact ⟨v', A', h1, h2, h3, KeepV.of_own h (sApp_len h1) h4⟩
/-- append(v, s...): a text's bytes. -/
theorem OwnB.apps {bs : List UInt8} {s : ByteArray} (hl : Le A0 A) (h : OwnB A0.length A v bs) (hb : bs.length + s.size ≤ 2 ^ 47) :
    ∃ v' A', sApps A v (.string s) 1 = some (v', A') ∧ Le A0 A' ∧ OwnB A0.length A' v' (bs ++ bl s) ∧ KeepV A v A' := by
  have he : u8s s = (bl s).map by8 := rfl
  have hls : (bl s).length = s.size := by simp
  obtain ⟨v', A', h1, h2, h3, h4⟩ := app_own (new := u8s s) (k := s.size) (bytes := 1) hl h (by omega) (by omega) (by omega) (by rw [he, List.length_map, hls, Nat.mul_one]) (by rw [he]; exact Byt.ones8 _)
  refine ⟨v', A', h1, h2, ?_, KeepV.of_own h (appI_len h1) h4⟩
  unfold OwnB
  rw [List.length_append, List.map_append, hls, ← he]
  exact h3
/-- One more text. -/
theorem app_str {l : List ByteArray} (s : ByteArray) (hl : Le A0 A) (h : OwnS A0.length A 1 w l.length (l.map .string)) (hb : l.length ≤ 2 ^ 40) :
    sLit A [.string ⟨#[]⟩] 1 1 [(0, 1, .string s)] = some (.slice (some ⟨A.length, 0, none⟩) 1 1, A ++ [.row [.string s] .own 1 true]) ∧
    ∃ w' A', sApp (A ++ [.row [.string s] .own 1 true]) w (.slice (some ⟨A.length, 0, none⟩) 1 1) 1 16 = some (w', A') ∧ Le A0 A' ∧ OwnS A0.length A' 1 w' (l ++ [s]).length ((l ++ [s]).map .string) ∧ KeepV A w A' := by
  have l1 := lit1 (A := A) (z := .string ⟨#[]⟩) (len := 1) (ps := [(0, 1, .string s)]) [.string s] rfl rfl (by
    intro y hy
    rw [List.mem_singleton] at hy
    subst hy; exact one1_str _)
  have k1 : Le A (A ++ [.row [.string s] .own 1 true]) := .push _ _
  obtain ⟨v2, A2, p1, p2, p3, p4⟩ := app_cells (bytes := 16) (hl.trans k1) (OwnS.le h k1) (sl_last A (cs := [.string s]) (st := .own) (ex := true) (c := 1) (by simp) (by simp)) rfl (by omega) (by simp; omega) (by omega)
  rw [List.length_singleton] at l1 p1
  refine ⟨l1, v2, A2, p1, p2, by simpa using p3, ⟨Nat.le_trans k1.len (sApp_len p1), fun i b hb hi => p4 i b (k1.get hb) (fun o c q => hi (by rw [q]; simp [blkOf]))⟩⟩
theorem KeepV.get (h : KeepV A v B) {j : Nat} {b : Blk} (hb : A[j]? = some b) (hj : j ∉ blkOf v) : B[j]? = some b := h.2 j b hb hj
theorem KeepV.rd (h : KeepV A v B) {R : List Nat} (hR : ∀ k ∈ R, k ∉ blkOf v) : RdOk R A B := fun k hk b hb => h.2 k b hb (hR k hk)
theorem Byt.one1 {bs : List UInt8} (h : Byt A v bs) : AS.one1 v := by
  obtain ⟨p, c, hs, _⟩ := h.shape
  rw [hs]; exact one1_sl _ _ _
theorem Sl.one1 (h : Sl A sz v n cs) : AS.one1 v := by
  obtain ⟨_, h⟩ := h
  rcases h with ⟨rfl, _⟩ | ⟨rfl, _⟩ | ⟨_, _, _, _, _, _, rfl, _⟩ <;> exact one1_sl _ _ _
end
end Go.AS


namespace Go.AS
open Go
set_option linter.unusedVariables false
set_option linter.unusedSimpArgs false

section
variable {A B C A0 : AH} {v w u x : Value} {sz s2 n m a0 b0 i k : Nat} {cs ds e z : List Value} {es fs : List (List Value)}
theorem load1_keep {p x : Value} (h : sLoad1 A p = some (x, A)) (hB : ∀ k b, A[k]? = some b → k ∈ blkOf p → B[k]? = some b) : sLoad1 B p = some (x, B) := by
  unfold sLoad1 at h ⊢
  split at h
  · rename_i i o
    rw [Option.bind_eq_some_iff] at h
    obtain ⟨r, q1, q2⟩ := h
    rw [Option.map_eq_some_iff] at q2
    obtain ⟨l, q2, q3⟩ := q2
    injection q3 with q3 q4
    obtain ⟨r1, r2, r3, r4⟩ := r
    obtain ⟨g1, g2⟩ := getRow_some q1
    have g3 := hB i _ g1 (by simp [blkOf])
    have : getRow B i = some (r1, r2, r3, r4) := by unfold getRow; simp only [g3, if_neg g2]
    simp only [this, Option.bind_some, q2, Option.map_some, q3]
  · cases h
/-- An element of one cell is read. -/
theorem Sl.at1L (h : Sl A 1 v n cs) {j : Nat} {x : Value} (hj : cs[j]? = some x) : ∃ p, (∀ (B : AH) (n : Int), n = (j : Int) → sIaddr B v (.int .i64 n) 1 = some (p, B)) ∧ ∀ B, Le A B → sLoad1 B p = some (x, B) := by
  obtain ⟨p, p1, p2⟩ := h.at1 hj
  exact ⟨p, by rintro B n rfl; exact iaddr_any p1 B, fun B hB => load1_keep p2 (fun k b hb _ => hB.get hb)⟩
/-- Two values lead to blocks apart. -/
def Ap (v w : Value) : Prop := ∀ j ∈ blkOf v, j ∉ blkOf w
theorem Ap.symm (h : Ap v w) : Ap w v := fun j hj hk => h j hk hj
theorem Ap.grow {v' : Value} {n : Nat} (h : Ap v w) (hb : ∀ j ∈ blkOf v', j ∈ blkOf v ∨ n ≤ j) (hw : ∀ j ∈ blkOf w, j < n) : Ap v' w := fun j hj hk => by
  rcases hb j hj with h1 | h1
  · exact h j h1 hk
  · have := hw j hk; omega
theorem Ap.nil {n c : Nat} : Ap (.slice none n c) w := fun j hj => by cases hj
theorem OwnS.lt {sz n : Nat} {cs : List Value} (h : OwnS a0 A sz v n cs) : ∀ j ∈ blkOf v, j < A.length := fun j hj => (h.ge j hj).2
theorem sApp_blk {s x : Value} {bytes : Nat} {v' : Value} {A' : AH} (h : sApp A s x sz bytes = some (v', A')) : ∀ j ∈ blkOf v', j ∈ blkOf s ∨ A.length ≤ j := by
  intro j hj
  have hx : ∃ p k c, x = .slice p k c := by
    unfold sApp at h
    split at h
    · exact ⟨_, _, _, rfl⟩
    · cases h
  obtain ⟨p, k, c, rfl⟩ := hx
  by_cases hk : k = 0
  · subst hk
    unfold sApp at h
    simp only [Option.bind_eq_some_iff] at h
    obtain ⟨new, _, h⟩ := h
    unfold appA at h
    rw [appI_zero, Option.none_or] at h
    unfold appA1 at h
    rw [appF_zero, Option.none_or] at h
    unfold appA0 at h
    rw [if_pos rfl] at h
    split at h
    · injection h with h; injection h with h _; subst h; exact .inl hj
    · injection h with h; injection h with h _; subst h; exact .inl hj
    · cases h
  · rcases app_fresh rfl hk h with e | e
    · rw [e, List.mem_singleton] at hj; exact .inr (by omega)
    · rw [e] at hj; exact .inl hj
/-- Elements of another slice are appended. -/
theorem OwnE.app {bytes : Nat} (hl : Le A0 A) (h : OwnE A0.length A sz v es) (hx : Sl A sz x fs.length fs.flatten) (hf : ∀ e ∈ fs, e.length = sz ∧ ones e = true) (hsz : 0 < sz) (hb : 2 * ((es.length + fs.length) * bytes) ≤ 2 ^ 48) (hb0 : 0 < bytes) :
    ∃ v' A', sApp A v x sz bytes = some (v', A') ∧ Le A0 A' ∧ OwnE A0.length A' sz v' (es ++ fs) ∧ KeepV A v A' := by
  obtain ⟨v', A', e1, e2, e3, e4⟩ := app_cells (bytes := bytes) hl h.2 hx (ones_flatten hf) hsz hb hb0
  refine ⟨v', A', e1, e2, ⟨?_, by simpa using e3⟩, KeepV.of_own h.2 (sApp_len e1) e4⟩
  intro y hy
  rcases List.mem_append.1 hy with hy | hy
  · exact h.1 y hy
  · exact hf y hy
end
section
variable {α : Type} {key : α → List UInt8}
end
end Go.AS


namespace Go.AS
open Go
set_option maxRecDepth 100000
/-! Codes of library functions that are alike in many chapters (printed by geni.py). -/
end Go.AS


namespace Go.AS
open Go
set_option linter.unusedVariables false
set_option linter.unusedSimpArgs false
set_option maxRecDepth 10000

/-! Slices of texts of the call's own. -/
def strE (l : List ByteArray) : List (List Value) := l.map fun s => [.string s]
theorem strE_flat (l : List ByteArray) : (strE l).flatten = l.map .string := by
  unfold strE
  induction l with
  | nil => rfl
  | cons s l ih => rw [List.map_cons, List.flatten_cons, ih]; rfl
theorem strE_len (l : List ByteArray) : (strE l).length = l.length := by simp [strE]
theorem strE_ok (l : List ByteArray) : ∀ e ∈ strE l, e.length = 1 ∧ ones e = true := by
  intro e he
  obtain ⟨s, _, rfl⟩ := List.mem_map.1 he
  exact ⟨rfl, rfl⟩
/-- A slice of texts, of the call's own. -/
def OwnT (a0 : Nat) (A : AH) (v : Value) (l : List ByteArray) : Prop := OwnS a0 A 1 v l.length (l.map .string)
def SlT (A : AH) (v : Value) (l : List ByteArray) : Prop := Sl A 1 v l.length (l.map .string)
section
variable {A B A0 : AH} {v : Value} {a0 b0 : Nat} {l m : List ByteArray} {lo hi : Option Value}
theorem OwnT.e (h : OwnT a0 A v l) : OwnE a0 A 1 v (strE l) := ⟨strE_ok l, by rw [strE_flat, strE_len]; exact h⟩
theorem OwnE.t (h : OwnE a0 A 1 v (strE l)) : OwnT a0 A v l := by
  have := h.2
  rw [strE_flat, strE_len] at this
  exact this
theorem OwnT.sl (h : OwnT a0 A v l) : SlT A v l := OwnS.sl h
theorem OwnT.le (h : OwnT a0 A v l) (hl : Le A B) : OwnT a0 B v l := OwnS.le h hl
theorem OwnT.mono (h : OwnT a0 A v l) (hb : b0 ≤ a0) : OwnT b0 A v l := OwnS.mono h hb
theorem OwnT.nil (a0 : Nat) (A : AH) : OwnT a0 A (.slice none 0 0) [] := OwnS.nil _ _ _
theorem SlT.le (h : SlT A v l) (hl : Le A B) : SlT B v l := Sl.le h hl
theorem SlT.len (h : SlT A v l) (B : AH) : sLens B false v = some (.int .i64 l.length, B) := Sl.lenB h B
theorem SlT.one (h : SlT A v l) : one1 v := Sl.one1 h
theorem SlT.at (h : SlT A v l) {j : Nat} {s : ByteArray} (hj : l[j]? = some s) : ∃ p, (∀ (B : AH) (n : Int), n = (j : Int) → sIaddr B v (.int .i64 n) 1 = some (p, B)) ∧ ∀ B, Le A B → sLoad1 B p = some (.string s, B) :=
  Sl.at1L h (j := j) (x := .string s) (by rw [List.getElem?_map, hj]; rfl)
theorem OwnT.at (h : OwnT a0 A v l) {j : Nat} {s : ByteArray} (hj : l[j]? = some s) : ∃ p, blkOf p = blkOf v ∧ (∀ (B : AH) (n : Int), n = (j : Int) → sIaddr B v (.int .i64 n) 1 = some (p, B)) ∧ sLoad1 A p = some (.string s, A) := by
  obtain ⟨p, p1, p2⟩ := Sl.at1 (OwnS.sl h) (j := j) (v0 := .string s) (by rw [List.getElem?_map, hj]; rfl)
  exact ⟨p, iaddr_blk p1, by rintro B n rfl; exact iaddr_any p1 B, p2⟩
theorem OwnT.put (h : OwnT a0 A v l) {j : Nat} (s : ByteArray) (hj : j < l.length) {p : Value} (hp : sIaddr A v (.int .i64 (j : Int)) 1 = some (p, A)) : ∃ A', sStore A p (.string s) 1 = some (undef, A') ∧ OwnT a0 A' v (l.set j s) ∧ KeepV A v A' := by
  obtain ⟨A', s1, s2, s3⟩ := h.e.put (e := [.string s]) (by rw [strE_len]; exact hj) rfl rfl hp
  refine ⟨A', s1, ?_, s3⟩
  have e : (strE l).set j [.string s] = strE (l.set j s) := by simp [strE, List.map_set]
  rw [e] at s2
  exact s2.t
theorem OwnT.cut (h : OwnT a0 A v l) {i k : Nat} (hlk : i ≤ k) (hk : k ≤ l.length) (hb : ∀ c, l.length ≤ c → boundsA l.length c lo hi none = some (i, k, c)) :
    ∃ u, (∀ j ∈ blkOf u, j ∈ blkOf v) ∧ (∃ p c, u = .slice p (k - i) c) ∧ ∀ B m, OwnT a0 B v m → m.length = l.length → sSll B v lo hi none 1 = some (u, B) ∧ OwnT a0 B u ((m.take k).drop i) := by
  obtain ⟨u, u1, u2, u3⟩ := h.e.cut (l := i) (k := k) (lo := lo) (hi := hi) hlk (by rw [strE_len]; exact hk) (by rw [strE_len]; exact hb)
  refine ⟨u, u1, u2, fun B m hm hl => ?_⟩
  obtain ⟨e1, e2⟩ := u3 B (strE m) hm.e (by rw [strE_len, strE_len]; exact hl)
  refine ⟨e1, ?_⟩
  have e : ((strE m).take k).drop i = strE ((m.take k).drop i) := by simp [strE, List.map_take, List.map_drop]
  rw [e] at e2
  exact e2.t
theorem OwnT.clr (h : OwnT a0 A v l) {i : Nat} {u : Value} (hl : i ≤ l.length) (hu : sSll A v (some (.int .i64 (i : Int))) none none 1 = some (u, A)) :
    ∃ A', sClr A u [.string ⟨#[]⟩] = some (undef, A') ∧ OwnT a0 A' v (l.take i ++ List.replicate (l.length - i) ⟨#[]⟩) ∧ KeepV A v A' := by
  obtain ⟨A', s1, s2, s3⟩ := h.e.clr (l := i) (z := [.string ⟨#[]⟩]) (by rw [strE_len]; exact hl) rfl rfl hu
  refine ⟨A', s1, ?_, s3⟩
  have e : (strE l).take i ++ List.replicate ((strE l).length - i) [.string ⟨#[]⟩] = strE (l.take i ++ List.replicate (l.length - i) ⟨#[]⟩) := by simp [strE, List.map_take]
  rw [e] at s2
  exact s2.t
theorem OwnT.push (s : ByteArray) (hl : Le A0 A) (h : OwnT A0.length A v l) (hb : l.length ≤ 2 ^ 40) :
    sLit A [.string ⟨#[]⟩] 1 1 [(0, 1, .string s)] = some (.slice (some ⟨A.length, 0, none⟩) 1 1, A ++ [.row [.string s] .own 1 true]) ∧
    ∃ w' A', sApp (A ++ [.row [.string s] .own 1 true]) v (.slice (some ⟨A.length, 0, none⟩) 1 1) 1 16 = some (w', A') ∧ Le A0 A' ∧ OwnT A0.length A' w' (l ++ [s]) ∧ KeepV A v A' ∧ ∀ j ∈ blkOf w', j ∈ blkOf v ∨ A.length ≤ j := by
  obtain ⟨l1, w', A', e1, e2, e3, e4⟩ := app_str s hl h hb
  refine ⟨l1, w', A', e1, e2, e3, e4, fun j hj => ?_⟩
  rcases sApp_blk e1 j hj with h | h
  · exact .inl h
  · simp at h; exact .inr (by omega)
theorem OwnT.app {x : Value} (hl : Le A0 A) (h : OwnT A0.length A v l) (hx : SlT A x m) (hb : l.length + m.length ≤ 2 ^ 40) :
    ∃ w' A', sApp A v x 1 16 = some (w', A') ∧ Le A0 A' ∧ OwnT A0.length A' w' (l ++ m) ∧ KeepV A v A' := by
  obtain ⟨w', A', e1, e2, e3, e4⟩ := h.e.app (x := x) (fs := strE m) (bytes := 16) hl (by rw [strE_flat, strE_len]; exact hx) (strE_ok m) (by omega) (by rw [strE_len, strE_len]; omega) (by omega)
  refine ⟨w', A', e1, e2, ?_, e4⟩
  have e : strE l ++ strE m = strE (l ++ m) := by simp [strE]
  rw [e] at e3
  exact e3.t
end

section
variable {G : Nat} {P : Program} (hm : P.follows .mixedOrders = true) {a0 : Nat} {A : AH} {v : Value} {Q : Value → AH → Prop}
include hm
end
end Go.AS


namespace Go.AS.C
open Go Go.Proofs
set_option linter.unusedVariables false
set_option linter.unusedSimpArgs false
set_option maxRecDepth 10000

def Ris (l : List ByteArray) : Prop := l.Pairwise fun a b => bl a < bl b
/-- All right, and rising. -/
def RiseP (l : List ByteArray) : Prop := (∀ x ∈ l, x.size = 32) ∧ Ris l
theorem RiseP.nil : RiseP [] := ⟨by simp, .nil⟩
theorem RiseP.take {l : List ByteArray} (h : RiseP l) (k : Nat) : RiseP (l.take k) := ⟨fun x hx => h.1 x (List.mem_of_mem_take hx), h.2.sublist (List.take_sublist ..)⟩
theorem RiseP.at {l : List ByteArray} (h : RiseP l) {k : Nat} {p s : ByteArray} (hp : l[k]? = some p) (hs : l[k + 1]? = some s) : bl p < bl s := by
  obtain ⟨h1, e1⟩ := List.getElem?_eq_some_iff.1 hp
  obtain ⟨h2, e2⟩ := List.getElem?_eq_some_iff.1 hs
  rw [← e1, ← e2]
  exact List.pairwise_iff_getElem.1 h.2 k (k + 1) h1 h2 (by omega)
theorem RiseP.one {l : List ByteArray} {s : ByteArray} (hs : l[0]? = some s) (h : s.size = 32) : RiseP (l.take 1) := by
  rw [List.take_add_one, hs]
  refine ⟨?_, List.pairwise_singleton ..⟩
  intro x hx
  simp only [List.take_zero, Option.toList_some, List.nil_append, List.mem_singleton] at hx
  rw [hx]; exact h
theorem RiseP.next {l : List ByteArray} {k : Nat} {p s : ByteArray} (h : RiseP (l.take (k + 1))) (hp : l[k]? = some p) (hs : l[k + 1]? = some s) (h1 : s.size = 32) (h2 : bl p < bl s) : RiseP (l.take (k + 1 + 1)) := by
  rw [List.take_add_one, hs, Option.toList_some]
  refine ⟨fun x hx => ?_, List.pairwise_append.2 ⟨h.2, List.pairwise_singleton .., fun y hy z hz => ?_⟩⟩
  · rcases List.mem_append.1 hx with hx | hx
    · exact h.1 x hx
    · rw [List.mem_singleton.1 hx]; exact h1
  · rw [List.mem_singleton.1 hz]
    have h3 := h.2
    rw [List.take_add_one, hp, Option.toList_some] at h3 hy
    rcases List.mem_append.1 hy with hy | hy
    · exact kl_tr ((List.pairwise_append.1 h3).2.2 y hy p (by simp)) h2
    · rw [List.mem_singleton.1 hy]; exact h2

section
variable {A : AH} {v : Value} {l : List ByteArray} {Q : Value → AH → Prop} (hv : SlT A v l) (hl : l.length < 2 ^ 50) (hq : ∀ b : Bool, (b = true ↔ RiseP l) → Q (.bool b) A)
include hv hl hq
theorem ids_Rising_spec : ACalls 1 Tryd.prog ids_Rising [v] Q A := by
  refine ACalls.of_fits mixed fits_ids_Rising rfl ?_
  unfold ic_ids_Rising
  have i0 : initA [v] 0 = v := rfl
  generalize initA [v] = a at i0
  have hvl := hv.len
  simp (maxSteps := 1000000) (disch := omega) only [stepS, reduceIte, Nat.reduceBEq, Nat.reduceEqDiff, tupleOf, stepT, i0, hvl]
  refine W_loop (fun a' B => B = A ∧ ∃ k : Nat, k ≤ l.length ∧ RiseP (l.take k) ∧ a' 0 = v ∧ a' 5 = v ∧ a' 6 = ii l.length ∧ a' 7 = ii k) (fun a' _ => l.length - (iv (a' 7)).toNat) ?_ ?_
  · refine ⟨rfl, 0, by omega, RiseP.nil, ?_⟩
    simp (maxSteps := 1000000) (disch := omega) only [stepS, reduceIte, Nat.reduceBEq, Nat.reduceEqDiff, tupleOf, stepT, i0]
    (all_goals (and_intros <;> first | rfl | assumption | (push_cast; rfl) | (congr 1; omega) | omega | (simp; done)))
  · rintro a2 B ⟨rfl, k, hk, hr, g0, g5, g6, g7⟩
    rcases Nat.lt_or_ge k l.length with hlt | hge
    · obtain ⟨s, hs⟩ := get_some hlt
      obtain ⟨p, p1, p2⟩ := hv.at hs
      have p3 := p2 B (.refl _)
      simp (maxSteps := 1000000) (disch := omega) only [stepS, reduceIte, Nat.reduceBEq, Nat.reduceEqDiff, tupleOf, stepT, g0, g5, g6, g7, p1, p3]
      refine ids_Right_spec ?_
      by_cases hz : s.size = 32
      · have hd : decide (s.size = 32) = true := decide_eq_true hz
        cases k with
        | zero =>
          simp (maxSteps := 1000000) (disch := omega) only [stepS, reduceIte, Nat.reduceBEq, Nat.reduceEqDiff, tupleOf, stepT, g0, g5, g6, g7, p1, p3, hd]
          refine ⟨⟨1, by omega, RiseP.one hs hz, rfl⟩, by omega⟩
        | succ k =>
          obtain ⟨t, ht⟩ := get_some (l := l) (k := k) (by omega)
          obtain ⟨q, q1, q2⟩ := hv.at ht
          have q3 := q2 B (.refl _)
          by_cases hlt2 : bl t < bl s
          · have hd2 : decide (¬ bl t < bl s) = false := decide_eq_false (fun h => h hlt2)
            simp (maxSteps := 1000000) (disch := omega) only [stepS, reduceIte, Nat.reduceBEq, Nat.reduceEqDiff, tupleOf, stepT, g0, g5, g6, g7, p1, p3, hd, q1, q3, geS, hd2]
            refine ⟨⟨k + 1 + 1, by omega, hr.next ht hs hz hlt2, rfl⟩, by omega⟩
          · have hd2 : decide (¬ bl t < bl s) = true := decide_eq_true hlt2
            simp (maxSteps := 1000000) (disch := omega) only [stepS, reduceIte, Nat.reduceBEq, Nat.reduceEqDiff, tupleOf, stepT, g0, g5, g6, g7, p1, p3, hd, q1, q3, geS, hd2]
            exact hq false ⟨(fun h => by cases h), fun h => absurd (h.at ht hs) hlt2⟩
      · have hd : decide (s.size = 32) = false := decide_eq_false hz
        simp (maxSteps := 1000000) (disch := omega) only [stepS, reduceIte, Nat.reduceBEq, Nat.reduceEqDiff, tupleOf, stepT, g0, g5, g6, g7, p1, p3, hd]
        exact hq false ⟨(fun h => by cases h), fun h => absurd (h.1 s (List.mem_of_getElem? hs)) hz⟩
    · rw [List.take_of_length_le hge] at hr
      simp (maxSteps := 1000000) (disch := omega) only [stepS, reduceIte, Nat.reduceBEq, Nat.reduceEqDiff, tupleOf, stepT, g0, g5, g6, g7]
      exact hq true ⟨fun _ => hr, fun _ => rfl⟩
theorem ref04_Rising_spec : ACalls 1 Tryd.prog chantryref04_Rising [v] Q A := by
  refine ACalls.of_fits mixed fits_chantryref04_Rising rfl ?_
  unfold ic_chantryref04_Rising
  have i0 : initA [v] 0 = v := rfl
  generalize initA [v] = a at i0
  have hvl := hv.len
  simp (maxSteps := 1000000) (disch := omega) only [stepS, reduceIte, Nat.reduceBEq, Nat.reduceEqDiff, tupleOf, stepT, i0, hvl]
  refine W_loop (fun a' B => B = A ∧ ∃ k : Nat, k ≤ l.length ∧ RiseP (l.take k) ∧ a' 0 = v ∧ a' 3 = ii k) (fun a' _ => l.length - (iv (a' 3)).toNat) ?_ ?_
  · refine ⟨rfl, 0, by omega, RiseP.nil, ?_⟩
    simp (maxSteps := 1000000) (disch := omega) only [stepS, reduceIte, Nat.reduceBEq, Nat.reduceEqDiff, tupleOf, stepT, i0]
    (all_goals (and_intros <;> first | rfl | assumption | (push_cast; rfl) | (congr 1; omega) | omega | (simp; done)))
  · rintro a2 B ⟨rfl, k, hk, hr, g0, g3⟩
    rcases Nat.lt_or_ge k l.length with hlt | hge
    · obtain ⟨s, hs⟩ := get_some hlt
      obtain ⟨p, p1, p2⟩ := hv.at hs
      have p3 := p2 B (.refl _)
      simp (maxSteps := 1000000) (disch := omega) only [stepS, reduceIte, Nat.reduceBEq, Nat.reduceEqDiff, tupleOf, stepT, g0, g3, hvl, p1, p3]
      refine ref04_Right_spec ?_
      by_cases hz : s.size = 32
      · have hd : decide (s.size = 32) = true := decide_eq_true hz
        cases k with
        | zero =>
          simp (maxSteps := 1000000) (disch := omega) only [stepS, reduceIte, Nat.reduceBEq, Nat.reduceEqDiff, tupleOf, stepT, g0, g3, hvl, p1, p3, hd]
          refine ⟨⟨1, by omega, RiseP.one hs hz, rfl⟩, by omega⟩
        | succ k =>
          obtain ⟨t, ht⟩ := get_some (l := l) (k := k) (by omega)
          obtain ⟨q, q1, q2⟩ := hv.at ht
          have q3 := q2 B (.refl _)
          by_cases hlt2 : bl t < bl s
          · have hd2 : decide (¬ bl t < bl s) = false := decide_eq_false (fun h => h hlt2)
            simp (maxSteps := 1000000) (disch := omega) only [stepS, reduceIte, Nat.reduceBEq, Nat.reduceEqDiff, tupleOf, stepT, g0, g3, hvl, p1, p3, hd, q1, q3, geS, hd2]
            refine ⟨⟨k + 1 + 1, by omega, hr.next ht hs hz hlt2, rfl⟩, by omega⟩
          · have hd2 : decide (¬ bl t < bl s) = true := decide_eq_true hlt2
            simp (maxSteps := 1000000) (disch := omega) only [stepS, reduceIte, Nat.reduceBEq, Nat.reduceEqDiff, tupleOf, stepT, g0, g3, hvl, p1, p3, hd, q1, q3, geS, hd2]
            exact hq false ⟨(fun h => by cases h), fun h => absurd (h.at ht hs) hlt2⟩
      · have hd : decide (s.size = 32) = false := decide_eq_false hz
        simp (maxSteps := 1000000) (disch := omega) only [stepS, reduceIte, Nat.reduceBEq, Nat.reduceEqDiff, tupleOf, stepT, g0, g3, hvl, p1, p3, hd]
        exact hq false ⟨(fun h => by cases h), fun h => absurd (h.1 s (List.mem_of_getElem? hs)) hz⟩
    · rw [List.take_of_length_le hge] at hr
      simp (maxSteps := 1000000) (disch := omega) only [stepS, reduceIte, Nat.reduceBEq, Nat.reduceEqDiff, tupleOf, stepT, g0, g3, hvl]
      exact hq true ⟨fun _ => hr, fun _ => rfl⟩
end
end Go.AS.C


namespace Go.AS
open Go Go.Sort Go.RowKit Go.Proofs
set_option linter.unusedVariables false
set_option linter.unusedSimpArgs false

/-! The kit's contract of slices.Sort at texts, told of abstract states. -/
section
variable {G : Nat} {P : Program} {μ : Mu} {A A0 B : AH} {w : World} {v : Value} {a0 : Nat}
theorem grow_old (w : World) (os : Array Obj) {i : Nat} (h : i < w.heap.size) : (grow w os).heap[i]? = w.heap[i]? := by
  show (w.heap ++ os)[i]? = _
  rw [Array.getElem?_append, if_pos h]
/-- New blocks of which nothing is known. -/
theorem Rel.grown (h : Rel G μ A w) (os : Array Obj) : Rel G μ A (grow w os) ∧ Stp μ A w μ A (grow w os) := by
  have hs : (grow w os).heap.size = w.heap.size + os.size := by simp [grow]
  refine ⟨⟨h.len, h.glo, fun i e he => by have := h.lt i e he; omega, ?_, h.szs, ?_, ?_, h.apart⟩, ?_⟩
  · intro i cs st sz ex e hb he hst
    obtain ⟨rc, T, fr, g1, g2⟩ := h.row i cs st sz ex e hb he hst
    exact ⟨rc, T, fr, by rw [grow_old _ _ (h.lt i e he)]; exact g1, g2⟩
  · intro i s p e hb he
    rw [grow_old _ _ (h.lt i e he)]; exact h.sit i s p e hb he
  · intro i es e hb he
    rw [grow_old _ _ (h.lt i e he)]; exact h.mp i es e hb he
  · exact ⟨⟨[], by simp⟩, rfl, rfl, rfl, by omega, fun r hr _ => grow_old _ _ hr, fun i b e h1 h2 h3 _ => ⟨i, b, e, h1, h2, h3, rfl⟩⟩
end
end Go.AS


namespace Go.AS
open Go Go.RowKit Go.Proofs
set_option linter.unusedVariables false
set_option linter.unusedSimpArgs false

/-! The kit's contract of strings.Join, told of abstract states. -/
section
variable {G : Nat} {P : Program} {μ : Mu} {A : AH} {w w' : World} {v : Value}
/-- New blocks, and draws, of which nothing is known. -/
theorem Rel.below (h : Rel G μ A w) (hb : Below w.heap.size w w') : Rel G μ A w' ∧ Stp μ A w μ A w' := by
  have hk : ∀ i, i < w.heap.size → w'.heap[i]? = w.heap[i]? := fun i hi => hb.block i hi
  refine ⟨⟨h.len, h.glo, fun i e he => Nat.lt_of_lt_of_le (h.lt i e he) hb.size, ?_, h.szs, ?_, ?_, h.apart⟩, ?_⟩
  · intro i cs st sz ex e hb he hst
    obtain ⟨rc, T, fr, g1, g2⟩ := h.row i cs st sz ex e hb he hst
    exact ⟨rc, T, fr, by rw [hk _ (h.lt i e he)]; exact g1, g2⟩
  · intro i s p e hb he
    rw [hk _ (h.lt i e he)]; exact h.sit i s p e hb he
  · intro i es e hb he
    rw [hk _ (h.lt i e he)]; exact h.mp i es e hb he
  · exact ⟨⟨[], by simp⟩, hb.os, hb.tape, hb.output, hb.size, fun r hr _ => hk r hr, fun i b e h1 h2 h3 _ => ⟨i, b, e, h1, h2, h3, rfl⟩⟩
/-- What a machine's function must do to join texts. -/
def JoinsTexts (P : Program) (f : FuncId) : Prop :=
  (∀ (bk o c : Nat) (xs : List ByteArray) (sep : ByteArray) (w : World), (∀ (j : Nat) x, xs[j]? = some x → w.cell? ⟨bk, o + j, none⟩ = some (.string x)) → bk < w.heap.size → xs.length ≤ 140737488355328 → xs.length ≤ c →
    (Lib.join (xs.map (·.data.toList)) sep.data.toList).length ≤ 140737488355328 →
    Calls P f #[.slice (some ⟨bk, o, none⟩) xs.length c, .string sep] w fun e w' => e = .returned (.string ⟨(Lib.join (xs.map (·.data.toList)) sep.data.toList).toArray⟩) ∧ Below w.heap.size w w') ∧
  (∀ (a : Option Addr) (c : Nat) (sep : ByteArray) (w : World), Calls P f #[.slice a 0 c, .string sep] w fun e w' => e = .returned (.string ⟨#[]⟩) ∧ w' = w)
/-- Texts, one behind the other, what stands between them. -/
def joinT (l : List ByteArray) (sep : ByteArray) : ByteArray := ⟨(Lib.join (l.map (·.data.toList)) sep.data.toList).toArray⟩
theorem join_spec {f : FuncId} (hf : JoinsTexts P f) {l : List ByteArray} {sep : ByteArray} {Q : Value → AH → Prop} (h : SlT A v l) (hl : l.length ≤ 140737488355328) (hj : (joinT l sep).size ≤ 140737488355328)
    (hq : Q (.string (joinT l sep)) A) : ACalls G P f [v, .string sep] Q A := by
  intro μ args' w hr h1 h2
  obtain ⟨v', s', rfl⟩ : ∃ v' s', args' = #[v', s'] := by
    have : args'.size = 2 := by simpa using h1
    exact ⟨args'[0], args'[1], by apply Array.ext (by simpa using this); intro i hi1 hi2; simp at hi2; match i with | 0 => rfl | 1 => rfl⟩
  have hv := h2 0 v v' rfl rfl
  have hs := (h2 1 _ s' rfl rfl).string
  subst hs
  by_cases h0 : l.length = 0
  · have hl0 : l = [] := List.length_eq_zero_iff.1 h0
    subst hl0
    have hn : ∃ p c, v' = .slice p 0 c := by
      obtain ⟨_, h⟩ := h
      rcases h with ⟨rfl, _⟩ | ⟨rfl, _⟩ | ⟨_, _, _, _, _, _, rfl, _⟩
      · obtain ⟨a', c', e, _⟩ := hv.sl_inv; exact ⟨a', c', e⟩
      · obtain ⟨a', c', e, _⟩ := hv.sl_inv; exact ⟨a', c', e⟩
      · obtain ⟨a', c', e, _⟩ := hv.sl_inv; exact ⟨a', c', e⟩
    obtain ⟨p, c, rfl⟩ := hn
    refine (hf.2 p c sep w).mono ?_
    rintro e w' ⟨rfl, rfl⟩
    exact ⟨_, _, μ, A, rfl, .flat rfl, hr, Stp.refl _ _ _, hq⟩
  · obtain ⟨hc0, h⟩ := h
    rcases h with ⟨_, hz⟩ | ⟨_, hz⟩ | ⟨i, o, c, rc, st, ex, rfl, k2, k3, k4, k5, k6⟩
    · exact absurd hz h0
    · exact absurd hz h0
    obtain ⟨e, he, c', hcc, rfl⟩ : ∃ (e : Ent), μ[i]? = some e ∧ ∃ c', l.length ≤ c' ∧ v' = .slice (some ⟨e.blk, e.off + o, none⟩) l.length c' := by
      generalize l.length = nn at hv h0
      cases hv with
      | flat h => cases h
      | slc h g1 g2 g4 => exact ⟨_, h, _, by omega, rfl⟩
      | sle h => exact absurd rfl h0
    obtain ⟨mc, T, fr, g1, g2, g3, g4⟩ := hr.row i rc st 1 ex e k3 he k4
    refine (hf.1 e.blk (e.off + o) c' l sep w ?_ (hr.lt i e he) hl hcc ?_).mono ?_
    · intro j x hx
      have hjl := lt_of_get hx
      have hrc := k6 j (by omega)
      rw [List.getElem?_map, hx, Option.map_some] at hrc
      obtain ⟨_, u, u1, u2⟩ := g2 (o + j) _ hrc
      rw [u2.string] at u1
      simp [World.cell?, g1, Nat.add_assoc, u1]
    · have : (joinT l sep).size = (Lib.join (l.map (·.data.toList)) sep.data.toList).length := by
        unfold joinT
        show (Array.size _) = _
        simp
      omega
    · rintro en w' ⟨rfl, hb⟩
      obtain ⟨hr1, hs1⟩ := hr.below hb
      exact ⟨_, _, μ, A, rfl, .flat rfl, hr1, hs1, hq⟩
end
end Go.AS


namespace Go.AS.C
open Go Go.Proofs
set_option linter.unusedVariables false
set_option linter.unusedSimpArgs false
set_option maxRecDepth 10000

/-! Updates, as plain data. -/
structure UpdV where
  author : Int
  preds : List ByteArray
  op : OpV
def UpdV.zero : UpdV := ⟨0, [], OpV.zero⟩
def UpdV.Fin (u : UpdV) : Prop := (-9223372036854775808 ≤ u.author ∧ u.author < 9223372036854775808) ∧ u.preds.length < 2 ^ 50 ∧ (∀ s ∈ u.preds, s.size < 2 ^ 50) ∧ u.op.Fin
/-- An update, as a value, of which the list stands in the heap. -/
def UpdA (A : AH) (x : Value) (u : UpdV) : Prop := ∃ p : Value, x = .agg #[ii u.author, p, ii u.op.k, .string u.op.name, .string u.op.text, ii u.op.n, .string u.op.place] ∧ SlT A p u.preds
theorem UpdA.le {A B : AH} {x : Value} {u : UpdV} (h : UpdA A x u) (hl : Le A B) : UpdA B x u := by
  obtain ⟨p, h1, h2⟩ := h
  exact ⟨p, h1, h2.le hl⟩
/-- Whether a list rises. -/
noncomputable def riseB (l : List ByteArray) : Bool := @decide (RiseP l) (Classical.propDecidable _)
theorem riseB_iff {l : List ByteArray} : riseB l = true ↔ RiseP l := @decide_eq_true_iff _ (Classical.propDecidable _)
/-- What is wrong with an update. -/
noncomputable def updE (u : UpdV) : Nat := if u.author < 0 ∨ 256 ≤ u.author then 1 else if 8 < u.preds.length then 4 else if riseB u.preds = false then 1 else if opOk u.op = true then 0 else 1
theorem updE_zero {u : UpdV} : updE u = 0 ↔ (0 ≤ u.author ∧ u.author < 256) ∧ u.preds.length ≤ 8 ∧ RiseP u.preds ∧ opOk u.op = true := by
  unfold updE
  rw [← riseB_iff]
  constructor
  · intro h
    split at h
    · cases h
    · split at h
      · cases h
      · split at h
        · cases h
        · split at h
          · rename_i h1 h2 h3 h4
            exact ⟨by omega, by omega, by simpa using h3, h4⟩
          · cases h
  · rintro ⟨h1, h2, h3, h4⟩
    rw [if_neg (by omega), if_neg (by omega), if_neg (by simp [h3]), if_pos h4]
def flatT (l : List ByteArray) : List UInt8 := l.flatMap bl
/-- An update's bytes. -/
def putU (u : UpdV) : List UInt8 := UInt8.ofNat u.author.toNat :: UInt8.ofNat u.preds.length :: (flatT u.preds ++ putO u.op)
theorem join_flat : ∀ l : List (List UInt8), Lib.join l [] = l.flatten
  | [] => Lib.join_nil _
  | x :: l => by
    rw [Lib.join_cons]
    unfold Lib.joinTail
    simp
theorem joinT_nil (l : List ByteArray) : joinT l e0 = bA (flatT l) := by
  unfold joinT
  have : e0.data.toList = [] := rfl
  rw [this, join_flat]
  unfold flatT
  rw [List.flatMap_def]
/-- So many texts of 32 bytes. -/
def takesC : Nat → CurS → List ByteArray × CurS
  | 0, st => ([], st)
  | n + 1, st => (bA (takeC st 32).2 :: (takesC n (takeC st 32).1).1, (takesC n (takeC st 32).1).2)
theorem takesC_put : ∀ (l : List ByteArray) (r : List UInt8), (∀ s ∈ l, s.size = 32) → takesC l.length (some (flatT l ++ r)) = (l, some r)
  | [], r, _ => rfl
  | s :: l, r, h => by
    have hs : (bl s).length = 32 := by rw [bl_size]; exact h s (by simp)
    have e : flatT (s :: l) ++ r = bl s ++ (flatT l ++ r) := by simp [flatT]
    have et : takeC (some (bl s ++ (flatT l ++ r))) (32 : Int) = (some (flatT l ++ r), bl s) := takeC_all (n := 32) hs
    rw [List.length_cons, e]
    simp only [takesC, et]
    rw [takesC_put l r fun x hx => h x (by simp [hx]), bA_bl]
/-- What Get gives: the update, what is wrong. -/
noncomputable def getU (bs : List UInt8) : UpdV × Nat :=
  if 384 < bs.length then (.zero, 3) else
  match (takesC (byteC (byteC (some bs)).1).2 (byteC (byteC (some bs)).1).1).2 with
  | none => (.zero, 5)
  | some r => match getP r with
    | none => (.zero, 5)
    | some (o, n) => if n < r.length ∨ updE ⟨(byteC (some bs)).2, (takesC (byteC (byteC (some bs)).1).2 (byteC (byteC (some bs)).1).1).1, o⟩ ≠ 0 then (.zero, 5) else (⟨(byteC (some bs)).2, (takesC (byteC (byteC (some bs)).1).2 (byteC (byteC (some bs)).1).1).1, o⟩, 0)
theorem putO_len2 {o : OpV} (h : opOk o = true) : (putO o).length ≤ 101 := by
  obtain ⟨h1, h2, h3, h4, h5, h6, h7, h8, h9, h10⟩ := opOk_iff.1 h
  have tl : ∀ s : ByteArray, s.size ≤ 48 → (textN (bl s)).length = s.size + 1 := fun s hs => by
    unfold textN
    rw [putN_small (by rw [bl_size]; omega)]
    simp
  have a1 : (if hN o.k then textN (bl o.name) else []).length ≤ 13 := by
    split
    · rename_i hk; rw [if_pos hk] at h2; have := nameOk_size h2; rw [tl _ (by omega)]; omega
    · simp
  have a2 : (if hT o.k then textN (bl o.text) else []).length ≤ 49 := by
    split
    · rw [tl _ h3]; omega
    · simp
  have a3 : (if hI o.k then numO o.n else []).length ≤ 5 := by
    split
    · simp [numO, leB_length]
    · simp
  have a4 : (if o.k = 5 then [if o.place = e0 then (0 : UInt8) else 1] else []).length ≤ 1 := by split <;> simp
  have a5 : (bl o.place).length ≤ 32 := by
    rw [bl_size]
    rcases h8 with h | h
    · rw [h]; decide
    · omega
  unfold putO
  simp only [List.length_cons, List.length_append]
  omega
theorem flatT_len : ∀ {l : List ByteArray}, (∀ s ∈ l, s.size = 32) → (flatT l).length = 32 * l.length
  | [], _ => rfl
  | s :: l, h => by
    have e : flatT (s :: l) = bl s ++ flatT l := by simp [flatT]
    rw [e, List.length_append, bl_size, h s (by simp), flatT_len fun x hx => h x (by simp [hx]), List.length_cons]
    omega
theorem putU_len {u : UpdV} (h : updE u = 0) : (putU u).length ≤ 384 := by
  obtain ⟨h1, h2, h3, h4⟩ := updE_zero.1 h
  have := putO_len2 h4
  have := flatT_len h3.1
  unfold putU
  simp only [List.length_cons, List.length_append]
  omega
theorem getU_put {u : UpdV} (h : updE u = 0) : getU (putU u) = (u, 0) := by
  obtain ⟨h1, h2, h3, h4⟩ := updE_zero.1 h
  have hl := putU_len h
  have ha : (UInt8.ofNat u.author.toNat).toNat = u.author.toNat := by rw [UInt8.toNat_ofNat']; omega
  have hn : (UInt8.ofNat u.preds.length).toNat = u.preds.length := by rw [UInt8.toNat_ofNat']; omega
  have hg : getP (putO u.op) = some (u.op, (putO u.op).length) := getP_iff.2 ⟨h4, rfl, [], by simp⟩
  have ht := takesC_put u.preds (putO u.op) h3.1
  unfold getU
  rw [if_neg (by omega)]
  unfold putU
  rw [byteC_cons, byteC_cons]
  simp only [hn, ht, hg, ha]
  obtain ⟨author, preds, op⟩ := u
  simp only at *
  rw [show ((author.toNat : Nat) : Int) = author by omega, if_neg]
  rintro (h' | h')
  · omega
  · exact h' h
end Go.AS.C


namespace Go.AS
open Go Go.RowKit Go.Proofs
set_option linter.unusedVariables false
set_option linter.unusedSimpArgs false

/-! The kit's contract of strings.IndexFunc, told of abstract states. -/
section
variable {G : Nat} {P : Program} {A : AH} {w : World}
/-- A function over runes that needs no memory. -/
theorem pred_grows {g : FuncId} {p : Nat → Bool} (h : ∀ x : Nat, x ≤ 1114111 → ACalls 0 P g [.int .i32 x] (fun v _ => v = .bool (p x)) []) (w : World) : PredGrows P g #[] p w := by
  intro W x hx _
  have h1 := (h x hx).apply (μ := []) (w := W) (args' := #[.int .i32 x]) rel_none rfl (fun j v v' hv hv' => by
    match j with
    | 0 =>
      simp at hv hv'
      subst hv hv'
      exact .flat rfl
    | j + 1 => simp at hv)
  refine h1.mono ?_
  rintro e w' ⟨v, v', μ', A', rfl, hv, hr, hs, rfl⟩
  rw [hv.bool]
  exact ⟨rfl, hs.os, hs.tape, hs.output, hs.size, fun k hk => hs.keep k hk (fun i b e hb => by simp at hb)⟩
/-- What a machine's function must do to find a rune. -/
def IdxFuncs (P : Program) (f : FuncId) : Prop :=
  ∀ (g : Nat) (p : Nat → Bool) (s : ByteArray) (w : World), (∀ args w, (callFunc g args).run P w = .ok (.enter g args) w) → PredGrows P g #[] p w →
    Calls P f #[.string s, .func (.func g) #[] #[]] w fun e w' => e = .returned (.int .i64 (Lib.idxFunc p true s)) ∧ Below w.heap.size w w'
theorem idxfunc_spec {f g : FuncId} (hf : IdxFuncs P f) {p : Nat → Bool} (hok : calleeOk P g = true) (h : ∀ x : Nat, x ≤ 1114111 → ACalls 0 P g [.int .i32 x] (fun v _ => v = .bool (p x)) []) {s : ByteArray} {Q : Value → AH → Prop}
    (hq : Q (.int .i64 (Lib.idxFunc p true s)) A) : ACalls G P f [.string s, .func (.func g) #[] #[]] Q A := by
  intro μ args' w hr h1 h2
  obtain ⟨s', v', rfl⟩ : ∃ s' v', args' = #[s', v'] := by
    have : args'.size = 2 := by simpa using h1
    exact ⟨args'[0], args'[1], by apply Array.ext (by simpa using this); intro i hi1 hi2; simp at hi2; match i with | 0 => rfl | 1 => rfl⟩
  have hs := (h2 0 _ s' rfl rfl).string
  have hv := h2 1 _ v' rfl rfl
  subst hs
  have hv' : v' = .func (.func g) #[] #[] := by
    cases hv with
    | flat h => cases h
    | func hpl k1 _ k3 _ =>
      rename_i a' b' _ _
      have e1 : a' = #[] := Array.eq_empty_of_size_eq_zero (by rw [← k1]; rfl)
      have e2 : b' = #[] := Array.eq_empty_of_size_eq_zero (by rw [← k3]; rfl)
      rw [e1, e2]
  subst hv'
  refine (hf g p s w (fun args w => run_callFunc hok args w) (pred_grows h w)).mono ?_
  rintro en w' ⟨rfl, hb⟩
  obtain ⟨hr1, hs1⟩ := hr.below hb
  exact ⟨_, _, μ, A, rfl, .flat rfl, hr1, hs1, hq⟩
end
end Go.AS


/-
  DERIVED: THE SHELF's CONTRACTS AT THIS DUMP, IN PLAIN WORDS (tools/lay-plain.mjs out of 'TrydShelf.lean', which tools/lay-shelf.mjs wrote): THE SAME DECLARATIONS UNDER THE SAME NAMES: 'import', 'namespace', 'open', 'def', 'theorem' AND NOTHING ELSE: no command of the shelf's: FOR A HAND-IN. Each laying: the table of numbers ('.._ren') and one theorem, a field a fact of the dump's own or the kernel's comparison; each contract: ONE APPLICATION.
-/
namespace Go.Proofs
open Go.Shelf
def Tryd.lays156_ren : Go.Shelf.Ren := ⟨fun | 156 => 22 | 165 => 54 | 166 => 55 | 169 => 56 | 240 => 79 | 241 => 80 | 276 => 90 | 277 => 91 | n => n, fun | 31 => 22 | 9 => 9 | 3 => 3 | 4 => 4 | 0 => 0 | 20 => 20 | 72 => 82 | 76 => 86 | 70 => 80 | 37 => 29 | 75 => 85 | 127 => 110 | 164 => 117 | 5 => 5 | 80 => 52 | n => n, fun | n => n⟩
theorem Tryd.lays156 : Go.Proofs.Lays.n156 Tryd.prog Tryd.lays156_ren := {
  mixed := by kernel_rfl
  f156 := Tryd.func22.trans (congrArg some (by kernel_rfl))
  f165 := Tryd.func54.trans (congrArg some (by kernel_rfl))
  f166 := Tryd.func55.trans (congrArg some (by kernel_rfl))
  f169 := Tryd.func56.trans (congrArg some (by kernel_rfl))
  f240 := Tryd.func79.trans (congrArg some (by kernel_rfl))
  f241 := Tryd.func80.trans (congrArg some (by kernel_rfl))
  f276 := Tryd.func90.trans (congrArg some (by kernel_rfl))
  f277 := Tryd.func91.trans (congrArg some (by kernel_rfl))
  t0 := Tryd.underlying0
  a0 := Tryd.isAgg0
  z0 := Tryd.sizeOf0
  v0 := Tryd.zeroValue0
  t3 := Tryd.underlying3
  a3 := Tryd.isAgg3
  z3 := Tryd.sizeOf3
  v3 := Tryd.zeroValue3
  t4 := Tryd.underlying4
  a4 := Tryd.isAgg4
  z4 := Tryd.sizeOf4
  v4 := Tryd.zeroValue4
  t9 := Tryd.underlying9
  a9 := Tryd.isAgg9
  z9 := Tryd.sizeOf9
  v9 := Tryd.zeroValue9
  t20 := Tryd.underlying20
  a20 := Tryd.isAgg20
  z20 := Tryd.sizeOf20
  v20 := Tryd.zeroValue20
  t31 := Tryd.underlying22
  a31 := Tryd.isAgg22
  z31 := Tryd.sizeOf22
  v31 := Tryd.zeroValue22
  t37 := Tryd.underlying29
  a37 := Tryd.isAgg29
  z37 := Tryd.sizeOf29
  v37 := Tryd.zeroValue29
  t70 := Tryd.underlying80
  a70 := Tryd.isAgg80
  z70 := Tryd.sizeOf80
  v70 := Tryd.zeroValue80
  t72 := Tryd.underlying82
  a72 := Tryd.isAgg82
  z72 := Tryd.sizeOf82
  v72 := Tryd.zeroValue82
  t75 := Tryd.underlying85
  a75 := Tryd.isAgg85
  z75 := Tryd.sizeOf85
  v75 := Tryd.zeroValue85
  t76 := Tryd.underlying86
  a76 := Tryd.isAgg86
  z76 := Tryd.sizeOf86
  v76 := Tryd.zeroValue86
  t127 := Tryd.underlying110
  a127 := Tryd.isAgg110
  z127 := Tryd.sizeOf110
  v127 := Tryd.zeroValue110
  t164 := Tryd.underlying117
  a164 := Tryd.isAgg117
  z164 := Tryd.sizeOf117
  v164 := Tryd.zeroValue117 }
theorem Tryd.Builder_Extra_156 : Builder.Extra Tryd.prog Tryd.lays156_ren := {
  sizeBuilder := by kernel_rfl
  liesBuilder := by kernel_rfl
  t5 := Tryd.underlying5
  a5 := Tryd.isAgg5
  z5 := Tryd.sizeOf5
  v5 := Tryd.zeroValue5
  infoByte := by kernel_rfl
  cellsByte := by kernel_rfl
  sizeByte := by kernel_rfl
  neB5 := by decide }
open Go.RowKit in
/-- No element: the empty string; the world is as it was. (Whatever the slice's address and capacity: a nil slice too.) (LAID: no walk: one application.) -/
theorem Tryd.strings_Join_none (a : Option Addr) (c : Nat) (sep : ByteArray) (w : World) :
    Calls Tryd.prog 22 #[.slice a 0 c, .string sep] w fun e w' => e = .returned (.string ⟨#[]⟩) ∧ w' = w := Any.strings_Join_none Tryd.lays156 Tryd.Builder_Extra_156 a c sep w
open Go.RowKit in
/-- strings.Join: "Join concatenates the elements of its first argument to create a single string. The separator string sep is placed between elements in the resulting string.": HOWEVER MANY ELEMENTS. Below the heap's end the world is as it was. (LAID: no walk: one application.) -/
theorem Tryd.strings_Join (bk o c : Nat) (xs : List ByteArray) (sep : ByteArray) (w : World) (hcells : ∀ (j : Nat) x, xs[j]? = some x → w.cell? ⟨bk, o + j, none⟩ = some (.string x)) (hbk : bk < w.heap.size) (hN : xs.length ≤ 140737488355328) (hcap : xs.length ≤ c) (hlen : (Lib.join (xs.map (·.data.toList)) sep.data.toList).length ≤ 140737488355328) :
    Calls Tryd.prog 22 #[.slice (some ⟨bk, o, none⟩) xs.length c, .string sep] w fun e w' => e = .returned (.string ⟨(Lib.join (xs.map (·.data.toList)) sep.data.toList).toArray⟩) ∧ Below w.heap.size w w' := Any.strings_Join Tryd.lays156 Tryd.Builder_Extra_156 bk o c xs sep w hcells hbk hN hcap hlen
def Tryd.laysGw15_ren : Go.Shelf.Ren := ⟨fun | 15 => 84 | 20 => 93 | n => n, fun | 9 => 9 | 23 => 112 | 3 => 3 | 4 => 4 | 0 => 0 | 21 => 21 | n => n, fun | n => n⟩
theorem Tryd.laysGw15 : Go.Proofs.LaysGw.n15 Tryd.prog Tryd.laysGw15_ren := {
  mixed := by kernel_rfl
  f15 := Tryd.func84.trans (congrArg some (by kernel_rfl))
  f20 := Tryd.func93.trans (congrArg some (by kernel_rfl))
  t0 := Tryd.underlying0
  a0 := Tryd.isAgg0
  z0 := Tryd.sizeOf0
  v0 := Tryd.zeroValue0
  i0 := by kernel_rfl
  t3 := Tryd.underlying3
  a3 := Tryd.isAgg3
  z3 := Tryd.sizeOf3
  v3 := Tryd.zeroValue3
  i3 := by kernel_rfl
  t4 := Tryd.underlying4
  a4 := Tryd.isAgg4
  z4 := Tryd.sizeOf4
  v4 := Tryd.zeroValue4
  i4 := by kernel_rfl
  t9 := Tryd.underlying9
  a9 := Tryd.isAgg9
  z9 := Tryd.sizeOf9
  v9 := Tryd.zeroValue9
  i9 := by kernel_rfl
  t21 := Tryd.underlying21
  a21 := Tryd.isAgg21
  z21 := Tryd.sizeOf21
  v21 := Tryd.zeroValue21
  i21 := by kernel_rfl
  t23 := Tryd.underlying112
  a23 := Tryd.isAgg112
  z23 := Tryd.sizeOf112
  v23 := Tryd.zeroValue112
  i23 := by kernel_rfl }
open Go.RowKit Go.Lib in
theorem Tryd.strings_IndexFunc_grows (g : Nat) (lb : Array Value) (eg : ∀ args w, (callFunc g args).run Tryd.prog w = .ok (.enter g args) w) (p : Nat → Bool) (s : ByteArray) (w : World) (hp : PredGrows Tryd.prog g lb p w) :
    Calls Tryd.prog 84 #[.string s, .func (.func g) #[] lb] w fun e w' => e = .returned (.int .i64 (Lib.idxFunc p true s)) ∧ Below w.heap.size w w' := Any.strings_IndexFunc_grows Tryd.laysGw15 g lb eg p s w hp
end Go.Proofs


namespace Go.AS.C
open Go Go.Proofs
/-! The kit's contracts, told of abstract states. -/
/-- The type of operations. -/
abbrev opT : TypeId := 24
theorem opU : type_of% @Tryd.underlying24 := Tryd.underlying24
/-- The type of updates, of lists of texts. -/
abbrev updT : TypeId := 26
theorem updU : type_of% @Tryd.underlying26 := Tryd.underlying26
abbrev strsT : TypeId := 22
theorem strsU : type_of% @Tryd.underlying22 := Tryd.underlying22
theorem joinsTexts : JoinsTexts Tryd.prog strings_Join :=
  ⟨fun bk o c xs sep w h1 h2 h3 h4 h5 => Tryd.strings_Join bk o c xs sep w h1 h2 h3 h4 h5, fun a c sep w => Tryd.strings_Join_none a c sep w⟩
theorem idxFuncs : IdxFuncs Tryd.prog strings_IndexFunc :=
  fun g p s w eg hp => Tryd.strings_IndexFunc_grows g #[] eg p s w hp
end Go.AS.C


namespace Go.AS.C
open Go Go.Proofs
set_option linter.unusedVariables false
set_option linter.unusedSimpArgs false
set_option maxRecDepth 10000

/-! op.has, op.Name, op.bare, op.Check; the reference's Has, Name, Check. -/
theorem op_has_spec {A : AH} {k : Int} {Q : Value → AH → Prop} (hq : Q (ii (hasO k)) A) : ACalls 1 Tryd.prog op_has [ii k] Q A := by
  refine ACalls.of_fits mixed fits_op_has rfl ?_
  unfold ic_op_has
  have i0 : initA [ii k] 0 = ii k := rfl
  generalize initA [ii k] = a at i0
  by_cases h1 : k = 1
  · subst h1; simp (maxSteps := 1000000) (disch := omega) only [stepS, reduceIte, Nat.reduceBEq, Nat.reduceEqDiff, tupleOf, stepT, i0]; exact hq
  by_cases h2 : k = 2
  · subst h2; simp (maxSteps := 1000000) (disch := omega) only [stepS, reduceIte, Nat.reduceBEq, Nat.reduceEqDiff, tupleOf, stepT, i0]; exact hq
  by_cases h3 : k = 3
  · subst h3; simp (maxSteps := 1000000) (disch := omega) only [stepS, reduceIte, Nat.reduceBEq, Nat.reduceEqDiff, tupleOf, stepT, i0]; exact hq
  by_cases h4 : k = 4
  · subst h4; simp (maxSteps := 1000000) (disch := omega) only [stepS, reduceIte, Nat.reduceBEq, Nat.reduceEqDiff, tupleOf, stepT, i0]; exact hq
  by_cases h5 : k = 5
  · subst h5; simp (maxSteps := 1000000) (disch := omega) only [stepS, reduceIte, Nat.reduceBEq, Nat.reduceEqDiff, tupleOf, stepT, i0]; exact hq
  by_cases h6 : k = 6
  · subst h6; simp (maxSteps := 1000000) (disch := omega) only [stepS, reduceIte, Nat.reduceBEq, Nat.reduceEqDiff, tupleOf, stepT, i0]; exact hq
  by_cases h7 : k = 7
  · subst h7; simp (maxSteps := 1000000) (disch := omega) only [stepS, reduceIte, Nat.reduceBEq, Nat.reduceEqDiff, tupleOf, stepT, i0]; exact hq
  have e : hasO k = -1 := by unfold hasO; simp [h1, h2, h3, h4, h5, h6, h7]
  rw [e] at hq
  simp (maxSteps := 1000000) (disch := omega) only [stepS, reduceIte, Nat.reduceBEq, Nat.reduceEqDiff, tupleOf, stepT, i0]
  exact hq

def oddR (r : Nat) : Bool := !decide (97 ≤ r ∧ r ≤ 122 ∨ 48 ≤ r ∧ r ≤ 57 ∨ r = 45)
theorem geq32 (a b : Int) : binA .geq (.int .i32 a) (.int .i32 b) = some (.bool (decide (a ≥ b))) := by simp [binA]
theorem leq32 (a b : Int) : binA .leq (.int .i32 a) (.int .i32 b) = some (.bool (decide (a ≤ b))) := by simp [binA]
theorem fits0_op_Name_1 : Fits Tryd.prog (0) op_Name_1 ic_op_Name_1 [.tmp 2] 1 := by
  have h : ((Tryd.prog.funcs[op_Name_1]?).bind fun fn => fn.body.bind (cCode Tryd.prog (0) fn.ntmps)) = some ic_op_Name_1 := by kernel_rfl
  obtain ⟨fn, h1, h2, h3, h4⟩ := fits_op_Name_1
  rw [h1] at h
  exact ⟨fn, h1, h2, h, h4⟩
theorem op_Name_1_spec (r : Nat) : ACalls (0) Tryd.prog op_Name_1 [.int .i32 r] (fun v _ => v = .bool (oddR r)) [] := by
  refine ACalls.of_fits mixed fits0_op_Name_1 rfl ?_
  unfold ic_op_Name_1
  have i0 : initA [.int .i32 r] 0 = .int .i32 r := rfl
  generalize initA [.int .i32 r] = a at i0
  unfold oddR
  by_cases h1 : 97 ≤ r
  · by_cases h2 : r ≤ 122
    · simp (maxSteps := 1000000) (disch := omega) only [stepS, reduceIte, Nat.reduceBEq, Nat.reduceEqDiff, tupleOf, stepT, i0, geq32, leq32]
      try (simp [*]; done)
      try (simp; omega)
    · simp (maxSteps := 1000000) (disch := omega) only [stepS, reduceIte, Nat.reduceBEq, Nat.reduceEqDiff, tupleOf, stepT, i0, geq32, leq32]
      try (simp [*]; done)
      try (simp; omega)
  · by_cases h3 : 48 ≤ r
    · by_cases h4 : r ≤ 57
      · simp (maxSteps := 1000000) (disch := omega) only [stepS, reduceIte, Nat.reduceBEq, Nat.reduceEqDiff, tupleOf, stepT, i0, geq32, leq32]
        try (simp [*]; done)
        try (simp; omega)
      · simp (maxSteps := 1000000) (disch := omega) only [stepS, reduceIte, Nat.reduceBEq, Nat.reduceEqDiff, tupleOf, stepT, i0, geq32, leq32]
        try (simp [*]; done)
        try (simp; omega)
    · by_cases h5 : r = 45
      · subst h5
        simp (maxSteps := 1000000) (disch := omega) only [stepS, reduceIte, Nat.reduceBEq, Nat.reduceEqDiff, tupleOf, stepT, i0, geq32, leq32]
        try (simp [*]; done)
        try (simp; omega)
      · simp (maxSteps := 1000000) (disch := omega) only [stepS, reduceIte, Nat.reduceBEq, Nat.reduceEqDiff, tupleOf, stepT, i0, geq32, leq32]
        try (simp [*]; done)
        try (simp; omega)
theorem decode_hi {s : ByteArray} {i : Nat} (h : 128 ≤ (s.get! i).toNat) : 128 ≤ (Utf8.decode s i).1 := by
  unfold Utf8.decode
  simp only [Nat.add_zero]
  rw [if_neg (by omega)]
  unfold Utf8.runeError
  repeat' split
  all_goals simp only []
  all_goals first | omega | (rename_i h; simp only [Bool.and_eq_true, decide_eq_true_eq] at h; omega) | skip
theorem decode_lo {s : ByteArray} {i : Nat} (h : (s.get! i).toNat < 128) : Utf8.decode s i = ((s.get! i).toNat, 1) := by
  unfold Utf8.decode
  simp only [Nat.add_zero]
  rw [if_pos (by omega)]
theorem idx_from {s : ByteArray} : ∀ (f pos : Nat), s.size ≤ pos + f → (Lib.idxFuncFrom oddR true s f pos < 0 ↔ ∀ b ∈ (bl s).drop pos, nameB b = true)
  | f, pos, hf => by
    by_cases hp : pos < s.size
    · obtain ⟨f, rfl⟩ : ∃ f', f = f' + 1 := ⟨f - 1, by omega⟩
      unfold Lib.idxFuncFrom
      rw [if_pos hp]
      have hl : pos < (bl s).length := by rw [bl_size]; exact hp
      have hg : s.get! pos = (bl s)[pos] := by
        cases s with
        | mk d =>
          show d[pos]! = _
          simp only [bl] at hl ⊢
          rw [getElem!_pos d pos (by simpa using hl)]
          simp
      rw [List.drop_eq_getElem_cons hl]
      simp only [List.mem_cons, forall_eq_or_imp]
      rcases Nat.lt_or_ge (s.get! pos).toNat 128 with h | h
      · rw [decode_lo h]
        simp only
        have ih := idx_from (s := s) f (pos + 1) (by omega)
        have hn : nameB (bl s)[pos] = !oddR (s.get! pos).toNat := by
          rw [← hg]; unfold nameB oddR; simp
        cases ho : oddR (s.get! pos).toNat with
        | true =>
          rw [ho] at hn
          rw [if_pos rfl, hn]
          simp
        | false =>
          rw [ho] at hn
          rw [if_neg (by simp), hn, ih]
          simp
      · have hr := decode_hi h
        have ho : oddR (Utf8.decode s pos).1 = true := by
          unfold oddR
          all_goals (first | (simp; done) | (simp; omega))
        rw [ho, if_pos rfl]
        have hn : nameB (bl s)[pos] = false := by
          rw [← hg]; unfold nameB; simp; omega
        rw [hn]
        simp
    · rw [Lib.idxFuncFrom_end _ _ _ _ _ hp, List.drop_of_length_le (by rw [bl_size]; omega)]
      simp
theorem idx_name (s : ByteArray) : (Lib.idxFunc oddR true s < 0) ↔ (bl s).all nameB = true := by
  unfold Lib.idxFunc
  rw [idx_from s.size 0 (by omega), List.drop_zero, List.all_eq_true]
theorem op_Name_1_ok : calleeOk Tryd.prog op_Name_1 = true := by kernel_rfl
theorem op_Name_spec {A : AH} {s : ByteArray} {Q : Value → AH → Prop} (hq : Q (.bool (nameOk s)) A) : ACalls 1 Tryd.prog op_Name [.string s] Q A := by
  refine ACalls.of_fits mixed fits_op_Name rfl ?_
  unfold ic_op_Name
  have i0 : initA [.string s] 0 = .string s := rfl
  generalize initA [.string s] = a at i0
  simp (maxSteps := 1000000) (disch := omega) only [stepS, reduceIte, Nat.reduceBEq, Nat.reduceEqDiff, tupleOf, stepT, i0]
  refine idxfunc_spec idxFuncs (p := oddR) op_Name_1_ok (fun x _ => ?_) ?_
  · exact op_Name_1_spec x
  have hx := idx_name s
  generalize Lib.idxFunc oddR true s = x at hx
  unfold nameOk at hq
  by_cases h1 : x < 0
  · rw [hx.1 h1, Bool.true_and] at hq
    by_cases h2 : 1 ≤ s.size
    · by_cases h3 : s.size ≤ 12
      · rw [decide_eq_true ⟨h2, h3⟩] at hq
        simp (maxSteps := 1000000) (disch := omega) only [stepS, reduceIte, Nat.reduceBEq, Nat.reduceEqDiff, tupleOf, stepT, i0]
        exact hq
      · rw [decide_eq_false (fun h => h3 h.2)] at hq
        simp (maxSteps := 1000000) (disch := omega) only [stepS, reduceIte, Nat.reduceBEq, Nat.reduceEqDiff, tupleOf, stepT, i0]
        exact hq
    · rw [decide_eq_false (fun h => h2 h.1)] at hq
      simp (maxSteps := 1000000) (disch := omega) only [stepS, reduceIte, Nat.reduceBEq, Nat.reduceEqDiff, tupleOf, stepT, i0]
      exact hq
  · rw [Bool.eq_false_iff.2 (fun h => h1 (hx.2 h)), Bool.false_and] at hq
    simp (maxSteps := 1000000) (disch := omega) only [stepS, reduceIte, Nat.reduceBEq, Nat.reduceEqDiff, tupleOf, stepT, i0]
    exact hq

theorem andH : (∀ m : Int, m = 1 ∨ m = 2 ∨ m = 4 ∨ m = 8 → binA .and (ii (-1)) (ii m) = some (ii m)) ∧ (binA .and (ii 5) (ii 1) = some (ii 1) ∧ binA .and (ii 5) (ii 2) = some (ii 0) ∧ binA .and (ii 5) (ii 4) = some (ii 4) ∧ binA .and (ii 5) (ii 8) = some (ii 0)) ∧
    (binA .and (ii 3) (ii 1) = some (ii 1) ∧ binA .and (ii 3) (ii 2) = some (ii 2) ∧ binA .and (ii 3) (ii 4) = some (ii 0) ∧ binA .and (ii 3) (ii 8) = some (ii 0)) ∧ (binA .and (ii 11) (ii 1) = some (ii 1) ∧ binA .and (ii 11) (ii 2) = some (ii 2) ∧ binA .and (ii 11) (ii 4) = some (ii 0) ∧ binA .and (ii 11) (ii 8) = some (ii 8)) ∧
    (binA .and (ii 9) (ii 1) = some (ii 1) ∧ binA .and (ii 9) (ii 2) = some (ii 0) ∧ binA .and (ii 9) (ii 4) = some (ii 0) ∧ binA .and (ii 9) (ii 8) = some (ii 8)) ∧ (binA .and (ii 0) (ii 1) = some (ii 0) ∧ binA .and (ii 0) (ii 2) = some (ii 0) ∧ binA .and (ii 0) (ii 4) = some (ii 0) ∧ binA .and (ii 0) (ii 8) = some (ii 0)) := by
  refine ⟨?_, ⟨rfl, rfl, rfl, rfl⟩, ⟨rfl, rfl, rfl, rfl⟩, ⟨rfl, rfl, rfl, rfl⟩, ⟨rfl, rfl, rfl, rfl⟩, rfl, rfl, rfl, rfl⟩
  rintro m (rfl | rfl | rfl | rfl) <;> rfl
/-- What a kind has, as the bits tell. -/
theorem and_has {k : Int} (h : hK k = true) : binA .and (ii (hasO k)) (ii 1) = some (ii (if hN k then 1 else 0)) ∧ binA .and (ii (hasO k)) (ii 2) = some (ii (if hT k then 2 else 0)) ∧ binA .and (ii (hasO k)) (ii 4) = some (ii (if hI k then 4 else 0)) ∧
    binA .and (ii (hasO k)) (ii 8) = some (ii (if hA k then 8 else 0)) ∧ 0 ≤ hasO k := by
  rcases opKind h with rfl | rfl | rfl | rfl | rfl | rfl | rfl <;> exact ⟨rfl, rfl, rfl, rfl, by decide⟩
theorem OpV.v_eq (o : OpV) : o.v = .agg #[ii o.k, .string o.name, .string o.text, ii o.n, .string o.place] := rfl
theorem op_bare_spec {A : AH} {o : OpV} {Q : Value → AH → Prop} (hk : hK o.k = true) (hq : Q (bareO o).v A) : ACalls 1 Tryd.prog op_bare [o.v] Q A := by
  refine ACalls.pure1 _ rfl hq fun Q hq => ?_
  refine ACalls.of_fits mixed fits_op_bare rfl ?_
  unfold ic_op_bare
  have i0 : initA [o.v] 0 = o.v := rfl
  generalize initA [o.v] = a at i0
  obtain ⟨k, name, text, n, place⟩ := o
  rw [OpV.v_eq] at i0 hq
  simp only [bareO] at i0 hk hq
  rcases opKind hk with rfl | rfl | rfl | rfl | rfl | rfl | rfl
  all_goals (
    simp only [hN, hT, hI, hA, Int.reduceLE, and_true, true_and, and_false, false_and, decide_true, decide_false, if_true, if_false, Bool.false_eq_true, Int.reduceEq] at hq
    simp (maxSteps := 1000000) (disch := omega) only [stepS, reduceIte, Nat.reduceBEq, Nat.reduceEqDiff, tupleOf, stepT, stepX, heapR, lensR, Nat.reduceAdd, Nat.reduceLeDiff, i0]
    refine W_alt ?_ ?_
    · simp (maxSteps := 1000000) (disch := omega) only [stepS, reduceIte, Nat.reduceBEq, Nat.reduceEqDiff, tupleOf, stepT, stepX, heapR, lensR, Nat.reduceAdd, Nat.reduceLeDiff]
      refine op_has_spec ?_
      simp only [hasO, if_true, if_false, Int.reduceEq, or_true, true_or, or_false, Int.reduceNeg]
      simp (maxSteps := 1000000) (disch := omega) only [stepS, reduceIte, Nat.reduceBEq, Nat.reduceEqDiff, tupleOf, stepT, stepX, heapR, lensR, Nat.reduceAdd, Nat.reduceLeDiff, andH]
      exact hq _ (by (repeat first | exact Le.refl _ | assumption | refine Le.app ?_ _ | refine Le.set ?_ ?_ | omega | (simp only [List.length_append, List.length_singleton, List.length_set]; omega)))
    · simp (maxSteps := 1000000) (disch := omega) only [stepS, reduceIte, Nat.reduceBEq, Nat.reduceEqDiff, tupleOf, stepT, stepX, heapR, lensR, Nat.reduceAdd, Nat.reduceLeDiff]
      refine op_has_spec ?_
      simp only [hasO, if_true, if_false, Int.reduceEq, or_true, true_or, or_false, Int.reduceNeg]
      simp (maxSteps := 1000000) (disch := omega) only [stepS, reduceIte, Nat.reduceBEq, Nat.reduceEqDiff, tupleOf, stepT, stepX, heapR, lensR, Nat.reduceAdd, Nat.reduceLeDiff, andH]
      exact hq _ (by (repeat first | exact Le.refl _ | assumption | refine Le.app ?_ _ | refine Le.set ?_ ?_ | omega | (simp only [List.length_append, List.length_singleton, List.length_set]; omega))))
def opKs : List FK := [.int .i64, .str, .str, .int .i64, .str]
theorem flat_op : flatS Tryd.prog opT opKs = true := by kernel_rfl
theorem OpV.Fin.has {o : OpV} (h : o.Fin) : All2 (fun v k => FK.Has k v) o.cs opKs := by
  obtain ⟨h1, h2, h3, h4, h5⟩ := h
  have hm : maxLen = 9223372036854775807 := by decide
  exact ⟨FK.hasI h1, show _ ≤ maxLen by omega, show _ ≤ maxLen by omega, FK.hasI h2, show _ ≤ maxLen by omega, trivial⟩
theorem eqop (A : AH) (neg : Bool) {a b : OpV} (ha : a.Fin) (hb : b.Fin) : sEqagg A neg (Tryd.prog.keyLits 8 opT) a.v b.v = some (.bool (decide (a = b) != neg), A) := by
  refine eqagg_flat flat_op ha.has hb.has ?_
  rw [decide_eq_true_eq]
  cases a; cases b
  simp [OpV.cs]
theorem bareO_fin {o : OpV} (h : o.Fin) : (bareO o).Fin := by
  obtain ⟨h1, h2, h3, h4, h5⟩ := h
  unfold bareO
  have e : e0.size = 0 := rfl
  refine ⟨h1, ?_, ?_, ?_, ?_⟩ <;> simp only <;> split <;> first | assumption | omega
theorem bare_ok {o : OpV} : bareO o = o ↔ (hN o.k = true ∨ o.name = e0) ∧ (hT o.k = true ∨ o.text = e0) ∧ (hI o.k = true ∨ o.n = 0) ∧ (hA o.k = true ∨ o.place = e0) := by
  obtain ⟨k, name, text, n, place⟩ := o
  unfold bareO
  simp only [OpV.mk.injEq, true_and]
  cases hN k <;> cases hT k <;> cases hI k <;> cases hA k <;> simp [eq_comm]
def checkO (o : OpV) : Int := if opOk o then 0 else 1
theorem op_Check_spec {A : AH} {o : OpV} {Q : Value → AH → Prop} (hs : o.Fin) (hq : Q (ii (checkO o)) A) : ACalls 1 Tryd.prog op_Check [o.v] Q A := by
  refine ACalls.pure1 _ rfl hq fun Q hq => ?_
  have hbad : opOk o = false → ∀ A', Le A A' → Q (ii 1) A' := fun h A' k => by have := hq A' k; unfold checkO at this; rw [h] at this; exact this
  have hgood : opOk o = true → ∀ A', Le A A' → Q (ii 0) A' := fun h A' k => by have := hq A' k; unfold checkO at this; rw [h] at this; exact this
  have hiff := @opOk_iff o
  have hbare := @bare_ok o
  have hs2 := hs.2.1
  have hs3 := hs.2.2.2.1
  refine ACalls.of_fits mixed fits_op_Check rfl ?_
  unfold ic_op_Check
  have i0 : initA [o.v] 0 = o.v := rfl
  generalize initA [o.v] = a at i0
  rw [OpV.v_eq] at i0
  have eb : ∀ A, sEqagg A true (Tryd.prog.keyLits 8 opT) (bareO o).v (.agg #[ii o.k, .string o.name, .string o.text, ii o.n, .string o.place]) = some (.bool (decide (bareO o = o) != true), A) := fun A => eqop A true (bareO_fin hs) hs
  have hA : ∀ {B : AH}, B = A ++ [.row [ii o.k, .string o.name, .string o.text, ii o.n, .string o.place] .own 0 true] → rowAt B A.length = some ([ii o.k, .string o.name, .string o.text, ii o.n, .string o.place], .own, 0, true) := fun h => by subst h; simp (maxSteps := 1000000) (disch := omega) only [stepS, reduceIte, Nat.reduceBEq, Nat.reduceEqDiff, tupleOf, stepT, stepX, heapR, lensR, Nat.reduceAdd, Nat.reduceLeDiff]
  refine W_mid (fun a B => B = A ++ [.row [ii o.k, .string o.name, .string o.text, ii o.n, .string o.place] .own 0 true] ∧ a 1 = ptr A.length) ?_ ?_
  · simp (maxSteps := 1000000) (disch := omega) only [stepS, reduceIte, Nat.reduceBEq, Nat.reduceEqDiff, tupleOf, stepT, stepX, heapR, lensR, Nat.reduceAdd, Nat.reduceLeDiff, i0]
  rintro a B ⟨hB, g1⟩
  have r1 := hA hB
  have hl : Le A B := by rw [hB]; exact .push _ _
  clear hA i0 hB
  refine W_mid (fun a B' => B' = B ∧ a 1 = ptr A.length ∧ a 3 = ii (hasO o.k)) ?_ ?_
  · simp (maxSteps := 1000000) (disch := omega) only [stepS, reduceIte, Nat.reduceBEq, Nat.reduceEqDiff, tupleOf, stepT, stepX, heapR, lensR, Nat.reduceAdd, Nat.reduceLeDiff, g1, r1]
    refine op_has_spec ?_
    simp (maxSteps := 1000000) (disch := omega) only [stepS, reduceIte, Nat.reduceBEq, Nat.reduceEqDiff, tupleOf, stepT, stepX, heapR, lensR, Nat.reduceAdd, Nat.reduceLeDiff, g1]
  rintro a B ⟨rfl, g1, g3⟩
  by_cases hk : hK o.k = true
  · obtain ⟨b1, b2, b4, b8, hp⟩ := and_has hk
    have hlt : ¬ hasO o.k < 0 := by omega
    refine W_mid (fun a B' => B' = B ∧ a 1 = ptr A.length ∧ a 3 = ii (hasO o.k) ∧ a 4 = .bool (!hN o.k || nameOk o.name)) ?_ ?_
    · by_cases hn : hN o.k = true
      · rw [if_pos hn] at b1
        simp (maxSteps := 1000000) (disch := omega) only [stepS, reduceIte, Nat.reduceBEq, Nat.reduceEqDiff, tupleOf, stepT, stepX, heapR, lensR, Nat.reduceAdd, Nat.reduceLeDiff, g1, g3, r1, b1]
        refine op_Name_spec ?_
        simp (maxSteps := 1000000) (disch := omega) only [stepS, reduceIte, Nat.reduceBEq, Nat.reduceEqDiff, tupleOf, stepT, stepX, heapR, lensR, Nat.reduceAdd, Nat.reduceLeDiff, g1, g3]
        simp [hn]
      · rw [if_neg hn] at b1
        simp (maxSteps := 1000000) (disch := omega) only [stepS, reduceIte, Nat.reduceBEq, Nat.reduceEqDiff, tupleOf, stepT, stepX, heapR, lensR, Nat.reduceAdd, Nat.reduceLeDiff, g1, g3, r1, b1]
        simp [hn]
    rintro a B ⟨rfl, g1, g3, g4⟩
    refine W_mid (fun a B' => B' = B ∧ a 1 = ptr A.length ∧ a 3 = ii (hasO o.k) ∧ a 4 = .bool (!hN o.k || nameOk o.name) ∧ a 5 = .bool (decide (o.text.size ≤ 48 ∧ -2147483647 ≤ o.n ∧ o.n ≤ 2147483647))) ?_ ?_
    · by_cases w1 : o.text.size ≤ 48
      · by_cases w2 : o.n ≥ -2147483647
        · simp (maxSteps := 1000000) (disch := omega) only [stepS, reduceIte, Nat.reduceBEq, Nat.reduceEqDiff, tupleOf, stepT, stepX, heapR, lensR, Nat.reduceAdd, Nat.reduceLeDiff, g1, g3, g4, r1]
          simp [w1, w2]
        · simp (maxSteps := 1000000) (disch := omega) only [stepS, reduceIte, Nat.reduceBEq, Nat.reduceEqDiff, tupleOf, stepT, stepX, heapR, lensR, Nat.reduceAdd, Nat.reduceLeDiff, g1, g3, g4, r1]
          all_goals (first | (simp; done) | (simp; omega))
      · simp (maxSteps := 1000000) (disch := omega) only [stepS, reduceIte, Nat.reduceBEq, Nat.reduceEqDiff, tupleOf, stepT, stepX, heapR, lensR, Nat.reduceAdd, Nat.reduceLeDiff, g1, g3, g4, r1]
        all_goals (first | (simp; done) | (simp; omega))
    rintro a B ⟨rfl, g1, g3, g4, g5⟩
    refine W_mid (fun a B' => B' = B ∧ a 1 = ptr A.length ∧ a 3 = ii (hasO o.k) ∧ a 4 = .bool (!hN o.k || nameOk o.name) ∧ a 5 = .bool (decide (o.text.size ≤ 48 ∧ -2147483647 ≤ o.n ∧ o.n ≤ 2147483647)) ∧ a 6 = .bool (decide (o.place = e0 ∨ o.place.size = 32))) ?_ ?_
    · by_cases hpl : o.place = e0
      · simp (maxSteps := 1000000) (disch := omega) only [stepS, reduceIte, Nat.reduceBEq, Nat.reduceEqDiff, tupleOf, stepT, stepX, heapR, lensR, Nat.reduceAdd, Nat.reduceLeDiff, g1, g3, g4, g5, r1, hpl]
        simp
      · simp (maxSteps := 1000000) (disch := omega) only [stepS, reduceIte, Nat.reduceBEq, Nat.reduceEqDiff, tupleOf, stepT, stepX, heapR, lensR, Nat.reduceAdd, Nat.reduceLeDiff, g1, g3, g4, g5, r1, hpl]
        refine ids_Right_spec ?_
        simp (maxSteps := 1000000) (disch := omega) only [stepS, reduceIte, Nat.reduceBEq, Nat.reduceEqDiff, tupleOf, stepT, stepX, heapR, lensR, Nat.reduceAdd, Nat.reduceLeDiff, g1, g3, g4, g5]
        simp [hpl]
    rintro a B ⟨rfl, g1, g3, g4, g5, g6⟩
    have fail : opOk o = false → Q (ii 1) B := fun h => hbad h _ hl
    by_cases hb : bareO o = o
    · rw [decide_eq_true hb] at eb
      change ∀ A, _ = some (Value.bool false, A) at eb
      have hb2 := hbare.1 hb
      by_cases q1 : (!hN o.k || nameOk o.name) = true
      · rw [q1] at g4
        by_cases q2 : o.text.size ≤ 48 ∧ -2147483647 ≤ o.n ∧ o.n ≤ 2147483647
        · rw [decide_eq_true q2] at g5
          by_cases q3 : o.place = e0 ∨ o.place.size = 32
          · rw [decide_eq_true q3] at g6
            by_cases q4 : o.k = 5
            · by_cases q5 : o.text = e0
              · skip
                simp (maxSteps := 1000000) (disch := omega) only [stepS, reduceIte, Nat.reduceBEq, Nat.reduceEqDiff, tupleOf, stepT, stepX, heapR, lensR, Nat.reduceAdd, Nat.reduceLeDiff, g1, g3, g4, g5, g6, r1, hlt]
                refine op_bare_spec hk ?_
                simp (maxSteps := 1000000) (disch := omega) only [stepS, reduceIte, Nat.reduceBEq, Nat.reduceEqDiff, tupleOf, stepT, stepX, heapR, lensR, Nat.reduceAdd, Nat.reduceLeDiff, g1, g4, g5, g6, r1, eb, decide_eq_true q5]
                exact fail (by rw [← Bool.not_eq_true, hiff]; exact fun h => h.2.2.2.2.2.2.2.2.1 ⟨q4, q5⟩)
              · skip
                simp (maxSteps := 1000000) (disch := omega) only [stepS, reduceIte, Nat.reduceBEq, Nat.reduceEqDiff, tupleOf, stepT, stepX, heapR, lensR, Nat.reduceAdd, Nat.reduceLeDiff, g1, g3, g4, g5, g6, r1, hlt]
                refine op_bare_spec hk ?_
                simp (maxSteps := 1000000) (disch := omega) only [stepS, reduceIte, Nat.reduceBEq, Nat.reduceEqDiff, tupleOf, stepT, stepX, heapR, lensR, Nat.reduceAdd, Nat.reduceLeDiff, g1, g4, g5, g6, r1, eb, decide_eq_false q5]
                refine hgood (hiff.2 ⟨hk, ?_, q2.1, hb2.2.1, hb2.2.2.1, hb2.2.2.2, q2.2, q3, fun h => q5 h.2, fun h => by omega⟩) _ hl
                split
                · rename_i hn; rw [hn] at q1; simpa using q1
                · rename_i hn; exact hb2.1.resolve_left hn
            · by_cases q6 : o.k = 6
              · by_cases q7 : o.place = e0
                · skip
                  simp (maxSteps := 1000000) (disch := omega) only [stepS, reduceIte, Nat.reduceBEq, Nat.reduceEqDiff, tupleOf, stepT, stepX, heapR, lensR, Nat.reduceAdd, Nat.reduceLeDiff, g1, g3, g4, g5, g6, r1, hlt]
                  refine op_bare_spec hk ?_
                  simp (maxSteps := 1000000) (disch := omega) only [stepS, reduceIte, Nat.reduceBEq, Nat.reduceEqDiff, tupleOf, stepT, stepX, heapR, lensR, Nat.reduceAdd, Nat.reduceLeDiff, g1, g4, g5, g6, r1, eb, decide_eq_true q7]
                  exact fail (by rw [← Bool.not_eq_true, hiff]; exact fun h => h.2.2.2.2.2.2.2.2.2 ⟨q6, q7⟩)
                · skip
                  simp (maxSteps := 1000000) (disch := omega) only [stepS, reduceIte, Nat.reduceBEq, Nat.reduceEqDiff, tupleOf, stepT, stepX, heapR, lensR, Nat.reduceAdd, Nat.reduceLeDiff, g1, g3, g4, g5, g6, r1, hlt]
                  refine op_bare_spec hk ?_
                  simp (maxSteps := 1000000) (disch := omega) only [stepS, reduceIte, Nat.reduceBEq, Nat.reduceEqDiff, tupleOf, stepT, stepX, heapR, lensR, Nat.reduceAdd, Nat.reduceLeDiff, g1, g4, g5, g6, r1, eb, decide_eq_false q7]
                  refine hgood (hiff.2 ⟨hk, ?_, q2.1, hb2.2.1, hb2.2.2.1, hb2.2.2.2, q2.2, q3, fun h => by omega, fun h => q7 h.2⟩) _ hl
                  split
                  · rename_i hn; rw [hn] at q1; simpa using q1
                  · rename_i hn; exact hb2.1.resolve_left hn
              · skip
                simp (maxSteps := 1000000) (disch := omega) only [stepS, reduceIte, Nat.reduceBEq, Nat.reduceEqDiff, tupleOf, stepT, stepX, heapR, lensR, Nat.reduceAdd, Nat.reduceLeDiff, g1, g3, g4, g5, g6, r1, hlt]
                refine op_bare_spec hk ?_
                simp (maxSteps := 1000000) (disch := omega) only [stepS, reduceIte, Nat.reduceBEq, Nat.reduceEqDiff, tupleOf, stepT, stepX, heapR, lensR, Nat.reduceAdd, Nat.reduceLeDiff, g1, g4, g5, g6, r1, eb]
                refine hgood (hiff.2 ⟨hk, ?_, q2.1, hb2.2.1, hb2.2.2.1, hb2.2.2.2, q2.2, q3, fun h => q4 h.1, fun h => q6 h.1⟩) _ hl
                split
                · rename_i hn; rw [hn] at q1; simpa using q1
                · rename_i hn; exact hb2.1.resolve_left hn
          · rw [decide_eq_false q3] at g6
            simp (maxSteps := 1000000) (disch := omega) only [stepS, reduceIte, Nat.reduceBEq, Nat.reduceEqDiff, tupleOf, stepT, stepX, heapR, lensR, Nat.reduceAdd, Nat.reduceLeDiff, g1, g3, g4, g5, g6, r1, hlt]
            refine op_bare_spec hk ?_
            simp (maxSteps := 1000000) (disch := omega) only [stepS, reduceIte, Nat.reduceBEq, Nat.reduceEqDiff, tupleOf, stepT, stepX, heapR, lensR, Nat.reduceAdd, Nat.reduceLeDiff, g1, g4, g5, g6, r1, eb]
            exact fail (by rw [← Bool.not_eq_true, hiff]; exact fun h => q3 h.2.2.2.2.2.2.2.1)
        · rw [decide_eq_false q2] at g5
          simp (maxSteps := 1000000) (disch := omega) only [stepS, reduceIte, Nat.reduceBEq, Nat.reduceEqDiff, tupleOf, stepT, stepX, heapR, lensR, Nat.reduceAdd, Nat.reduceLeDiff, g1, g3, g4, g5, g6, r1, hlt]
          refine op_bare_spec hk ?_
          simp (maxSteps := 1000000) (disch := omega) only [stepS, reduceIte, Nat.reduceBEq, Nat.reduceEqDiff, tupleOf, stepT, stepX, heapR, lensR, Nat.reduceAdd, Nat.reduceLeDiff, g1, g4, g5, g6, r1, eb]
          exact fail (by rw [← Bool.not_eq_true, hiff]; exact fun h => q2 ⟨h.2.2.1, h.2.2.2.2.2.2.1⟩)
      · rw [Bool.not_eq_true] at q1
        rw [q1] at g4
        simp (maxSteps := 1000000) (disch := omega) only [stepS, reduceIte, Nat.reduceBEq, Nat.reduceEqDiff, tupleOf, stepT, stepX, heapR, lensR, Nat.reduceAdd, Nat.reduceLeDiff, g1, g3, g4, g5, g6, r1, hlt]
        refine op_bare_spec hk ?_
        simp (maxSteps := 1000000) (disch := omega) only [stepS, reduceIte, Nat.reduceBEq, Nat.reduceEqDiff, tupleOf, stepT, stepX, heapR, lensR, Nat.reduceAdd, Nat.reduceLeDiff, g1, g4, g5, g6, r1, eb]
        refine fail ?_
        rw [← Bool.not_eq_true, hiff]
        intro h
        rw [Bool.or_eq_false_iff] at q1
        have hn : hN o.k = true := by simpa using q1.1
        have := h.2.1
        rw [if_pos hn, q1.2] at this
        cases this
    · rw [decide_eq_false hb] at eb
      change ∀ A, _ = some (Value.bool true, A) at eb
      simp (maxSteps := 1000000) (disch := omega) only [stepS, reduceIte, Nat.reduceBEq, Nat.reduceEqDiff, tupleOf, stepT, stepX, heapR, lensR, Nat.reduceAdd, Nat.reduceLeDiff, g1, g3, g4, g5, g6, r1, hlt]
      refine op_bare_spec hk ?_
      simp (maxSteps := 1000000) (disch := omega) only [stepS, reduceIte, Nat.reduceBEq, Nat.reduceEqDiff, tupleOf, stepT, stepX, heapR, lensR, Nat.reduceAdd, Nat.reduceLeDiff, g1, g4, g5, g6, r1, eb]
      refine fail ?_
      rw [← Bool.not_eq_true, hiff]
      intro h
      refine hb (hbare.2 ⟨?_, h.2.2.2.1, h.2.2.2.2.1, h.2.2.2.2.2.1⟩)
      have h2 := h.2.1
      by_cases hn : hN o.k = true
      · exact .inl hn
      · rw [if_neg hn] at h2; exact .inr h2
  · have fail : Q (ii 1) B := hbad (by rw [← Bool.not_eq_true, hiff]; exact fun h => hk h.1) _ hl
    have hh : hasO o.k = -1 := by
      unfold hK at hk
      rw [decide_eq_true_eq] at hk
      unfold hasO
      rw [if_neg (by omega), if_neg (by omega), if_neg (by omega), if_neg (by omega), if_neg (by omega)]
    rw [hh] at g3
    refine W_mid (fun a B' => B' = B ∧ a 1 = ptr A.length ∧ a 3 = ii (-1)) ?_ ?_
    · simp (maxSteps := 1000000) (disch := omega) only [stepS, reduceIte, Nat.reduceBEq, Nat.reduceEqDiff, tupleOf, stepT, stepX, heapR, lensR, Nat.reduceAdd, Nat.reduceLeDiff, g1, g3, r1, andH]
      refine op_Name_spec ?_
      simp (maxSteps := 1000000) (disch := omega) only [stepS, reduceIte, Nat.reduceBEq, Nat.reduceEqDiff, tupleOf, stepT, stepX, heapR, lensR, Nat.reduceAdd, Nat.reduceLeDiff, g1, g3]
    rintro a B ⟨rfl, g1, g3⟩
    refine W_mid (fun a B' => B' = B ∧ a 1 = ptr A.length ∧ a 3 = ii (-1)) ?_ ?_
    · by_cases w1 : o.text.size ≤ 48
      · by_cases w2 : o.n ≥ -2147483647
        · simp (maxSteps := 1000000) (disch := omega) only [stepS, reduceIte, Nat.reduceBEq, Nat.reduceEqDiff, tupleOf, stepT, stepX, heapR, lensR, Nat.reduceAdd, Nat.reduceLeDiff, g1, g3, r1]
        · simp (maxSteps := 1000000) (disch := omega) only [stepS, reduceIte, Nat.reduceBEq, Nat.reduceEqDiff, tupleOf, stepT, stepX, heapR, lensR, Nat.reduceAdd, Nat.reduceLeDiff, g1, g3, r1]
      · simp (maxSteps := 1000000) (disch := omega) only [stepS, reduceIte, Nat.reduceBEq, Nat.reduceEqDiff, tupleOf, stepT, stepX, heapR, lensR, Nat.reduceAdd, Nat.reduceLeDiff, g1, g3, r1]
    rintro a B ⟨rfl, g1, g3⟩
    refine W_mid (fun a B' => B' = B ∧ a 1 = ptr A.length ∧ a 3 = ii (-1)) ?_ ?_
    · by_cases hpl : o.place = e0
      · simp (maxSteps := 1000000) (disch := omega) only [stepS, reduceIte, Nat.reduceBEq, Nat.reduceEqDiff, tupleOf, stepT, stepX, heapR, lensR, Nat.reduceAdd, Nat.reduceLeDiff, g1, g3, r1, hpl]
      · simp (maxSteps := 1000000) (disch := omega) only [stepS, reduceIte, Nat.reduceBEq, Nat.reduceEqDiff, tupleOf, stepT, stepX, heapR, lensR, Nat.reduceAdd, Nat.reduceLeDiff, g1, g3, r1, hpl]
        refine ids_Right_spec ?_
        simp (maxSteps := 1000000) (disch := omega) only [stepS, reduceIte, Nat.reduceBEq, Nat.reduceEqDiff, tupleOf, stepT, stepX, heapR, lensR, Nat.reduceAdd, Nat.reduceLeDiff, g1, g3]
    rintro a B ⟨rfl, g1, g3⟩
    simp (maxSteps := 1000000) (disch := omega) only [stepS, reduceIte, Nat.reduceBEq, Nat.reduceEqDiff, tupleOf, stepT, stepX, heapR, lensR, Nat.reduceAdd, Nat.reduceLeDiff, g1, g3, r1]
    exact fail
end Go.AS.C


namespace Go.AS.C
open Go Go.Proofs
set_option linter.unusedVariables false
set_option linter.unusedSimpArgs false
set_option maxRecDepth 10000

/-! The reference's Has, Name, Check of operations. -/
theorem idx_byte {A : AH} {s : ByteArray} {j : Nat} {b : UInt8} (h : (bl s)[j]? = some b) : sIdxs A (.string s) (.int .i64 (j : Int)) = some (.int .u8 (b.toNat : Int), A) := by
  unfold sIdxs asI
  simp only [Option.bind_some, Int.toNat_natCast]
  rw [if_pos (by omega)]
  have e : s[j]? = some b := by
    cases s with
    | mk d =>
      have h' : d.toList[j]? = some b := h
      rw [Array.getElem?_toList] at h'
      have hj := (Array.getElem?_eq_some_iff.1 h').1
      show (if h : j < d.size then some d[j] else none) = _
      rw [dif_pos hj]
      rw [Array.getElem?_eq_getElem hj] at h'
      exact h'
  rw [e]; rfl
theorem ref14_Name_spec {A : AH} {s : ByteArray} {Q : Value → AH → Prop} (hs : s.size < 2 ^ 50) (hq : Q (.bool (nameOk s)) A) : ACalls 1 Tryd.prog chantryref14_Name [.string s] Q A := by
  refine ACalls.of_fits mixed fits_chantryref14_Name rfl ?_
  unfold ic_chantryref14_Name
  have i0 : initA [.string s] 0 = .string s := rfl
  generalize initA [.string s] = a at i0
  simp (maxSteps := 1000000) (disch := omega) only [stepS, reduceIte, Nat.reduceBEq, Nat.reduceEqDiff, tupleOf, stepT, i0]
  refine W_loop (fun a' B => B = A ∧ ∃ k : Nat, k ≤ s.size ∧ ((bl s).take k).all nameB = true ∧ a' 0 = .string s ∧ a' 3 = ii k) (fun a' _ => s.size - (iv (a' 3)).toNat) ?_ ?_
  · refine ⟨rfl, 0, by omega, ?_⟩
    simp (maxSteps := 1000000) (disch := omega) only [stepS, reduceIte, Nat.reduceBEq, Nat.reduceEqDiff, tupleOf, stepT, i0]
    simp
  · rintro a2 B ⟨rfl, k, hk, hall, g0, g3⟩
    rcases Nat.lt_or_ge k s.size with hlt | hge
    · obtain ⟨b, hb⟩ : ∃ b, (bl s)[k]? = some b := ⟨_, List.getElem?_eq_getElem (by rw [bl_size]; exact hlt)⟩
      have e1 := idx_byte (A := B) hb
      have htk : (bl s).take (k + 1) = (bl s).take k ++ [b] := by rw [List.take_add_one, hb]; rfl
      have good : nameB b = true → ((bl s).take (k + 1)).all nameB = true := fun h => by rw [htk, List.all_append, hall]; simp [h]
      have bad : nameB b = false → Q (.bool false) B := fun h => by
        have : (bl s).all nameB = false := by
          rw [← Bool.not_eq_true, List.all_eq_true]
          intro h2
          rw [h2 b (List.mem_of_getElem? hb)] at h
          cases h
        unfold nameOk at hq
        rw [this] at hq
        exact hq
      by_cases h1 : 97 ≤ b.toNat
      · by_cases h2 : b.toNat ≤ 122
        · simp (maxSteps := 1000000) (disch := omega) only [stepS, reduceIte, Nat.reduceBEq, Nat.reduceEqDiff, tupleOf, stepT, g0, g3, e1]
          exact ⟨⟨k + 1, by omega, good (by simp [nameB, h1, h2]), rfl⟩, by omega⟩
        · simp (maxSteps := 1000000) (disch := omega) only [stepS, reduceIte, Nat.reduceBEq, Nat.reduceEqDiff, tupleOf, stepT, g0, g3, e1]
          exact bad (by simp [nameB]; omega)
      · by_cases h3 : 48 ≤ b.toNat
        · by_cases h4 : b.toNat ≤ 57
          · simp (maxSteps := 1000000) (disch := omega) only [stepS, reduceIte, Nat.reduceBEq, Nat.reduceEqDiff, tupleOf, stepT, g0, g3, e1]
            exact ⟨⟨k + 1, by omega, good (by simp [nameB]; omega), rfl⟩, by omega⟩
          · simp (maxSteps := 1000000) (disch := omega) only [stepS, reduceIte, Nat.reduceBEq, Nat.reduceEqDiff, tupleOf, stepT, g0, g3, e1]
            exact bad (by simp [nameB]; omega)
        · by_cases h5 : b.toNat = 45
          · simp (maxSteps := 1000000) (disch := omega) only [stepS, reduceIte, Nat.reduceBEq, Nat.reduceEqDiff, tupleOf, stepT, g0, g3, e1]
            exact ⟨⟨k + 1, by omega, good (by simp [nameB, h5]), rfl⟩, by omega⟩
          · simp (maxSteps := 1000000) (disch := omega) only [stepS, reduceIte, Nat.reduceBEq, Nat.reduceEqDiff, tupleOf, stepT, g0, g3, e1]
            exact bad (by simp [nameB]; omega)
    · have hall2 : (bl s).all nameB = true := by rw [List.take_of_length_le (by rw [bl_size]; omega)] at hall; exact hall
      unfold nameOk at hq
      rw [hall2, Bool.true_and] at hq
      by_cases h2 : 1 ≤ s.size
      · by_cases h3 : s.size ≤ 12
        · rw [decide_eq_true ⟨h2, h3⟩] at hq
          simp (maxSteps := 1000000) (disch := omega) only [stepS, reduceIte, Nat.reduceBEq, Nat.reduceEqDiff, tupleOf, stepT, g0, g3]
          exact hq
        · rw [decide_eq_false (fun h => h3 h.2)] at hq
          simp (maxSteps := 1000000) (disch := omega) only [stepS, reduceIte, Nat.reduceBEq, Nat.reduceEqDiff, tupleOf, stepT, g0, g3]
          exact hq
      · rw [decide_eq_false (fun h => h2 h.1)] at hq
        simp (maxSteps := 1000000) (disch := omega) only [stepS, reduceIte, Nat.reduceBEq, Nat.reduceEqDiff, tupleOf, stepT, g0, g3]
        exact hq
theorem ref14_Has_spec {A : AH} {k : Int} {Q : Value → AH → Prop} (hq : Q (.tuple #[.bool (hN k), .bool (hT k), .bool (hI k), .bool (hA k), .bool (hK k)]) A) : ACalls 1 Tryd.prog chantryref14_Has [ii k] Q A := by
  refine ACalls.of_fits mixed fits_chantryref14_Has rfl ?_
  unfold ic_chantryref14_Has
  have i0 : initA [ii k] 0 = ii k := rfl
  generalize initA [ii k] = a at i0
  by_cases h1 : k = 1
  · subst h1; simp (maxSteps := 1000000) (disch := omega) only [stepS, reduceIte, Nat.reduceBEq, Nat.reduceEqDiff, tupleOf, stepT, i0]; exact hq
  by_cases h2 : k = 2
  · subst h2; simp (maxSteps := 1000000) (disch := omega) only [stepS, reduceIte, Nat.reduceBEq, Nat.reduceEqDiff, tupleOf, stepT, i0]; exact hq
  by_cases h3 : k = 3
  · subst h3; simp (maxSteps := 1000000) (disch := omega) only [stepS, reduceIte, Nat.reduceBEq, Nat.reduceEqDiff, tupleOf, stepT, i0]; exact hq
  by_cases h4 : k = 4
  · subst h4; simp (maxSteps := 1000000) (disch := omega) only [stepS, reduceIte, Nat.reduceBEq, Nat.reduceEqDiff, tupleOf, stepT, i0]; exact hq
  by_cases h5 : k = 5
  · subst h5; simp (maxSteps := 1000000) (disch := omega) only [stepS, reduceIte, Nat.reduceBEq, Nat.reduceEqDiff, tupleOf, stepT, i0]; exact hq
  by_cases h6 : k = 6
  · subst h6; simp (maxSteps := 1000000) (disch := omega) only [stepS, reduceIte, Nat.reduceBEq, Nat.reduceEqDiff, tupleOf, stepT, i0]; exact hq
  by_cases h7 : k = 7
  · subst h7; simp (maxSteps := 1000000) (disch := omega) only [stepS, reduceIte, Nat.reduceBEq, Nat.reduceEqDiff, tupleOf, stepT, i0]; exact hq
  have e : hN k = false ∧ hT k = false ∧ hI k = false ∧ hA k = false ∧ hK k = false := by
    unfold hN hT hI hA hK
    simp only [decide_eq_false_iff_not]
    omega
  rw [e.1, e.2.1, e.2.2.1, e.2.2.2.1, e.2.2.2.2] at hq
  simp (maxSteps := 1000000) (disch := omega) only [stepS, reduceIte, Nat.reduceBEq, Nat.reduceEqDiff, tupleOf, stepT, i0]
  exact hq
def ck1 (o : OpV) : Bool := hK o.k
def ck2 (o : OpV) : Bool := ck1 o && (!hN o.k || nameOk o.name)
def ck3 (o : OpV) : Bool := ck2 o && (hN o.k || decide (o.name = e0))
def ck4 (o : OpV) : Bool := ck3 o && decide (o.text.size ≤ 48)
def ck5 (o : OpV) : Bool := ck4 o && (hT o.k || decide (o.text = e0))
def ck6 (o : OpV) : Bool := ck5 o && (hI o.k || decide (o.n = 0))
def ck7 (o : OpV) : Bool := ck6 o && (hA o.k || decide (o.place = e0))
theorem ck_ok {o : OpV} : opOk o = true ↔ ck7 o = true ∧ (-2147483647 ≤ o.n ∧ o.n ≤ 2147483647) ∧ (o.place = e0 ∨ o.place.size = 32) ∧ ¬ (o.k = 5 ∧ o.text = e0) ∧ ¬ (o.k = 6 ∧ o.place = e0) := by
  rw [opOk_iff]
  unfold ck7 ck6 ck5 ck4 ck3 ck2 ck1
  simp only [Bool.and_eq_true, Bool.or_eq_true, decide_eq_true_eq, Bool.not_eq_true']
  cases hN o.k <;> simp <;> constructor <;> (intro h; simp only [h, not_false_eq_true, and_self, and_true, true_and, imp_self]) <;> grind
theorem ref14_Check_spec {A : AH} {o : OpV} {Q : Value → AH → Prop} (hs : o.Fin) (hq : Q (.bool (opOk o)) A) : ACalls 1 Tryd.prog chantryref14_Check [o.v] Q A := by
  refine ACalls.pure1 _ rfl hq fun Q hq => ?_
  obtain ⟨hs1, hs2, hs3, hs4, hs5⟩ := hs
  refine ACalls.of_fits mixed fits_chantryref14_Check rfl ?_
  unfold ic_chantryref14_Check
  have i0 : initA [o.v] 0 = o.v := rfl
  generalize initA [o.v] = a at i0
  rw [OpV.v_eq] at i0
  have hA : ∀ {B : AH}, B = A ++ [.row [ii o.k, .string o.name, .string o.text, ii o.n, .string o.place] .own 0 true] → rowAt B A.length = some ([ii o.k, .string o.name, .string o.text, ii o.n, .string o.place], .own, 0, true) := fun h => by subst h; simp (maxSteps := 1000000) (disch := omega) only [stepS, reduceIte, Nat.reduceBEq, Nat.reduceEqDiff, tupleOf, stepT, stepX, heapR, lensR, Nat.reduceAdd, Nat.reduceLeDiff]
  refine W_mid (fun a B => B = A ++ [.row [ii o.k, .string o.name, .string o.text, ii o.n, .string o.place] .own 0 true] ∧ a 1 = ptr A.length) ?_ ?_
  · simp (maxSteps := 1000000) (disch := omega) only [stepS, reduceIte, Nat.reduceBEq, Nat.reduceEqDiff, tupleOf, stepT, stepX, heapR, lensR, Nat.reduceAdd, Nat.reduceLeDiff, i0]
  rintro a B ⟨hB, g1⟩
  have r1 := hA hB
  have hl : Le A B := by rw [hB]; exact .push _ _
  clear hA i0 hB
  refine W_mid (fun a B' => B' = B ∧ a 1 = ptr A.length ∧ a 3 = .bool (hN o.k) ∧ a 4 = .bool (hT o.k) ∧ a 5 = .bool (hI o.k) ∧ a 6 = .bool (hA o.k) ∧ a 7 = .bool (hK o.k)) ?_ ?_
  · simp (maxSteps := 1000000) (disch := omega) only [stepS, reduceIte, Nat.reduceBEq, Nat.reduceEqDiff, tupleOf, stepT, stepX, heapR, lensR, Nat.reduceAdd, Nat.reduceLeDiff, g1, r1]
    refine ref14_Has_spec ?_
    simp (maxSteps := 1000000) (disch := omega) only [stepS, reduceIte, Nat.reduceBEq, Nat.reduceEqDiff, tupleOf, stepT, stepX, heapR, lensR, Nat.reduceAdd, Nat.reduceLeDiff, g1, sExt, List.getElem?_toArray]
  rintro a B ⟨rfl, g1, g3, g4, g5, g6, g7⟩
  have fin : ∀ b, opOk o = b → Q (.bool b) B := fun b h => by rw [← h]; exact hq _ hl
  clear hq
  rw [W_seq, W_seq, W_ops]
  refine Wops_cut 3 (fun a B' => B' = B ∧ a 1 = ptr A.length ∧ a 3 = .bool (hN o.k) ∧ a 4 = .bool (hT o.k) ∧ a 5 = .bool (hI o.k) ∧ a 6 = .bool (hA o.k) ∧ a 19 = .bool (!ck1 o)) rfl ?_ ?_
  · simp (maxSteps := 1000000) (disch := omega) only [stepS, reduceIte, Nat.reduceBEq, Nat.reduceEqDiff, tupleOf, stepT, stepX, heapR, lensR, Nat.reduceAdd, Nat.reduceLeDiff, g1, g3, g4, g5, g6, g7]
    rfl
  rintro a B' ⟨rfl, g1, g3, g4, g5, g6, g7⟩
  simp only [List.drop_succ_cons, List.drop_zero]
  refine Wops_cut 9 (fun a B => B = B' ∧ a 1 = ptr A.length ∧ a 3 = .bool (hN o.k) ∧ a 4 = .bool (hT o.k) ∧ a 5 = .bool (hI o.k) ∧ a 6 = .bool (hA o.k) ∧ a 28 = .bool (!ck2 o)) rfl ?_ ?_
  · cases hc : ck1 o with
    | false =>
      rw [hc] at g7
      change _ = Value.bool true at g7
      simp (maxSteps := 1000000) (disch := omega) only [stepS, reduceIte, Nat.reduceBEq, Nat.reduceEqDiff, tupleOf, stepT, stepX, heapR, lensR, Nat.reduceAdd, Nat.reduceLeDiff, g1, g3, g4, g5, g6, g7]
      simp [ck2, hc]
    | true =>
      rw [hc] at g7
      change _ = Value.bool false at g7
      skip
      · cases hn : hN o.k with
        | true =>
          rw [hn] at g3
          simp (maxSteps := 1000000) (disch := omega) only [stepS, reduceIte, Nat.reduceBEq, Nat.reduceEqDiff, tupleOf, stepT, stepX, heapR, lensR, Nat.reduceAdd, Nat.reduceLeDiff, g1, g3, g4, g5, g6, g7, r1]
          refine ref14_Name_spec (by omega) ?_
          simp (maxSteps := 1000000) (disch := omega) only [stepS, reduceIte, Nat.reduceBEq, Nat.reduceEqDiff, tupleOf, stepT, stepX, heapR, lensR, Nat.reduceAdd, Nat.reduceLeDiff, g1, g3, g4, g5, g6, g7]
          simp [ck2, hc, hn]
        | false =>
          rw [hn] at g3
          simp (maxSteps := 1000000) (disch := omega) only [stepS, reduceIte, Nat.reduceBEq, Nat.reduceEqDiff, tupleOf, stepT, stepX, heapR, lensR, Nat.reduceAdd, Nat.reduceLeDiff, g1, g3, g4, g5, g6, g7]
          simp [ck2, hc, hn]
  rintro a B' ⟨rfl, g1, g3, g4, g5, g6, g7⟩
  simp only [List.drop_succ_cons, List.drop_zero]
  refine Wops_cut 9 (fun a B => B = B' ∧ a 1 = ptr A.length ∧ a 3 = .bool (hN o.k) ∧ a 4 = .bool (hT o.k) ∧ a 5 = .bool (hI o.k) ∧ a 6 = .bool (hA o.k) ∧ a 37 = .bool (!ck3 o)) rfl ?_ ?_
  · cases hc : ck2 o with
    | false =>
      rw [hc] at g7
      change _ = Value.bool true at g7
      simp (maxSteps := 1000000) (disch := omega) only [stepS, reduceIte, Nat.reduceBEq, Nat.reduceEqDiff, tupleOf, stepT, stepX, heapR, lensR, Nat.reduceAdd, Nat.reduceLeDiff, g1, g3, g4, g5, g6, g7]
      simp [ck3, hc]
    | true =>
      rw [hc] at g7
      change _ = Value.bool false at g7
      skip
      · cases hn : hN o.k with
        | true =>
          rw [hn] at g3
          simp (maxSteps := 1000000) (disch := omega) only [stepS, reduceIte, Nat.reduceBEq, Nat.reduceEqDiff, tupleOf, stepT, stepX, heapR, lensR, Nat.reduceAdd, Nat.reduceLeDiff, g1, g3, g4, g5, g6, g7, r1]
          simp [ck3, hc, hn]
        | false =>
          rw [hn] at g3
          simp (maxSteps := 1000000) (disch := omega) only [stepS, reduceIte, Nat.reduceBEq, Nat.reduceEqDiff, tupleOf, stepT, stepX, heapR, lensR, Nat.reduceAdd, Nat.reduceLeDiff, g1, g3, g4, g5, g6, g7, r1]
          simp [ck3, hc, hn]
  rintro a B' ⟨rfl, g1, g3, g4, g5, g6, g7⟩
  simp only [List.drop_succ_cons, List.drop_zero]
  refine Wops_cut 6 (fun a B => B = B' ∧ a 1 = ptr A.length ∧ a 3 = .bool (hN o.k) ∧ a 4 = .bool (hT o.k) ∧ a 5 = .bool (hI o.k) ∧ a 6 = .bool (hA o.k) ∧ a 43 = .bool (!ck4 o)) rfl ?_ ?_
  · cases hc : ck3 o with
    | false =>
      rw [hc] at g7
      change _ = Value.bool true at g7
      simp (maxSteps := 1000000) (disch := omega) only [stepS, reduceIte, Nat.reduceBEq, Nat.reduceEqDiff, tupleOf, stepT, stepX, heapR, lensR, Nat.reduceAdd, Nat.reduceLeDiff, g1, g3, g4, g5, g6, g7]
      simp [ck4, hc]
    | true =>
      rw [hc] at g7
      change _ = Value.bool false at g7
      skip
      · by_cases hn : o.text.size ≤ 48
        · simp (maxSteps := 1000000) (disch := omega) only [stepS, reduceIte, Nat.reduceBEq, Nat.reduceEqDiff, tupleOf, stepT, stepX, heapR, lensR, Nat.reduceAdd, Nat.reduceLeDiff, g1, g3, g4, g5, g6, g7, r1]
          simp [ck4, hc, hn]
        · simp (maxSteps := 1000000) (disch := omega) only [stepS, reduceIte, Nat.reduceBEq, Nat.reduceEqDiff, tupleOf, stepT, stepX, heapR, lensR, Nat.reduceAdd, Nat.reduceLeDiff, g1, g3, g4, g5, g6, g7, r1]
          simp [ck4, hc, hn]
  rintro a B' ⟨rfl, g1, g3, g4, g5, g6, g7⟩
  simp only [List.drop_succ_cons, List.drop_zero]
  refine Wops_cut 9 (fun a B => B = B' ∧ a 1 = ptr A.length ∧ a 3 = .bool (hN o.k) ∧ a 4 = .bool (hT o.k) ∧ a 5 = .bool (hI o.k) ∧ a 6 = .bool (hA o.k) ∧ a 52 = .bool (!ck5 o)) rfl ?_ ?_
  · cases hc : ck4 o with
    | false =>
      rw [hc] at g7
      change _ = Value.bool true at g7
      simp (maxSteps := 1000000) (disch := omega) only [stepS, reduceIte, Nat.reduceBEq, Nat.reduceEqDiff, tupleOf, stepT, stepX, heapR, lensR, Nat.reduceAdd, Nat.reduceLeDiff, g1, g3, g4, g5, g6, g7]
      simp [ck5, hc]
    | true =>
      rw [hc] at g7
      change _ = Value.bool false at g7
      skip
      · cases hn : hT o.k with
        | true =>
          rw [hn] at g4
          simp (maxSteps := 1000000) (disch := omega) only [stepS, reduceIte, Nat.reduceBEq, Nat.reduceEqDiff, tupleOf, stepT, stepX, heapR, lensR, Nat.reduceAdd, Nat.reduceLeDiff, g1, g3, g4, g5, g6, g7, r1]
          simp [ck5, hc, hn]
        | false =>
          rw [hn] at g4
          simp (maxSteps := 1000000) (disch := omega) only [stepS, reduceIte, Nat.reduceBEq, Nat.reduceEqDiff, tupleOf, stepT, stepX, heapR, lensR, Nat.reduceAdd, Nat.reduceLeDiff, g1, g3, g4, g5, g6, g7, r1]
          simp [ck5, hc, hn]
  rintro a B' ⟨rfl, g1, g3, g4, g5, g6, g7⟩
  simp only [List.drop_succ_cons, List.drop_zero]
  refine Wops_cut 9 (fun a B => B = B' ∧ a 1 = ptr A.length ∧ a 3 = .bool (hN o.k) ∧ a 4 = .bool (hT o.k) ∧ a 5 = .bool (hI o.k) ∧ a 6 = .bool (hA o.k) ∧ a 61 = .bool (!ck6 o)) rfl ?_ ?_
  · cases hc : ck5 o with
    | false =>
      rw [hc] at g7
      change _ = Value.bool true at g7
      simp (maxSteps := 1000000) (disch := omega) only [stepS, reduceIte, Nat.reduceBEq, Nat.reduceEqDiff, tupleOf, stepT, stepX, heapR, lensR, Nat.reduceAdd, Nat.reduceLeDiff, g1, g3, g4, g5, g6, g7]
      simp [ck6, hc]
    | true =>
      rw [hc] at g7
      change _ = Value.bool false at g7
      skip
      · cases hn : hI o.k with
        | true =>
          rw [hn] at g5
          simp (maxSteps := 1000000) (disch := omega) only [stepS, reduceIte, Nat.reduceBEq, Nat.reduceEqDiff, tupleOf, stepT, stepX, heapR, lensR, Nat.reduceAdd, Nat.reduceLeDiff, g1, g3, g4, g5, g6, g7, r1]
          simp [ck6, hc, hn]
        | false =>
          rw [hn] at g5
          simp (maxSteps := 1000000) (disch := omega) only [stepS, reduceIte, Nat.reduceBEq, Nat.reduceEqDiff, tupleOf, stepT, stepX, heapR, lensR, Nat.reduceAdd, Nat.reduceLeDiff, g1, g3, g4, g5, g6, g7, r1]
          simp [ck6, hc, hn]
  rintro a B ⟨rfl, g1, g3, g4, g5, g6, g7⟩
  simp only [List.drop_succ_cons, List.drop_zero]
  cases hc : ck6 o with
  | false =>
    rw [hc] at g7
    change _ = Value.bool true at g7
    simp (maxSteps := 1000000) (disch := omega) only [stepS, reduceIte, Nat.reduceBEq, Nat.reduceEqDiff, tupleOf, stepT, stepX, heapR, lensR, Nat.reduceAdd, Nat.reduceLeDiff, g1, g3, g4, g5, g6, g7]
    refine fin _ ?_
    rw [← Bool.not_eq_true, ck_ok]
    intro h
    have := h.1
    unfold ck7 at this
    rw [hc] at this
    cases this
  | true =>
    rw [hc] at g7
    change _ = Value.bool false at g7
    have bad : ck7 o = false → Q (.bool false) B := fun h => fin _ (by rw [← Bool.not_eq_true, ck_ok, h]; intro k; cases k.1)
    have good : ck7 o = true → (opOk o = true ↔ (-2147483647 ≤ o.n ∧ o.n ≤ 2147483647) ∧ (o.place = e0 ∨ o.place.size = 32) ∧ ¬ (o.k = 5 ∧ o.text = e0) ∧ ¬ (o.k = 6 ∧ o.place = e0)) := fun h => by rw [ck_ok, h]; simp
    by_cases hn : ck7 o = true
    · have hopt := good hn
      have hh : hA o.k = true ∨ (hA o.k = false ∧ decide (o.place ≠ e0) = false) := by
        unfold ck7 at hn
        rw [hc] at hn
        cases hq : hA o.k with
        | true => exact .inl rfl
        | false => rw [hq] at hn; exact .inr ⟨rfl, by simpa using hn⟩
      rcases hh with hh | ⟨hh, hz⟩
      · rw [hh] at g6
        have hz : True := trivial
        have hp' : o.place = e0 ∨ (True ∧ ¬ o.place = e0) := by by_cases h : o.place = e0; exact .inl h; exact .inr ⟨trivial, h⟩
        by_cases w1 : o.n < -2147483647
        · simp (maxSteps := 1000000) (disch := omega) only [stepS, reduceIte, Nat.reduceBEq, Nat.reduceEqDiff, tupleOf, stepT, stepX, heapR, lensR, Nat.reduceAdd, Nat.reduceLeDiff, g1, g6, g7, r1, hz]
          exact fin _ (by rw [← Bool.not_eq_true, hopt]; intro h; omega)
        · by_cases w2 : o.n > 2147483647
          · simp (maxSteps := 1000000) (disch := omega) only [stepS, reduceIte, Nat.reduceBEq, Nat.reduceEqDiff, tupleOf, stepT, stepX, heapR, lensR, Nat.reduceAdd, Nat.reduceLeDiff, g1, g6, g7, r1, hz]
            exact fin _ (by rw [← Bool.not_eq_true, hopt]; intro h; omega)
          · rcases hp' with p | ⟨hh2, p⟩
            · by_cases k5 : o.k = 5
              · by_cases t0 : o.text = e0
                · simp (maxSteps := 1000000) (disch := omega) only [stepS, reduceIte, Nat.reduceBEq, Nat.reduceEqDiff, tupleOf, stepT, stepX, heapR, lensR, Nat.reduceAdd, Nat.reduceLeDiff, g1, g6, g7, r1, hz, decide_eq_false (fun h => h p : ¬ o.place ≠ e0), decide_eq_true p, decide_eq_true t0]
                  exact fin _ (by rw [← Bool.not_eq_true, hopt]; intro h; exact h.2.2.1 ⟨k5, t0⟩)
                · simp (maxSteps := 1000000) (disch := omega) only [stepS, reduceIte, Nat.reduceBEq, Nat.reduceEqDiff, tupleOf, stepT, stepX, heapR, lensR, Nat.reduceAdd, Nat.reduceLeDiff, g1, g6, g7, r1, hz, decide_eq_false (fun h => h p : ¬ o.place ≠ e0), decide_eq_true p, decide_eq_false t0]
                  exact fin _ (hopt.2 ⟨by omega, .inl p, fun h => t0 h.2, fun h => by omega⟩)
              · by_cases k6 : o.k = 6
                · simp (maxSteps := 1000000) (disch := omega) only [stepS, reduceIte, Nat.reduceBEq, Nat.reduceEqDiff, tupleOf, stepT, stepX, heapR, lensR, Nat.reduceAdd, Nat.reduceLeDiff, g1, g6, g7, r1, hz, decide_eq_false (fun h => h p : ¬ o.place ≠ e0), decide_eq_true p]
                  exact fin _ (by rw [← Bool.not_eq_true, hopt]; intro h; exact h.2.2.2 ⟨k6, p⟩)
                · simp (maxSteps := 1000000) (disch := omega) only [stepS, reduceIte, Nat.reduceBEq, Nat.reduceEqDiff, tupleOf, stepT, stepX, heapR, lensR, Nat.reduceAdd, Nat.reduceLeDiff, g1, g6, g7, r1, hz, decide_eq_false (fun h => h p : ¬ o.place ≠ e0), decide_eq_true p]
                  exact fin _ (hopt.2 ⟨by omega, .inl p, fun h => k5 h.1, fun h => k6 h.1⟩)
            · by_cases s32 : o.place.size = 32
              · by_cases k5 : o.k = 5
                · by_cases t0 : o.text = e0
                  · simp (maxSteps := 1000000) (disch := omega) only [stepS, reduceIte, Nat.reduceBEq, Nat.reduceEqDiff, tupleOf, stepT, stepX, heapR, lensR, Nat.reduceAdd, Nat.reduceLeDiff, g1, g6, g7, r1, hz, decide_eq_true (show o.place ≠ e0 from p), decide_eq_false p, decide_eq_true t0]
                    exact fin _ (by rw [← Bool.not_eq_true, hopt]; intro h; exact h.2.2.1 ⟨k5, t0⟩)
                  · simp (maxSteps := 1000000) (disch := omega) only [stepS, reduceIte, Nat.reduceBEq, Nat.reduceEqDiff, tupleOf, stepT, stepX, heapR, lensR, Nat.reduceAdd, Nat.reduceLeDiff, g1, g6, g7, r1, hz, decide_eq_true (show o.place ≠ e0 from p), decide_eq_false p, decide_eq_false t0]
                    first | exact hh2.elim | exact fin _ (hopt.2 ⟨by omega, .inr s32, fun h => t0 h.2, fun h => by omega⟩)
                · by_cases k6 : o.k = 6
                  · simp (maxSteps := 1000000) (disch := omega) only [stepS, reduceIte, Nat.reduceBEq, Nat.reduceEqDiff, tupleOf, stepT, stepX, heapR, lensR, Nat.reduceAdd, Nat.reduceLeDiff, g1, g6, g7, r1, hz, decide_eq_true (show o.place ≠ e0 from p), decide_eq_false p]
                    first | exact hh2.elim | exact fin _ (hopt.2 ⟨by omega, .inr s32, fun h => k5 h.1, fun h => p h.2⟩)
                  · simp (maxSteps := 1000000) (disch := omega) only [stepS, reduceIte, Nat.reduceBEq, Nat.reduceEqDiff, tupleOf, stepT, stepX, heapR, lensR, Nat.reduceAdd, Nat.reduceLeDiff, g1, g6, g7, r1, hz, decide_eq_true (show o.place ≠ e0 from p), decide_eq_false p]
                    first | exact hh2.elim | exact fin _ (hopt.2 ⟨by omega, .inr s32, fun h => k5 h.1, fun h => k6 h.1⟩)
              · simp (maxSteps := 1000000) (disch := omega) only [stepS, reduceIte, Nat.reduceBEq, Nat.reduceEqDiff, tupleOf, stepT, stepX, heapR, lensR, Nat.reduceAdd, Nat.reduceLeDiff, g1, g6, g7, r1, hz, decide_eq_true (show o.place ≠ e0 from p), decide_eq_false p]
                exact fin _ (by rw [← Bool.not_eq_true, hopt]; intro h; exact h.2.1.elim p s32)
      · rw [hh] at g6
        have hp' : o.place = e0 ∨ (False ∧ ¬ o.place = e0) := .inl (by simpa using hz)
        by_cases w1 : o.n < -2147483647
        · simp (maxSteps := 1000000) (disch := omega) only [stepS, reduceIte, Nat.reduceBEq, Nat.reduceEqDiff, tupleOf, stepT, stepX, heapR, lensR, Nat.reduceAdd, Nat.reduceLeDiff, g1, g6, g7, r1, hz]
          exact fin _ (by rw [← Bool.not_eq_true, hopt]; intro h; omega)
        · by_cases w2 : o.n > 2147483647
          · simp (maxSteps := 1000000) (disch := omega) only [stepS, reduceIte, Nat.reduceBEq, Nat.reduceEqDiff, tupleOf, stepT, stepX, heapR, lensR, Nat.reduceAdd, Nat.reduceLeDiff, g1, g6, g7, r1, hz]
            exact fin _ (by rw [← Bool.not_eq_true, hopt]; intro h; omega)
          · rcases hp' with p | ⟨hh2, p⟩
            · by_cases k5 : o.k = 5
              · by_cases t0 : o.text = e0
                · simp (maxSteps := 1000000) (disch := omega) only [stepS, reduceIte, Nat.reduceBEq, Nat.reduceEqDiff, tupleOf, stepT, stepX, heapR, lensR, Nat.reduceAdd, Nat.reduceLeDiff, g1, g6, g7, r1, hz, decide_eq_false (fun h => h p : ¬ o.place ≠ e0), decide_eq_true p, decide_eq_true t0]
                  exact fin _ (by rw [← Bool.not_eq_true, hopt]; intro h; exact h.2.2.1 ⟨k5, t0⟩)
                · simp (maxSteps := 1000000) (disch := omega) only [stepS, reduceIte, Nat.reduceBEq, Nat.reduceEqDiff, tupleOf, stepT, stepX, heapR, lensR, Nat.reduceAdd, Nat.reduceLeDiff, g1, g6, g7, r1, hz, decide_eq_false (fun h => h p : ¬ o.place ≠ e0), decide_eq_true p, decide_eq_false t0]
                  exact fin _ (hopt.2 ⟨by omega, .inl p, fun h => t0 h.2, fun h => by omega⟩)
              · by_cases k6 : o.k = 6
                · simp (maxSteps := 1000000) (disch := omega) only [stepS, reduceIte, Nat.reduceBEq, Nat.reduceEqDiff, tupleOf, stepT, stepX, heapR, lensR, Nat.reduceAdd, Nat.reduceLeDiff, g1, g6, g7, r1, hz, decide_eq_false (fun h => h p : ¬ o.place ≠ e0), decide_eq_true p]
                  exact fin _ (by rw [← Bool.not_eq_true, hopt]; intro h; exact h.2.2.2 ⟨k6, p⟩)
                · simp (maxSteps := 1000000) (disch := omega) only [stepS, reduceIte, Nat.reduceBEq, Nat.reduceEqDiff, tupleOf, stepT, stepX, heapR, lensR, Nat.reduceAdd, Nat.reduceLeDiff, g1, g6, g7, r1, hz, decide_eq_false (fun h => h p : ¬ o.place ≠ e0), decide_eq_true p]
                  exact fin _ (hopt.2 ⟨by omega, .inl p, fun h => k5 h.1, fun h => k6 h.1⟩)
            · by_cases s32 : o.place.size = 32
              · by_cases k5 : o.k = 5
                · by_cases t0 : o.text = e0
                  · simp (maxSteps := 1000000) (disch := omega) only [stepS, reduceIte, Nat.reduceBEq, Nat.reduceEqDiff, tupleOf, stepT, stepX, heapR, lensR, Nat.reduceAdd, Nat.reduceLeDiff, g1, g6, g7, r1, hz, decide_eq_true (show o.place ≠ e0 from p), decide_eq_false p, decide_eq_true t0]
                    exact fin _ (by rw [← Bool.not_eq_true, hopt]; intro h; exact h.2.2.1 ⟨k5, t0⟩)
                  · simp (maxSteps := 1000000) (disch := omega) only [stepS, reduceIte, Nat.reduceBEq, Nat.reduceEqDiff, tupleOf, stepT, stepX, heapR, lensR, Nat.reduceAdd, Nat.reduceLeDiff, g1, g6, g7, r1, hz, decide_eq_true (show o.place ≠ e0 from p), decide_eq_false p, decide_eq_false t0]
                    first | exact hh2.elim | exact fin _ (hopt.2 ⟨by omega, .inr s32, fun h => t0 h.2, fun h => by omega⟩)
                · by_cases k6 : o.k = 6
                  · simp (maxSteps := 1000000) (disch := omega) only [stepS, reduceIte, Nat.reduceBEq, Nat.reduceEqDiff, tupleOf, stepT, stepX, heapR, lensR, Nat.reduceAdd, Nat.reduceLeDiff, g1, g6, g7, r1, hz, decide_eq_true (show o.place ≠ e0 from p), decide_eq_false p]
                    first | exact hh2.elim | exact fin _ (hopt.2 ⟨by omega, .inr s32, fun h => k5 h.1, fun h => p h.2⟩)
                  · simp (maxSteps := 1000000) (disch := omega) only [stepS, reduceIte, Nat.reduceBEq, Nat.reduceEqDiff, tupleOf, stepT, stepX, heapR, lensR, Nat.reduceAdd, Nat.reduceLeDiff, g1, g6, g7, r1, hz, decide_eq_true (show o.place ≠ e0 from p), decide_eq_false p]
                    first | exact hh2.elim | exact fin _ (hopt.2 ⟨by omega, .inr s32, fun h => k5 h.1, fun h => k6 h.1⟩)
              · simp (maxSteps := 1000000) (disch := omega) only [stepS, reduceIte, Nat.reduceBEq, Nat.reduceEqDiff, tupleOf, stepT, stepX, heapR, lensR, Nat.reduceAdd, Nat.reduceLeDiff, g1, g6, g7, r1, hz, decide_eq_true (show o.place ≠ e0 from p), decide_eq_false p]
                exact fin _ (by rw [← Bool.not_eq_true, hopt]; intro h; exact h.2.1.elim p s32)
    · have hn : ck7 o = false := by simpa using hn
      have hz : hA o.k = false ∧ decide (o.place ≠ e0) = true := by
        unfold ck7 at hn
        rw [hc] at hn
        cases hq : hA o.k with
        | true => rw [hq] at hn; cases hn
        | false => rw [hq] at hn; exact ⟨rfl, by simpa using hn⟩
      rw [hz.1] at g6
      simp (maxSteps := 1000000) (disch := omega) only [stepS, reduceIte, Nat.reduceBEq, Nat.reduceEqDiff, tupleOf, stepT, stepX, heapR, lensR, Nat.reduceAdd, Nat.reduceLeDiff, g1, g3, g4, g5, g6, g7, r1, hz]
      exact bad hn
end Go.AS.C


namespace Go.AS.C
open Go Go.Proofs
set_option linter.unusedVariables false
set_option linter.unusedSimpArgs false
set_option maxRecDepth 10000

end Go.AS.C


namespace Go.AS.C
open Go Go.Proofs
set_option linter.unusedVariables false
set_option linter.unusedSimpArgs false
set_option maxRecDepth 10000

theorem ref01_Texts_spec {A : AH} {v w : Value} {l m : List ByteArray} {Q : Value → AH → Prop} (hv : SlT A v l) (hw : SlT A w m) (hl : l.length < 2 ^ 50) (hm : m.length < 2 ^ 50) (hq : ∀ b : Bool, (b = true ↔ l = m) → Q (.bool b) A) : ACalls 1 Tryd.prog chantryref01_Texts [v, w] Q A := by
  refine ACalls.of_fits mixed fits_chantryref01_Texts rfl ?_
  unfold ic_chantryref01_Texts
  have i0 : initA [v, w] 0 = v := rfl
  have i1 : initA [v, w] 1 = w := rfl
  generalize initA [v, w] = a at i0 i1
  have hvl := hv.len
  have hwl := hw.len
  by_cases hn : l.length = m.length
  · simp (maxSteps := 1000000) (disch := omega) only [stepS, reduceIte, Nat.reduceBEq, Nat.reduceEqDiff, tupleOf, stepT, i0, i1, hvl, hwl]
    refine W_loop (fun a' B => B = A ∧ ∃ k : Nat, k ≤ l.length ∧ l.take k = m.take k ∧ a' 0 = v ∧ a' 1 = w ∧ a' 5 = ii k) (fun a' _ => l.length - (iv (a' 5)).toNat) ?_ ?_
    · refine ⟨rfl, 0, by omega, rfl, ?_⟩
      simp (maxSteps := 1000000) (disch := omega) only [stepS, reduceIte, Nat.reduceBEq, Nat.reduceEqDiff, tupleOf, stepT, i0, i1]
      (all_goals (and_intros <;> first | rfl | assumption | (push_cast; rfl) | (congr 1; omega) | omega | (simp; done)))
    · rintro a2 B ⟨rfl, k, hk, hn2, g0, g1, g5⟩
      rcases Nat.lt_or_ge k l.length with hlt | hge
      · obtain ⟨s, hs⟩ := get_some hlt
        obtain ⟨t, ht⟩ := get_some (l := m) (k := k) (by omega)
        obtain ⟨p, p1, p2⟩ := hv.at hs
        have p3 := p2 B (.refl _)
        obtain ⟨q, q1, q2⟩ := hw.at ht
        have q3 := q2 B (.refl _)
        by_cases hst : s = t
        · have hd : decide (s ≠ t) = false := decide_eq_false (fun h => h hst)
          simp (maxSteps := 1000000) (disch := omega) only [stepS, reduceIte, Nat.reduceBEq, Nat.reduceEqDiff, tupleOf, stepT, g0, g1, g5, hvl, hwl, p1, p3, q1, q3, hd]
          refine ⟨⟨k + 1, by omega, ?_, rfl⟩, by omega⟩
          rw [List.take_add_one, List.take_add_one, hs, ht, hn2, hst]
        · have hd : decide (s ≠ t) = true := decide_eq_true hst
          simp (maxSteps := 1000000) (disch := omega) only [stepS, reduceIte, Nat.reduceBEq, Nat.reduceEqDiff, tupleOf, stepT, g0, g1, g5, hvl, hwl, p1, p3, q1, q3, hd]
          exact hq false ⟨(fun h => by cases h), fun h => by subst h; rw [hs] at ht; injection ht with ht; exact absurd ht hst⟩
      · rw [List.take_of_length_le hge, List.take_of_length_le (by omega)] at hn2
        simp (maxSteps := 1000000) (disch := omega) only [stepS, reduceIte, Nat.reduceBEq, Nat.reduceEqDiff, tupleOf, stepT, g0, g1, g5, hvl]
        exact hq true ⟨fun _ => hn2, fun _ => rfl⟩
  · simp (maxSteps := 1000000) (disch := omega) only [stepS, reduceIte, Nat.reduceBEq, Nat.reduceEqDiff, tupleOf, stepT, i0, i1, hvl, hwl]
    exact hq false ⟨(fun h => by cases h), fun h => absurd (by rw [h]) hn⟩
end Go.AS.C


namespace Go.AS.C
open Go Go.Proofs
set_option linter.unusedVariables false
set_option linter.unusedSimpArgs false
set_option maxRecDepth 10000

/-! update.Check, Same; the reference's. -/
theorem slT_one {A : AH} {p : Value} {l : List ByteArray} (h : SlT A p l) : one1 p := by
  rcases h with ⟨_, ⟨rfl, _⟩ | ⟨rfl, _⟩ | ⟨i, o, c, rc, st, ex, rfl, _⟩⟩ <;> exact one1_sl _ _ _
theorem updE_int (u : UpdV) : (updE u : Int) = if u.author < 0 ∨ 256 ≤ u.author then 1 else if 8 < u.preds.length then 4 else if riseB u.preds = false then 1 else checkO u.op := by
  unfold updE checkO
  split
  · rfl
  · split
    · rfl
    · split
      · rfl
      · split <;> rfl
theorem update_Check_spec {A : AH} {x : Value} {u : UpdV} {Q : Value → AH → Prop} (hx : UpdA A x u) (hf : u.Fin) (hq : Q (ii (updE u)) A) : ACalls 1 Tryd.prog update_Check [x] Q A := by
  refine ACalls.pure1 _ rfl hq fun Q hq => ?_
  obtain ⟨p, rfl, hp⟩ := hx
  obtain ⟨f1, f2, f3, f4⟩ := hf
  refine ACalls.of_fits mixed fits_update_Check rfl ?_
  unfold ic_update_Check
  have i0 : initA [.agg #[ii u.author, p, ii u.op.k, .string u.op.name, .string u.op.text, ii u.op.n, .string u.op.place]] 0 = .agg #[ii u.author, p, ii u.op.k, .string u.op.name, .string u.op.text, ii u.op.n, .string u.op.place] := rfl
  generalize initA [.agg #[ii u.author, p, ii u.op.k, .string u.op.name, .string u.op.text, ii u.op.n, .string u.op.place]] = a at i0
  have hp2 := (slT_one hp).2
  have hpl := fun B hl => (hp.le hl : SlT B p u.preds).len
  have k1 : Le A (A ++ [.row [ii u.author, p, ii u.op.k, .string u.op.name, .string u.op.text, ii u.op.n, .string u.op.place] .own 0 true]) := .push _ _
  have hpl := (hp.le k1).len
  rw [updE_int] at hq
  by_cases h1 : u.author < 0
  · rw [if_pos (.inl h1)] at hq
    simp (maxSteps := 1000000) (disch := omega) only [stepS, reduceIte, Nat.reduceBEq, Nat.reduceEqDiff, tupleOf, stepT, stepX, heapR, lensR, Nat.reduceAdd, Nat.reduceLeDiff, i0, hp2]
    exact hq _ k1
  · by_cases h2 : u.author ≥ 256
    · rw [if_pos (.inr h2)] at hq
      simp (maxSteps := 1000000) (disch := omega) only [stepS, reduceIte, Nat.reduceBEq, Nat.reduceEqDiff, tupleOf, stepT, stepX, heapR, lensR, Nat.reduceAdd, Nat.reduceLeDiff, i0, hp2]
      exact hq _ k1
    · rw [if_neg (by omega)] at hq
      by_cases h3 : 8 < u.preds.length
      · rw [if_pos h3] at hq
        simp (maxSteps := 1000000) (disch := omega) only [stepS, reduceIte, Nat.reduceBEq, Nat.reduceEqDiff, tupleOf, stepT, stepX, heapR, lensR, Nat.reduceAdd, Nat.reduceLeDiff, i0, hp2, hpl]
        exact hq _ k1
      · rw [if_neg h3] at hq
        simp (maxSteps := 1000000) (disch := omega) only [stepS, reduceIte, Nat.reduceBEq, Nat.reduceEqDiff, tupleOf, stepT, stepX, heapR, lensR, Nat.reduceAdd, Nat.reduceLeDiff, i0, hp2, hpl]
        refine ids_Rising_spec (hp.le k1) f2 fun b hb => ?_
        have hr : riseB u.preds = b := by rw [Bool.eq_iff_iff, riseB_iff, hb]
        rw [hr] at hq
        cases b with
        | false =>
          simp (maxSteps := 1000000) (disch := omega) only [stepS, reduceIte, Nat.reduceBEq, Nat.reduceEqDiff, tupleOf, stepT, stepX, heapR, lensR, Nat.reduceAdd, Nat.reduceLeDiff, i0, hp2, hpl]
          exact hq _ k1
        | true =>
          simp only [Bool.true_eq_false, if_false] at hq
          simp (maxSteps := 1000000) (disch := omega) only [stepS, reduceIte, Nat.reduceBEq, Nat.reduceEqDiff, tupleOf, stepT, stepX, heapR, lensR, Nat.reduceAdd, Nat.reduceLeDiff, i0, hp2, hpl]
          refine op_Check_spec f4 ?_
          simp (maxSteps := 1000000) (disch := omega) only [stepS, reduceIte, Nat.reduceBEq, Nat.reduceEqDiff, tupleOf, stepT, stepX, heapR, lensR, Nat.reduceAdd, Nat.reduceLeDiff, i0, hp2, hpl]
          exact hq _ k1
theorem ref15_Check_spec {A : AH} {x : Value} {u : UpdV} {Q : Value → AH → Prop} (hx : UpdA A x u) (hf : u.Fin) (hq : Q (ii (updE u)) A) : ACalls 1 Tryd.prog chantryref15_Check [x] Q A := by
  refine ACalls.pure1 _ rfl hq fun Q hq => ?_
  obtain ⟨p, rfl, hp⟩ := hx
  obtain ⟨f1, f2, f3, f4⟩ := hf
  refine ACalls.of_fits mixed fits_chantryref15_Check rfl ?_
  unfold ic_chantryref15_Check
  have i0 : initA [.agg #[ii u.author, p, ii u.op.k, .string u.op.name, .string u.op.text, ii u.op.n, .string u.op.place]] 0 = .agg #[ii u.author, p, ii u.op.k, .string u.op.name, .string u.op.text, ii u.op.n, .string u.op.place] := rfl
  generalize initA [.agg #[ii u.author, p, ii u.op.k, .string u.op.name, .string u.op.text, ii u.op.n, .string u.op.place]] = a at i0
  have hp2 := (slT_one hp).2
  have k1 : Le A (A ++ [.row [ii u.author, p, ii u.op.k, .string u.op.name, .string u.op.text, ii u.op.n, .string u.op.place] .own 0 true]) := .push _ _
  have hpl := (hp.le k1).len
  rw [updE_int] at hq
  by_cases h1 : u.author < 0
  · rw [if_pos (.inl h1)] at hq
    simp (maxSteps := 1000000) (disch := omega) only [stepS, reduceIte, Nat.reduceBEq, Nat.reduceEqDiff, tupleOf, stepT, stepX, heapR, lensR, Nat.reduceAdd, Nat.reduceLeDiff, i0, hp2]
    exact hq _ k1
  · by_cases h2 : u.author > 255
    · rw [if_pos (.inr (by omega))] at hq
      simp (maxSteps := 1000000) (disch := omega) only [stepS, reduceIte, Nat.reduceBEq, Nat.reduceEqDiff, tupleOf, stepT, stepX, heapR, lensR, Nat.reduceAdd, Nat.reduceLeDiff, i0, hp2]
      exact hq _ k1
    · rw [if_neg (by omega)] at hq
      by_cases h3 : 8 < u.preds.length
      · rw [if_pos h3] at hq
        simp (maxSteps := 1000000) (disch := omega) only [stepS, reduceIte, Nat.reduceBEq, Nat.reduceEqDiff, tupleOf, stepT, stepX, heapR, lensR, Nat.reduceAdd, Nat.reduceLeDiff, i0, hp2, hpl]
        exact hq _ k1
      · rw [if_neg h3] at hq
        simp (maxSteps := 1000000) (disch := omega) only [stepS, reduceIte, Nat.reduceBEq, Nat.reduceEqDiff, tupleOf, stepT, stepX, heapR, lensR, Nat.reduceAdd, Nat.reduceLeDiff, i0, hp2, hpl]
        refine ref04_Rising_spec (hp.le k1) f2 fun b hb => ?_
        have hr : riseB u.preds = b := by rw [Bool.eq_iff_iff, riseB_iff, hb]
        rw [hr] at hq
        cases b with
        | false =>
          simp (maxSteps := 1000000) (disch := omega) only [stepS, reduceIte, Nat.reduceBEq, Nat.reduceEqDiff, tupleOf, stepT, stepX, heapR, lensR, Nat.reduceAdd, Nat.reduceLeDiff, i0, hp2, hpl]
          exact hq _ k1
        | true =>
          simp only [Bool.true_eq_false, if_false] at hq
          simp (maxSteps := 1000000) (disch := omega) only [stepS, reduceIte, Nat.reduceBEq, Nat.reduceEqDiff, tupleOf, stepT, stepX, heapR, lensR, Nat.reduceAdd, Nat.reduceLeDiff, i0, hp2, hpl]
          refine ref14_Check_spec f4 ?_
          unfold checkO at hq
          cases ho : opOk u.op with
          | true =>
            rw [ho] at hq
            simp (maxSteps := 1000000) (disch := omega) only [stepS, reduceIte, Nat.reduceBEq, Nat.reduceEqDiff, tupleOf, stepT, stepX, heapR, lensR, Nat.reduceAdd, Nat.reduceLeDiff, i0, hp2, hpl]
            exact hq _ k1
          | false =>
            rw [ho] at hq
            simp (maxSteps := 1000000) (disch := omega) only [stepS, reduceIte, Nat.reduceBEq, Nat.reduceEqDiff, tupleOf, stepT, stepX, heapR, lensR, Nat.reduceAdd, Nat.reduceLeDiff, i0, hp2, hpl]
            exact hq _ k1
theorem ref15_Same_spec {A : AH} {x y : Value} {u w : UpdV} {Q : Value → AH → Prop} (hx : UpdA A x u) (hy : UpdA A y w) (hf : u.Fin) (hg : w.Fin) (hq : ∀ b : Bool, (b = true ↔ u = w) → Q (.bool b) A) : ACalls 1 Tryd.prog chantryref15_Same [x, y] Q A := by
  refine ACalls.pureU (S := fun v => ∃ b : Bool, v = .bool b ∧ (b = true ↔ u = w)) (fun v ⟨b, h1, h2⟩ => by subst h1; exact hq b h2) ?_
  obtain ⟨p, rfl, hp⟩ := hx
  obtain ⟨q, rfl, hw⟩ := hy
  obtain ⟨f1, f2, f3, f4⟩ := hf
  obtain ⟨e1, e2, e3, e4⟩ := hg
  obtain ⟨author, preds, op⟩ := u
  obtain ⟨author2, preds2, op2⟩ := w
  simp only at *
  refine ACalls.of_fits mixed fits_chantryref15_Same rfl ?_
  unfold ic_chantryref15_Same
  generalize hv0 : Value.agg #[ii author, p, ii op.k, .string op.name, .string op.text, ii op.n, .string op.place] = v0
  generalize hv1 : Value.agg #[ii author2, q, ii op2.k, .string op2.name, .string op2.text, ii op2.n, .string op2.place] = v1
  have i0 : initA [v0, v1] 0 = v0 := rfl
  have i1 : initA [v0, v1] 1 = v1 := rfl
  generalize initA [v0, v1] = a at i0 i1
  subst hv0 hv1
  have hp2 := (slT_one hp).2
  have hw2 := (slT_one hw).2
  have k1 : Le A (A ++ [.row [ii author, p, ii op.k, .string op.name, .string op.text, ii op.n, .string op.place] .own 0 true]) := .push _ _
  have k2 : Le A (A ++ [.row [ii author, p, ii op.k, .string op.name, .string op.text, ii op.n, .string op.place] .own 0 true] ++ [.row [ii author2, q, ii op2.k, .string op2.name, .string op2.text, ii op2.n, .string op2.place] .own 0 true]) := k1.trans (.push _ _)
  have eo : ∀ A, sEqagg A false (Tryd.prog.keyLits 8 opT) (.agg #[ii op.k, .string op.name, .string op.text, ii op.n, .string op.place]) (.agg #[ii op2.k, .string op2.name, .string op2.text, ii op2.n, .string op2.place]) = some (.bool (decide (op = op2)), A) := fun A => by
    have := eqop A false f4 e4
    rw [Bool.bne_false] at this
    exact this
  by_cases h1 : author = author2
  · simp (maxSteps := 1000000) (disch := omega) only [stepS, reduceIte, Nat.reduceBEq, Nat.reduceEqDiff, tupleOf, stepT, stepX, heapR, lensR, Nat.reduceAdd, Nat.reduceLeDiff, i0, i1, hp2, hw2]
    refine ref01_Texts_spec (hp.le k2) (hw.le k2) f2 e2 fun b hb => ?_
    cases b with
    | false =>
      simp (maxSteps := 1000000) (disch := omega) only [stepS, reduceIte, Nat.reduceBEq, Nat.reduceEqDiff, tupleOf, stepT, stepX, heapR, lensR, Nat.reduceAdd, Nat.reduceLeDiff, i0, i1, hp2, hw2]
      refine ⟨k2, rfl, false, rfl, ?_⟩
      rw [UpdV.mk.injEq]
      exact ⟨(fun h => by cases h), fun h => hb.2 h.2.1⟩
    | true =>
      simp (maxSteps := 1000000) (disch := omega) only [stepS, reduceIte, Nat.reduceBEq, Nat.reduceEqDiff, tupleOf, stepT, stepX, heapR, lensR, Nat.reduceAdd, Nat.reduceLeDiff, i0, i1, hp2, hw2, eo]
      refine ⟨k2, rfl, decide (op = op2), rfl, ?_⟩
      rw [UpdV.mk.injEq, decide_eq_true_eq]
      exact ⟨fun h => ⟨h1, hb.1 rfl, h⟩, fun h => h.2.2⟩
  · simp (maxSteps := 1000000) (disch := omega) only [stepS, reduceIte, Nat.reduceBEq, Nat.reduceEqDiff, tupleOf, stepT, stepX, heapR, lensR, Nat.reduceAdd, Nat.reduceLeDiff, i0, i1, hp2, hw2, eo]
    refine ⟨k2, rfl, false, rfl, ?_⟩
    rw [UpdV.mk.injEq]
    exact ⟨(fun h => by cases h), fun h => absurd h.1 h1⟩
end Go.AS.C


namespace Go.AS.C
open Go Go.Proofs
set_option linter.unusedVariables false
set_option linter.unusedSimpArgs false
set_option maxRecDepth 10000

theorem num_Put_spec {A : AH} {n : Int} {Q : Value → AH → Prop} (hok : ∀ t A', 0 ≤ n → n ≤ 2147483647 → Le A A' → OwnB A.length A' t (putN n.toNat) → Q (.tuple #[t, ii 0]) A')
    (hbad : ¬ (0 ≤ n ∧ n ≤ 2147483647) → Q (.tuple #[.slice none 0 0, ii 1]) A) : ACalls 1 Tryd.prog num_Put [ii n] Q A := by
  refine ACalls.of_fits mixed fits_num_Put rfl ?_
  unfold ic_num_Put
  have i0 : initA [ii n] 0 = ii n := rfl
  generalize initA [ii n] = a at i0
  simp (maxSteps := 1000000) (disch := omega) only [stepS, reduceIte, Nat.reduceBEq, Nat.reduceEqDiff, tupleOf, stepT, i0]
  refine num_is_spec ?_
  by_cases h : 0 ≤ n ∧ n ≤ 2147483647
  · obtain ⟨m, rfl⟩ : ∃ m : Nat, n = m := ⟨n.toNat, by omega⟩
    simp (maxSteps := 1000000) (disch := omega) only [stepS, reduceIte, Nat.reduceBEq, Nat.reduceEqDiff, tupleOf, stepT, i0]
    refine W_loop (fun a' B => ∃ (k : Nat) (z : List UInt8), Le A B ∧ k ≤ m ∧ z.length ≤ 5 ∧ a' 0 = ii k ∧ OwnB A.length B (a' 4) z ∧ z ++ putN k = putN m) (fun a' _ => (iv (a' 0)).toNat) ?_ ?_
    · refine ⟨m, [], .refl _, Nat.le_refl _, by simp, ?_⟩
      simp (maxSteps := 1000000) (disch := omega) only [stepS, reduceIte, Nat.reduceBEq, Nat.reduceEqDiff, tupleOf, stepT, i0]
      exact OwnB.nil _ _
    · rintro a2 B ⟨k, z, hle, hk, hz5, g0, g4, hz⟩
      by_cases hge : 128 ≤ k
      · have l1 := litB B [UInt8.ofNat k ||| 128] (len := 1) (ps := [(0, 1, by8 (UInt8.ofNat k ||| 128))]) rfl rfl
        have k1 : Le B (B ++ [.row (List.map by8 [UInt8.ofNat k ||| 128]) .own 1 true]) := .push _ _
        obtain ⟨v2, A2, p1, p2, p3, _⟩ := app_bytes (hle.trans k1) (OwnS.le g4 k1) (byt_last B [UInt8.ofNat k ||| 128]) (by simp; omega)
        rw [List.length_singleton] at p1
        simp only [List.map_cons, List.map_nil, List.length_singleton] at l1 p1
        simp (maxSteps := 1000000) (disch := omega) only [stepS, reduceIte, Nat.reduceBEq, Nat.reduceEqDiff, tupleOf, stepT, g0, conv_u8_ii, b8_128, binA_or8, l1, p1]
        have hlen := congrArg List.length hz
        rw [List.length_append] at hlen
        have h5 := putN_len5 (n := m) (by omega)
        have h1 := putN_pos k
        refine ⟨⟨k / 128, z ++ [UInt8.ofNat k ||| 128], p2, by omega, by simp; omega, by simp, p3, ?_⟩, by first | omega | (simp; omega)⟩
        rw [← hz, putN_big hge, or128]
        simp
      · have l1 := litB B [UInt8.ofNat k] (len := 1) (ps := [(0, 1, by8 (UInt8.ofNat k))]) rfl rfl
        have k1 : Le B (B ++ [.row (List.map by8 [UInt8.ofNat k]) .own 1 true]) := .push _ _
        obtain ⟨v2, A2, p1, p2, p3, _⟩ := app_bytes (hle.trans k1) (OwnS.le g4 k1) (byt_last B [UInt8.ofNat k]) (by simp; omega)
        rw [List.length_singleton] at p1
        simp only [List.map_cons, List.map_nil, List.length_singleton] at l1 p1
        simp (maxSteps := 1000000) (disch := omega) only [stepS, reduceIte, Nat.reduceBEq, Nat.reduceEqDiff, tupleOf, stepT, g0, conv_u8_ii, l1, p1]
        refine hok _ _ (by omega) (by omega) p2 ?_
        rw [putN_small (by omega)] at hz
        rw [hz] at p3
        exact p3
  · simp (maxSteps := 1000000) (disch := omega) only [stepS, reduceIte, Nat.reduceBEq, Nat.reduceEqDiff, tupleOf, stepT, i0]
    exact hbad h

end Go.AS.C


namespace Go.AS.C
open Go Go.Proofs
set_option linter.unusedVariables false
set_option linter.unusedSimpArgs false
set_option maxRecDepth 10000

theorem slices_Grow_nil {A : AH} {n : Nat} {Q : Value → AH → Prop} (hn : n ≤ 2 ^ 40) (hq : ∀ v A', Le A A' → OwnB A.length A' v [] → Q v A') : ACalls 1 Tryd.prog slices_Grow_byte_byte [.slice none 0 0, ii n] Q A := by
  refine ACalls.of_fits mixed fits_slices_Grow_byte_byte rfl ?_
  unfold ic_slices_Grow_byte_byte
  have i0 : initA [.slice none 0 0, ii n] 0 = .slice none 0 0 := rfl
  have i1 : initA [.slice none 0 0, ii n] 1 = ii n := rfl
  generalize initA [.slice none 0 0, ii n] = a at i0 i1
  have c1 : ((n : Int) < 0) = False := by simp
  have c2 : sCapn A (.slice none 0 0) = some (ii 0, A) := rfl
  have c3 : binA .sub (ii 0) (ii ((0 : Nat) : Int)) = some (ii 0) := by rw [binA_subi _ _ (by omega) (by omega)]; rfl
  have c4 : binA .sub (ii n) (ii 0) = some (ii n) := by rw [binA_subi _ _ (by omega) (by omega)]; simp
  by_cases h0 : n = 0
  · subst h0
    have c5 : (((0 : Nat) : Int) > 0) = False := by simp
    simp only [stepS, reduceIte, Nat.reduceBEq, Nat.reduceEqDiff, tupleOf, i0, i1, binA_lss, c1, c2, lens_sl, c3, c4, binA_gtr, c5]
    exact hq _ _ (.refl _) (OwnB.nil _ _)
  · have c5 : ((n : Int) > 0) = True := by simp; omega
    have c6 : sSll A (.slice none 0 0) none (some (ii 0)) none 1 = some (.slice none 0 0, A) := rfl
    obtain ⟨v', A', e1, e2, e3, _⟩ := app_own (A0 := A) (A := A) (v := .slice none 0 0) (new := (List.replicate n [Value.int .u8 0]).flatten) (k := n) (bytes := 1) (.refl _) (OwnS.nil A.length A 1) (by omega) (by omega) (by omega) (by simp) (by
      unfold ones
      rw [List.all_eq_true]
      intro x hx
      rw [List.mem_flatten] at hx
      obtain ⟨l, hl, hx⟩ := hx
      obtain rfl := List.eq_of_mem_replicate hl
      rw [List.mem_singleton] at hx
      subst hx; rfl)
    have c7 : sAppz A (.slice none 0 0) (ii n) [.int .u8 0] 1 = some (v', A') := by
      rw [appz_eq (by omega), Int.toNat_natCast]
      exact e1
    have c8 : ∃ u, sSll A' v' none (some (ii ((0 : Nat) : Int))) none 1 = some (u, A') ∧ OwnB A.length A' u [] := by
      obtain ⟨f0, f⟩ := e3
      rcases f with ⟨rfl, f⟩ | ⟨rfl, f⟩ | ⟨i, o, c, rc, ex, rfl, f1, f2, f3, f4, f5⟩
      · omega
      · omega
      · refine ⟨.slice (some ⟨i, o, none⟩) 0 c, ?_, ⟨by simp, .inr (.inr ⟨i, o, c, rc, ex, rfl, by simp, f2, f3, by simp; omega, fun j hj => by simp at hj⟩)⟩⟩
        unfold sSll boundsA rowSz
        simp only [f3]
        simp [asI]
    obtain ⟨u, c8, c9⟩ := c8
    simp only [stepS, reduceIte, Nat.reduceBEq, Nat.reduceEqDiff, tupleOf, i0, i1, binA_lss, c1, c2, lens_sl, c3, c4, binA_gtr, c5, c6, c7, c8]
    exact hq _ _ e2 c9

theorem slices_Concat_spec {A : AH} {v : Value} {vs : List Value} {bss : List (List UInt8)} {Q : Value → AH → Prop} (hv : Sl A 1 v vs.length vs) (hn : vs.length = bss.length)
    (hb : ∀ (j : Nat) x bs, vs[j]? = some x → bss[j]? = some bs → Byt A x bs) (hl : bss.flatten.length ≤ 2 ^ 40) (hc : bss.length ≤ 2 ^ 40) (hq : ∀ v A', Le A A' → OwnB A.length A' v bss.flatten → Q v A') :
    ACalls 1 Tryd.prog slices_Concat_byte_byte [v] Q A := by
  refine ACalls.of_fits mixed fits_slices_Concat_byte_byte rfl ?_
  unfold ic_slices_Concat_byte_byte
  have i0 : initA [v] 0 = v := rfl
  generalize initA [v] = a at i0
  simp only [stepS, reduceIte, Nat.reduceBEq, Nat.reduceEqDiff, tupleOf, i0, hv.len]
  refine W_loop (fun a' A' => A' = A ∧ ∃ k : Nat, k ≤ bss.length ∧ a' 0 = v ∧ a' 9 = v ∧ a' 10 = ii vs.length ∧ a' 11 = ii k ∧ a' 3 = ii (((bss.take k).flatten.length : Nat) : Int)) (fun a' _ => (bss.length - (iv (a' 11)).toNat)) ?_ ?_
  · refine ⟨rfl, 0, by omega, ?_⟩
    simp only [stepS, reduceIte, Nat.reduceBEq, Nat.reduceEqDiff, tupleOf, i0]
    simp
  · rintro a A' ⟨rfl, k, hk, g0, g9, g10, g11, g3⟩
    rcases Nat.lt_or_ge k bss.length with hlt | hge
    · have hc1 : ((k : Int) < (vs.length : Int)) = True := by simp; omega
      obtain ⟨x, hx⟩ : ∃ b, vs[k]? = some b := ⟨_, List.getElem?_eq_getElem (by omega)⟩
      obtain ⟨bs, hbs⟩ : ∃ b, bss[k]? = some b := ⟨_, List.getElem?_eq_getElem hlt⟩
      obtain ⟨p, hp1, hp2⟩ := hv.at1 hx
      have hle := flat_take_le bss (k + 1)
      have hsu := flat_take_succ bss hbs
      rw [hsu, List.length_append] at hle
      have hadd : binA .add (ii (((bss.take k).flatten.length : Nat) : Int)) (ii (bs.length : Nat)) = some (ii (((bss.take (k + 1)).flatten.length : Nat) : Int)) := by
        rw [binA_addi _ _ (by omega) (by omega), hsu, List.length_append]
        simp
      have hc2 : ((((bss.take (k + 1)).flatten.length : Nat) : Int) < 0) = False := by simp
      simp only [stepS, reduceIte, Nat.reduceBEq, Nat.reduceEqDiff, tupleOf, g0, g9, g10, g11, g3, binA_lss, hc1, hp1, hp2, (hb k x bs hx hbs).len, hadd, hc2, binA_add1 k (by omega)]
      exact ⟨⟨k + 1, by omega, rfl, rfl⟩, by omega⟩
    · have hc1 : ((k : Int) < (vs.length : Int)) = False := by simp; omega
      have hk : k = bss.length := by omega
      subst hk
      simp only [stepS, reduceIte, Nat.reduceBEq, Nat.reduceEqDiff, tupleOf, g0, g9, g10, g11, g3, binA_lss, hc1]
      rw [List.take_length]
      refine slices_Grow_nil hl fun u A1 hle1 hown => ?_
      simp only [stepS, reduceIte, Nat.reduceBEq, Nat.reduceEqDiff, tupleOf, g0, (hv.le hle1).len]
      refine W_loop (fun a' B => ∃ k : Nat, k ≤ bss.length ∧ Le A' B ∧ a' 25 = v ∧ a' 26 = ii vs.length ∧ a' 27 = ii k ∧ OwnB A'.length B (a' 6) (bss.take k).flatten) (fun a' _ => (bss.length - (iv (a' 27)).toNat)) ?_ ?_
      · refine ⟨0, by omega, hle1, ?_⟩
        simp only [stepS, reduceIte, Nat.reduceBEq, Nat.reduceEqDiff, tupleOf]
        simpa using hown
      · rintro a2 B ⟨k, hk, hle2, f25, f26, f27, f6⟩
        rcases Nat.lt_or_ge k bss.length with hlt | hge
        · have hc1 : ((k : Int) < (vs.length : Int)) = True := by simp; omega
          obtain ⟨x, hx⟩ : ∃ b, vs[k]? = some b := ⟨_, List.getElem?_eq_getElem (by omega)⟩
          obtain ⟨bs, hbs⟩ : ∃ b, bss[k]? = some b := ⟨_, List.getElem?_eq_getElem hlt⟩
          obtain ⟨p, hp1, hp2⟩ := (hv.le hle2).at1 hx
          have hle := flat_take_le bss (k + 1)
          have hsu := flat_take_succ bss hbs
          rw [hsu, List.length_append] at hle
          obtain ⟨v', B', q1, q2, q3, _⟩ := app_bytes hle2 f6 ((hb k x bs hx hbs).le hle2) (by omega)
          rw [← hsu] at q3
          simp only [stepS, reduceIte, Nat.reduceBEq, Nat.reduceEqDiff, tupleOf, f25, f26, f27, binA_lss, hc1, hp1, hp2, q1, binA_add1 k (by omega)]
          exact ⟨⟨k + 1, by omega, q2, rfl, q3⟩, by omega⟩
        · have hc1 : ((k : Int) < (vs.length : Int)) = False := by simp; omega
          have hk : k = bss.length := by omega
          subst hk
          simp only [stepS, reduceIte, Nat.reduceBEq, Nat.reduceEqDiff, tupleOf, f25, f26, f27, binA_lss, hc1]
          rw [List.take_length] at f6
          exact hq _ _ hle2 f6

end Go.AS.C


namespace Go.AS.C
open Go Go.Proofs
set_option linter.unusedVariables false
set_option linter.unusedSimpArgs false
set_option maxRecDepth 10000

theorem num_Text_spec {A : AH} {v : Value} {bs : List UInt8} {Q : Value → AH → Prop} (hv : Byt A v bs) (hok : ∀ t A', bs.length ≤ 262144 → Le A A' → OwnB A.length A' t (textN bs) → Q (.tuple #[t, ii 0]) A')
    (hbad : 262144 < bs.length → Q (.tuple #[.slice none 0 0, ii 3]) A) : ACalls 1 Tryd.prog num_Text [v] Q A := by
  refine ACalls.of_fits mixed fits_num_Text rfl ?_
  unfold ic_num_Text
  have i0 : initA [v] 0 = v := rfl
  generalize initA [v] = a at i0
  by_cases h : bs.length ≤ 262144
  · simp (maxSteps := 1000000) (disch := omega) only [stepS, reduceIte, Nat.reduceBEq, Nat.reduceEqDiff, tupleOf, stepT, i0, hv.len]
    refine num_Put_spec (fun t A1 _ _ h1 o1 => ?_) (fun h => absurd h (by omega))
    rw [Int.toNat_natCast] at o1
    have l1 := lit1 (A := A1) (z := .slice none 0 0) (len := 2) (ps := [(0, 1, t), (1, 1, v)]) [t, v] rfl rfl (by
      intro x hx
      simp only [List.mem_cons, List.not_mem_nil, or_false] at hx
      rcases hx with rfl | rfl
      · obtain ⟨p, c, hs, _⟩ := o1.byt.shape
        rw [hs]; exact one1_sl _ _ _
      · obtain ⟨p, c, hs, _⟩ := hv.shape
        rw [hs]; exact one1_sl _ _ _)
    have k1 : Le A1 (A1 ++ [.row [t, v] .own 1 true]) := .push _ _
    simp (maxSteps := 1000000) (disch := omega) only [stepS, reduceIte, Nat.reduceBEq, Nat.reduceEqDiff, tupleOf, stepT, i0, hv.len, l1]
    refine slices_Concat_spec (vs := [t, v]) (bss := [putN bs.length, bs]) (sl_last A1 (cs := [t, v]) (by simp) (by simp)) rfl ?_ ?_ (by simp) (fun u A2 h2 o2 => ?_)
    · intro j x b hx hb
      cases j with
      | zero =>
        simp only [List.getElem?_cons_zero, Option.some.injEq] at hx hb
        subst hx hb
        exact o1.byt.le k1
      | succ j =>
        cases j with
        | zero =>
          simp only [List.getElem?_cons_succ, List.getElem?_cons_zero, Option.some.injEq] at hx hb
          subst hx hb
          exact hv.le (h1.trans k1)
        | succ j => simp at hx
    · have := putN_len5 (n := bs.length) (by omega)
      simp; omega
    · simp (maxSteps := 1000000) (disch := omega) only [stepS, reduceIte, Nat.reduceBEq, Nat.reduceEqDiff, tupleOf, stepT]
      refine hok _ _ h ((h1.trans k1).trans h2) ?_
      have e : [putN bs.length, bs].flatten = textN bs := by simp [textN]
      rw [e] at o2
      exact OwnS.mono o2 (h1.trans k1).len
  · simp (maxSteps := 1000000) (disch := omega) only [stepS, reduceIte, Nat.reduceBEq, Nat.reduceEqDiff, tupleOf, stepT, i0, hv.len]
    exact hbad (by omega)

end Go.AS.C


namespace Go.AS.C
open Go Go.Proofs
set_option linter.unusedVariables false
set_option linter.unusedSimpArgs false
set_option maxRecDepth 10000

/-- num.Fix, of a number that fits. -/
theorem num_Fix_ok {A : AH} {n w : Nat} {Q : Value → AH → Prop} (h1 : 1 ≤ w) (h4 : w ≤ 4) (hn : n ≤ 2147483647) (hw : n / 2 ^ (8 * w) = 0)
    (hq : Q (.tuple #[.slice (some ⟨A.length, 0, none⟩) w w, ii 0]) (A ++ [.row ((leB n w).map by8) .own 1 true])) : ACalls 1 Tryd.prog num_Fix [ii n, ii w] Q A := by
  refine ACalls.of_fits mixed fits_num_Fix rfl ?_
  unfold ic_num_Fix
  have i0 : initA [ii n, ii w] 0 = ii n := rfl
  have i1 : initA [ii n, ii w] 1 = ii w := rfl
  generalize initA [ii n, ii w] = a at i0 i1
  have c1 : ((w : Int) < 1) = False := by simp; omega
  have c2 : ((w : Int) > 4) = False := by simp; omega
  simp only [stepS, reduceIte, Nat.reduceBEq, Nat.reduceEqDiff, tupleOf, i0, i1, binA_lss, binA_gtr, c1, c2]
  refine num_is_spec ?_
  have c3 : ((0 : Int) ≤ n ∧ (n : Int) ≤ 2147483647) = True := by simp; omega
  have c4 : binA .mul (ii 8) (ii w) = some (ii ((8 * w : Nat) : Int)) := mul_ii 8 w (by omega)
  have c5 := shr_ii n .i64 (8 * w) (by omega)
  have c6 : (((0 : Nat) : Int) > 0) = False := by simp
  simp only [stepS, reduceIte, Nat.reduceBEq, Nat.reduceEqDiff, tupleOf, i1, i0, c3, c4, c5, hw, binA_gtr, c6]
  simp only [stepS, reduceIte, Nat.reduceBEq, Nat.reduceEqDiff, tupleOf, i1, i0, mk_bytes A w (by omega), lens_sl]
  refine W_loop (fun a' A' => ∃ k : Nat, k ≤ w ∧ a' 0 = ii n ∧ a' 6 = .slice (some ⟨A.length, 0, none⟩) w w ∧ a' 29 = ii w ∧ a' 30 = ii k ∧
      A' = A ++ [.row (((leB n w).take k ++ List.replicate (w - k) (0 : UInt8)).map by8) .own 1 true]) (fun a' _ => w - (iv (a' 30)).toNat) ?_ ?_
  · refine ⟨0, by omega, ?_⟩
    simp only [stepS, reduceIte, Nat.reduceBEq, Nat.reduceEqDiff, tupleOf, i0]
    simp
  · rintro a A' ⟨k, hk, g0, g6, g29, g30, rfl⟩
    rcases Nat.lt_or_ge k w with hlt | hge
    · have hc : ((k : Int) < (w : Int)) = True := by simp; omega
      have d1 : binA .mul (ii 8) (ii k) = some (ii ((8 * k : Nat) : Int)) := mul_ii 8 k (by omega)
      have d2 := shr_ii n .i64 (8 * k) (by omega)
      have d3 := iaddr1 (A := A ++ [.row (((leB n w).take k ++ List.replicate (w - k) (0 : UInt8)).map by8) .own 1 true]) (i := A.length) (o := 0) (c := w) hlt
      have d4 := store_by8 (o := 0 + k) (x := UInt8.ofNat (n / 2 ^ (8 * k))) (get_last A (.row (((leB n w).take k ++ List.replicate (w - k) (0 : UInt8)).map by8) .own 1 true)) (by simp [leB_length]; omega)
      simp only [stepS, reduceIte, Nat.reduceBEq, Nat.reduceEqDiff, tupleOf, g0, g6, g29, g30, binA_lss, hc, d1, d2, conv_u8_ii, d3, d4, set_last, binA_add1 k (by omega)]
      refine ⟨⟨k + 1, by omega, rfl, ?_⟩, by omega⟩
      rw [Nat.zero_add, fill_step (leB n w) 0 _ (leB_length n w) hlt]
      simp [leB, hlt]
    · have hc : ((k : Int) < (w : Int)) = False := by simp; omega
      have hkw : k = w := by omega
      subst hkw
      simp only [stepS, reduceIte, Nat.reduceBEq, Nat.reduceEqDiff, tupleOf, g0, g6, g29, g30, binA_lss, hc]
      have e : (leB n k).take k ++ List.replicate (k - k) (0 : UInt8) = leB n k := by
        rw [Nat.sub_self, List.replicate_zero, List.append_nil, List.take_of_length_le (by rw [leB_length]; exact Nat.le_refl _)]
      rw [e]
      simpa using hq

theorem num_Fix_own {A : AH} {n w : Nat} {Q : Value → AH → Prop} (h1 : 1 ≤ w) (h4 : w ≤ 4) (hn : n ≤ 2147483647) (hw : n / 2 ^ (8 * w) = 0)
    (hq : ∀ v A', Le A A' → OwnB A.length A' v (leB n w) → Q (.tuple #[v, ii 0]) A') : ACalls 1 Tryd.prog num_Fix [ii n, ii w] Q A :=
  num_Fix_ok h1 h4 hn hw (hq _ _ (.push _ _) (own_row (get_last _ _) (leB_length n w).symm (Nat.le_refl _) (Nat.le_refl _)))

end Go.AS.C


namespace Go.AS.C
open Go Go.Proofs
set_option linter.unusedVariables false
set_option linter.unusedSimpArgs false
set_option maxRecDepth 10000

theorem num_Fix_spec {A : AH} {n w : Int} {Q : Value → AH → Prop} (hok : ∀ z t A', fixF n w = some z → Le A A' → OwnB A.length A' t z → Q (.tuple #[t, ii 0]) A') (hbad : fixF n w = none → Q (.tuple #[.slice none 0 0, ii 1]) A) :
    ACalls 1 Tryd.prog num_Fix [ii n, ii w] Q A := by
  by_cases h : (1 ≤ w ∧ w ≤ 4) ∧ (0 ≤ n ∧ n ≤ 2147483647) ∧ n.toNat / 256 ^ w.toNat = 0
  · obtain ⟨⟨h1, h4⟩, ⟨h0, hm⟩, hz⟩ := h
    have e : fixF n w = some (leB n.toNat w.toNat) := by unfold fixF; rw [if_pos ⟨⟨h1, h4⟩, ⟨h0, hm⟩, hz⟩]
    obtain ⟨m, rfl⟩ : ∃ m : Nat, n = m := ⟨n.toNat, by omega⟩
    obtain ⟨k, rfl⟩ : ∃ k : Nat, w = k := ⟨w.toNat, by omega⟩
    simp only [Int.toNat_natCast] at hz e
    exact num_Fix_own (by omega) (by omega) (by omega) (by rw [pow256]; exact hz) (fun v A' h1 h2 => hok _ _ _ e h1 h2)
  · have e : fixF n w = none := by unfold fixF; rw [if_neg h]
    refine ACalls.of_fits mixed fits_num_Fix rfl ?_
    unfold ic_num_Fix
    have i0 : initA [ii n, ii w] 0 = ii n := rfl
    have i1 : initA [ii n, ii w] 1 = ii w := rfl
    generalize initA [ii n, ii w] = a at i0 i1
    by_cases h1 : w < 1
    · simp (maxSteps := 1000000) (disch := omega) only [stepS, reduceIte, Nat.reduceBEq, Nat.reduceEqDiff, tupleOf, stepT, i0, i1]
      exact hbad e
    · by_cases h4 : w > 4
      · simp (maxSteps := 1000000) (disch := omega) only [stepS, reduceIte, Nat.reduceBEq, Nat.reduceEqDiff, tupleOf, stepT, i0, i1]
        exact hbad e
      · simp (maxSteps := 1000000) (disch := omega) only [stepS, reduceIte, Nat.reduceBEq, Nat.reduceEqDiff, tupleOf, stepT, i0, i1]
        refine num_is_spec ?_
        by_cases h2 : 0 ≤ n ∧ n ≤ 2147483647
        · obtain ⟨m, rfl⟩ : ∃ m : Nat, n = m := ⟨n.toNat, by omega⟩
          obtain ⟨k, rfl⟩ : ∃ k : Nat, w = k := ⟨w.toNat, by omega⟩
          have hz : m / 2 ^ (8 * k) ≠ 0 := by
            intro hz
            refine h ⟨⟨by omega, by omega⟩, ⟨by omega, by omega⟩, ?_⟩
            rw [pow256] at hz
            simpa using hz
          have c5 : binA .shr (ii m) (.int .i64 (8 * (k : Int))) = some (ii ((m / 2 ^ (8 * k) : Nat) : Int)) := shr_ii m .i64 (8 * k) (by omega)
          have hzz : 0 < m / 2 ^ (8 * k) := Nat.pos_of_ne_zero hz
          generalize m / 2 ^ (8 * k) = q at c5 hzz
          simp (maxSteps := 1000000) (disch := omega) only [stepS, reduceIte, Nat.reduceBEq, Nat.reduceEqDiff, tupleOf, stepT, i0, i1, c5]
          exact hbad e
        · simp (maxSteps := 1000000) (disch := omega) only [stepS, reduceIte, Nat.reduceBEq, Nat.reduceEqDiff, tupleOf, stepT, i0, i1]
          exact hbad e

end Go.AS.C


namespace Go.AS.C
open Go Go.Proofs
set_option linter.unusedVariables false
set_option linter.unusedSimpArgs false
set_option maxRecDepth 10000

/-! op.Put. -/
theorem op_truth_spec {A : AH} {b : Bool} {Q : Value → AH → Prop} (hq : Q (by8 (if b then 1 else 0)) A) : ACalls 1 Tryd.prog op_truth [.bool b] Q A := by
  refine ACalls.of_fits mixed fits_op_truth rfl ?_
  unfold ic_op_truth
  have i0 : initA [.bool b] 0 = .bool b := rfl
  generalize initA [.bool b] = a at i0
  cases b
  · simp (maxSteps := 1000000) (disch := omega) only [stepS, reduceIte, Nat.reduceBEq, Nat.reduceEqDiff, tupleOf, stepT, i0]
    exact hq
  · simp (maxSteps := 1000000) (disch := omega) only [stepS, reduceIte, Nat.reduceBEq, Nat.reduceEqDiff, tupleOf, stepT, i0]
    exact hq
/-- Bytes that are put together behind a pointer. -/
structure OutA (A0 A : AH) (i : Nat) (bs : List UInt8) : Prop where
  le : Le A0 A
  ge : A0.length ≤ i
  cell : ∃ v, A[i]? = some (.row [v] .own 0 true) ∧ OwnB A0.length A v bs
theorem OutA.more {A0 A B : AH} {i : Nat} {bs : List UInt8} (h : OutA A0 A i bs) (hl : Le A B) : OutA A0 B i bs := by
  obtain ⟨h1, h2, v, h3, h4⟩ := h
  exact ⟨h1.trans hl, h2, v, hl.get h3, h4.le hl⟩
/-- Something is appended. -/
theorem OutA.app {A0 A : AH} {i : Nat} {bs xs : List UInt8} {x : Value} (h : OutA A0 A i bs) (hx : Byt A x xs) (hb : bs.length + xs.length ≤ 2 ^ 47) :
    ∃ v u B C, sLoad1 A (ptr i) = some (v, A) ∧ (∀ k ∈ blkOf v, k ≠ i) ∧ sApp A v x 1 1 = some (u, B) ∧ sStore B (ptr i) u 1 = some (undef, C) ∧ OutA A0 C i (bs ++ xs) ∧ (∀ k cs ex, k ≠ i → A[k]? = some (.row cs .own 0 ex) → C[k]? = some (.row cs .own 0 ex)) := by
  obtain ⟨h1, h2, v, h3, h4⟩ := h
  obtain ⟨u, B, p1, p2, p3, p4, p5, p6, p7⟩ := app_put (o := 0) h1 h2 h3 rfl h4 hx hb
  refine ⟨v, u, B, _, row_load h3 (by simp) rfl, Sl.blk h4.sl h3 (by decide), p1, p3, ⟨p4, h2, u, p6, p5⟩, fun k cs ex hk hr => p7 k _ hk hr fun hm => ?_⟩
  exact Sl.blk h4.sl hr (by decide) k hm rfl
theorem OutA.appV {A0 A : AH} {i : Nat} {bs xs : List UInt8} {v x : Value} (h1 : Le A0 A) (h2 : A0.length ≤ i) (h3 : A[i]? = some (.row [v] .own 0 true)) (h4 : OwnB A0.length A v bs) (hx : Byt A x xs) (hb : bs.length + xs.length ≤ 2 ^ 47) :
    ∃ u B C, sApp A v x 1 1 = some (u, B) ∧ sStore B (ptr i) u 1 = some (undef, C) ∧ OutA A0 C i (bs ++ xs) ∧ (∀ k cs ex, k ≠ i → A[k]? = some (.row cs .own 0 ex) → C[k]? = some (.row cs .own 0 ex)) := by
  obtain ⟨u, B, p1, p2, p3, p4, p5, p6, p7⟩ := app_put (o := 0) h1 h2 h3 rfl h4 hx hb
  refine ⟨u, B, _, p1, p3, ⟨p4, h2, u, p6, p5⟩, fun k cs ex hk hr => p7 k _ hk hr fun hm => ?_⟩
  exact Sl.blk h4.sl hr (by decide) k hm rfl
/-- Two things are appended. -/
theorem OutA.app2 {A0 A : AH} {i : Nat} {bs xs ys : List UInt8} {v x y : Value} (h1 : Le A0 A) (h2 : A0.length ≤ i) (h3 : A[i]? = some (.row [v] .own 0 true)) (h4 : OwnB A0.length A v bs) (hx : Byt A x xs) (hy : Byt A y ys) (hd : ∀ k ∈ blkOf y, k ∉ blkOf v) (hb : bs.length + xs.length + ys.length ≤ 2 ^ 47) :
    ∃ u1 B1 u B C, sApp A v x 1 1 = some (u1, B1) ∧ sApp B1 u1 y 1 1 = some (u, B) ∧ sStore B (ptr i) u 1 = some (undef, C) ∧ OutA A0 C i (bs ++ xs ++ ys) ∧ (∀ k cs ex, k ≠ i → A[k]? = some (.row cs .own 0 ex) → C[k]? = some (.row cs .own 0 ex)) := by
  obtain ⟨u1, B1, p1, p2, p3, p4⟩ := app_bytes h1 h4 hx (by omega)
  have keepz : ∀ (k : Nat) (cs : List Value) (ex : Bool), A[k]? = some (Blk.row cs .own 0 ex) → B1[k]? = some (Blk.row cs .own 0 ex) := fun k cs ex hr => p4 k _ hr fun o c e => Sl.blk h4.sl hr (by decide) k (by rw [e]; simp [blkOf]) rfl
  have hy1 : Byt B1 y ys := hy.keepB fun k b hb hk => p4 k b hb fun o c e => hd k hk (by rw [e]; simp [blkOf])
  obtain ⟨u, B, p5, p6, p7, p8⟩ := app_bytes p2 p3 hy1 (by simp only [List.length_append]; omega)
  have keepz2 : ∀ (k : Nat) (cs : List Value) (ex : Bool), A[k]? = some (Blk.row cs .own 0 ex) → B[k]? = some (Blk.row cs .own 0 ex) := fun k cs ex hr => p8 k _ (keepz k cs ex hr) fun o c e => Sl.blk p3.sl (keepz k cs ex hr) (by decide) k (by rw [e]; simp [blkOf]) rfl
  have g := keepz2 i _ _ h3
  have h1u : one1 u := by obtain ⟨p, c, hs, _⟩ := p7.byt.shape; rw [hs]; exact one1_sl _ _ _
  refine ⟨u1, B1, u, B, _, p1, p5, row_store g (by simp) h1u, ⟨p6.set h2, h2, u, set_get g, OwnB.kp p7 (Keep.set _ _ _) g⟩, fun k cs ex hk hr => ?_⟩
  rw [List.getElem?_set_ne (Ne.symm hk)]
  exact keepz2 k cs ex hr
theorem negI (n : Int) (h1 : -9223372036854775808 < n) (h2 : n < 9223372036854775808) : unA .neg (.int .i64 n) = some (.int .i64 (0 - n)) := by
  simp only [unA]
  rw [wrap_i64 _ (by omega) (by omega)]
theorem op_Put_1_fits : Fits Tryd.prog 1 op_Put_1 ic_op_Put_1 [] 2 := fits_op_Put_1.more 2 (by kernel_rfl)
theorem op_Put_1_ok : calleeOk Tryd.prog op_Put_1 = true := by kernel_rfl
theorem op_Put_1_spec {A A0 : AH} {i : Nat} {s : ByteArray} {bs : List UInt8} {Q : Value → AH → Prop} (h : OutA A0 A i bs) (hs : s.size ≤ 1000) (hb : bs.length ≤ 1000)
    (hq : ∀ A', OutA A0 A' i (bs ++ textN (bl s)) → (∀ k cs ex, k ≠ i → A[k]? = some (.row cs .own 0 ex) → A'[k]? = some (.row cs .own 0 ex)) → Q (.tuple #[]) A') : ACalls 1 Tryd.prog op_Put_1 [.string s, ptr i] Q A := by
  refine ACalls.of_fits mixed op_Put_1_fits rfl ?_
  unfold ic_op_Put_1
  have i0 : initA [.string s, ptr i] 0 = .string s := rfl
  have i1 : initA [.string s, ptr i] 1 = ptr i := rfl
  generalize initA [.string s, ptr i] = a at i0 i1
  simp (maxSteps := 1000000) (disch := omega) only [stepS, reduceIte, Nat.reduceBEq, Nat.reduceEqDiff, tupleOf, stepT, i0, i1, s2b_eq]
  have k1 : Le A (A ++ [.row (s.data.toList.map by8) .own 1 false]) := .push _ _
  refine num_Text_spec (byt_s2b s) (fun t A1 h1 k2 o1 => ?_) (fun h => absurd h (by rw [bl_size]; omega))
  have hto : (textN (bl s)).length ≤ 1100 := by
    unfold textN
    have := putN_len5 (n := (bl s).length) (by rw [bl_size]; omega)
    rw [List.length_append, bl_size]
    rw [bl_size] at this
    omega
  obtain ⟨v, u, B, C, q1, _, q2, q3, q4, q5⟩ := (h.more (k1.trans k2)).app (xs := textN (bl s)) o1.byt (by omega)
  simp (maxSteps := 1000000) (disch := omega) only [stepS, reduceIte, Nat.reduceBEq, Nat.reduceEqDiff, tupleOf, stepT, i0, i1, q1, q2, q3]
  exact hq _ q4 fun k cs ex hk hr => q5 k cs ex hk ((k1.trans k2).get hr)
theorem lit_by8 (A : AH) (b : UInt8) : sLit A [.int .u8 0] 1 1 [(0, 1, by8 b)] = some (.slice (some ⟨A.length, 0, none⟩) 1 1, A ++ [.row [by8 b] .own 1 true]) := litB A [b] rfl rfl
theorem byt_by8 (A : AH) (b : UInt8) : Byt (A ++ [.row [by8 b] .own 1 true]) (.slice (some ⟨A.length, 0, none⟩) 1 1) [b] := byt_last A [b]
def pA (o : OpV) : List UInt8 := [UInt8.ofNat o.k.toNat]
def pB (o : OpV) : List UInt8 := pA o ++ (if hN o.k then textN (bl o.name) else [])
def pC (o : OpV) : List UInt8 := pB o ++ (if hT o.k then textN (bl o.text) else [])
def pD (o : OpV) : List UInt8 := pC o ++ (if hI o.k then numO o.n else [])
def pE (o : OpV) : List UInt8 := pD o ++ (if o.k = 5 then [if o.place = e0 then 0 else 1] else [])
theorem putO_pE (o : OpV) : putO o = pE o ++ bl o.place := by
  unfold pE pD pC pB pA putO
  simp
theorem textN_len {s : ByteArray} (h : s.size ≤ 300) : (textN (bl s)).length ≤ 310 := by
  unfold textN
  have := putN_len5 (n := (bl s).length) (by rw [bl_size]; omega)
  rw [List.length_append, bl_size]
  rw [bl_size] at this
  omega
theorem conv_kind {k : Int} (h : hK k = true) (A : AH) : sConv A .u8 (ii k) = some (by8 (UInt8.ofNat k.toNat), A) := by
  have hk : 1 ≤ k ∧ k ≤ 7 := by unfold hK at h; rw [decide_eq_true_eq] at h; exact h
  obtain ⟨m, rfl⟩ : ∃ m : Nat, k = m := ⟨k.toNat, by omega⟩
  exact conv_u8_ii A m
theorem op_Put_spec {A : AH} {o : OpV} {Q : Value → AH → Prop} (hs : o.Fin) (hok : opOk o = true → ∀ A' t, Le A A' → OwnB A.length A' t (putO o) → Q (.tuple #[t, ii 0]) A') (hbad : opOk o = false → ∀ A', Le A A' → Q (.tuple #[.slice none 0 0, ii 1]) A') : ACalls 1 Tryd.prog op_Put [o.v] Q A := by
  refine ACalls.of_fits mixed fits_op_Put rfl ?_
  unfold ic_op_Put
  have i0 : initA [o.v] 0 = o.v := rfl
  generalize initA [o.v] = a at i0
  rw [OpV.v_eq] at i0
  have hA : ∀ {B : AH}, B = A ++ [.row [ii o.k, .string o.name, .string o.text, ii o.n, .string o.place] .own 0 true] → rowAt B A.length = some ([ii o.k, .string o.name, .string o.text, ii o.n, .string o.place], .own, 0, true) := fun h => by subst h; simp (maxSteps := 1000000) (disch := omega) only [stepS, reduceIte, Nat.reduceBEq, Nat.reduceEqDiff, tupleOf, stepT, stepX, heapR, lensR, Nat.reduceAdd, Nat.reduceLeDiff]
  refine W_mid (fun a B => B = A ++ [.row [ii o.k, .string o.name, .string o.text, ii o.n, .string o.place] .own 0 true] ∧ a 1 = ptr A.length) ?_ ?_
  · simp (maxSteps := 1000000) (disch := omega) only [stepS, reduceIte, Nat.reduceBEq, Nat.reduceEqDiff, tupleOf, stepT, stepX, heapR, lensR, Nat.reduceAdd, Nat.reduceLeDiff, i0]
  rintro a B ⟨hB, g1⟩
  have r1 := hA hB
  have hl : Le A B := by rw [hB]; exact .push _ _
  have hlen : B.length = A.length + 1 := by rw [hB]; simp
  clear hA i0 hB
  refine W_midR (fun a B' => opOk o = true ∧ B' = B ∧ a 1 = ptr A.length) ?_ ?_
  · simp (maxSteps := 1000000) (disch := omega) only [stepS, reduceIte, Nat.reduceBEq, Nat.reduceEqDiff, tupleOf, stepT, stepX, heapR, lensR, Nat.reduceAdd, Nat.reduceLeDiff, g1, r1]
    refine op_Check_spec hs ?_
    unfold checkO
    cases hop : opOk o with
    | false =>
      simp (maxSteps := 1000000) (disch := omega) only [stepS, reduceIte, Nat.reduceBEq, Nat.reduceEqDiff, tupleOf, stepT, stepX, heapR, lensR, Nat.reduceAdd, Nat.reduceLeDiff, g1, r1, reduceCtorEq, false_and, false_or, true_and]
      exact hbad hop _ hl
    | true =>
      simp (maxSteps := 1000000) (disch := omega) only [stepS, reduceIte, Nat.reduceBEq, Nat.reduceEqDiff, tupleOf, stepT, stepX, heapR, lensR, Nat.reduceAdd, Nat.reduceLeDiff, g1, r1, reduceCtorEq, false_and, or_false, true_and]
  rintro a B ⟨hop, rfl, g1⟩
  obtain ⟨h1, h2, h3, h4, h5, h6, h7, h8, h9, h10⟩ := opOk_iff.1 hop
  obtain ⟨b1, b2, b4, b8, hp⟩ := and_has h1
  have hck := conv_kind h1
  clear hbad
  refine W_mid (fun a B' => B' = B ∧ a 1 = ptr A.length ∧ a 5 = ii (hasO o.k)) ?_ ?_
  · simp (maxSteps := 1000000) (disch := omega) only [stepS, reduceIte, Nat.reduceBEq, Nat.reduceEqDiff, tupleOf, stepT, stepX, heapR, lensR, Nat.reduceAdd, Nat.reduceLeDiff, g1, r1]
    refine op_has_spec ?_
    simp (maxSteps := 1000000) (disch := omega) only [stepS, reduceIte, Nat.reduceBEq, Nat.reduceEqDiff, tupleOf, stepT, stepX, heapR, lensR, Nat.reduceAdd, Nat.reduceLeDiff, g1]
  rintro a B ⟨rfl, g1, g5⟩
  have hj : A.length < B.length := lt_of_get (rowAt_get r1)
  refine W_mid (fun a B' => OutA A B' (B.length + 1) (pA o) ∧ rowAt B' A.length = some ([ii o.k, .string o.name, .string o.text, ii o.n, .string o.place], .own, 0, true) ∧ a 1 = ptr A.length ∧ a 5 = ii (hasO o.k) ∧ a 6 = ptr (B.length + 1)) ?_ ?_
  · simp (maxSteps := 1000000) (disch := omega) only [stepS, reduceIte, Nat.reduceBEq, Nat.reduceEqDiff, tupleOf, stepT, stepX, heapR, lensR, Nat.reduceAdd, Nat.reduceLeDiff, g1, g5, r1, hck, lit_by8]
    refine ⟨?_, by omega, .slice (some ⟨B.length, 0, none⟩) 1 1, rowAt_get (ex := true) (by simp (maxSteps := 1000000) (disch := omega) only [stepS, reduceIte, Nat.reduceBEq, Nat.reduceEqDiff, tupleOf, stepT, stepX, heapR, lensR, Nat.reduceAdd, Nat.reduceLeDiff]), own_row (bs := pA o) (ex := true) (rowAt_get (by simp (maxSteps := 1000000) (disch := omega) only [stepS, reduceIte, Nat.reduceBEq, Nat.reduceEqDiff, tupleOf, stepT, stepX, heapR, lensR, Nat.reduceAdd, Nat.reduceLeDiff, pA, List.map_cons, List.map_nil])) rfl (by omega) (by omega)⟩
    (repeat first | exact Le.refl _ | assumption | refine Le.app ?_ _ | refine Le.set ?_ ?_ | omega | (simp only [List.length_append, List.length_singleton, List.length_set]; omega))
  rintro a B' ⟨o1, r1, g1, g5, g6⟩
  generalize hi : B.length + 1 = i at *
  have hji : A.length ≠ i := by omega
  clear hl
  refine W_mid (fun a B => B = B' ∧ a 1 = ptr A.length ∧ a 5 = ii (hasO o.k) ∧ a 6 = ptr i ∧ a 7 = .func (.func op_Put_1) #[] #[ptr i]) ?_ ?_
  · simp (maxSteps := 1000000) (disch := omega) only [stepS, reduceIte, Nat.reduceBEq, Nat.reduceEqDiff, tupleOf, stepT, stepX, heapR, lensR, Nat.reduceAdd, Nat.reduceLeDiff, g1, g5, g6]
    all_goals (first | trivial | rfl)
  rintro a B ⟨rfl, g1, g5, g6, g7⟩
  have lenA : (pA o).length = 1 := rfl
  have nm : hN o.k = true → o.name.size ≤ 12 := fun h => by rw [if_pos h] at h2; exact (nameOk_size h2).2
  have keep : ∀ {C D : AH}, rowAt C A.length = some ([ii o.k, .string o.name, .string o.text, ii o.n, .string o.place], .own, 0, true) → (∀ k cs ex, k ≠ i → C[k]? = some (.row cs .own 0 ex) → D[k]? = some (.row cs .own 0 ex)) → rowAt D A.length = some ([ii o.k, .string o.name, .string o.text, ii o.n, .string o.place], .own, 0, true) :=
    fun h1 h2 => rowAt_own (h2 _ _ _ hji (rowAt_get h1))
  refine W_mid (fun a B' => OutA A B' i (pB o) ∧ rowAt B' A.length = some ([ii o.k, .string o.name, .string o.text, ii o.n, .string o.place], .own, 0, true) ∧ a 1 = ptr A.length ∧ a 5 = ii (hasO o.k) ∧ a 6 = ptr i ∧ a 7 = .func (.func op_Put_1) #[] #[ptr i]) ?_ ?_
  · cases hn : hN o.k with
    | true =>
      have e : pB o = pA o ++ textN (bl o.name) := by unfold pB; rw [hn]; rfl
      rw [hn, if_pos rfl] at b1
      have := nm hn
      simp (maxSteps := 1000000) (disch := omega) only [stepS, reduceIte, Nat.reduceBEq, Nat.reduceEqDiff, tupleOf, stepT, stepX, heapR, lensR, Nat.reduceAdd, Nat.reduceLeDiff, g1, g5, g6, g7, b1, r1]
      refine ⟨op_Put_1_ok, op_Put_1_spec o1 (by omega) (by omega) fun C o2 kk => ?_⟩
      simp (maxSteps := 1000000) (disch := omega) only [stepS, reduceIte, Nat.reduceBEq, Nat.reduceEqDiff, tupleOf, stepT, stepX, heapR, lensR, Nat.reduceAdd, Nat.reduceLeDiff, g1, g5, g6, g7]
      rw [e]
      exact ⟨o2, keep r1 kk⟩
    | false =>
      have e : pB o = pA o := by unfold pB; rw [hn]; simp
      rw [hn, if_neg (by simp)] at b1
      simp (maxSteps := 1000000) (disch := omega) only [stepS, reduceIte, Nat.reduceBEq, Nat.reduceEqDiff, tupleOf, stepT, stepX, heapR, lensR, Nat.reduceAdd, Nat.reduceLeDiff, g1, g5, g6, g7, b1, r1]
      rw [e]
      exact o1
  rintro a B' ⟨o2, r2, g1, g5, g6, g7⟩
  have lenB : (pB o).length ≤ 400 := by
    unfold pB
    cases hn : hN o.k with
    | true => have := nm hn; have := textN_len (s := o.name) (by omega); simp; omega
    | false => simp; omega
  clear r1 o1 B
  refine W_mid (fun a B => OutA A B i (pC o) ∧ rowAt B A.length = some ([ii o.k, .string o.name, .string o.text, ii o.n, .string o.place], .own, 0, true) ∧ a 1 = ptr A.length ∧ a 5 = ii (hasO o.k) ∧ a 6 = ptr i) ?_ ?_
  · cases hn : hT o.k with
    | true =>
      have e : pC o = pB o ++ textN (bl o.text) := by unfold pC; rw [hn]; rfl
      rw [hn, if_pos rfl] at b2
      simp (maxSteps := 1000000) (disch := omega) only [stepS, reduceIte, Nat.reduceBEq, Nat.reduceEqDiff, tupleOf, stepT, stepX, heapR, lensR, Nat.reduceAdd, Nat.reduceLeDiff, g1, g5, g6, g7, b2, r2]
      refine ⟨op_Put_1_ok, op_Put_1_spec o2 (by omega) (by omega) fun C o3 kk => ?_⟩
      simp (maxSteps := 1000000) (disch := omega) only [stepS, reduceIte, Nat.reduceBEq, Nat.reduceEqDiff, tupleOf, stepT, stepX, heapR, lensR, Nat.reduceAdd, Nat.reduceLeDiff, g1, g5, g6, g7]
      rw [e]
      exact ⟨o3, keep r2 kk⟩
    | false =>
      have e : pC o = pB o := by unfold pC; rw [hn]; simp
      rw [hn, if_neg (by simp)] at b2
      simp (maxSteps := 1000000) (disch := omega) only [stepS, reduceIte, Nat.reduceBEq, Nat.reduceEqDiff, tupleOf, stepT, stepX, heapR, lensR, Nat.reduceAdd, Nat.reduceLeDiff, g1, g5, g6, g7, b2, r2]
      rw [e]
      exact o2
  rintro a B ⟨o3, r3, g1, g5, g6⟩
  have lenC : (pC o).length ≤ 800 := by
    unfold pC
    have := textN_len (s := o.text) (by omega)
    cases hn : hT o.k with
    | true => simp; omega
    | false => simp; omega
  clear r2 o2 B'
  refine W_mid (fun a B => OutA A B i (pD o) ∧ rowAt B A.length = some ([ii o.k, .string o.name, .string o.text, ii o.n, .string o.place], .own, 0, true) ∧ a 1 = ptr A.length ∧ a 6 = ptr i) ?_ ?_
  · cases hn : hI o.k with
    | true =>
      rw [hn, if_pos rfl] at b4
      have hf : fixF (max o.n (0 - o.n)) 4 = some (leB o.n.natAbs 4) := by
        have hm : max o.n (0 - o.n) = (o.n.natAbs : Int) := by omega
        rw [hm]
        unfold fixF
        have : o.n.natAbs / 256 ^ 4 = 0 := Nat.div_eq_of_lt (by omega)
        rw [if_pos ⟨by omega, by omega, by simpa using this⟩]
        rfl
      simp (maxSteps := 1000000) (disch := omega) only [stepS, reduceIte, Nat.reduceBEq, Nat.reduceEqDiff, tupleOf, stepT, stepX, heapR, lensR, Nat.reduceAdd, Nat.reduceLeDiff, g1, g5, g6, b4, r3, negI]
      refine num_Fix_spec (fun z t C hz k1 o4 => ?_) (fun h => by rw [hf] at h; cases h)
      rw [hf] at hz
      obtain rfl := Option.some.inj hz
      obtain ⟨c1, c2, v, c3, c4⟩ := o3
      have c5 := k1.get c3
      have r4 := k1.row r3
      have hlt : ∀ k ∈ blkOf v, k < B.length := fun k hk => (OwnS.ge c4 k hk).2
      have e : pD o = pC o ++ [if o.n < 0 then 1 else 0] ++ leB o.n.natAbs 4 := by unfold pD; rw [hn]; simp [numO]
      simp (maxSteps := 1000000) (disch := omega) only [stepS, reduceIte, Nat.reduceBEq, Nat.reduceEqDiff, tupleOf, stepT, stepX, heapR, lensR, Nat.reduceAdd, Nat.reduceLeDiff, g1, g5, g6, r4, rowAt_own c5]
      refine op_truth_spec ?_
      rw [show (if decide (o.n < 0) = true then (1 : UInt8) else 0) = (if o.n < 0 then 1 else 0) by simp]
      have k2 : Le C (C ++ [.row [by8 (if o.n < 0 then 1 else 0)] .own 1 true]) := .push _ _
      obtain ⟨u1, D1, u, D, E, q1, q2, q3, q4, q5⟩ := OutA.app2 ((c1.trans k1).trans k2) c2 (k2.get c5) (c4.le (k1.trans k2)) (byt_by8 C _) (o4.byt.le k2) (fun k hk hv => by have h1 := hlt k hv; have h2 := (OwnS.ge o4 k hk).1; omega) (by simp [leB_length]; omega)
      simp (maxSteps := 1000000) (disch := omega) only [stepS, reduceIte, Nat.reduceBEq, Nat.reduceEqDiff, tupleOf, stepT, stepX, heapR, lensR, Nat.reduceAdd, Nat.reduceLeDiff, g1, g5, g6, lit_by8, q1, q2, q3]
      rw [e]
      exact ⟨q4, keep (k2.row r4) q5⟩
    | false =>
      have e : pD o = pC o := by unfold pD; rw [hn]; simp
      rw [hn, if_neg (by simp)] at b4
      simp (maxSteps := 1000000) (disch := omega) only [stepS, reduceIte, Nat.reduceBEq, Nat.reduceEqDiff, tupleOf, stepT, stepX, heapR, lensR, Nat.reduceAdd, Nat.reduceLeDiff, g1, g5, g6, b4, r3]
      rw [e]
      exact o3
  rintro a B' ⟨o4, r4, g1, g6⟩
  have lenD : (pD o).length ≤ 900 := by
    unfold pD
    cases hn : hI o.k with
    | true => simp [numO, leB_length]; omega
    | false => simp; omega
  clear r3 o3 B
  refine W_mid (fun a B => OutA A B i (pE o) ∧ rowAt B A.length = some ([ii o.k, .string o.name, .string o.text, ii o.n, .string o.place], .own, 0, true) ∧ a 1 = ptr A.length ∧ a 6 = ptr i) ?_ ?_
  · by_cases k5 : o.k = 5
    · obtain ⟨c1, c2, v, c3, c4⟩ := o4
      have e : pE o = pD o ++ [if decide (o.place ≠ e0) = true then 1 else 0] := by unfold pE; rw [if_pos k5]; congr 2; by_cases h : o.place = e0 <;> simp [h]
      simp (maxSteps := 1000000) (disch := omega) only [stepS, reduceIte, Nat.reduceBEq, Nat.reduceEqDiff, tupleOf, stepT, stepX, heapR, lensR, Nat.reduceAdd, Nat.reduceLeDiff, g1, g6, r4, rowAt_own c3]
      refine op_truth_spec ?_
      generalize (if decide (o.place ≠ e0) = true then (1 : UInt8) else 0) = b8 at e ⊢
      have k2 : Le B' (B' ++ [.row [by8 b8] .own 1 true]) := .push _ _
      obtain ⟨u, D, E, q1, q2, q3, q4⟩ := OutA.appV (c1.trans k2) c2 (k2.get c3) (c4.le k2) (byt_by8 B' _) (by simp; omega)
      simp (maxSteps := 1000000) (disch := omega) only [stepS, reduceIte, Nat.reduceBEq, Nat.reduceEqDiff, tupleOf, stepT, stepX, heapR, lensR, Nat.reduceAdd, Nat.reduceLeDiff, g1, g6, lit_by8, q1, q2]
      rw [e]
      exact ⟨q3, keep (k2.row r4) q4⟩
    · have e : pE o = pD o := by unfold pE; rw [if_neg k5]; simp
      simp (maxSteps := 1000000) (disch := omega) only [stepS, reduceIte, Nat.reduceBEq, Nat.reduceEqDiff, tupleOf, stepT, stepX, heapR, lensR, Nat.reduceAdd, Nat.reduceLeDiff, g1, g6, r4]
      rw [e]
      exact o4
  rintro a B ⟨o5, r5, g1, g6⟩
  have lenE : (pE o).length ≤ 901 := by
    unfold pE
    split <;> simp <;> omega
  obtain ⟨c1, c2, v, c3, c4⟩ := o5
  have hsz : o.place.size ≤ 32 := by
    rcases h8 with h | h
    · rw [h]; decide
    · omega
  obtain ⟨u, C, q1, q2, q3, _⟩ := apps_bytes (s := o.place) c1 c4 (by omega)
  have q4 := row_load c3 (by simp) (o := 0) (v := v) rfl
  simp (maxSteps := 1000000) (disch := omega) only [stepS, reduceIte, Nat.reduceBEq, Nat.reduceEqDiff, tupleOf, stepT, g1, g6, q4, q1, faddr_ptr, row_load (rowAt_get r5) (by simp) (o := 0 + 4) (v := .string o.place) rfl]
  refine hok hop _ _ q2 ?_
  rw [putO_pE]
  exact q3
end Go.AS.C


namespace Go.AS.C
open Go Go.Proofs
set_option linter.unusedVariables false
set_option linter.unusedSimpArgs false
set_option maxRecDepth 10000

/-! The reference's Put of operations. -/
end Go.AS.C


namespace Go.AS.C
open Go Go.Proofs
set_option linter.unusedVariables false
set_option linter.unusedSimpArgs false
set_option maxRecDepth 10000

/-! update.Put; the reference's. -/
theorem upd_row {A B : AH} {p : Value} {u : UpdV} (h1 : one1 p) (h : B = A ++ [.row [ii u.author, p, ii u.op.k, .string u.op.name, .string u.op.text, ii u.op.n, .string u.op.place] .own 0 true]) : rowAt B A.length = some ([ii u.author, p, ii u.op.k, .string u.op.name, .string u.op.text, ii u.op.n, .string u.op.place], .own, 0, true) := by
  subst h; simp (maxSteps := 1000000) (disch := omega) only [stepS, reduceIte, Nat.reduceBEq, Nat.reduceEqDiff, tupleOf, stepT, stepX, heapR, lensR, Nat.reduceAdd, Nat.reduceLeDiff]
theorem conv_nat8 {k : Int} (h0 : 0 ≤ k) (A : AH) : sConv A .u8 (ii k) = some (by8 (UInt8.ofNat k.toNat), A) := by
  obtain ⟨m, rfl⟩ : ∃ m : Nat, k = m := ⟨k.toNat, by omega⟩
  exact conv_u8_ii A m
theorem lit2_by8 (A : AH) (b c : UInt8) : sLit A [.int .u8 0] 1 2 [(0, 1, by8 b), (1, 1, by8 c)] = some (.slice (some ⟨A.length, 0, none⟩) 2 2, A ++ [.row [by8 b, by8 c] .own 1 true]) := litB A [b, c] rfl rfl
theorem byt2_by8 (A : AH) (b c : UInt8) : Byt (A ++ [.row [by8 b, by8 c] .own 1 true]) (.slice (some ⟨A.length, 0, none⟩) 2 2) [b, c] := byt_last A [b, c]
theorem update_Put_spec {A : AH} {x : Value} {u : UpdV} {Q : Value → AH → Prop} (hx : UpdA A x u) (hf : u.Fin) (hok : updE u = 0 → ∀ A' t, Le A A' → OwnB A.length A' t (putU u) → Q (.tuple #[t, ii 0]) A') (hbad : updE u ≠ 0 → ∀ A', Le A A' → Q (.tuple #[.slice none 0 0, ii (updE u)]) A') : ACalls 1 Tryd.prog update_Put [x] Q A := by
  have hx0 := hx
  obtain ⟨p, rfl, hp⟩ := hx
  have hf0 := hf
  obtain ⟨f1, f2, f3, f4⟩ := hf
  refine ACalls.of_fits mixed fits_update_Put rfl ?_
  unfold ic_update_Put
  have i0 : initA [.agg #[ii u.author, p, ii u.op.k, .string u.op.name, .string u.op.text, ii u.op.n, .string u.op.place]] 0 = .agg #[ii u.author, p, ii u.op.k, .string u.op.name, .string u.op.text, ii u.op.n, .string u.op.place] := rfl
  generalize initA [.agg #[ii u.author, p, ii u.op.k, .string u.op.name, .string u.op.text, ii u.op.n, .string u.op.place]] = a at i0
  have hp2 := (slT_one hp).2
  have k1 : Le A (A ++ [.row [ii u.author, p, ii u.op.k, .string u.op.name, .string u.op.text, ii u.op.n, .string u.op.place] .own 0 true]) := .push _ _
  have r1 := upd_row (A := A) (u := u) (slT_one hp) rfl
  refine W_mid (fun a B => B = A ++ [.row [ii u.author, p, ii u.op.k, .string u.op.name, .string u.op.text, ii u.op.n, .string u.op.place] .own 0 true] ∧ a 1 = ptr A.length) ?_ ?_
  · simp (maxSteps := 1000000) (disch := omega) only [stepS, reduceIte, Nat.reduceBEq, Nat.reduceEqDiff, tupleOf, stepT, stepX, heapR, lensR, Nat.reduceAdd, Nat.reduceLeDiff, i0, hp2]
  rintro a B ⟨hB, g1⟩
  rw [← hB] at k1 r1
  clear i0 hB
  have hx1 : UpdA B (.agg #[ii u.author, p, ii u.op.k, .string u.op.name, .string u.op.text, ii u.op.n, .string u.op.place]) u := hx0.le k1
  simp (maxSteps := 1000000) (disch := omega) only [stepS, reduceIte, Nat.reduceBEq, Nat.reduceEqDiff, tupleOf, stepT, stepX, heapR, lensR, Nat.reduceAdd, Nat.reduceLeDiff, g1, r1]
  refine update_Check_spec hx1 hf0 ?_
  by_cases he : updE u = 0
  · rw [he]
    obtain ⟨q1, q2, q3, q4⟩ := updE_zero.1 he
    simp (maxSteps := 1000000) (disch := omega) only [stepS, reduceIte, Nat.reduceBEq, Nat.reduceEqDiff, tupleOf, stepT, stepX, heapR, lensR, Nat.reduceAdd, Nat.reduceLeDiff, g1, r1]
    refine op_Put_spec f4 (fun _ C t k2 o2 => ?_) (fun h => by rw [q4] at h; cases h)
    have r2 := k2.row r1
    have hpl := ((hp.le k1).le k2 : SlT C p u.preds).len
    have c1 := fun A => conv_nat8 (k := u.author) q1.1 A
    have c2 := fun A => conv_nat8 (k := (u.preds.length : Int)) (by omega) A
    rw [Int.toNat_natCast] at c2
    have k3 : Le C (C ++ [.row [by8 (UInt8.ofNat u.author.toNat), by8 (UInt8.ofNat u.preds.length)] .own 1 true]) := .push _ _
    have r3 := k3.row r2
    have hC := k2.len
    have hAC := lt_of_get (rowAt_get r2)
    have hfl := flatT_len q3.1
    have hol := putO_len2 q4
    simp (maxSteps := 1000000) (disch := omega) only [stepS, reduceIte, Nat.reduceBEq, Nat.reduceEqDiff, tupleOf, stepT, stepX, heapR, lensR, Nat.reduceAdd, Nat.reduceLeDiff, g1, r2, hpl, c1, c2, lit2_by8]
    have hp3 : SlT _ p u.preds := ((hp.le k1).le k2).le k3
    have hjn := joinT_nil u.preds
    have hbl : bl (bA (flatT u.preds)) = flatT u.preds := bl_bA _
    refine join_spec joinsTexts hp3 (by omega) (by rw [hjn, bA_size]; omega) ?_
    rw [hjn]
    generalize hD : C ++ [Blk.row [by8 (UInt8.ofNat u.author.toNat), by8 (UInt8.ofNat u.preds.length)] .own 1 true] = D at *
    have k4 : Le D (D ++ [.row ((bA (flatT u.preds)).data.toList.map by8) .own 1 false]) := .push _ _
    have b1 : Byt D (.slice (some ⟨C.length, 0, none⟩) 2 2) [UInt8.ofNat u.author.toNat, UInt8.ofNat u.preds.length] := by rw [← hD]; exact byt2_by8 _ _ _
    have b2 := byt_s2b (A := D) (bA (flatT u.preds))
    have b3 := (o2.byt.le k3).le k4
    obtain ⟨t', c', ht, _⟩ := b3.shape
    generalize hE : D ++ [Blk.row ((bA (flatT u.preds)).data.toList.map by8) .own 1 false] = E at *
    have k5 : Le E (E ++ [.row [.slice (some ⟨C.length, 0, none⟩) 2 2, .slice (some ⟨D.length, 0, none⟩) (bA (flatT u.preds)).size (bA (flatT u.preds)).size, t] .own 1 true]) := .push _ _
    have l1 := lit1 (A := E) (z := .slice none 0 0) (len := 3) (ps := [(0, 1, .slice (some ⟨C.length, 0, none⟩) 2 2), (1, 1, .slice (some ⟨D.length, 0, none⟩) (bA (flatT u.preds)).size (bA (flatT u.preds)).size), (2, 1, t)]) [.slice (some ⟨C.length, 0, none⟩) 2 2, .slice (some ⟨D.length, 0, none⟩) (bA (flatT u.preds)).size (bA (flatT u.preds)).size, t] rfl rfl (by
      intro x hx
      simp only [List.mem_cons, List.not_mem_nil, or_false] at hx
      rcases hx with rfl | rfl | rfl
      · exact one1_sl _ _ _
      · exact one1_sl _ _ _
      · rw [ht]; exact one1_sl _ _ _)
    have s2 : sS2b D (.string (bA (flatT u.preds))) = some (.slice (some ⟨D.length, 0, none⟩) (bA (flatT u.preds)).size (bA (flatT u.preds)).size, E) := by rw [s2b_eq, hE]
    simp (maxSteps := 1000000) (disch := omega) only [stepS, reduceIte, Nat.reduceBEq, Nat.reduceEqDiff, tupleOf, stepT, g1, s2, l1]
    refine slices_Concat_spec (vs := [.slice (some ⟨C.length, 0, none⟩) 2 2, .slice (some ⟨D.length, 0, none⟩) (bA (flatT u.preds)).size (bA (flatT u.preds)).size, t]) (bss := [[UInt8.ofNat u.author.toNat, UInt8.ofNat u.preds.length], flatT u.preds, putO u.op]) (sl_last E (by decide) (Nat.le_refl _)) rfl ?_ ?_ (by simp) (fun w F k6 o6 => ?_)
    · intro j x b hx hb
      match j with
      | 0 => simp at hx hb; subst hx hb; exact (b1.le k4).le k5
      | 1 => simp at hx hb; subst hx hb; exact b2.le k5
      | 2 => simp at hx hb; subst hx hb; exact b3.le k5
      | j + 3 => simp at hx
    · simp; omega
    · simp (maxSteps := 1000000) (disch := omega) only [stepS, reduceIte, Nat.reduceBEq, Nat.reduceEqDiff, tupleOf, stepT]
      have kF := ((((k1.trans k2).trans k3).trans k4).trans k5).trans k6
      refine hok he _ _ kF ?_
      have e : [[UInt8.ofNat u.author.toNat, UInt8.ofNat u.preds.length], flatT u.preds, putO u.op].flatten = putU u := by simp [putU]
      rw [e] at o6
      exact OwnS.mono o6 ((((k1.trans k2).trans k3).trans k4).trans k5).len
  · simp (maxSteps := 1000000) (disch := omega) only [stepS, reduceIte, Nat.reduceBEq, Nat.reduceEqDiff, tupleOf, stepT, stepX, heapR, lensR, Nat.reduceAdd, Nat.reduceLeDiff, g1, r1]
    exact hbad he _ k1
end Go.AS.C


namespace Go.AS.C
open Go Go.Proofs
set_option linter.unusedVariables false
set_option linter.unusedSimpArgs false
set_option maxRecDepth 10000

/-- An update of which no part is large. -/
def SmallU (u : UpdV) : Prop := u.preds.length ≤ 20 ∧ u.op.name.size ≤ 300 ∧ u.op.text.size ≤ 300 ∧ u.op.place.size ≤ 300 ∧ ∀ s ∈ u.preds, s.size ≤ 100
def LargeA (u : UpdV) (v : Value) : Prop := ∃ b, v = .bool b ∧ (b = false → SmallU u)
theorem large_spec {A : AH} {x : Value} {u : UpdV} {Q : Value → AH → Prop} (hx : UpdA A x u) (hq : ∀ b : Bool, (b = false → SmallU u) → Q (.bool b) A) : ACalls 1 Tryd.prog chantrylaw15_large [x] Q A := by
  refine ACalls.pure (S := LargeA u) (fun v ⟨b, e, h⟩ => by rw [e]; exact hq b h) ?_
  have big : LargeA u (.bool true) := ⟨true, rfl, fun h => by cases h⟩
  obtain ⟨p, rfl, hp⟩ := hx
  refine ACalls.of_fits mixed fits_chantrylaw15_large rfl ?_
  unfold ic_chantrylaw15_large
  have i0 : initA [.agg #[ii u.author, p, ii u.op.k, .string u.op.name, .string u.op.text, ii u.op.n, .string u.op.place]] 0 = .agg #[ii u.author, p, ii u.op.k, .string u.op.name, .string u.op.text, ii u.op.n, .string u.op.place] := rfl
  generalize initA [.agg #[ii u.author, p, ii u.op.k, .string u.op.name, .string u.op.text, ii u.op.n, .string u.op.place]] = a at i0
  have hp2 := (slT_one hp).2
  have k1 : Le A (A ++ [.row [ii u.author, p, ii u.op.k, .string u.op.name, .string u.op.text, ii u.op.n, .string u.op.place] .own 0 true]) := .push _ _
  have r1 := upd_row (A := A) (u := u) (slT_one hp) rfl
  refine W_mid (fun a B => B = A ++ [.row [ii u.author, p, ii u.op.k, .string u.op.name, .string u.op.text, ii u.op.n, .string u.op.place] .own 0 true] ∧ a 1 = ptr A.length) ?_ ?_
  · simp (maxSteps := 1000000) (disch := omega) only [stepS, reduceIte, Nat.reduceBEq, Nat.reduceEqDiff, tupleOf, stepT, stepX, heapR, lensR, Nat.reduceAdd, Nat.reduceLeDiff, i0, hp2]
  rintro a B ⟨hB, g1⟩
  rw [← hB] at k1 r1
  clear i0 hB
  have hpB : SlT B p u.preds := hp.le k1
  have hpl := hpB.len
  refine W_midR (fun a B' => u.preds.length ≤ 20 ∧ u.op.name.size ≤ 300 ∧ u.op.text.size ≤ 300 ∧ u.op.place.size ≤ 300 ∧ B' = B ∧ a 1 = ptr A.length) ?_ ?_
  · by_cases h1 : u.preds.length ≤ 20
    · by_cases h2 : u.op.name.size ≤ 300
      · by_cases h3 : u.op.text.size ≤ 300
        · by_cases h4 : u.op.place.size ≤ 300
          · simp (maxSteps := 1000000) (disch := omega) only [stepS, reduceIte, Nat.reduceBEq, Nat.reduceEqDiff, tupleOf, stepT, stepX, heapR, lensR, Nat.reduceAdd, Nat.reduceLeDiff, g1, r1, hpl, reduceCtorEq, false_and, or_false, true_and]
            all_goals exact ⟨h1, h2, h3, h4⟩
          · simp (maxSteps := 1000000) (disch := omega) only [stepS, reduceIte, Nat.reduceBEq, Nat.reduceEqDiff, tupleOf, stepT, stepX, heapR, lensR, Nat.reduceAdd, Nat.reduceLeDiff, g1, r1, hpl, reduceCtorEq, false_and, false_or, true_and]
            exact ⟨k1, rfl, big⟩
        · simp (maxSteps := 1000000) (disch := omega) only [stepS, reduceIte, Nat.reduceBEq, Nat.reduceEqDiff, tupleOf, stepT, stepX, heapR, lensR, Nat.reduceAdd, Nat.reduceLeDiff, g1, r1, hpl, reduceCtorEq, false_and, false_or, true_and]
          exact ⟨k1, rfl, big⟩
      · simp (maxSteps := 1000000) (disch := omega) only [stepS, reduceIte, Nat.reduceBEq, Nat.reduceEqDiff, tupleOf, stepT, stepX, heapR, lensR, Nat.reduceAdd, Nat.reduceLeDiff, g1, r1, hpl, reduceCtorEq, false_and, false_or, true_and]
        exact ⟨k1, rfl, big⟩
    · simp (maxSteps := 1000000) (disch := omega) only [stepS, reduceIte, Nat.reduceBEq, Nat.reduceEqDiff, tupleOf, stepT, stepX, heapR, lensR, Nat.reduceAdd, Nat.reduceLeDiff, g1, r1, hpl, reduceCtorEq, false_and, false_or, true_and]
      exact ⟨k1, rfl, big⟩
  rintro a B' ⟨s1, s2, s3, s4, rfl, g1⟩
  refine W_midR (fun a B => B = B' ∧ (∀ s ∈ u.preds, s.size ≤ 100)) ?_ ?_
  · simp (maxSteps := 1000000) (disch := omega) only [stepS, reduceIte, Nat.reduceBEq, Nat.reduceEqDiff, tupleOf, stepT, g1]
    refine W_loop (fun a' D => ∃ j : Nat, j ≤ u.preds.length ∧ D = B' ∧ a' 1 = ptr A.length ∧ a' 3 = ii j ∧ ∀ s ∈ u.preds.take j, s.size ≤ 100) (fun a' _ => u.preds.length - (iv (a' 3)).toNat) ?_ ?_
    · refine ⟨0, Nat.zero_le _, rfl, ?_⟩
      simp (maxSteps := 1000000) (disch := omega) only [stepS, reduceIte, Nat.reduceBEq, Nat.reduceEqDiff, tupleOf, stepT, g1]
      simp
    · rintro a2 D ⟨j, hj, rfl, g1, g3, hs⟩
      rcases Nat.lt_or_ge j u.preds.length with hlt | hge
      · obtain ⟨s, hs1⟩ := get_some hlt
        obtain ⟨pp, p1, p2⟩ := hpB.at hs1
        have p3 := p2 D (.refl _)
        have htk : u.preds.take (j + 1) = u.preds.take j ++ [s] := by rw [List.take_add_one, hs1]; rfl
        by_cases h5 : s.size ≤ 100
        · simp (maxSteps := 1000000) (disch := omega) only [stepS, reduceIte, Nat.reduceBEq, Nat.reduceEqDiff, tupleOf, stepT, stepX, heapR, lensR, Nat.reduceAdd, Nat.reduceLeDiff, g1, g3, hpl, r1, p1, p3]
          refine ⟨⟨j + 1, by omega, rfl, fun x hx => ?_⟩, by omega⟩
          rw [htk, List.mem_append, List.mem_singleton] at hx
          rcases hx with hx | rfl
          · exact hs x hx
          · exact h5
        · simp (maxSteps := 1000000) (disch := omega) only [stepS, reduceIte, Nat.reduceBEq, Nat.reduceEqDiff, tupleOf, stepT, stepX, heapR, lensR, Nat.reduceAdd, Nat.reduceLeDiff, g1, g3, hpl, r1, p1, p3]
          exact .inr ⟨k1, rfl, big⟩
      · simp (maxSteps := 1000000) (disch := omega) only [stepS, reduceIte, Nat.reduceBEq, Nat.reduceEqDiff, tupleOf, stepT, stepX, heapR, lensR, Nat.reduceAdd, Nat.reduceLeDiff, g1, g3, hpl, r1]
        rw [List.take_of_length_le hge] at hs
        exact .inl hs
  rintro a B ⟨rfl, hs⟩
  simp (maxSteps := 1000000) (disch := omega) only [stepS, reduceIte, Nat.reduceBEq, Nat.reduceEqDiff, tupleOf, stepT]
  exact ⟨k1, rfl, false, rfl, fun _ => ⟨s1, s2, s3, s4, hs⟩⟩
end Go.AS.C


namespace Go.AS.C
open Go Go.Proofs
set_option linter.unusedVariables false
set_option linter.unusedSimpArgs false
set_option maxRecDepth 10000

/-- The reference's cursor, as a value. -/
def refV (b : Value) (at_ : Nat) (bad : Bool) : Value := .agg #[b, ii at_, .bool bad]
def RefA (rb : Nat) (A : AH) (v : Value) (st : CurS) : Prop := match st with
  | none => v = refV (.slice none 0 0) 0 true
  | some r => ∃ (b : Value) (k : Nat) (all : List UInt8), v = refV b k false ∧ Byt A b all ∧ k ≤ all.length ∧ r = all.drop k ∧ all.length ≤ 2 ^ 40 ∧ ∀ j ∈ blkOf b, j < rb
variable {rb : Nat}
/-- Bytes that lie in a block ahead of rb. -/
def BytR (rb : Nat) (A : AH) (t : Value) (bs : List UInt8) : Prop := Byt A t bs ∧ ∀ j ∈ blkOf t, j < rb
theorem BytR.nil (rb : Nat) (A : AH) : BytR rb A (.slice none 0 0) [] := ⟨⟨rfl, .inl ⟨rfl, rfl⟩⟩, fun _ h => by cases h⟩
theorem RefA.le {A B : AH} {v : Value} {st : CurS} (h : RefA rb A v st) (hl : Le A B) : RefA rb B v st := by
  cases st with
  | none => exact h
  | some r =>
    obtain ⟨b, k, all, h1, h2, h3, h4⟩ := h
    exact ⟨b, k, all, h1, h2.le hl, h3, h4⟩
theorem RefA.kp {A B : AH} {i : Nat} {v : Value} {st : CurS} (h : RefA rb A v st) (hk : Keep A i B) {zc : List Value} {zst : St} {zex : Bool} (hi : A[i]? = some (.row zc zst 0 zex)) : RefA rb B v st := by
  cases st with
  | none => exact h
  | some r =>
    obtain ⟨b, k, all, h1, h2, h3, h4⟩ := h
    exact ⟨b, k, all, h1, h2.kp hk hi, h3, h4⟩
/-- What a reader leads to is as it was, as it stood there at the start. -/
theorem RefA.base {A0 A B : AH} {v : Value} {st : CurS} (hA : Le A0 A) (hB : Le A0 B) (h : RefA A0.length A v st) : RefA A0.length B v st := by
  cases st with
  | none => exact h
  | some r =>
    obtain ⟨b, k, all, h1, h2, h3, h4, h5, h6⟩ := h
    refine ⟨b, k, all, h1, h2.keepB fun j c hc hj => ?_, h3, h4, h5, h6⟩
    have hlt := h6 j hj
    obtain ⟨c0, hc0⟩ : ∃ c0, A0[j]? = some c0 := ⟨_, List.getElem?_eq_getElem hlt⟩
    rw [hA.get hc0] at hc
    rw [← hc]
    exact hB.get hc0
/-- Whatever state: the value's three cells. -/
theorem RefA.cells {A : AH} {v : Value} {st : CurS} (h : RefA rb A v st) : ∃ (b : Value) (k : Nat), v = refV b k st.isNone ∧ one1 b := by
  cases st with
  | none => exact ⟨_, _, h, one1_sl _ _ _⟩
  | some r =>
    obtain ⟨b, k, all, h1, h2, h3, h4⟩ := h
    obtain ⟨p, c, hs, _⟩ := h2.shape
    exact ⟨b, k, h1, by rw [hs]; exact one1_sl _ _ _⟩
end Go.AS.C


namespace Go.AS.C
open Go Go.Proofs
set_option linter.unusedVariables false
set_option linter.unusedSimpArgs false
set_option maxRecDepth 10000

variable {rb : Nat}
section
variable {A A0 : AH} {i : Nat} {st : CurS} {Q : Value → AH → Prop}
end
end Go.AS.C


namespace Go.AS.C
open Go Go.Proofs
set_option linter.unusedVariables false
set_option linter.unusedSimpArgs false
set_option maxRecDepth 10000

end Go.AS.C


namespace Go.AS.C
open Go Go.Proofs
set_option linter.unusedVariables false
set_option linter.unusedSimpArgs false
set_option maxRecDepth 10000

/-! op.Get. -/
structure GetH (A B : AH) (z i j : Nat) (st : CurS) (o : OpV) : Prop where
  le : Le A B
  cur : CurA A.length B i st
  rj : rowAt B j = some ([ii o.k, .string o.name, .string o.text, ii o.n, .string o.place], .own, 0, true)
  rz : rowAt B z = some ([.int .i64 0, .string e0, .string e0, .int .i64 0, .string e0], .own, 0, true)
theorem GetH.step {A B C : AH} {z i j : Nat} {st st' : CurS} {o : OpV} (h : GetH A B z i j st o) (hj : j ≠ i) (hz : z ≠ i) (hl : Le A C) (hk : Keep B i C) (hc : CurA A.length C i st') : GetH A C z i j st' o :=
  ⟨hl, hc, rowAt_own (hk.2 _ _ hj (rowAt_get h.rj)), rowAt_own (hk.2 _ _ hz (rowAt_get h.rz))⟩
theorem GetH.put {A B : AH} {z i j : Nat} {st : CurS} {o o' : OpV} (h : GetH A B z i j st o) (hj : j ≠ i) (hz : z ≠ j) (hg : A.length ≤ j) {cs : List Value} (hcs : cs = [ii o'.k, .string o'.name, .string o'.text, ii o'.n, .string o'.place]) : GetH A (B.set j (.row cs .own 0 true)) z i j st o' := by
  subst hcs
  have g := rowAt_get h.rj
  refine ⟨h.le.set hg, h.cur.keep (Keep.set _ _ _) (Ne.symm hj) (fun c hc => ?_), rowAt_own (set_get g), rowAt_own (by rw [List.getElem?_set_ne (Ne.symm hz)]; exact rowAt_get h.rz)⟩
  rw [g] at hc
  obtain rfl := (Option.some.inj hc).symm
  exact ⟨_, _, _, _, rfl, by decide⟩
end Go.AS.C


namespace Go.AS.C
open Go Go.Proofs
set_option linter.unusedVariables false
set_option linter.unusedSimpArgs false
set_option maxRecDepth 10000

/-! update.Get. -/
abbrev zero7 : List Value := [.int .i64 0, .slice none 0 0, .int .i64 0, .string ⟨#[]⟩, .string ⟨#[]⟩, .int .i64 0, .string ⟨#[]⟩]
structure UGet (A B : AH) (z c i : Nat) (st : CurS) : Prop where
  le : Le A B
  cur : CurA A.length B i st
  rc : rowAt B c = some ([ptr i], .own, 0, true)
  rz : rowAt B z = some (zero7, .own, 0, true)
theorem UGet.step {A B C : AH} {z c i : Nat} {st st' : CurS} (h : UGet A B z c i st) (hc : c ≠ i) (hz : z ≠ i) (hl : Le A C) (hk : Keep B i C) (hcur : CurA A.length C i st') : UGet A C z c i st' :=
  ⟨hl, hcur, rowAt_own (hk.2 _ _ hc (rowAt_get h.rc)), rowAt_own (hk.2 _ _ hz (rowAt_get h.rz))⟩
theorem UGet.put {A B : AH} {z c i j : Nat} {st : CurS} {cs0 cs : List Value} (h : UGet A B z c i st) (hr : rowAt B j = some (cs0, .own, 0, true)) (hj : A.length ≤ j) (hi : j ≠ i) (hc : j ≠ c) (hz : j ≠ z) : UGet A (B.set j (.row cs .own 0 true)) z c i st := by
  have g := rowAt_get hr
  refine ⟨h.le.set hj, h.cur.keep (Keep.set _ _ _) (Ne.symm hi) (fun c hc => ?_), rowAt_own (by rw [List.getElem?_set_ne hc]; exact rowAt_get h.rc), rowAt_own (by rw [List.getElem?_set_ne hz]; exact rowAt_get h.rz)⟩
  rw [g] at hc
  obtain rfl := (Option.some.inj hc).symm
  exact ⟨_, _, _, _, rfl, by decide⟩
theorem UGet.push {A B : AH} {z c i : Nat} {st : CurS} {b : Blk} (h : UGet A B z c i st) : UGet A (B ++ [b]) z c i st :=
  ⟨h.le.app _, h.cur.le (.push _ _), (Le.push B b).row h.rc, (Le.push B b).row h.rz⟩
end Go.AS.C


namespace Go.AS.C
open Go Go.Proofs
set_option linter.unusedVariables false
set_option linter.unusedSimpArgs false
set_option maxRecDepth 10000

end Go.AS.C


namespace Go.AS.C
open Go Go.Proofs
set_option linter.unusedVariables false
set_option linter.unusedSimpArgs false
set_option maxRecDepth 10000

/-! The reference's Get of operations. -/
structure RefH (R B : AH) (z c j : Nat) (st : CurS) (o : OpV) : Prop where
  le : Le R B
  rr : ∃ (b : Value) (k : Nat), one1 b ∧ RefA R.length B (.agg #[b, ii k, .bool st.isNone]) st ∧ rowAt B c = some ([b, ii k, .bool st.isNone], .own, 0, true)
  rj : rowAt B j = some ([ii o.k, .string o.name, .string o.text, ii o.n, .string o.place], .own, 0, true)
  rz : rowAt B z = some ([.int .i64 0, .string e0, .string e0, .int .i64 0, .string e0], .own, 0, true)
theorem BytR.base {R C D : AH} {t : Value} {bs : List UInt8} (h : BytR R.length C t bs) (hC : Le R C) (hD : Le R D) : Byt D t bs := by
  refine h.1.keepB fun i b hb hi => ?_
  have hlt := h.2 i hi
  obtain ⟨c0, hc0⟩ : ∃ c0, R[i]? = some c0 := ⟨_, List.getElem?_eq_getElem hlt⟩
  rw [hC.get hc0] at hb
  rw [← hb]
  exact hD.get hc0
abbrev rowC (b : Value) (k : Nat) (d : Bool) : Blk := .row [b, ii k, .bool d] .own 0 true
abbrev rowZ : Blk := .row [.slice none 0 0, .int .i64 0, .bool false] .own 0 true
/-- What a reading leaves: the reader's new state, put in its place. -/
abbrev afterR (C : AH) (c : Nat) (b : Value) (k : Nat) (d : Bool) : AH := ((C ++ [rowZ]).set C.length (rowC b k d)).set c (rowC b k d)
theorem RefH.read {R B C : AH} {z c j : Nat} {st st' : CurS} {o : OpV} {b : Value} {k : Nat} (h : RefH R B z c j st o) (hz : z < R.length) (hc : R.length ≤ c) (hj : R.length ≤ j) (hcj : c ≠ j) (hl : Le B C) (hb : one1 b) (hr : RefA R.length C (refV b k st'.isNone) st') : RefH R (afterR C c b k st'.isNone) z c j st' o := by
  obtain ⟨h1, ⟨b0, k0, _, _, h3⟩, h4, h5⟩ := h
  have kC := h1.trans hl
  have c1 := lt_of_get (rowAt_get (hl.row h3))
  have c2 := lt_of_get (rowAt_get (hl.row h4))
  have c3 := lt_of_get (rowAt_get (hl.row h5))
  have r3 := hl.row h3
  have r4 := hl.row h4
  have r5 := hl.row h5
  have hC := kC.len
  have kD : Le R (afterR C c b k st'.isNone) := by unfold afterR; (repeat first | exact Le.refl _ | assumption | refine Le.app ?_ _ | refine Le.set ?_ ?_ | omega | (simp only [List.length_append, List.length_singleton, List.length_set]; omega))
  refine ⟨kD, ⟨b, k, hb, RefA.base kC kD hr, ?_⟩, ?_, ?_⟩
  · simp (maxSteps := 1000000) (disch := omega) only [stepS, reduceIte, Nat.reduceBEq, Nat.reduceEqDiff, tupleOf, stepT, stepX, heapR, lensR, Nat.reduceAdd, Nat.reduceLeDiff]
  · simp (maxSteps := 1000000) (disch := omega) only [stepS, reduceIte, Nat.reduceBEq, Nat.reduceEqDiff, tupleOf, stepT, stepX, heapR, lensR, Nat.reduceAdd, Nat.reduceLeDiff, r4]
  · simp (maxSteps := 1000000) (disch := omega) only [stepS, reduceIte, Nat.reduceBEq, Nat.reduceEqDiff, tupleOf, stepT, stepX, heapR, lensR, Nat.reduceAdd, Nat.reduceLeDiff, r5]
theorem RefH.put {R B : AH} {z c j : Nat} {st : CurS} {o o' : OpV} (h : RefH R B z c j st o) (hz : z < R.length) (hj : R.length ≤ j) (hcj : c ≠ j) {cs : List Value} (hcs : cs = [ii o'.k, .string o'.name, .string o'.text, ii o'.n, .string o'.place]) : RefH R (B.set j (.row cs .own 0 true)) z c j st o' := by
  subst hcs
  obtain ⟨h1, ⟨b0, k0, h2, h2b, h3⟩, h4, h5⟩ := h
  have c2 := lt_of_get (rowAt_get h4)
  have kD : Le R (B.set j (.row [ii o'.k, .string o'.name, .string o'.text, ii o'.n, .string o'.place] .own 0 true)) := h1.set hj
  refine ⟨kD, ⟨b0, k0, h2, RefA.base h1 kD h2b, ?_⟩, ?_, ?_⟩
  · simp (maxSteps := 1000000) (disch := omega) only [stepS, reduceIte, Nat.reduceBEq, Nat.reduceEqDiff, tupleOf, stepT, stepX, heapR, lensR, Nat.reduceAdd, Nat.reduceLeDiff, h3]
  · simp (maxSteps := 1000000) (disch := omega) only [stepS, reduceIte, Nat.reduceBEq, Nat.reduceEqDiff, tupleOf, stepT, stepX, heapR, lensR, Nat.reduceAdd, Nat.reduceLeDiff]
  · simp (maxSteps := 1000000) (disch := omega) only [stepS, reduceIte, Nat.reduceBEq, Nat.reduceEqDiff, tupleOf, stepT, stepX, heapR, lensR, Nat.reduceAdd, Nat.reduceLeDiff, h5]
end Go.AS.C


namespace Go.AS.C
open Go Go.Proofs
set_option linter.unusedVariables false
set_option linter.unusedSimpArgs false
set_option maxRecDepth 10000

/-! The reference's Get of updates. -/
structure RefU (R B : AH) (c j : Nat) (st : CurS) (au : Int) (ts : List ByteArray) : Prop where
  le : Le R B
  rr : ∃ (b : Value) (k : Nat), one1 b ∧ RefA R.length B (.agg #[b, ii k, .bool st.isNone]) st ∧ rowAt B c = some ([b, ii k, .bool st.isNone], .own, 0, true)
  rj : ∃ p : Value, OwnT R.length B p ts ∧ (∀ i ∈ blkOf p, j < i) ∧ rowAt B j = some ([ii au, p, .int .i64 0, .string e0, .string e0, .int .i64 0, .string e0], .own, 0, true)
end Go.AS.C


namespace Go.AS.C
open Go
set_option linter.unusedVariables false
set_option linter.unusedSimpArgs false
set_option maxRecDepth 10000

/-- The numbers of the rounds. -/
def kN : List Nat := [0x428a2f98, 0x71374491, 0xb5c0fbcf, 0xe9b5dba5, 0x3956c25b, 0x59f111f1, 0x923f82a4, 0xab1c5ed5,
  0xd807aa98, 0x12835b01, 0x243185be, 0x550c7dc3, 0x72be5d74, 0x80deb1fe, 0x9bdc06a7, 0xc19bf174,
  0xe49b69c1, 0xefbe4786, 0x0fc19dc6, 0x240ca1cc, 0x2de92c6f, 0x4a7484aa, 0x5cb0a9dc, 0x76f988da,
  0x983e5152, 0xa831c66d, 0xb00327c8, 0xbf597fc7, 0xc6e00bf3, 0xd5a79147, 0x06ca6351, 0x14292967,
  0x27b70a85, 0x2e1b2138, 0x4d2c6dfc, 0x53380d13, 0x650a7354, 0x766a0abb, 0x81c2c92e, 0x92722c85,
  0xa2bfe8a1, 0xa81a664b, 0xc24b8b70, 0xc76c51a3, 0xd192e819, 0xd6990624, 0xf40e3585, 0x106aa070,
  0x19a4c116, 0x1e376c08, 0x2748774c, 0x34b0bcb5, 0x391c0cb3, 0x4ed8aa4a, 0x5b9cca4f, 0x682e6ff3,
  0x748f82ee, 0x78a5636f, 0x84c87814, 0x8cc70208, 0x90befffa, 0xa4506ceb, 0xbef9a3f7, 0xc67178f2]
def kV : List Value := kN.map fun n => .int .u32 (n : Nat)
/-- The same, as the laid variable reads. -/
def kI : List Int := kN.map fun (n : Nat) => (n : Int)
theorem kI_cells : (kI.map fun m => Value.int .u32 m) = kV := id rfl
theorem kI_flat : ∀ v ∈ kV, flatV v = true ∧ v.oneCell' = true := by
  intro v hv
  unfold kV at hv
  rw [List.mem_map] at hv
  obtain ⟨n, _, rfl⟩ := hv
  exact ⟨rfl, rfl⟩
/-- The block of the package variable. -/
def kB : Blk := .row kV .ro 0 false

abbrev W32 := BitVec 32
theorem add32 (a b : W32) : binA .add (u32 a) (u32 b) = some (u32 (a + b)) := by
  simp only [binA, u32, if_true]
  rw [← Int.natCast_add, wrap_u32_of, BitVec.toNat_ofNat, BitVec.toNat_add]
theorem shr32 (a : W32) (k : IntKind) (n : Int) (h0 : 0 ≤ n) (h : n ≤ 32) : binA .shr (u32 a) (.int k n) = some (u32 (a >>> n.toNat)) := by
  obtain ⟨m, rfl⟩ : ∃ m : Nat, n = m := ⟨n.toNat, by omega⟩
  exact binA_shr32 a k m (by omega)
theorem shl32 (a : W32) (k : IntKind) (n : Int) (h0 : 0 ≤ n) (h : n ≤ 32) : binA .shl (u32 a) (.int k n) = some (u32 (a <<< n.toNat)) := by
  obtain ⟨m, rfl⟩ : ∃ m : Nat, n = m := ⟨n.toNat, by omega⟩
  simp only [binA, u32]
  rw [if_neg (by omega)]
  have : min ((m : Int).toNat) IntKind.u32.bits = m := by
    show min ((m : Int).toNat) 32 = m
    simp; omega
  rw [this]
  congr 2
  have e : (a.toNat : Int) * 2 ^ m = ((a.toNat * 2 ^ m : Nat) : Int) := by simp
  rw [e, wrap_u32_of, Int.toNat_natCast, BitVec.toNat_shiftLeft, BitVec.toNat_ofNat, Nat.shiftLeft_eq]

def rotr (x : W32) (n : Nat) : W32 := x >>> n ||| x <<< (32 - n)
def sg0 (x : W32) : W32 := (rotr x 7 ^^^ rotr x 18) ^^^ x >>> 3
def sg1 (y : W32) : W32 := (rotr y 17 ^^^ rotr y 19) ^^^ y >>> 10
def b32 (b : UInt8) : W32 := BitVec.ofNat 32 b.toNat
def wordF (bs : List UInt8) (i : Nat) : W32 := ((b32 (bs.getD (4 * i) 0) <<< 24 ||| b32 (bs.getD (4 * i + 1) 0) <<< 16) ||| b32 (bs.getD (4 * i + 2) 0) <<< 8) ||| b32 (bs.getD (4 * i + 3) 0)
/-- The first n words of a block. -/
def schW (bs : List UInt8) : Nat → List W32
  | 0 => []
  | n + 1 => schW bs n ++ [if n < 16 then wordF bs n else ((schW bs n).getD (n - 16) 0 + (schW bs n).getD (n - 7) 0) + sg0 ((schW bs n).getD (n - 15) 0) + sg1 ((schW bs n).getD (n - 2) 0)]
theorem schW_length (bs : List UInt8) : ∀ n, (schW bs n).length = n
  | 0 => rfl
  | n + 1 => by simp [schW, schW_length bs n]
/-- A state: eight words. -/
structure S8 where
  a : W32
  b : W32
  c : W32
  d : W32
  e : W32
  f : W32
  g : W32
  h : W32
def S8.l (s : S8) : List W32 := [s.a, s.b, s.c, s.d, s.e, s.f, s.g, s.h]
def S8.cells (s : S8) : List Value := [u32 s.a, u32 s.b, u32 s.c, u32 s.d, u32 s.e, u32 s.f, u32 s.g, u32 s.h]
def upF (s : S8) (k w : W32) : W32 := (((s.h + ((rotr s.e 6 ^^^ rotr s.e 11) ^^^ rotr s.e 25)) + ((s.e &&& s.f) ^^^ (~~~ s.e &&& s.g))) + k) + w
def downF (s : S8) : W32 := ((rotr s.a 2 ^^^ rotr s.a 13) ^^^ rotr s.a 22) + (((s.a &&& s.b) ^^^ (s.a &&& s.c)) ^^^ (s.b &&& s.c))
def roundF (s : S8) (k w : W32) : S8 := ⟨upF s k w + downF s, s.a, s.b, s.c, s.d + upF s k w, s.e, s.f, s.g⟩
def kW (i : Nat) : W32 := BitVec.ofNat 32 (kN.getD i 0)
/-- The first n rounds. -/
def rounds (W : List W32) (s : S8) : Nat → S8
  | 0 => s
  | n + 1 => roundF (rounds W s n) (kW n) (W.getD n 0)
def S8.add (s t : S8) : S8 := ⟨s.a + t.a, s.b + t.b, s.c + t.c, s.d + t.d, s.e + t.e, s.f + t.f, s.g + t.g, s.h + t.h⟩
def mixF (s : S8) (bs : List UInt8) : S8 := s.add (rounds (schW bs 64) s 64)
/-- Whole blocks are taken in; what is left. -/
def eat : Nat → S8 → List UInt8 → S8 × List UInt8
  | 0, s, bs => (s, bs)
  | n + 1, s, bs => if 64 ≤ bs.length then eat n (mixF s (bs.take 64)) (bs.drop 64) else (s, bs)
def eatF (s : S8) (bs : List UInt8) : S8 × List UInt8 := eat bs.length s bs
theorem eat_more : ∀ (n : Nat) (s : S8) (bs : List UInt8), bs.length ≤ n → eat n s bs = eatF s bs
  | 0, s, bs, h => by
    have : bs = [] := by simpa using h
    subst this; rfl
  | n + 1, s, bs, h => by
    unfold eatF
    cases hl : bs.length with
    | zero => simp [eat, hl]
    | succ m =>
      simp only [eat, hl]
      split
      · rw [eat_more n _ _ (by simp; omega), eat_more m _ _ (by simp; omega)]
      · rfl
  termination_by n => n
theorem eatF_small {s : S8} {bs : List UInt8} (h : bs.length < 64) : eatF s bs = (s, bs) := by
  unfold eatF
  cases hl : bs.length with
  | zero => rfl
  | succ m => simp only [eat]; rw [if_neg (by omega)]
theorem eatF_big {s : S8} {bs : List UInt8} (h : 64 ≤ bs.length) : eatF s bs = eatF (mixF s (bs.take 64)) (bs.drop 64) := by
  rw [← eat_more (bs.length + 1) s bs (by omega)]
  simp only [eat]
  rw [if_pos h, eat_more _ _ _ (by simp)]
theorem eatF_append : ∀ (n : Nat) (s : S8) (x y : List UInt8), x.length ≤ n → eatF s (x ++ y) = eatF (eatF s x).1 ((eatF s x).2 ++ y)
  | 0, s, x, y, h => by
    have : x = [] := by simpa using h
    subst this
    rw [eatF_small (bs := []) (by simp)]
  | n + 1, s, x, y, h => by
    by_cases h64 : 64 ≤ x.length
    · rw [eatF_big (bs := x) h64, eatF_big (bs := x ++ y) (by simp; omega), List.take_append_of_le_length h64, List.drop_append_of_le_length h64]
      exact eatF_append n _ _ _ (by simp; omega)
    · rw [eatF_small (bs := x) (by omega)]
def init8 : S8 := ⟨0x6a09e667#32, 0xbb67ae85#32, 0x3c6ef372#32, 0xa54ff53a#32, 0x510e527f#32, 0x9b05688c#32, 0x1f83d9ab#32, 0x5be0cd19#32⟩
/-- How many zeros stand behind so many bytes and 128. -/
def zerosN (n : Nat) : Nat := (119 - n % 64) % 64
def bytes8 (n : Nat) : List UInt8 := (List.range 8).map fun j => UInt8.ofNat (n * 8 / 2 ^ (8 * (7 - j)))
def padF (n : Nat) : List UInt8 := 128 :: (List.replicate (zerosN n) 0 ++ bytes8 n)
def word4 (w : W32) : List UInt8 := [UInt8.ofNat (w >>> 24).toNat, UInt8.ofNat (w >>> 16).toNat, UInt8.ofNat (w >>> 8).toNat, UInt8.ofNat w.toNat]
def digest (s : S8) : List UInt8 := s.l.flatMap word4
def shaF (bs : List UInt8) : List UInt8 := digest (eatF init8 (bs ++ padF bs.length)).1
theorem digest_length (s : S8) : (digest s).length = 32 := rfl
end Go.AS.C
