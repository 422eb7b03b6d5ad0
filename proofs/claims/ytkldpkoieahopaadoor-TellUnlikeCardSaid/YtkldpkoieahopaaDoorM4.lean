/- Lemmas for the proof of a given statement; no conditions. -/
import Derived.Test.YtkldpkoieahopaaDoorM3
import Derived.Test.YtkldpkoieahopaaDoorRows
import Derived.Lib.ItoaMem
import Derived.Lib.ItoaLen
import Derived.Sort.Grow
import Derived.Sort.EncStr
import Derived.Lib.Join
import Derived.Below
import Derived.Shelf.Strings.Builder1
import Derived.Shelf.Strings.Builder2
import Derived.Shelf.Strings.OnBuilder
import Derived.Shelf.Strings.BuilderF
import Derived.Shelf.Strings.BuilderK
import Derived.Shelf.Strings.Builder2Cap
import Derived.Shelf.Strconv.Itoa0
import Derived.Shelf.Strconv.Itoa1
import Derived.Shelf.LaysM
import Derived.Shelf.Strconv.Itoa2
import Derived.Shelf.Strconv.Itoa3
import Derived.Shelf.Strings.BuilderCap
import Derived.Lib.LaidTab
set_option maxHeartbeats 1000000

namespace Go.AS.C
open Go
set_option linter.unusedVariables false
set_option linter.unusedSimpArgs false

end Go.AS.C


namespace Go.AS.C
open Go
set_option linter.unusedVariables false
set_option linter.unusedSimpArgs false

theorem binA_and8 (a b : UInt8) : binA .and (by8 a) (by8 b) = some (by8 (a &&& b)) := by
  show (if IntKind.u8 = IntKind.u8 then some (Value.int .u8 (IntKind.u8.wrap ((BitVec.ofInt 8 (a.toNat : Int) &&& BitVec.ofInt 8 (b.toNat : Int)).toNat : Int))) else none) = _
  rw [if_pos rfl, ofInt_u8, ofInt_u8]
  have h1 : (a.toBitVec &&& b.toBitVec).toNat = (a &&& b).toNat := by simp
  rw [h1, wrap_u8 _ (a &&& b).toNat_lt]
  rfl
theorem binA_shr8 (a : UInt8) (k : IntKind) (n : Nat) (h : n ≤ 8) : binA .shr (by8 a) (.int k n) = some (by8 (UInt8.ofNat (a.toNat / 2 ^ n))) := by
  simp only [binA, by8]
  have hn : ¬ ((n : Int) < 0) := by omega
  rw [if_neg hn]
  have : min ((n : Int).toNat) IntKind.u8.bits = n := by
    show min ((n : Int).toNat) 8 = n
    simp; omega
  rw [this, show ((2 : Int) ^ n) = ((2 ^ n : Nat) : Int) by simp, Int.fdiv_eq_ediv_of_nonneg _ (Int.natCast_nonneg _)]
  congr 2
  have hlt : a.toNat / 2 ^ n < 256 := Nat.lt_of_le_of_lt (Nat.div_le_self _ _) a.toNat_lt
  rw [UInt8.toNat_ofNat', Nat.mod_eq_of_lt hlt, Int.natCast_ediv]
end Go.AS.C


namespace Go.AS.C
open Go
set_option linter.unusedVariables false
set_option linter.unusedSimpArgs false

theorem size_bytes (s : ByteArray) : s.size = s.data.toList.length := by rw [Array.length_toList]; rfl
theorem s2b_row (A : AH) (s : ByteArray) : sS2b A (.string s) = some (.slice (some ⟨A.length, 0, none⟩) s.size s.size, A ++ [.row (s.data.toList.map by8) .own 1 false]) := id rfl
theorem s2b_byt (A : AH) (s : ByteArray) : OwnB A.length (A ++ [.row (s.data.toList.map by8) .own 1 false]) (.slice (some ⟨A.length, 0, none⟩) s.size s.size) s.data.toList :=
  own_row (get_last _ _) (size_bytes s) (Nat.le_refl _) (Nat.le_refl _)
end Go.AS.C


namespace Go.AS
open Go
set_option linter.unusedVariables false
set_option linter.unusedSimpArgs false

/-! Slices of elements of some cells each, of the call's own: read, written, swapped. -/

/-- All but the row at which v leads is as it was. -/
def KeepV (A : AH) (v : Value) (A' : AH) : Prop := A.length ≤ A'.length ∧ ∀ k b, A[k]? = some b → k ∉ blkOf v → A'[k]? = some b
def OwnE (a0 : Nat) (A : AH) (sz : Nat) (v : Value) (es : List (List Value)) : Prop := (∀ e ∈ es, e.length = sz ∧ ones e = true) ∧ OwnS a0 A sz v es.length es.flatten

section
variable {A B C A0 : AH} {v w : Value} {sz n a0 : Nat} {cs : List Value} {es fs : List (List Value)}
theorem KeepV.refl (A : AH) (v : Value) : KeepV A v A := ⟨Nat.le_refl _, fun _ _ h _ => h⟩
theorem KeepV.trans (h : KeepV A v B) (k : KeepV B v C) : KeepV A v C := ⟨Nat.le_trans h.1 k.1, fun j b hb hj => k.2 j b (h.2 j b hb hj) hj⟩
theorem KeepV.le (h : KeepV A v B) (hl : Le A0 A) (hi : ∀ k ∈ blkOf v, A0.length ≤ k) : Le A0 B := by
  refine Le.of_get (fun k hk => ?_) (Nat.le_trans hl.len h.1)
  have hb : A0[k]? = some A0[k] := List.getElem?_eq_getElem hk
  rw [hb, h.2 k _ (hl.get hb) (fun hm => by have := hi k hm; omega)]
theorem iaddr_any {x i p : Value} {A' : AH} (h : sIaddr A x i sz = some (p, A')) (B : AH) : sIaddr B x i sz = some (p, B) := by
  unfold sIaddr at h ⊢
  split at h
  · rw [Option.bind_eq_some_iff] at h
    obtain ⟨j, h1, h⟩ := h
    split at h
    · rename_i hc
      injection h with h; injection h with h2 h3; subst h2
      simp only [h1, Option.bind_some]
      rw [if_pos hc]
    · cases h
  · cases h
theorem ones_flatten (h : ∀ e ∈ es, e.length = sz ∧ ones e = true) : ones es.flatten = true := by
  unfold ones
  rw [List.all_eq_true]
  intro x hx
  obtain ⟨e, he, hx⟩ := List.mem_flatten.1 hx
  have := (h e he).2
  unfold ones at this
  rw [List.all_eq_true] at this
  exact this x hx
theorem flat_len' (h : ∀ e ∈ es, e.length = sz ∧ ones e = true) : es.flatten.length = es.length * sz := flat_len es sz (fun j c hc => (h c (List.mem_of_getElem? hc)).1)
theorem flat_cut (h : ∀ e ∈ es, e.length = sz ∧ ones e = true) {j : Nat} {e : List Value} (hj : es[j]? = some e) : (es.flatten.drop (j * sz)).take sz = e := by
  have h1 := flat_part es j e hj
  have h2 := flat_len_take es sz (fun j c hc => (h c (List.mem_of_getElem? hc)).1) j (Nat.le_of_lt (lt_of_get hj))
  rw [h2, (h e (List.mem_of_getElem? hj)).1] at h1
  exact h1
theorem flat_at (h : ∀ e ∈ es, e.length = sz ∧ ones e = true) {j o : Nat} {e : List Value} (hj : es[j]? = some e) (ho : o < sz) : es.flatten[j * sz + o]? = e[o]? := by
  have := flat_cut h hj
  rw [← this, List.getElem?_take_of_lt ho, List.getElem?_drop]
/-- An element is read. -/
theorem Sl.el (h : Sl A sz v es.length es.flatten) (he : ∀ e ∈ es, e.length = sz ∧ ones e = true) {j : Nat} {e : List Value} (hj : es[j]? = some e) :
    ∃ p, blkOf p = blkOf v ∧ (∀ (B : AH) (n : Int), n = (j : Int) → sIaddr B v (.int .i64 n) sz = some (p, B)) ∧ sLoadn A p sz = some (.agg e.toArray, A) ∧ ∀ B, (∀ k b, A[k]? = some b → k ∈ blkOf v → B[k]? = some b) → sLoadn B p sz = some (.agg e.toArray, B) := by
  obtain ⟨p, p1, p2⟩ := h.atn (lt_of_get hj)
  rw [flat_cut he hj] at p2
  refine ⟨p, iaddr_blk p1, ?_, p2, fun B hB => ?_⟩
  · rintro B n rfl; exact iaddr_any p1 B
  · have hb := iaddr_blk p1
    unfold sLoadn at p2 ⊢
    split at p2
    · rename_i i o
      rw [Option.bind_eq_some_iff] at p2
      obtain ⟨r, q1, q2⟩ := p2
      rw [Option.map_eq_some_iff] at q2
      obtain ⟨l, q2, q3⟩ := q2
      injection q3 with q3 q4
      obtain ⟨r1, r2, r3, r4⟩ := r
      obtain ⟨g1, g2⟩ := getRow_some q1
      have g3 := hB i _ g1 (by rw [← hb]; simp [blkOf])
      have : getRow B i = some (r1, r2, r3, r4) := by unfold getRow; simp only [g3, if_neg g2]
      simp only [this, Option.bind_some, q2, Option.map_some, q3]
    · cases p2
theorem OwnE.el (h : OwnE a0 A sz v es) {j : Nat} {e : List Value} (hj : es[j]? = some e) :
    ∃ p, blkOf p = blkOf v ∧ (∀ (B : AH) (n : Int), n = (j : Int) → sIaddr B v (.int .i64 n) sz = some (p, B)) ∧ sLoadn A p sz = some (.agg e.toArray, A) ∧ ∀ B, (∀ k b, A[k]? = some b → k ∈ blkOf v → B[k]? = some b) → sLoadn B p sz = some (.agg e.toArray, B) := Sl.el h.2.sl h.1 hj
/-- An element is written. -/
theorem OwnE.put (h : OwnE a0 A sz v es) {j : Nat} {e : List Value} (hj : j < es.length) (h1 : e.length = sz) (h2 : ones e = true) {p : Value} (hp : sIaddr A v (.int .i64 (j : Int)) sz = some (p, A)) :
    ∃ A', sStore A p (.agg e.toArray) sz = some (undef, A') ∧ OwnE a0 A' sz v (es.set j e) ∧ KeepV A v A' := by
  obtain ⟨he, hs⟩ := h
  have hfl := flat_len' he
  have hm : j * sz + sz ≤ es.length * sz := by
    have := Nat.mul_le_mul_right sz (show j + 1 ≤ es.length by omega)
    rw [Nat.add_mul, Nat.one_mul] at this
    exact this
  obtain ⟨h0, hs⟩ := hs
  rcases hs with ⟨rfl, hz⟩ | ⟨rfl, hz⟩ | ⟨i, o, c, rc, ex, rfl, k2, k3, k4, k5, k6⟩
  · omega
  · omega
  · have e1 : sIaddr A (.slice (some ⟨i, o, none⟩) es.length c) (.int .i64 (j : Int)) sz = some (.pointer (some ⟨i, o + j * sz, none⟩), A) := by
      unfold sIaddr
      simp only [asI, Option.bind_some]
      rw [if_pos ⟨by omega, by omega⟩]
      simp
    rw [e1] at hp
    injection hp with hp; injection hp with hp _; subst hp
    have ec : (Value.agg e.toArray).cells = e.toArray := rfl
    refine ⟨A.set i (.row (setAll rc (o + j * sz) e) .own sz ex), ?_, ⟨?_, ?_⟩, ?_⟩
    · unfold sStore
      rw [ec]
      simp only [List.size_toArray]
      rw [if_pos h1]
      unfold wr
      simp only [k4]
      rw [if_pos ⟨by omega, h2⟩]
      rfl
    · intro x hx
      rcases List.mem_or_eq_of_mem_set hx with hx | rfl
      · exact he x hx
      · exact ⟨h1, h2⟩
    · have he' : ∀ x ∈ es.set j e, x.length = sz ∧ ones x = true := by
        intro x hx
        rcases List.mem_or_eq_of_mem_set hx with hx | rfl
        · exact he x hx
        · exact ⟨h1, h2⟩
      have hl2 : (es.set j e).length = es.length := List.length_set ..
      refine ⟨by rw [flat_len' he'], .inr (.inr ⟨i, o, c, setAll rc (o + j * sz) e, ex, by rw [hl2], by rw [hl2]; exact k2, k3, by rw [List.getElem?_set_self (lt_of_get k4)], ?_, ?_⟩)⟩
      · rw [setAll_length _ _ _ (by omega), hl2]; exact k5
      · intro m hm2
        rw [hl2] at hm2
        have hsz : 0 < sz := by
          rcases Nat.eq_zero_or_pos sz with h | h
          · subst h; omega
          · exact h
        rw [setAll_get _ _ _ (by omega)]
        obtain ⟨q, r, rfl, hr⟩ : ∃ q r, m = q * sz + r ∧ r < sz := ⟨m / sz, m % sz, by rw [Nat.mul_comm]; exact (Nat.div_add_mod m sz).symm, Nat.mod_lt _ hsz⟩
        have hq : q < es.length := by
          rcases Nat.lt_or_ge q es.length with h | h
          · exact h
          · have := Nat.mul_le_mul_right sz h; omega
        by_cases hqj : q = j
        · subst hqj
          rw [if_pos ⟨by omega, by omega⟩, flat_at he' (j := q) (o := r) (e := e) (List.getElem?_set_self hq) hr]
          congr 1; omega
        · obtain ⟨x, hx⟩ : ∃ x, es[q]? = some x := ⟨_, List.getElem?_eq_getElem hq⟩
          have hne : ¬ (o + j * sz ≤ o + (q * sz + r) ∧ o + (q * sz + r) < o + j * sz + e.length) := by
            rintro ⟨u1, u2⟩
            rcases Nat.lt_or_gt_of_ne hqj with hlt | hgt
            · have := Nat.mul_le_mul_right sz (show q + 1 ≤ j by omega)
              rw [Nat.add_mul, Nat.one_mul] at this; omega
            · have := Nat.mul_le_mul_right sz (show j + 1 ≤ q by omega)
              rw [Nat.add_mul, Nat.one_mul] at this; omega
          rw [if_neg hne, k6 _ hm2, flat_at he hx hr, flat_at he' (e := x) (by rw [List.getElem?_set_ne (by omega)]; exact hx) hr]
    · refine ⟨by rw [List.length_set]; exact Nat.le_refl _, fun k b hb hk => ?_⟩
      rw [List.getElem?_set_ne (fun h => hk (by subst h; simp [blkOf]))]
      exact hb
theorem OwnE.le (h : OwnE a0 A sz v es) (hl : Le A B) : OwnE a0 B sz v es := ⟨h.1, h.2.le hl⟩
theorem OwnE.ge (h : OwnE a0 A sz v es) : ∀ k ∈ blkOf v, a0 ≤ k ∧ k < A.length := h.2.ge
theorem OwnE.len (h : OwnE a0 A sz v es) : sLens A false v = some (.int .i64 es.length, A) := h.2.sl.len
end
end Go.AS


namespace Go.AS
open Go
set_option linter.unusedVariables false
set_option linter.unusedSimpArgs false

/-! Lists in order by a key; rearrangements that keep what has one key in its order. -/

theorem kl_irr (a : List UInt8) : ¬ a < a := List.lt_irrefl a
section
variable {α : Type} {key : α → List UInt8}
/-- A stable rearrangement. -/
def Rk (key : α → List UInt8) (l l' : List α) : Prop := l'.length = l.length ∧ ∀ k, l'.filter (fun e => decide (key e = k)) = l.filter (fun e => decide (key e = k))
/-- In order. -/
def Srt (key : α → List UInt8) (l : List α) : Prop := l.Pairwise fun a b => ¬ key b < key a

theorem Rk.refl (l : List α) : Rk key l l := ⟨rfl, fun _ => rfl⟩
theorem Rk.trans {a b c : List α} (h : Rk key a b) (k : Rk key b c) : Rk key a c := ⟨k.1.trans h.1, fun x => (k.2 x).trans (h.2 x)⟩
theorem Rk.app {a b c d : List α} (h : Rk key a b) (k : Rk key c d) : Rk key (a ++ c) (b ++ d) :=
  ⟨by simp [h.1, k.1], fun x => by simp [List.filter_append, h.2 x, k.2 x]⟩
theorem Rk.mem {a b : List α} (h : Rk key a b) {x : α} : x ∈ b ↔ x ∈ a := by
  have := h.2 (key x)
  have e : ∀ l : List α, x ∈ l.filter (fun e => decide (key e = key x)) ↔ x ∈ l := fun l => by simp
  rw [← e b, this, e a]
theorem Srt.app {a b : List α} (ha : Srt key a) (hb : Srt key b) (h : ∀ x ∈ a, ∀ y ∈ b, ¬ key y < key x) : Srt key (a ++ b) :=
  List.pairwise_append.2 ⟨ha, hb, h⟩
theorem Srt.left {a b : List α} (h : Srt key (a ++ b)) : Srt key a := (List.pairwise_append.1 h).1
theorem Srt.right {a b : List α} (h : Srt key (a ++ b)) : Srt key b := (List.pairwise_append.1 h).2.1
theorem Srt.get {l : List α} (h : Srt key l) {i j : Nat} {x y : α} (hi : l[i]? = some x) (hj : l[j]? = some y) (hij : i ≤ j) : ¬ key y < key x := by
  rcases Nat.lt_or_ge i j with hlt | hge
  · obtain ⟨h1, h2⟩ := List.getElem?_eq_some_iff.1 hi
    obtain ⟨h3, h4⟩ := List.getElem?_eq_some_iff.1 hj
    have := List.pairwise_iff_getElem.1 h i j h1 h3 hlt
    rw [h2, h4] at this
    exact this
  · have : i = j := by omega
    subst this
    rw [hi] at hj
    obtain rfl := Option.some.inj hj
    exact kl_irr _
theorem Srt.one (x : α) : Srt key [x] := by simp [Srt]
theorem Srt.nil : Srt key ([] : List α) := by simp [Srt]
end
end Go.AS


namespace Go.AS
open Go
set_option maxRecDepth 100000
/-! Codes of library functions that are alike in many chapters (printed by geni.py). -/
end Go.AS


namespace Go.AS
open Go
set_option linter.unusedVariables false
set_option linter.unusedSimpArgs false
set_option maxRecDepth 10000

section
variable {G : Nat} {P : Program} (hm : P.follows .mixedOrders = true) {sz a0 : Nat} {A : AH} {v fv : Value} {Q : Value → AH → Prop}
include hm
end
end Go.AS


namespace Go.AS
open Go
set_option linter.unusedVariables false
set_option linter.unusedSimpArgs false
set_option maxRecDepth 10000

section
variable {G : Nat} {P : Program} (hm : P.follows .mixedOrders = true) {sz a0 : Nat} {A : AH} {v fv : Value} {Q : Value → AH → Prop} {dom : List Value → Prop} {key : List Value → List UInt8}
include hm
end
end Go.AS


namespace Go.AS
open Go
set_option linter.unusedVariables false
set_option linter.unusedSimpArgs false

section
variable {α : Type} {key : α → List UInt8}
theorem get_some {l : List α} {k : Nat} (h : k < l.length) : ∃ x, l[k]? = some x := ⟨_, List.getElem?_eq_getElem h⟩
end
end Go.AS


namespace Go.AS
open Go
set_option linter.unusedVariables false
set_option linter.unusedSimpArgs false
set_option maxRecDepth 10000

section
variable {G : Nat} {P : Program} (hm : P.follows .mixedOrders = true) {sz : Nat} {fv : Value} {dom : List Value → Prop} {key : List Value → List UInt8}

section
variable {A : AH} {v : Value} {a0 : Nat} {X Y : List (List Value)} {r : AT} {R : Exit → AT → AH → Prop}
include hm in
end
end
end Go.AS


namespace Go.AS
open Go
set_option linter.unusedVariables false
set_option linter.unusedSimpArgs false
set_option maxRecDepth 10000

section
variable {G : Nat} {P : Program} (hm : P.follows .mixedOrders = true) {sz : Nat} {fv : Value} {dom : List Value → Prop} {key : List Value → List UInt8}
include hm in
end
end Go.AS


namespace Go.AS
open Go
set_option linter.unusedVariables false
set_option linter.unusedSimpArgs false
set_option maxRecDepth 10000

section
variable {α : Type} {key : α → List UInt8}
/-- In order in parts of so many. -/
def ChS (key : α → List UInt8) (bs : Nat) (l : List α) : Prop := ∀ i, Srt key ((l.drop (i * bs)).take bs)
theorem ChS.nil {bs : Nat} : ChS key bs ([] : List α) := fun i => by simp [Srt]
theorem ChS.push {bs i : Nat} {D S : List α} (h : ChS key bs D) (hD : D.length = i * bs) (hS : S.length ≤ bs) (hs : Srt key S) : ChS key bs (D ++ S) := by
  intro j
  rcases Nat.lt_trichotomy j i with hj | hj | hj
  · have : j * bs + bs ≤ D.length := by
      rw [hD]
      have := Nat.mul_le_mul_right bs (show j + 1 ≤ i by omega)
      rw [Nat.add_mul, Nat.one_mul] at this; exact this
    rw [List.drop_append_of_le_length (by omega), List.take_append_of_le_length (by rw [List.length_drop]; omega)]
    exact h j
  · subst hj
    rw [← hD, List.drop_left, List.take_of_length_le hS]
    exact hs
  · have : (D ++ S).length ≤ j * bs := by
      rw [List.length_append, hD]
      have := Nat.mul_le_mul_right bs (show i + 1 ≤ j by omega)
      rw [Nat.add_mul, Nat.one_mul] at this; omega
    rw [List.drop_of_length_le this]
    simp [Srt]
theorem ChS.all {bs : Nat} {l : List α} (h : ChS key bs l) (hl : l.length ≤ bs) : Srt key l := by
  have := h 0
  rw [Nat.zero_mul, List.drop_zero, List.take_of_length_le hl] at this
  exact this
end

section
variable {G : Nat} {P : Program} (hm : P.follows .mixedOrders = true) {sz a0 : Nat} {A : AH} {v fv : Value} {Q : Value → AH → Prop} {dom : List Value → Prop} {key : List Value → List UInt8}
include hm
end
end Go.AS


namespace Go.AS
open Go
set_option linter.unusedVariables false
set_option linter.unusedSimpArgs false

/-! Slices of elements: cut, cleared, appended to. -/
section
variable {A B C A0 : AH} {v w u : Value} {sz n a0 l k : Nat} {cs e z : List Value} {es fs : List (List Value)} {lo hi : Option Value}

theorem flatten_cut (h : ∀ e ∈ es, e.length = sz ∧ ones e = true) (hlk : l ≤ k) (hk : k ≤ es.length) : ((es.take k).drop l).flatten = (es.flatten.drop (l * sz)).take ((k - l) * sz) := by
  have ht : ∀ j, j ≤ es.length → (es.take j).flatten.length = j * sz := fun j hj => flat_len_take es sz (fun j c hc => (h c (List.mem_of_getElem? hc)).1) j hj
  have e1 : es.flatten = ((es.take k).take l).flatten ++ (((es.take k).drop l).flatten ++ (es.drop k).flatten) := by
    rw [← List.append_assoc, ← List.flatten_append, List.take_append_drop, ← List.flatten_append, List.take_append_drop]
  have l1 : ((es.take k).take l).flatten.length = l * sz := by
    rw [List.take_take, Nat.min_eq_left hlk]; exact ht l (by omega)
  have l2 : ((es.take k).drop l).flatten.length = (k - l) * sz := by
    have := ht k hk
    rw [← List.take_append_drop l (es.take k), List.flatten_append, List.length_append, l1] at this
    rw [Nat.sub_mul]; omega
  rw [e1, ← l1, List.drop_left, ← l2, List.take_left]
/-- A part of a slice. -/
theorem OwnE.cut (h : OwnE a0 A sz v es) (hlk : l ≤ k) (hk : k ≤ es.length) (hb : ∀ c, es.length ≤ c → boundsA es.length c lo hi none = some (l, k, c)) :
    ∃ u, (∀ j ∈ blkOf u, j ∈ blkOf v) ∧ (∃ p c, u = .slice p (k - l) c) ∧ ∀ B fs, OwnE a0 B sz v fs → fs.length = es.length → sSll B v lo hi none sz = some (u, B) ∧ OwnE a0 B sz u ((fs.take k).drop l) := by
  obtain ⟨he, h0, h⟩ := h
  have mem : ∀ fs : List (List Value), (∀ e ∈ fs, e.length = sz ∧ ones e = true) → ∀ e ∈ (fs.take k).drop l, e.length = sz ∧ ones e = true := fun fs hf e hx => hf e (List.mem_of_mem_take (List.mem_of_mem_drop hx))
  rcases h with ⟨rfl, hz⟩ | ⟨rfl, hz⟩ | ⟨i, o, c, rc, ex, rfl, h2, h3, h4, h5, h6⟩
  · have : l = 0 := by omega
    have : k = 0 := by omega
    subst l k
    refine ⟨.slice none 0 0, fun j hj => hj, ⟨_, _, rfl⟩, fun B fs hf hl => ⟨?_, ?_⟩⟩
    · rw [hz] at hb
      unfold sSll
      simp only [hb 0 (Nat.le_refl _)]
      rfl
    · exact ⟨fun e hx => by simp at hx, OwnS.nil _ _ _⟩
  · have : l = 0 := by omega
    have : k = 0 := by omega
    subst l k
    refine ⟨.slice (some zmk) 0 0, fun j hj => hj, ⟨_, _, rfl⟩, fun B fs hf hl => ⟨?_, ?_⟩⟩
    · rw [hz] at hb
      unfold sSll zmk
      simp only [hb 0 (Nat.le_refl _)]
      rfl
    · exact ⟨fun e hx => by simp at hx, by simp, .inr (.inl ⟨rfl, rfl⟩)⟩
  · refine ⟨.slice (some ⟨i, o + l * sz, none⟩) (k - l) (c - l), fun j hj => hj, ⟨_, _, rfl⟩, fun B fs hf hl => ?_⟩
    obtain ⟨hf1, hf0, hf⟩ := hf
    have hlen : ((fs.take k).drop l).length = k - l := by rw [List.length_drop, List.length_take]; omega
    have hmul : l * sz + (k - l) * sz ≤ es.length * sz := by rw [← Nat.add_mul]; exact Nat.mul_le_mul_right _ (by omega)
    rcases hf with ⟨q, _⟩ | ⟨q, _⟩ | ⟨i', o', c', rc', ex', q, q2, q3, q4, q5, q6⟩
    · cases q
    · cases q
    · injection q with q q7 q8
      injection q with q
      injection q with q9 q10
      subst q9 q10 q8
      constructor
      · unfold sSll
        simp only [hb c h2, Option.bind_some]
        unfold rowSz
        rw [q4]
        simp
      · refine ⟨mem fs hf1, by rw [flat_len' (mem fs hf1)], .inr (.inr ⟨i, o + l * sz, c - l, rc', ex', by rw [hlen], by rw [hlen]; omega, q3, q4, by rw [hlen]; rw [hl] at q5; omega, ?_⟩)⟩
        intro j hj
        rw [hlen] at hj
        rw [flatten_cut hf1 hlk (by omega), List.getElem?_take_of_lt hj, List.getElem?_drop, Nat.add_assoc, q6 _ (by rw [hl]; omega)]
theorem ones_rep (hz : ones z = true) (m : Nat) : ones ((List.replicate m z).flatten) = true := by
  unfold ones at *
  rw [List.all_eq_true] at *
  intro x hx
  obtain ⟨l, h1, h2⟩ := List.mem_flatten.1 hx
  rw [List.mem_replicate] at h1
  rw [h1.2] at h2
  exact hz x h2
/-- What stands from l on is cleared. -/
theorem OwnE.clr (h : OwnE a0 A sz v es) (hl : l ≤ es.length) (hz : z.length = sz) (hz1 : ones z = true) (hu : sSll A v (some (.int .i64 (l : Int))) none none sz = some (u, A)) :
    ∃ A', sClr A u z = some (undef, A') ∧ OwnE a0 A' sz v (es.take l ++ List.replicate (es.length - l) z) ∧ KeepV A v A' := by
  have hE := h
  obtain ⟨he, h0, h⟩ := h
  have hb : ∀ c, es.length ≤ c → boundsA es.length c (some (ii l)) none none = some (l, es.length, c) := fun c hc => bnd_lo hl hc
  rcases h with ⟨rfl, hzz⟩ | ⟨rfl, hzz⟩ | ⟨i, o, c, rc, ex, rfl, h2, h3, h4, h5, h6⟩
  · have : l = 0 := by omega
    subst l
    have hes : es = [] := List.length_eq_zero_iff.1 hzz
    subst hes
    have : sSll A (.slice none 0 0) (some (ii (0 : Nat))) none none sz = some (.slice none 0 0, A) := rfl
    rw [show (Value.int .i64 ((0 : Nat) : Int)) = ii (0 : Nat) from rfl, this] at hu
    injection hu with hu; injection hu with hu; subst hu
    exact ⟨A, rfl, hE, .refl _ _⟩
  · have : l = 0 := by omega
    subst l
    have hes : es = [] := List.length_eq_zero_iff.1 hzz
    subst hes
    have : sSll A (.slice (some zmk) 0 0) (some (ii (0 : Nat))) none none sz = some (.slice (some zmk) 0 0, A) := rfl
    rw [show (Value.int .i64 ((0 : Nat) : Int)) = ii (0 : Nat) from rfl, this] at hu
    injection hu with hu; injection hu with hu; subst hu
    exact ⟨A, rfl, hE, .refl _ _⟩
  · have e : sSll A (.slice (some ⟨i, o, none⟩) es.length c) (some (.int .i64 (l : Int))) none none sz = some (.slice (some ⟨i, o + l * sz, none⟩) (es.length - l) (c - l), A) := by
      unfold sSll
      have := hb c h2
      unfold ii at this
      simp only [this, Option.bind_some]
      unfold rowSz
      rw [h4]
      simp
    rw [e] at hu
    injection hu with hu; injection hu with hu _; subst hu
    by_cases hm : es.length - l = 0
    · rw [hm]
      have : l = es.length := by omega
      subst this
      refine ⟨A, rfl, ?_, .refl _ _⟩
      rw [List.take_length]
      simpa using hE
    · obtain ⟨m, hm'⟩ : ∃ m, es.length - l = m + 1 := ⟨es.length - l - 1, by omega⟩
      have hmul : l * sz + (es.length - l) * sz = es.length * sz := by rw [← Nat.add_mul]; congr 1; omega
      have hrl : ((List.replicate (m + 1) z).flatten).length = (m + 1) * sz := by rw [rep_length, hz]
      rw [hm'] at hmul ⊢
      refine ⟨A.set i (.row (setAll rc (o + l * sz) ((List.replicate (m + 1) z).flatten)) .own sz ex), ?_, ⟨?_, ?_⟩, ?_⟩
      · show (wr A i (o + l * sz) _).map _ = _
        unfold wr
        simp only [h4]
        rw [if_pos ⟨by rw [hrl]; omega, ones_rep hz1 _⟩]
        rfl
      · intro x hx
        rcases List.mem_append.1 hx with hx | hx
        · exact he x (List.mem_of_mem_take hx)
        · rw [(List.mem_replicate.1 hx).2]; exact ⟨hz, hz1⟩
      · have hll : (es.take l ++ List.replicate (m + 1) z).length = es.length := by simp; omega
        have hfl : (es.take l).flatten.length = l * sz := flat_len_take es sz (fun j c hc => (he c (List.mem_of_getElem? hc)).1) l hl
        refine ⟨by rw [hll, List.flatten_append, List.length_append, hfl, hrl]; omega, .inr (.inr ⟨i, o, c, _, ex, by rw [hll], by rw [hll]; exact h2, h3, by rw [List.getElem?_set_self (lt_of_get h4)], ?_, ?_⟩)⟩
        · rw [setAll_length _ _ _ (by rw [hrl]; omega), hll]; exact h5
        · intro j hj
          rw [hll] at hj
          rw [setAll_get _ _ _ (by rw [hrl]; omega), List.flatten_append, hrl]
          rcases Nat.lt_or_ge j (l * sz) with hlt | hge
          · rw [if_neg (by omega), h6 _ hj, List.getElem?_append_left (by omega)]
            conv => lhs; rw [← List.take_append_drop l es, List.flatten_append]
            rw [List.getElem?_append_left (by omega)]
          · rw [if_pos (by omega), List.getElem?_append_right (by omega), hfl]
            congr 1; omega
      · refine ⟨by rw [List.length_set]; exact Nat.le_refl _, fun k b hb' hk => ?_⟩
        rw [List.getElem?_set_ne (fun h => hk (by subst h; simp [blkOf]))]
        exact hb'
theorem OwnE.nil (a0 : Nat) (A : AH) (sz : Nat) : OwnE a0 A sz (.slice none 0 0) [] := ⟨(fun e h => by cases h), OwnS.nil _ _ _⟩
/-- One more element. -/
theorem OwnE.push {bytes : Nat} (hl : Le A0 A) (h : OwnE A0.length A sz v es) (hsz : 0 < sz) (he : e.length = sz) (ho : ones e = true) (hb : 2 * ((es.length + 1) * bytes) ≤ 2 ^ 48) (hb0 : 0 < bytes) :
    ∃ v' A', sApp (A ++ [.row e .own sz true]) v (.slice (some ⟨A.length, 0, none⟩) 1 1) sz bytes = some (v', A') ∧ Le A0 A' ∧ OwnE A0.length A' sz v' (es ++ [e]) ∧ KeepV A v A' ∧ (blkOf v' = [A.length + 1] ∨ blkOf v' = blkOf v) := by
  have k1 : Le A (A ++ [.row e .own sz true]) := .push _ _
  have hs : Sl (A ++ [.row e .own sz true]) sz (.slice (some ⟨A.length, 0, none⟩) 1 1) 1 e :=
    ⟨by simp [he], .inr (.inr ⟨A.length, 0, 1, e, .own, true, rfl, by omega, by simp, by simp, by simp [he], fun j _ => by rw [Nat.zero_add]⟩)⟩
  obtain ⟨v', A', e1, e2, e3, e4⟩ := app_cells (bytes := bytes) (hl.trans k1) (h.2.le k1) hs ho hsz hb hb0
  have hf := app_fresh rfl (by simp) e1
  have hle := k1.len
  refine ⟨v', A', e1, e2, ⟨?_, ?_⟩, ⟨?_, fun i b hb hi => e4 i b (k1.get hb) (fun o c q => hi (by rw [q]; simp [blkOf]))⟩, by simpa using hf⟩
  · intro x hx
    rcases List.mem_append.1 hx with hx | hx
    · exact h.1 x hx
    · rw [List.mem_singleton.1 hx]; exact ⟨he, ho⟩
  · simpa using e3
  · refine Nat.le_trans hle ?_
    have : ∀ i, i < (A ++ [Blk.row e .own sz true]).length → i ∉ blkOf v → i < A'.length := by
      intro i hi hv
      exact lt_of_get (e4 i _ (List.getElem?_eq_getElem hi) (fun o c q => hv (by rw [q]; simp [blkOf])))
    have hlast := this A.length (by simp) (fun hv => by have := (h.2.ge A.length hv).2; omega)
    simp
    omega
end
end Go.AS


namespace Go.AS
open Go
set_option maxRecDepth 100000
/-! Codes of library functions that are alike in many chapters (printed by geni.py). -/
end Go.AS


namespace Go.AS
open Go
set_option linter.unusedVariables false
set_option linter.unusedSimpArgs false
set_option maxRecDepth 10000

section
variable {α : Type} {key : α → List UInt8}
end

section
variable {G : Nat} {P : Program} (hm : P.follows .mixedOrders = true) {sz a0 : Nat} {A : AH} {v fv : Value} {Q : Value → AH → Prop} {dom : List Value → Prop} {key : List Value → List UInt8}
include hm
end
end Go.AS


namespace Go.AS
open Go
set_option linter.unusedVariables false
set_option linter.unusedSimpArgs false

/-! One by one into a list that rises; what has the key of one that is there goes. -/
section
variable {α β : Type} {key : α → List UInt8}
theorem Rk.map {f : β → α} {kb : β → List UInt8} {a b : List β} (h : Rk kb a b) (hk : ∀ x ∈ a, kb x = key (f x)) : Rk key (a.map f) (b.map f) := by
  refine ⟨by simp [h.1], fun k => ?_⟩
  have aux : ∀ l : List β, (∀ x ∈ l, kb x = key (f x)) → (l.map f).filter (fun e => decide (key e = k)) = (l.filter (fun e => decide (kb e = k))).map f := by
    intro l hl
    rw [List.filter_map]
    congr 1
    apply List.filter_congr
    intro x hx
    simp [hl x hx]
  rw [aux b (fun x hx => hk x (h.mem.1 hx)), aux a hk, h.2 k]
theorem Srt.map {f : β → α} {kb : β → List UInt8} {a : List β} (h : Srt kb a) (hk : ∀ x ∈ a, kb x = key (f x)) : Srt key (a.map f) := by
  unfold Srt at *
  rw [List.pairwise_map]
  exact h.imp_of_mem (fun {x y} hx hy hxy => by rw [← hk x hx, ← hk y hy]; exact hxy)
end
end Go.AS


namespace Go.AS
open Go
set_option linter.unusedVariables false
set_option linter.unusedSimpArgs false

/-! Texts: their order. -/
abbrev bl (s : ByteArray) : List UInt8 := s.data.toList
theorem bl_inj {a b : ByteArray} : bl a = bl b ↔ a = b := by
  constructor
  · intro h; cases a; cases b; congr; exact Array.toList_inj.1 h
  · rintro rfl; rfl
section
variable {A B : AH} {sz n : Nat} {v x : Value} {cs : List Value}
theorem get_snoc {b : Blk} : (A ++ [b])[A.length]? = some b := by simp
end
end Go.AS


namespace Go.AS
open Go
set_option linter.unusedVariables false
set_option linter.unusedSimpArgs false

/-! Slices of one's own that stand apart; structs that are copied. -/
section
variable {A B C A0 : AH} {v w u x : Value} {sz s2 n m a0 b0 i : Nat} {cs ds e z : List Value} {es fs : List (List Value)}
theorem OwnS.apart (h : OwnS a0 A sz v n cs) (k : OwnS b0 A s2 w m ds) (hs : sz ≠ s2) : ∀ j ∈ blkOf w, j ∉ blkOf v := by
  obtain ⟨_, h⟩ := h
  obtain ⟨_, k⟩ := k
  intro j hj hv
  rcases k with ⟨rfl, _⟩ | ⟨rfl, _⟩ | ⟨i, o, c, rc, ex, rfl, k2, k3, k4, _⟩
  · cases hj
  · cases hj
  · simp only [blkOf, List.mem_singleton] at hj
    subst hj
    rcases h with ⟨rfl, _⟩ | ⟨rfl, _⟩ | ⟨i', o', c', rc', ex', rfl, h2, h3, h4, _⟩
    · cases hv
    · cases hv
    · simp only [blkOf, List.mem_singleton] at hv
      subst hv
      rw [h4] at k4
      injection k4 with k4
      injection k4 with _ _ k4 _
      exact hs k4
theorem OwnE.mono (h : OwnE a0 A sz v es) (hb : b0 ≤ a0) : OwnE b0 A sz v es := ⟨h.1, h.2.mono hb⟩
theorem OwnB.le {bs : List UInt8} (h : OwnB a0 A v bs) (hl : Le A B) : OwnB a0 B v bs := OwnS.le h hl
theorem OwnB.mono {bs : List UInt8} (h : OwnB a0 A v bs) (hb : b0 ≤ a0) : OwnB b0 A v bs := OwnS.mono h hb
theorem Sl.lenB (h : Sl A sz v n cs) (B : AH) : sLens B false v = some (.int .i64 n, B) := by
  obtain ⟨_, h⟩ := h
  rcases h with ⟨rfl, rfl⟩ | ⟨rfl, rfl⟩ | ⟨_, _, _, _, _, _, rfl, _⟩ <;> rfl
theorem KeepV.of_own (h : OwnS a0 A sz v n cs) (hl : A.length ≤ B.length) (hk : ∀ i b, A[i]? = some b → (∀ o c, v ≠ .slice (some ⟨i, o, none⟩) n c) → B[i]? = some b) : KeepV A v B :=
  ⟨hl, fun i b hb hi => hk i b hb (fun o c q => hi (by rw [q]; simp [blkOf]))⟩
theorem appI_len {s : Value} {new : List Value} {k bytes : Nat} {r : Value × AH} (h : appA A s new k sz bytes = some r) : A.length ≤ r.2.length := by
  unfold appA at h
  cases hi : appI A s new k sz bytes with
  | some q =>
    rw [hi] at h
    obtain rfl := Option.some.inj h
    unfold appI at hi
    split at hi
    · split at hi
      · split at hi
        · injection hi with hi; subst hi; simp
        · cases hi
      · cases hi
    · cases hi
  | none =>
  rw [hi, Option.none_or] at h
  unfold appA1 at h
  cases hf : appF A s new k sz bytes with
  | some q =>
    rw [hf] at h
    obtain rfl := Option.some.inj h
    unfold appF at hf
    split at hf
    · split at hf
      · split at hf
        · injection hf with hf; subst hf; simp
        · cases hf
      · cases hf
    · cases hf
  | none =>
  rw [hf, Option.none_or] at h
  unfold appA0 at h
  split at h
  · split at h
    · injection h with h; subst h; exact Nat.le_refl _
    · injection h with h; subst h; exact Nat.le_refl _
    · cases h
  · rw [Option.bind_eq_some_iff] at h
    obtain ⟨q, h1, h⟩ := h
    split at h
    · injection h with h; subst h
      simp only [List.length_append]
      rw [appBase_len h1]; omega
    · cases h
theorem sApp_len {s x : Value} {bytes : Nat} {v' : Value} {A' : AH} (h : sApp A s x sz bytes = some (v', A')) : A.length ≤ A'.length := by
  unfold sApp at h
  split at h
  · rw [Option.bind_eq_some_iff] at h
    obtain ⟨new, _, h⟩ := h
    exact appI_len h
  · cases h
/-- append(v, x...): bytes. -/
theorem OwnB.app {bs xs : List UInt8} (hl : Le A0 A) (h : OwnB A0.length A v bs) (hx : Byt A x xs) (hb : bs.length + xs.length ≤ 2 ^ 47) :
    ∃ v' A', sApp A v x 1 1 = some (v', A') ∧ Le A0 A' ∧ OwnB A0.length A' v' (bs ++ xs) ∧ KeepV A v A' := by
  obtain ⟨v', A', h1, h2, h3, h4⟩ := app_bytes hl h hx hb
  exact ⟨v', A', h1, h2, h3, KeepV.of_own h (sApp_len h1) h4⟩
/-- append(v, s...): a text's bytes. -/
theorem OwnB.apps {bs : List UInt8} {s : ByteArray} (hl : Le A0 A) (h : OwnB A0.length A v bs) (hb : bs.length + s.size ≤ 2 ^ 47) :
    ∃ v' A', sApps A v (.string s) 1 = some (v', A') ∧ Le A0 A' ∧ OwnB A0.length A' v' (bs ++ bl s) ∧ KeepV A v A' := by
  have he : u8s s = (bl s).map by8 := rfl
  have hls : (bl s).length = s.size := by simp
  obtain ⟨v', A', h1, h2, h3, h4⟩ := app_own (new := u8s s) (k := s.size) (bytes := 1) hl h (by omega) (by omega) (by omega) (by rw [he, List.length_map, hls, Nat.mul_one]) (by rw [he]; exact Byt.ones8 _)
  refine ⟨v', A', h1, h2, ?_, KeepV.of_own h (appI_len h1) h4⟩
  unfold OwnB
  rw [List.length_append, List.map_append, hls, ← he]
  exact h3
/-- One more text. -/
theorem app_str {l : List ByteArray} (s : ByteArray) (hl : Le A0 A) (h : OwnS A0.length A 1 w l.length (l.map .string)) (hb : l.length ≤ 2 ^ 40) :
    sLit A [.string ⟨#[]⟩] 1 1 [(0, 1, .string s)] = some (.slice (some ⟨A.length, 0, none⟩) 1 1, A ++ [.row [.string s] .own 1 true]) ∧
    ∃ w' A', sApp (A ++ [.row [.string s] .own 1 true]) w (.slice (some ⟨A.length, 0, none⟩) 1 1) 1 16 = some (w', A') ∧ Le A0 A' ∧ OwnS A0.length A' 1 w' (l ++ [s]).length ((l ++ [s]).map .string) ∧ KeepV A w A' := by
  have l1 := lit1 (A := A) (z := .string ⟨#[]⟩) (len := 1) (ps := [(0, 1, .string s)]) [.string s] rfl rfl (by
    intro y hy
    rw [List.mem_singleton] at hy
    subst hy; exact one1_str _)
  have k1 : Le A (A ++ [.row [.string s] .own 1 true]) := .push _ _
  obtain ⟨v2, A2, p1, p2, p3, p4⟩ := app_cells (bytes := 16) (hl.trans k1) (OwnS.le h k1) (sl_last A (cs := [.string s]) (st := .own) (ex := true) (c := 1) (by simp) (by simp)) rfl (by omega) (by simp; omega) (by omega)
  rw [List.length_singleton] at l1 p1
  refine ⟨l1, v2, A2, p1, p2, by simpa using p3, ⟨Nat.le_trans k1.len (sApp_len p1), fun i b hb hi => p4 i b (k1.get hb) (fun o c q => hi (by rw [q]; simp [blkOf]))⟩⟩
theorem KeepV.get (h : KeepV A v B) {j : Nat} {b : Blk} (hb : A[j]? = some b) (hj : j ∉ blkOf v) : B[j]? = some b := h.2 j b hb hj
theorem KeepV.rd (h : KeepV A v B) {R : List Nat} (hR : ∀ k ∈ R, k ∉ blkOf v) : RdOk R A B := fun k hk b hb => h.2 k b hb (hR k hk)
theorem Byt.one1 {bs : List UInt8} (h : Byt A v bs) : AS.one1 v := by
  obtain ⟨p, c, hs, _⟩ := h.shape
  rw [hs]; exact one1_sl _ _ _
theorem Sl.one1 (h : Sl A sz v n cs) : AS.one1 v := by
  obtain ⟨_, h⟩ := h
  rcases h with ⟨rfl, _⟩ | ⟨rfl, _⟩ | ⟨_, _, _, _, _, _, rfl, _⟩ <;> exact one1_sl _ _ _
end
end Go.AS


namespace Go.AS
open Go
set_option linter.unusedVariables false
set_option linter.unusedSimpArgs false

section
variable {A B C A0 : AH} {v w u x : Value} {sz s2 n m a0 b0 i k : Nat} {cs ds e z : List Value} {es fs : List (List Value)}
theorem faddr_any {p q : Value} {o : Nat} {A' : AH} (h : sFaddr A p o = some (q, A')) (B : AH) : sFaddr B p o = some (q, B) := by
  unfold sFaddr at h ⊢
  split at h
  · injection h with h; injection h with h _; subst h; rfl
  · cases h
theorem faddr_blk {p q : Value} {o : Nat} {A' : AH} (h : sFaddr A p o = some (q, A')) : blkOf q = blkOf p := by
  unfold sFaddr at h
  split at h
  · injection h with h; injection h with h _; subst h; rfl
  · cases h
theorem load1_keep {p x : Value} (h : sLoad1 A p = some (x, A)) (hB : ∀ k b, A[k]? = some b → k ∈ blkOf p → B[k]? = some b) : sLoad1 B p = some (x, B) := by
  unfold sLoad1 at h ⊢
  split at h
  · rename_i i o
    rw [Option.bind_eq_some_iff] at h
    obtain ⟨r, q1, q2⟩ := h
    rw [Option.map_eq_some_iff] at q2
    obtain ⟨l, q2, q3⟩ := q2
    injection q3 with q3 q4
    obtain ⟨r1, r2, r3, r4⟩ := r
    obtain ⟨g1, g2⟩ := getRow_some q1
    have g3 := hB i _ g1 (by simp [blkOf])
    have : getRow B i = some (r1, r2, r3, r4) := by unfold getRow; simp only [g3, if_neg g2]
    simp only [this, Option.bind_some, q2, Option.map_some, q3]
  · cases h
/-- A part of an element is read. -/
theorem Sl.elf (h : Sl A sz v es.length es.flatten) (he : ∀ e ∈ es, e.length = sz ∧ ones e = true) {j o : Nat} {e : List Value} {x : Value} (hj : es[j]? = some e) (ho : e[o]? = some x) :
    ∃ p q, blkOf q = blkOf v ∧ (∀ (B : AH) (n : Int), n = (j : Int) → sIaddr B v (.int .i64 n) sz = some (p, B)) ∧ (∀ B, sFaddr B p o = some (q, B)) ∧ sLoad1 A q = some (x, A) := by
  have hel := (he e (List.mem_of_getElem? hj)).1
  have hlt := lt_of_get ho
  obtain ⟨p, q, p1, p2, p3⟩ := h.field (v0 := x) (lt_of_get hj) (off := o) (by omega) (by rw [flat_at he hj (by omega)]; exact ho)
  refine ⟨p, q, ?_, ?_, faddr_any p2, p3⟩
  · rw [faddr_blk p2, iaddr_blk p1]
  · rintro B n rfl; exact iaddr_any p1 B
theorem Sl.elfL (h : Sl A sz v es.length es.flatten) (he : ∀ e ∈ es, e.length = sz ∧ ones e = true) {j o : Nat} {e : List Value} {x : Value} (hj : es[j]? = some e) (ho : e[o]? = some x) :
    ∃ p q, (∀ (B : AH) (n : Int), n = (j : Int) → sIaddr B v (.int .i64 n) sz = some (p, B)) ∧ (∀ B, sFaddr B p o = some (q, B)) ∧ ∀ B, Le A B → sLoad1 B q = some (x, B) := by
  obtain ⟨p, q, _, p1, p2, p3⟩ := h.elf he hj ho
  exact ⟨p, q, p1, p2, fun B hB => load1_keep p3 (fun k b hb _ => hB.get hb)⟩
/-- An element of one cell is read. -/
theorem Sl.at1L (h : Sl A 1 v n cs) {j : Nat} {x : Value} (hj : cs[j]? = some x) : ∃ p, (∀ (B : AH) (n : Int), n = (j : Int) → sIaddr B v (.int .i64 n) 1 = some (p, B)) ∧ ∀ B, Le A B → sLoad1 B p = some (x, B) := by
  obtain ⟨p, p1, p2⟩ := h.at1 hj
  exact ⟨p, by rintro B n rfl; exact iaddr_any p1 B, fun B hB => load1_keep p2 (fun k b hb _ => hB.get hb)⟩
/-- Two values lead to blocks apart. -/
def Ap (v w : Value) : Prop := ∀ j ∈ blkOf v, j ∉ blkOf w
theorem Ap.symm (h : Ap v w) : Ap w v := fun j hj hk => h j hk hj
theorem Ap.grow {v' : Value} {n : Nat} (h : Ap v w) (hb : ∀ j ∈ blkOf v', j ∈ blkOf v ∨ n ≤ j) (hw : ∀ j ∈ blkOf w, j < n) : Ap v' w := fun j hj hk => by
  rcases hb j hj with h1 | h1
  · exact h j h1 hk
  · have := hw j hk; omega
theorem Ap.nil {n c : Nat} : Ap (.slice none n c) w := fun j hj => by cases hj
theorem OwnS.lt {sz n : Nat} {cs : List Value} (h : OwnS a0 A sz v n cs) : ∀ j ∈ blkOf v, j < A.length := fun j hj => (h.ge j hj).2
theorem sApp_blk {s x : Value} {bytes : Nat} {v' : Value} {A' : AH} (h : sApp A s x sz bytes = some (v', A')) : ∀ j ∈ blkOf v', j ∈ blkOf s ∨ A.length ≤ j := by
  intro j hj
  have hx : ∃ p k c, x = .slice p k c := by
    unfold sApp at h
    split at h
    · exact ⟨_, _, _, rfl⟩
    · cases h
  obtain ⟨p, k, c, rfl⟩ := hx
  by_cases hk : k = 0
  · subst hk
    unfold sApp at h
    simp only [Option.bind_eq_some_iff] at h
    obtain ⟨new, _, h⟩ := h
    unfold appA at h
    rw [appI_zero, Option.none_or] at h
    unfold appA1 at h
    rw [appF_zero, Option.none_or] at h
    unfold appA0 at h
    rw [if_pos rfl] at h
    split at h
    · injection h with h; injection h with h _; subst h; exact .inl hj
    · injection h with h; injection h with h _; subst h; exact .inl hj
    · cases h
  · rcases app_fresh rfl hk h with e | e
    · rw [e, List.mem_singleton] at hj; exact .inr (by omega)
    · rw [e] at hj; exact .inl hj
/-- Elements of another slice are appended. -/
theorem OwnE.app {bytes : Nat} (hl : Le A0 A) (h : OwnE A0.length A sz v es) (hx : Sl A sz x fs.length fs.flatten) (hf : ∀ e ∈ fs, e.length = sz ∧ ones e = true) (hsz : 0 < sz) (hb : 2 * ((es.length + fs.length) * bytes) ≤ 2 ^ 48) (hb0 : 0 < bytes) :
    ∃ v' A', sApp A v x sz bytes = some (v', A') ∧ Le A0 A' ∧ OwnE A0.length A' sz v' (es ++ fs) ∧ KeepV A v A' := by
  obtain ⟨v', A', e1, e2, e3, e4⟩ := app_cells (bytes := bytes) hl h.2 hx (ones_flatten hf) hsz hb hb0
  refine ⟨v', A', e1, e2, ⟨?_, by simpa using e3⟩, KeepV.of_own h.2 (sApp_len e1) e4⟩
  intro y hy
  rcases List.mem_append.1 hy with hy | hy
  · exact h.1 y hy
  · exact hf y hy
theorem lit_noneE (A : AH) (z : List Value) (sz : Nat) (hl : Le A0 A) : sLit A z sz 0 [] = some (.slice (some ⟨A.length, 0, none⟩) 0 0, A ++ [.row [] .own sz true]) ∧ OwnE A0.length (A ++ [.row [] .own sz true]) sz (.slice (some ⟨A.length, 0, none⟩) 0 0) [] := by
  refine ⟨rfl, (fun e he => by cases he), by simp, .inr (.inr ⟨A.length, 0, 0, [], true, rfl, Nat.le_refl _, hl.len, get_snoc, by simp, by simp⟩)⟩
end
section
variable {α : Type} {key : α → List UInt8}
end
end Go.AS


-- ALIAS Tryd G 3
-- Printed by gen.py (wip/tools): the abstract code of each function, and that it fits the program.
namespace Go.AS.C
open Go Go.Proofs
set_option maxRecDepth 100000
abbrev chantrylaw40_TellSteps : FuncId := 3
abbrev chantrylaw40_TellStates : FuncId := 4
abbrev chantrylaw40_TellUnlike : FuncId := 5
abbrev chantryref39_Large : FuncId := 6
abbrev chantrylaw40_large : FuncId := 7
abbrev chantrylaw40_awake : FuncId := 8
abbrev tell_Step : FuncId := 9
abbrev chantryref40_Step : FuncId := 10
abbrev chantryref01_Texts : FuncId := 11
abbrev tell_Reply : FuncId := 12
abbrev chantryref40_Reply : FuncId := 13
abbrev tell_Fault : FuncId := 14
abbrev chantryref40_Fault : FuncId := 15
abbrev tell_State : FuncId := 16
abbrev chantryref40_State : FuncId := 17
abbrev chantryref23_Same : FuncId := 18
abbrev chantryref39_Check : FuncId := 19
abbrev chantryref39_Same : FuncId := 20
abbrev tell_digits : FuncId := 21
abbrev strconv_Itoa : FuncId := 22
abbrev tell_line : FuncId := 23
abbrev chantryref40_name : FuncId := 24
abbrev chantryref40_digits : FuncId := 25
abbrev chantryref40_number : FuncId := 26
abbrev tell_words : FuncId := 27
abbrev chantryref40_words : FuncId := 28
abbrev chantryref19_Same : FuncId := 29
abbrev chantryref20_SameWords : FuncId := 30
abbrev chantryref39_may : FuncId := 31
abbrev chantryref01_Bytes : FuncId := 32
abbrev chantryref01_Ints : FuncId := 33
abbrev ids_Hex : FuncId := 34
abbrev strings_Join : FuncId := 36
abbrev chantryref04_Hex : FuncId := 37
abbrev chantryref14_Digits : FuncId := 38
abbrev chantryref39_uses : FuncId := 39
abbrev strings_Builder_Grow : FuncId := 41
abbrev strings_Builder_WriteString : FuncId := 42
abbrev strings_Builder_String : FuncId := 43
abbrev strings_Builder_copyCheck : FuncId := 48
abbrev strings_Builder_grow : FuncId := 49
/-- chantry/chantrylaw40.TellSteps -/
noncomputable def ic_chantrylaw40_TellSteps : IC :=
  (.seq (.ops [
    ⟨(some 3), none, false, .box (.tmp 0)⟩,
    ⟨(some 4), none, false, .box (.tmp 1)⟩,
    ⟨(some 5), none, false, .box (.tmp 2)⟩,
    ⟨(some 6), none, false, .mov (.const (.bool false))⟩]) (.seq (.seq (.ops [
    ⟨(some 7), none, false, .loadn (.tmp 3) 5⟩,
    ⟨(some 8), none, false, .faddr (.tmp 4) 2⟩,
    ⟨(some 9), none, false, .load1 (.tmp 8)⟩,
    ⟨(some 10), none, false, .faddr (.tmp 4) 1⟩,
    ⟨(some 11), none, false, .load1 (.tmp 10)⟩,
    ⟨(some 12), none, false, .build [.int .i64 0, .slice none 0 0, .slice none 0 0, .int .i64 0, .slice none 0 0] [(1, 1, (.tmp 9)), (2, 1, (.tmp 11))]⟩,
    ⟨(some 13), none, false, .lit [.int .i64 0, .slice none 0 0, .slice none 0 0, .int .i64 0, .slice none 0 0] 5 2 [(0, 5, (.tmp 7)), (5, 5, (.tmp 12))]⟩,
    ⟨(some 14), none, false, .call chantryref39_Large [(.tmp 13), (.const (.int .i64 2))]⟩,
    ⟨(some 15), none, false, .mov (.tmp 14)⟩,
    ⟨(some 16), (some (15, false)), false, .faddr (.tmp 4) 3⟩,
    ⟨(some 17), (some (15, false)), false, .loadn (.tmp 16) 4⟩,
    ⟨(some 18), (some (15, false)), false, .call chantrylaw40_large [(.tmp 17)]⟩,
    ⟨(some 19), none, false, .pick (.tmp 15) (.const (.bool true)) (.tmp 18)⟩]) (.cond (.tmp 19) (.seq (.ops [
    ⟨(some 20), none, false, .call chantrylaw40_awake []⟩,
    ⟨(some 6), none, false, .mov (.tmp 20)⟩]) .ret) .skip)) (.seq (.draw [
    ⟨(some 21), none, false, .loadn (.tmp 3) 5⟩,
    ⟨(some 23), none, true, .loadn (.tmp 3) 5⟩,
    ⟨(some 22), none, true, .call tell_Step [(.tmp 21)]⟩,
    ⟨(some 24), none, false, .call chantryref40_Step [(.tmp 23)]⟩,
    ⟨(some 25), none, false, .bin .eql (.tmp 22) (.tmp 24)⟩,
    ⟨(some 26), none, false, .mov (.tmp 25)⟩,
    ⟨(some 27), (some (26, true)), false, .loadn (.tmp 3) 5⟩,
    ⟨(some 28), (some (26, true)), false, .loadn (.tmp 4) 7⟩,
    ⟨(some 30), (some (26, true)), true, .loadn (.tmp 3) 5⟩,
    ⟨(some 31), (some (26, true)), true, .loadn (.tmp 4) 7⟩,
    ⟨(some 29), (some (26, true)), true, .call tell_Reply [(.tmp 27), (.tmp 28)]⟩,
    ⟨(some 32), (some (26, true)), false, .call chantryref40_Reply [(.tmp 30), (.tmp 31)]⟩,
    ⟨(some 33), (some (26, true)), false, .call chantryref01_Texts [(.tmp 29), (.tmp 32)]⟩,
    ⟨(some 34), none, false, .pick (.tmp 26) (.tmp 33) (.const (.bool false))⟩,
    ⟨(some 35), none, false, .mov (.tmp 34)⟩,
    ⟨(some 36), (some (35, true)), false, .loadn (.tmp 5) 2⟩,
    ⟨(some 38), (some (35, true)), true, .loadn (.tmp 5) 2⟩,
    ⟨(some 37), (some (35, true)), true, .call tell_Fault [(.tmp 36)]⟩,
    ⟨(some 39), (some (35, true)), false, .call chantryref40_Fault [(.tmp 38)]⟩,
    ⟨(some 40), (some (35, true)), false, .bin .eql (.tmp 37) (.tmp 39)⟩,
    ⟨(some 41), none, false, .pick (.tmp 35) (.tmp 40) (.const (.bool false))⟩,
    ⟨(some 42), none, false, .mov (.tmp 41)⟩,
    ⟨(some 43), (some (42, true)), false, .call chantrylaw40_awake []⟩,
    ⟨(some 44), none, false, .pick (.tmp 42) (.tmp 43) (.const (.bool false))⟩,
    ⟨(some 6), none, false, .mov (.tmp 44)⟩]) .ret)))
theorem fits_chantrylaw40_TellSteps : Fits Tryd.prog 3 chantrylaw40_TellSteps ic_chantrylaw40_TellSteps [.tmp 6] 3 :=
  ⟨Tryd.f3, Tryd.func3, by decide, by kernel_rfl, by kernel_rfl⟩

/-- chantry/chantrylaw40.TellStates -/
noncomputable def ic_chantrylaw40_TellStates : IC :=
  (.seq (.ops [
    ⟨(some 1), none, false, .box (.tmp 0)⟩,
    ⟨(some 2), none, false, .mov (.const (.bool false))⟩]) (.seq (.seq (.ops [
    ⟨(some 3), none, false, .loadn (.tmp 1) 4⟩,
    ⟨(some 4), none, false, .call chantrylaw40_large [(.tmp 3)]⟩]) (.cond (.tmp 4) (.seq (.ops [
    ⟨(some 5), none, false, .call chantrylaw40_awake []⟩,
    ⟨(some 2), none, false, .mov (.tmp 5)⟩]) .ret) .skip)) (.seq (.draw [
    ⟨(some 6), none, false, .loadn (.tmp 1) 4⟩,
    ⟨(some 8), none, true, .loadn (.tmp 1) 4⟩,
    ⟨(some 7), none, true, .call tell_State [(.tmp 6)]⟩,
    ⟨(some 9), none, false, .call chantryref40_State [(.tmp 8)]⟩,
    ⟨(some 10), none, false, .call chantryref01_Texts [(.tmp 7), (.tmp 9)]⟩,
    ⟨(some 11), none, false, .mov (.tmp 10)⟩,
    ⟨(some 12), (some (11, true)), false, .call chantrylaw40_awake []⟩,
    ⟨(some 13), none, false, .pick (.tmp 11) (.tmp 12) (.const (.bool false))⟩,
    ⟨(some 2), none, false, .mov (.tmp 13)⟩]) .ret)))
theorem fits_chantrylaw40_TellStates : Fits Tryd.prog 3 chantrylaw40_TellStates ic_chantrylaw40_TellStates [.tmp 2] 1 :=
  ⟨Tryd.f4, Tryd.func4, by decide, by kernel_rfl, by kernel_rfl⟩

/-- chantry/chantrylaw40.TellUnlike -/
noncomputable def ic_chantrylaw40_TellUnlike : IC :=
  (.seq (.ops [
    ⟨(some 3), none, false, .box (.tmp 0)⟩,
    ⟨(some 4), none, false, .box (.tmp 1)⟩,
    ⟨(some 5), none, false, .box (.tmp 2)⟩,
    ⟨(some 6), none, false, .mov (.const (.bool false))⟩]) (.seq (.seq (.ops [
    ⟨(some 13), none, false, .loadn (.tmp 3) 4⟩,
    ⟨(some 14), none, false, .call chantrylaw40_large [(.tmp 13)]⟩,
    ⟨(some 15), none, false, .mov (.tmp 14)⟩,
    ⟨(some 16), (some (15, false)), false, .loadn (.tmp 4) 4⟩,
    ⟨(some 17), (some (15, false)), false, .call chantrylaw40_large [(.tmp 16)]⟩,
    ⟨(some 18), none, false, .pick (.tmp 15) (.const (.bool true)) (.tmp 17)⟩,
    ⟨(some 19), none, false, .mov (.tmp 18)⟩,
    ⟨(some 20), (some (19, false)), false, .iarr (.tmp 5) (.const (.int .i64 0)) 2 5⟩,
    ⟨(some 21), (some (19, false)), false, .loadn (.tmp 20) 5⟩,
    ⟨(some 22), (some (19, false)), false, .iarr (.tmp 5) (.const (.int .i64 1)) 2 5⟩,
    ⟨(some 23), (some (19, false)), false, .loadn (.tmp 22) 5⟩,
    ⟨(some 24), (some (19, false)), false, .lit [.int .i64 0, .slice none 0 0, .slice none 0 0, .int .i64 0, .slice none 0 0] 5 2 [(0, 5, (.tmp 21)), (5, 5, (.tmp 23))]⟩,
    ⟨(some 25), (some (19, false)), false, .call chantryref39_Large [(.tmp 24), (.const (.int .i64 2))]⟩,
    ⟨(some 26), none, false, .pick (.tmp 19) (.const (.bool true)) (.tmp 25)⟩]) (.cond (.tmp 26) (.seq (.ops [
    ⟨(some 27), none, false, .call chantrylaw40_awake []⟩,
    ⟨(some 6), none, false, .mov (.tmp 27)⟩]) .ret) .skip)) (.seq (.draw [
    ⟨(some 29), none, false, .faddr (.tmp 3) 0⟩,
    ⟨(some 30), none, true, .load1 (.tmp 29)⟩,
    ⟨(some 32), none, false, .faddr (.tmp 4) 0⟩,
    ⟨(some 33), none, true, .load1 (.tmp 32)⟩,
    ⟨(some 28), none, true, .lit [.string ⟨#[]⟩, .int .i64 0] 2 0 []⟩,
    ⟨(some 31), none, true, .app (.tmp 28) (.tmp 30) 2 24⟩,
    ⟨(some 34), none, false, .app (.tmp 31) (.tmp 33) 2 24⟩,
    ⟨(some 7), none, false, .mov (.tmp 34)⟩]) (.seq (.seq (.ops [
    ⟨(some 8), none, false, .mov (.const (.int .i64 0))⟩]) (.block 0 (.loop (.seq (.seq (.ops [
    ⟨(some 35), none, false, .mov (.tmp 8)⟩,
    ⟨(some 36), none, false, .mov (.tmp 7)⟩,
    ⟨(some 37), none, false, .lens false (.tmp 36)⟩,
    ⟨(some 38), none, false, .bin .lss (.tmp 35) (.tmp 37)⟩]) (.cond (.tmp 38) .skip (.exit 0))) (.seq (.block 1 (.seq (.ops [
    ⟨(some 9), none, false, .mov (.const (.int .i64 0))⟩]) (.block 2 (.loop (.seq (.seq (.ops [
    ⟨(some 41), none, false, .mov (.tmp 9)⟩,
    ⟨(some 42), none, false, .mov (.tmp 7)⟩,
    ⟨(some 43), none, false, .mov (.tmp 8)⟩,
    ⟨(some 44), none, false, .iaddr (.tmp 42) (.tmp 43) 2⟩,
    ⟨(some 45), none, false, .faddr (.tmp 44) 0⟩,
    ⟨(some 46), none, false, .load1 (.tmp 45)⟩,
    ⟨(some 47), none, false, .lens true (.tmp 46)⟩,
    ⟨(some 48), none, false, .bin .lss (.tmp 41) (.tmp 47)⟩]) (.cond (.tmp 48) .skip (.exit 2))) (.seq (.block 3 (.seq (.ops [
    ⟨(some 51), none, false, .mov (.tmp 7)⟩,
    ⟨(some 52), none, false, .mov (.tmp 8)⟩,
    ⟨(some 53), none, false, .iaddr (.tmp 51) (.tmp 52) 2⟩,
    ⟨(some 54), none, false, .faddr (.tmp 53) 0⟩,
    ⟨(some 55), none, false, .load1 (.tmp 54)⟩,
    ⟨(some 56), none, false, .mov (.tmp 9)⟩,
    ⟨(some 57), none, false, .idxs (.tmp 55) (.tmp 56)⟩,
    ⟨(some 58), none, false, .bin .eql (.tmp 57) (.const (.int .u8 32))⟩]) (.cond (.tmp 58) (.seq (.ops [
    ⟨(some 59), none, false, .call chantrylaw40_awake []⟩,
    ⟨(some 6), none, false, .mov (.tmp 59)⟩]) .ret) .skip))) (.ops [
    ⟨(some 49), none, false, .mov (.tmp 9)⟩,
    ⟨(some 50), none, false, .bin .add (.tmp 49) (.const (.int .i64 1))⟩,
    ⟨(some 9), none, false, .mov (.tmp 50)⟩]))))))) (.ops [
    ⟨(some 39), none, false, .mov (.tmp 8)⟩,
    ⟨(some 40), none, false, .bin .add (.tmp 39) (.const (.int .i64 1))⟩,
    ⟨(some 8), none, false, .mov (.tmp 40)⟩])))))) (.seq (.draw [
    ⟨(some 61), none, false, .faddr (.tmp 3) 1⟩,
    ⟨(some 62), none, true, .load1 (.tmp 61)⟩,
    ⟨(some 64), none, false, .faddr (.tmp 3) 2⟩,
    ⟨(some 65), none, true, .load1 (.tmp 64)⟩,
    ⟨(some 67), none, false, .faddr (.tmp 3) 3⟩,
    ⟨(some 68), none, true, .load1 (.tmp 67)⟩,
    ⟨(some 60), none, true, .lit [.string ⟨#[]⟩, .string ⟨#[]⟩] 2 0 []⟩,
    ⟨(some 63), none, true, .app (.tmp 60) (.tmp 62) 2 32⟩,
    ⟨(some 66), none, true, .app (.tmp 63) (.tmp 65) 2 32⟩,
    ⟨(some 69), none, false, .app (.tmp 66) (.tmp 68) 2 32⟩,
    ⟨(some 10), none, false, .mov (.tmp 69)⟩]) (.seq (.draw [
    ⟨(some 70), none, false, .mov (.tmp 10)⟩,
    ⟨(some 71), none, false, .faddr (.tmp 4) 1⟩,
    ⟨(some 72), none, false, .load1 (.tmp 71)⟩,
    ⟨(some 74), none, false, .faddr (.tmp 4) 2⟩,
    ⟨(some 75), none, true, .load1 (.tmp 74)⟩,
    ⟨(some 77), none, false, .faddr (.tmp 4) 3⟩,
    ⟨(some 78), none, true, .load1 (.tmp 77)⟩,
    ⟨(some 73), none, true, .app (.tmp 70) (.tmp 72) 2 32⟩,
    ⟨(some 76), none, true, .app (.tmp 73) (.tmp 75) 2 32⟩,
    ⟨(some 79), none, false, .app (.tmp 76) (.tmp 78) 2 32⟩,
    ⟨(some 10), none, false, .mov (.tmp 79)⟩]) (.seq (.seq (.ops [
    ⟨(some 11), none, false, .mov (.const (.int .i64 0))⟩]) (.block 4 (.loop (.seq (.seq (.ops [
    ⟨(some 80), none, false, .mov (.tmp 11)⟩,
    ⟨(some 81), none, false, .mov (.tmp 10)⟩,
    ⟨(some 82), none, false, .lens false (.tmp 81)⟩,
    ⟨(some 83), none, false, .bin .lss (.tmp 80) (.tmp 82)⟩]) (.cond (.tmp 83) .skip (.exit 4))) (.seq (.block 5 (.seq (.ops [
    ⟨(some 12), none, false, .mov (.const (.int .i64 0))⟩]) (.block 6 (.loop (.seq (.seq (.ops [
    ⟨(some 86), none, false, .mov (.tmp 12)⟩,
    ⟨(some 87), none, false, .mov (.tmp 10)⟩,
    ⟨(some 88), none, false, .mov (.tmp 11)⟩,
    ⟨(some 89), none, false, .iaddr (.tmp 87) (.tmp 88) 2⟩,
    ⟨(some 90), none, false, .faddr (.tmp 89) 0⟩,
    ⟨(some 91), none, false, .load1 (.tmp 90)⟩,
    ⟨(some 92), none, false, .lens true (.tmp 91)⟩,
    ⟨(some 93), none, false, .bin .lss (.tmp 86) (.tmp 92)⟩]) (.cond (.tmp 93) .skip (.exit 6))) (.seq (.block 7 (.seq (.ops [
    ⟨(some 96), none, false, .mov (.tmp 10)⟩,
    ⟨(some 97), none, false, .mov (.tmp 11)⟩,
    ⟨(some 98), none, false, .iaddr (.tmp 96) (.tmp 97) 2⟩,
    ⟨(some 99), none, false, .faddr (.tmp 98) 0⟩,
    ⟨(some 100), none, false, .load1 (.tmp 99)⟩,
    ⟨(some 101), none, false, .mov (.tmp 12)⟩,
    ⟨(some 102), none, false, .idxs (.tmp 100) (.tmp 101)⟩,
    ⟨(some 103), none, false, .bin .eql (.tmp 102) (.const (.int .u8 32))⟩]) (.cond (.tmp 103) (.seq (.ops [
    ⟨(some 104), none, false, .call chantrylaw40_awake []⟩,
    ⟨(some 6), none, false, .mov (.tmp 104)⟩]) .ret) .skip))) (.ops [
    ⟨(some 94), none, false, .mov (.tmp 12)⟩,
    ⟨(some 95), none, false, .bin .add (.tmp 94) (.const (.int .i64 1))⟩,
    ⟨(some 12), none, false, .mov (.tmp 95)⟩]))))))) (.ops [
    ⟨(some 84), none, false, .mov (.tmp 11)⟩,
    ⟨(some 85), none, false, .bin .add (.tmp 84) (.const (.int .i64 1))⟩,
    ⟨(some 11), none, false, .mov (.tmp 85)⟩])))))) (.seq (.seq (.draw [
    ⟨(some 105), none, false, .loadn (.tmp 3) 4⟩,
    ⟨(some 107), none, true, .loadn (.tmp 4) 4⟩,
    ⟨(some 110), none, true, .loadn (.tmp 3) 4⟩,
    ⟨(some 111), none, true, .loadn (.tmp 4) 4⟩,
    ⟨(some 106), none, true, .call tell_State [(.tmp 105)]⟩,
    ⟨(some 108), none, true, .call tell_State [(.tmp 107)]⟩,
    ⟨(some 109), none, true, .call chantryref01_Texts [(.tmp 106), (.tmp 108)]⟩,
    ⟨(some 112), none, false, .call chantryref23_Same [(.tmp 110), (.tmp 111)]⟩,
    ⟨(some 113), none, false, .beq true (.tmp 109) (.tmp 112)⟩]) (.cond (.tmp 113) (.seq (.ops [
    ⟨(some 6), none, false, .mov (.const (.bool false))⟩]) .ret) .skip)) (.seq (.seq (.ops [
    ⟨(some 114), none, false, .iarr (.tmp 5) (.const (.int .i64 0)) 2 5⟩,
    ⟨(some 115), none, false, .loadn (.tmp 114) 5⟩,
    ⟨(some 116), none, false, .iarr (.tmp 5) (.const (.int .i64 1)) 2 5⟩,
    ⟨(some 117), none, false, .loadn (.tmp 116) 5⟩,
    ⟨(some 118), none, false, .lit [.int .i64 0, .slice none 0 0, .slice none 0 0, .int .i64 0, .slice none 0 0] 5 2 [(0, 5, (.tmp 115)), (5, 5, (.tmp 117))]⟩,
    ⟨(some 119), none, false, .call chantryref39_Check [(.tmp 118)]⟩,
    ⟨(some 120), none, false, .bin .neq (.tmp 119) (.const (.int .i64 0))⟩]) (.cond (.tmp 120) (.seq (.ops [
    ⟨(some 121), none, false, .call chantrylaw40_awake []⟩,
    ⟨(some 6), none, false, .mov (.tmp 121)⟩]) .ret) .skip)) (.seq (.draw [
    ⟨(some 122), none, false, .iarr (.tmp 5) (.const (.int .i64 0)) 2 5⟩,
    ⟨(some 123), none, false, .loadn (.tmp 122) 5⟩,
    ⟨(some 125), none, false, .iarr (.tmp 5) (.const (.int .i64 1)) 2 5⟩,
    ⟨(some 126), none, true, .loadn (.tmp 125) 5⟩,
    ⟨(some 129), none, true, .sla (.tmp 5) none (some (.const (.int .i64 1))) none 2 5⟩,
    ⟨(some 130), none, true, .sla (.tmp 5) (some (.const (.int .i64 1))) none none 2 5⟩,
    ⟨(some 124), none, true, .call tell_Step [(.tmp 123)]⟩,
    ⟨(some 127), none, true, .call tell_Step [(.tmp 126)]⟩,
    ⟨(some 128), none, false, .bin .eql (.tmp 124) (.tmp 127)⟩,
    ⟨(some 131), none, false, .call chantryref39_Same [(.tmp 129), (.tmp 130)]⟩,
    ⟨(some 132), none, false, .beq false (.tmp 128) (.tmp 131)⟩,
    ⟨(some 133), none, false, .mov (.tmp 132)⟩,
    ⟨(some 134), (some (133, true)), false, .call chantrylaw40_awake []⟩,
    ⟨(some 135), none, false, .pick (.tmp 133) (.tmp 134) (.const (.bool false))⟩,
    ⟨(some 6), none, false, .mov (.tmp 135)⟩]) .ret))))))))))
theorem fits_chantrylaw40_TellUnlike : Fits Tryd.prog 3 chantrylaw40_TellUnlike ic_chantrylaw40_TellUnlike [.tmp 6] 3 :=
  ⟨Tryd.f5, Tryd.func5, by decide, by kernel_rfl, by kernel_rfl⟩

/-- chantry/chantryref39.Large -/
noncomputable def ic_chantryref39_Large : IC :=
  (.seq (.ops [
    ⟨(some 4), none, false, .mov (.const (.bool false))⟩]) (.seq (.seq (.ops [
    ⟨(some 8), none, false, .mov (.tmp 0)⟩,
    ⟨(some 9), none, false, .lens false (.tmp 8)⟩,
    ⟨(some 10), none, false, .mov (.tmp 1)⟩,
    ⟨(some 11), none, false, .bin .gtr (.tmp 9) (.tmp 10)⟩]) (.cond (.tmp 11) (.seq (.ops [
    ⟨(some 4), none, false, .mov (.const (.bool true))⟩]) .ret) .skip)) (.seq (.seq (.ops [
    ⟨(some 5), none, false, .mov (.const (.int .i64 0))⟩]) (.block 0 (.loop (.seq (.seq (.ops [
    ⟨(some 12), none, false, .mov (.tmp 5)⟩,
    ⟨(some 13), none, false, .mov (.tmp 0)⟩,
    ⟨(some 14), none, false, .lens false (.tmp 13)⟩,
    ⟨(some 15), none, false, .bin .lss (.tmp 12) (.tmp 14)⟩]) (.cond (.tmp 15) .skip (.exit 0))) (.seq (.block 1 (.seq (.seq (.ops [
    ⟨(some 18), none, false, .mov (.tmp 0)⟩,
    ⟨(some 19), none, false, .mov (.tmp 5)⟩,
    ⟨(some 20), none, false, .iaddr (.tmp 18) (.tmp 19) 5⟩,
    ⟨(some 21), none, false, .faddr (.tmp 20) 1⟩,
    ⟨(some 22), none, false, .load1 (.tmp 21)⟩,
    ⟨(some 23), none, false, .lens false (.tmp 22)⟩,
    ⟨(some 24), none, false, .bin .gtr (.tmp 23) (.const (.int .i64 70))⟩,
    ⟨(some 25), none, false, .mov (.tmp 24)⟩,
    ⟨(some 26), (some (25, false)), false, .mov (.tmp 0)⟩,
    ⟨(some 27), (some (25, false)), false, .mov (.tmp 5)⟩,
    ⟨(some 28), (some (25, false)), false, .iaddr (.tmp 26) (.tmp 27) 5⟩,
    ⟨(some 29), (some (25, false)), false, .faddr (.tmp 28) 2⟩,
    ⟨(some 30), (some (25, false)), false, .load1 (.tmp 29)⟩,
    ⟨(some 31), (some (25, false)), false, .lens false (.tmp 30)⟩,
    ⟨(some 32), (some (25, false)), false, .bin .gtr (.tmp 31) (.const (.int .i64 70))⟩,
    ⟨(some 33), none, false, .pick (.tmp 25) (.const (.bool true)) (.tmp 32)⟩,
    ⟨(some 34), none, false, .mov (.tmp 33)⟩,
    ⟨(some 35), (some (34, false)), false, .mov (.tmp 0)⟩,
    ⟨(some 36), (some (34, false)), false, .mov (.tmp 5)⟩,
    ⟨(some 37), (some (34, false)), false, .iaddr (.tmp 35) (.tmp 36) 5⟩,
    ⟨(some 38), (some (34, false)), false, .faddr (.tmp 37) 4⟩,
    ⟨(some 39), (some (34, false)), false, .load1 (.tmp 38)⟩,
    ⟨(some 40), (some (34, false)), false, .lens false (.tmp 39)⟩,
    ⟨(some 41), (some (34, false)), false, .bin .gtr (.tmp 40) (.const (.int .i64 1030))⟩,
    ⟨(some 42), none, false, .pick (.tmp 34) (.const (.bool true)) (.tmp 41)⟩]) (.cond (.tmp 42) (.seq (.ops [
    ⟨(some 4), none, false, .mov (.const (.bool true))⟩]) .ret) .skip)) (.seq (.seq (.ops [
    ⟨(some 6), none, false, .mov (.const (.int .i64 0))⟩]) (.block 2 (.loop (.seq (.seq (.ops [
    ⟨(some 43), none, false, .mov (.tmp 6)⟩,
    ⟨(some 44), none, false, .mov (.tmp 0)⟩,
    ⟨(some 45), none, false, .mov (.tmp 5)⟩,
    ⟨(some 46), none, false, .iaddr (.tmp 44) (.tmp 45) 5⟩,
    ⟨(some 47), none, false, .faddr (.tmp 46) 1⟩,
    ⟨(some 48), none, false, .load1 (.tmp 47)⟩,
    ⟨(some 49), none, false, .lens false (.tmp 48)⟩,
    ⟨(some 50), none, false, .bin .lss (.tmp 43) (.tmp 49)⟩]) (.cond (.tmp 50) .skip (.exit 2))) (.seq (.block 3 (.seq (.ops [
    ⟨(some 53), none, false, .mov (.tmp 0)⟩,
    ⟨(some 54), none, false, .mov (.tmp 5)⟩,
    ⟨(some 55), none, false, .iaddr (.tmp 53) (.tmp 54) 5⟩,
    ⟨(some 56), none, false, .faddr (.tmp 55) 1⟩,
    ⟨(some 57), none, false, .load1 (.tmp 56)⟩,
    ⟨(some 58), none, false, .mov (.tmp 6)⟩,
    ⟨(some 59), none, false, .iaddr (.tmp 57) (.tmp 58) 1⟩,
    ⟨(some 60), none, false, .load1 (.tmp 59)⟩,
    ⟨(some 61), none, false, .lens false (.tmp 60)⟩,
    ⟨(some 62), none, false, .bin .gtr (.tmp 61) (.const (.int .i64 1100))⟩]) (.cond (.tmp 62) (.seq (.ops [
    ⟨(some 4), none, false, .mov (.const (.bool true))⟩]) .ret) .skip))) (.ops [
    ⟨(some 51), none, false, .mov (.tmp 6)⟩,
    ⟨(some 52), none, false, .bin .add (.tmp 51) (.const (.int .i64 1))⟩,
    ⟨(some 6), none, false, .mov (.tmp 52)⟩])))))) (.seq (.ops [
    ⟨(some 7), none, false, .mov (.const (.int .i64 0))⟩]) (.block 4 (.loop (.seq (.seq (.ops [
    ⟨(some 63), none, false, .mov (.tmp 7)⟩,
    ⟨(some 64), none, false, .mov (.tmp 0)⟩,
    ⟨(some 65), none, false, .mov (.tmp 5)⟩,
    ⟨(some 66), none, false, .iaddr (.tmp 64) (.tmp 65) 5⟩,
    ⟨(some 67), none, false, .faddr (.tmp 66) 2⟩,
    ⟨(some 68), none, false, .load1 (.tmp 67)⟩,
    ⟨(some 69), none, false, .lens false (.tmp 68)⟩,
    ⟨(some 70), none, false, .bin .lss (.tmp 63) (.tmp 69)⟩]) (.cond (.tmp 70) .skip (.exit 4))) (.seq (.block 5 (.seq (.ops [
    ⟨(some 73), none, false, .mov (.tmp 0)⟩,
    ⟨(some 74), none, false, .mov (.tmp 5)⟩,
    ⟨(some 75), none, false, .iaddr (.tmp 73) (.tmp 74) 5⟩,
    ⟨(some 76), none, false, .faddr (.tmp 75) 2⟩,
    ⟨(some 77), none, false, .load1 (.tmp 76)⟩,
    ⟨(some 78), none, false, .mov (.tmp 7)⟩,
    ⟨(some 79), none, false, .iaddr (.tmp 77) (.tmp 78) 1⟩,
    ⟨(some 80), none, false, .load1 (.tmp 79)⟩,
    ⟨(some 81), none, false, .lens true (.tmp 80)⟩,
    ⟨(some 82), none, false, .bin .gtr (.tmp 81) (.const (.int .i64 70))⟩]) (.cond (.tmp 82) (.seq (.ops [
    ⟨(some 4), none, false, .mov (.const (.bool true))⟩]) .ret) .skip))) (.ops [
    ⟨(some 71), none, false, .mov (.tmp 7)⟩,
    ⟨(some 72), none, false, .bin .add (.tmp 71) (.const (.int .i64 1))⟩,
    ⟨(some 7), none, false, .mov (.tmp 72)⟩]))))))))) (.ops [
    ⟨(some 16), none, false, .mov (.tmp 5)⟩,
    ⟨(some 17), none, false, .bin .add (.tmp 16) (.const (.int .i64 1))⟩,
    ⟨(some 5), none, false, .mov (.tmp 17)⟩])))))) (.seq (.ops [
    ⟨(some 4), none, false, .mov (.const (.bool false))⟩]) .ret))))
theorem fits_chantryref39_Large : Fits Tryd.prog 3 chantryref39_Large ic_chantryref39_Large [.tmp 4] 2 :=
  ⟨Tryd.f6, Tryd.func6, by decide, by kernel_rfl, by kernel_rfl⟩

/-- chantry/chantrylaw40.large -/
noncomputable def ic_chantrylaw40_large : IC :=
  (.seq (.ops [
    ⟨(some 1), none, false, .box (.tmp 0)⟩,
    ⟨(some 2), none, false, .mov (.const (.bool false))⟩]) (.seq (.seq (.ops [
    ⟨(some 6), none, false, .faddr (.tmp 1) 0⟩,
    ⟨(some 7), none, false, .load1 (.tmp 6)⟩,
    ⟨(some 8), none, false, .lens false (.tmp 7)⟩,
    ⟨(some 9), none, false, .bin .gtr (.tmp 8) (.const (.int .i64 30))⟩,
    ⟨(some 10), none, false, .mov (.tmp 9)⟩,
    ⟨(some 11), (some (10, false)), false, .faddr (.tmp 1) 1⟩,
    ⟨(some 12), (some (10, false)), false, .load1 (.tmp 11)⟩,
    ⟨(some 13), (some (10, false)), false, .lens false (.tmp 12)⟩,
    ⟨(some 14), (some (10, false)), false, .bin .gtr (.tmp 13) (.const (.int .i64 30))⟩,
    ⟨(some 15), none, false, .pick (.tmp 10) (.const (.bool true)) (.tmp 14)⟩,
    ⟨(some 16), none, false, .mov (.tmp 15)⟩,
    ⟨(some 17), (some (16, false)), false, .faddr (.tmp 1) 2⟩,
    ⟨(some 18), (some (16, false)), false, .load1 (.tmp 17)⟩,
    ⟨(some 19), (some (16, false)), false, .lens false (.tmp 18)⟩,
    ⟨(some 20), (some (16, false)), false, .bin .gtr (.tmp 19) (.const (.int .i64 30))⟩,
    ⟨(some 21), none, false, .pick (.tmp 16) (.const (.bool true)) (.tmp 20)⟩,
    ⟨(some 22), none, false, .mov (.tmp 21)⟩,
    ⟨(some 23), (some (22, false)), false, .faddr (.tmp 1) 3⟩,
    ⟨(some 24), (some (22, false)), false, .load1 (.tmp 23)⟩,
    ⟨(some 25), (some (22, false)), false, .lens false (.tmp 24)⟩,
    ⟨(some 26), (some (22, false)), false, .bin .gtr (.tmp 25) (.const (.int .i64 30))⟩,
    ⟨(some 27), none, false, .pick (.tmp 22) (.const (.bool true)) (.tmp 26)⟩]) (.cond (.tmp 27) (.seq (.ops [
    ⟨(some 2), none, false, .mov (.const (.bool true))⟩]) .ret) .skip)) (.seq (.seq (.ops [
    ⟨(some 3), none, false, .mov (.const (.int .i64 0))⟩]) (.block 0 (.loop (.seq (.seq (.ops [
    ⟨(some 28), none, false, .mov (.tmp 3)⟩,
    ⟨(some 29), none, false, .faddr (.tmp 1) 0⟩,
    ⟨(some 30), none, false, .load1 (.tmp 29)⟩,
    ⟨(some 31), none, false, .lens false (.tmp 30)⟩,
    ⟨(some 32), none, false, .bin .lss (.tmp 28) (.tmp 31)⟩]) (.cond (.tmp 32) .skip (.exit 0))) (.seq (.block 1 (.seq (.ops [
    ⟨(some 35), none, false, .faddr (.tmp 1) 0⟩,
    ⟨(some 36), none, false, .load1 (.tmp 35)⟩,
    ⟨(some 37), none, false, .mov (.tmp 3)⟩,
    ⟨(some 38), none, false, .iaddr (.tmp 36) (.tmp 37) 2⟩,
    ⟨(some 39), none, false, .faddr (.tmp 38) 0⟩,
    ⟨(some 40), none, false, .load1 (.tmp 39)⟩,
    ⟨(some 41), none, false, .lens true (.tmp 40)⟩,
    ⟨(some 42), none, false, .bin .gtr (.tmp 41) (.const (.int .i64 100))⟩]) (.cond (.tmp 42) (.seq (.ops [
    ⟨(some 2), none, false, .mov (.const (.bool true))⟩]) .ret) .skip))) (.ops [
    ⟨(some 33), none, false, .mov (.tmp 3)⟩,
    ⟨(some 34), none, false, .bin .add (.tmp 33) (.const (.int .i64 1))⟩,
    ⟨(some 3), none, false, .mov (.tmp 34)⟩])))))) (.seq (.draw [
    ⟨(some 44), none, false, .faddr (.tmp 1) 1⟩,
    ⟨(some 45), none, true, .load1 (.tmp 44)⟩,
    ⟨(some 47), none, false, .faddr (.tmp 1) 2⟩,
    ⟨(some 48), none, true, .load1 (.tmp 47)⟩,
    ⟨(some 50), none, false, .faddr (.tmp 1) 3⟩,
    ⟨(some 51), none, true, .load1 (.tmp 50)⟩,
    ⟨(some 43), none, true, .lit [.string ⟨#[]⟩, .string ⟨#[]⟩] 2 0 []⟩,
    ⟨(some 46), none, true, .app (.tmp 43) (.tmp 45) 2 32⟩,
    ⟨(some 49), none, true, .app (.tmp 46) (.tmp 48) 2 32⟩,
    ⟨(some 52), none, false, .app (.tmp 49) (.tmp 51) 2 32⟩,
    ⟨(some 4), none, false, .mov (.tmp 52)⟩]) (.seq (.seq (.ops [
    ⟨(some 5), none, false, .mov (.const (.int .i64 0))⟩]) (.block 2 (.loop (.seq (.seq (.ops [
    ⟨(some 53), none, false, .mov (.tmp 5)⟩,
    ⟨(some 54), none, false, .mov (.tmp 4)⟩,
    ⟨(some 55), none, false, .lens false (.tmp 54)⟩,
    ⟨(some 56), none, false, .bin .lss (.tmp 53) (.tmp 55)⟩]) (.cond (.tmp 56) .skip (.exit 2))) (.seq (.block 3 (.seq (.ops [
    ⟨(some 59), none, false, .mov (.tmp 4)⟩,
    ⟨(some 60), none, false, .mov (.tmp 5)⟩,
    ⟨(some 61), none, false, .iaddr (.tmp 59) (.tmp 60) 2⟩,
    ⟨(some 62), none, false, .faddr (.tmp 61) 0⟩,
    ⟨(some 63), none, false, .load1 (.tmp 62)⟩,
    ⟨(some 64), none, false, .lens true (.tmp 63)⟩,
    ⟨(some 65), none, false, .bin .gtr (.tmp 64) (.const (.int .i64 100))⟩,
    ⟨(some 66), none, false, .mov (.tmp 65)⟩,
    ⟨(some 67), (some (66, false)), false, .mov (.tmp 4)⟩,
    ⟨(some 68), (some (66, false)), false, .mov (.tmp 5)⟩,
    ⟨(some 69), (some (66, false)), false, .iaddr (.tmp 67) (.tmp 68) 2⟩,
    ⟨(some 70), (some (66, false)), false, .faddr (.tmp 69) 1⟩,
    ⟨(some 71), (some (66, false)), false, .load1 (.tmp 70)⟩,
    ⟨(some 72), (some (66, false)), false, .lens true (.tmp 71)⟩,
    ⟨(some 73), (some (66, false)), false, .bin .gtr (.tmp 72) (.const (.int .i64 200))⟩,
    ⟨(some 74), none, false, .pick (.tmp 66) (.const (.bool true)) (.tmp 73)⟩]) (.cond (.tmp 74) (.seq (.ops [
    ⟨(some 2), none, false, .mov (.const (.bool true))⟩]) .ret) .skip))) (.ops [
    ⟨(some 57), none, false, .mov (.tmp 5)⟩,
    ⟨(some 58), none, false, .bin .add (.tmp 57) (.const (.int .i64 1))⟩,
    ⟨(some 5), none, false, .mov (.tmp 58)⟩])))))) (.seq (.ops [
    ⟨(some 2), none, false, .mov (.const (.bool false))⟩]) .ret))))))
theorem fits_chantrylaw40_large : Fits Tryd.prog 3 chantrylaw40_large ic_chantrylaw40_large [.tmp 2] 1 :=
  ⟨Tryd.f7, Tryd.func7, by decide, by kernel_rfl, by kernel_rfl⟩

/-- chantry/chantrylaw40.awake -/
noncomputable def ic_chantrylaw40_awake : IC :=
  (.seq (.ops [
    ⟨(some 0), none, false, .mov (.const (.bool false))⟩]) (.seq (.ops [
    ⟨(some 2), none, false, .build [.string ⟨#[]⟩, .int .i64 0] [(0, 1, (.const (.string ⟨#[110]⟩))), (1, 1, (.const (.int .i64 (-5))))]⟩,
    ⟨(some 3), none, false, .lit [.string ⟨#[]⟩, .int .i64 0] 2 1 [(0, 2, (.tmp 2))]⟩,
    ⟨(some 4), none, false, .build [.string ⟨#[]⟩, .string ⟨#[]⟩] [(0, 1, (.const (.string ⟨#[97]⟩))), (1, 1, (.const (.string ⟨#[120]⟩)))]⟩,
    ⟨(some 5), none, false, .lit [.string ⟨#[]⟩, .string ⟨#[]⟩] 2 1 [(0, 2, (.tmp 4))]⟩,
    ⟨(some 6), none, false, .build [.string ⟨#[]⟩, .string ⟨#[]⟩] [(0, 1, (.const (.string ⟨#[98]⟩)))]⟩,
    ⟨(some 7), none, false, .lit [.string ⟨#[]⟩, .string ⟨#[]⟩] 2 1 [(0, 2, (.tmp 6))]⟩,
    ⟨(some 8), none, false, .build [.string ⟨#[]⟩, .string ⟨#[]⟩] [(0, 1, (.const (.string ⟨#[99]⟩))), (1, 1, (.const (.string ⟨#[121, 122]⟩)))]⟩,
    ⟨(some 9), none, false, .lit [.string ⟨#[]⟩, .string ⟨#[]⟩] 2 1 [(0, 2, (.tmp 8))]⟩,
    ⟨(some 10), none, false, .build [.slice none 0 0, .slice none 0 0, .slice none 0 0, .slice none 0 0] [(0, 1, (.tmp 3)), (1, 1, (.tmp 5)), (2, 1, (.tmp 7)), (3, 1, (.tmp 9))]⟩,
    ⟨(some 1), none, false, .new [.slice none 0 0, .slice none 0 0, .slice none 0 0, .slice none 0 0]⟩,
    ⟨none, none, false, .store (.tmp 1) (.tmp 10) 4⟩]) (.seq (.ops [
    ⟨(some 11), none, false, .build [.int .i64 0, .slice none 0 0, .slice none 0 0, .int .i64 0, .slice none 0 0] [(0, 1, (.const (.int .i64 10))), (3, 1, (.const (.int .i64 3)))]⟩,
    ⟨(some 12), none, false, .call tell_Step [(.tmp 11)]⟩,
    ⟨(some 13), none, false, .bin .eql (.tmp 12) (.const (.string ⟨#[115, 116, 111, 112, 32, 51]⟩))⟩,
    ⟨(some 14), none, false, .mov (.tmp 13)⟩,
    ⟨(some 15), (some (14, true)), false, .lit [.int .i64 0] 1 2 [(0, 1, (.const (.int .i64 15))), (1, 1, (.const (.int .i64 0)))]⟩,
    ⟨(some 16), (some (14, true)), false, .build [.int .i64 0, .slice none 0 0, .slice none 0 0, .int .i64 0, .slice none 0 0] [(0, 1, (.const (.int .i64 11))), (4, 1, (.tmp 15))]⟩,
    ⟨(some 17), (some (14, true)), false, .call tell_Step [(.tmp 16)]⟩,
    ⟨(some 18), (some (14, true)), false, .bin .eql (.tmp 17) (.const (.string ⟨#[99, 114, 97, 115, 104, 32, 49, 53, 32, 48]⟩))⟩,
    ⟨(some 19), none, false, .pick (.tmp 14) (.tmp 18) (.const (.bool false))⟩,
    ⟨(some 20), none, false, .mov (.tmp 19)⟩,
    ⟨(some 21), (some (20, true)), false, .lit [.int .u8 0] 1 1 [(0, 1, (.const (.int .u8 1)))]⟩,
    ⟨(some 22), (some (20, true)), false, .lit [.slice none 0 0] 1 1 [(0, 1, (.tmp 21))]⟩,
    ⟨(some 23), (some (20, true)), false, .build [.int .i64 0, .slice none 0 0, .slice none 0 0, .int .i64 0, .slice none 0 0] [(0, 1, (.const (.int .i64 1))), (1, 1, (.tmp 22))]⟩,
    ⟨(some 24), (some (20, true)), false, .call tell_Step [(.tmp 23)]⟩,
    ⟨(some 25), (some (20, true)), false, .bin .eql (.tmp 24) (.const (.string ⟨#[105, 110, 103, 101, 115, 116, 32, 35, 48, 49]⟩))⟩,
    ⟨(some 26), none, false, .pick (.tmp 20) (.tmp 25) (.const (.bool false))⟩,
    ⟨(some 27), none, false, .mov (.tmp 26)⟩,
    ⟨(some 28), (some (27, true)), false, .build [.int .i64 0, .slice none 0 0, .slice none 0 0, .int .i64 0, .slice none 0 0] []⟩,
    ⟨(some 29), (some (27, true)), false, .call tell_Step [(.tmp 28)]⟩,
    ⟨(some 30), (some (27, true)), false, .bin .eql (.tmp 29) (.const (.string ⟨#[63]⟩))⟩,
    ⟨(some 31), none, false, .pick (.tmp 27) (.tmp 30) (.const (.bool false))⟩,
    ⟨(some 32), none, false, .mov (.tmp 31)⟩,
    ⟨(some 33), (some (32, true)), false, .loadn (.tmp 1) 4⟩,
    ⟨(some 34), (some (32, true)), false, .call tell_State [(.tmp 33)]⟩,
    ⟨(some 35), (some (32, true)), false, .lit [.string ⟨#[]⟩] 1 4 [(0, 1, (.const (.string ⟨#[99, 111, 117, 110, 116, 32, 110, 32, 45, 53]⟩))), (1, 1, (.const (.string ⟨#[109, 101, 109, 98, 101, 114, 32, 97, 32, 35, 55, 56]⟩))), (2, 1, (.const (.string ⟨#[118, 97, 108, 117, 101, 32, 98, 32, 35]⟩))), (3, 1, (.const (.string ⟨#[108, 105, 110, 101, 32, 99, 32, 35, 55, 57, 55, 97]⟩)))]⟩,
    ⟨(some 36), (some (32, true)), false, .call chantryref01_Texts [(.tmp 34), (.tmp 35)]⟩,
    ⟨(some 37), none, false, .pick (.tmp 32) (.tmp 36) (.const (.bool false))⟩,
    ⟨(some 38), none, false, .mov (.tmp 37)⟩,
    ⟨(some 39), (some (38, true)), false, .build [.int .i64 0, .slice none 0 0, .slice none 0 0, .int .i64 0, .slice none 0 0] []⟩,
    ⟨(some 40), (some (38, true)), false, .build [.int .i64 0, .slice none 0 0, .slice none 0 0, .slice none 0 0, .slice none 0 0, .slice none 0 0, .slice none 0 0] [(0, 1, (.const (.int .i64 2)))]⟩,
    ⟨(some 41), (some (38, true)), false, .call tell_Reply [(.tmp 39), (.tmp 40)]⟩,
    ⟨(some 42), (some (38, true)), false, .lit [.string ⟨#[]⟩] 1 1 [(0, 1, (.const (.string ⟨#[101, 114, 114, 111, 114, 32, 50]⟩)))]⟩,
    ⟨(some 43), (some (38, true)), false, .call chantryref01_Texts [(.tmp 41), (.tmp 42)]⟩,
    ⟨(some 44), none, false, .pick (.tmp 38) (.tmp 43) (.const (.bool false))⟩,
    ⟨(some 45), none, false, .mov (.tmp 44)⟩,
    ⟨(some 46), (some (45, true)), false, .build [.int .i64 0, .slice none 0 0, .slice none 0 0, .int .i64 0, .slice none 0 0] [(0, 1, (.const (.int .i64 3)))]⟩,
    ⟨(some 47), (some (45, true)), false, .lit [.string ⟨#[]⟩] 1 1 [(0, 1, (.const (.string ⟨#[97]⟩)))]⟩,
    ⟨(some 48), (some (45, true)), false, .build [.int .i64 0, .slice none 0 0, .slice none 0 0, .slice none 0 0, .slice none 0 0, .slice none 0 0, .slice none 0 0] [(1, 1, (.tmp 47))]⟩,
    ⟨(some 49), (some (45, true)), false, .call tell_Reply [(.tmp 46), (.tmp 48)]⟩,
    ⟨(some 50), (some (45, true)), false, .lit [.string ⟨#[]⟩] 1 1 [(0, 1, (.const (.string ⟨#[105, 100, 115, 32, 35, 54, 49]⟩)))]⟩,
    ⟨(some 51), (some (45, true)), false, .call chantryref01_Texts [(.tmp 49), (.tmp 50)]⟩,
    ⟨(some 52), none, false, .pick (.tmp 45) (.tmp 51) (.const (.bool false))⟩,
    ⟨(some 53), none, false, .mov (.tmp 52)⟩,
    ⟨(some 54), (some (53, true)), false, .build [.int .i64 0, .slice none 0 0, .slice none 0 0, .int .i64 0, .slice none 0 0] [(0, 1, (.const (.int .i64 12)))]⟩,
    ⟨(some 55), (some (53, true)), false, .build [.int .i64 0, .slice none 0 0, .slice none 0 0, .slice none 0 0, .slice none 0 0, .slice none 0 0, .slice none 0 0] []⟩,
    ⟨(some 56), (some (53, true)), false, .call tell_Reply [(.tmp 54), (.tmp 55)]⟩,
    ⟨(some 57), (some (53, true)), false, .lit [.string ⟨#[]⟩] 1 1 [(0, 1, (.const (.string ⟨#[111, 107]⟩)))]⟩,
    ⟨(some 58), (some (53, true)), false, .call chantryref01_Texts [(.tmp 56), (.tmp 57)]⟩,
    ⟨(some 59), none, false, .pick (.tmp 53) (.tmp 58) (.const (.bool false))⟩,
    ⟨(some 60), none, false, .mov (.tmp 59)⟩,
    ⟨(some 61), (some (60, true)), false, .build [.int .i64 0, .int .i64 0] [(0, 1, (.const (.int .i64 3))), (1, 1, (.const (.int .i64 4)))]⟩,
    ⟨(some 62), (some (60, true)), false, .call tell_Fault [(.tmp 61)]⟩,
    ⟨(some 63), (some (60, true)), false, .bin .eql (.tmp 62) (.const (.string ⟨#[115, 101, 103, 109, 101, 110, 116, 32, 52]⟩))⟩,
    ⟨(some 64), none, false, .pick (.tmp 60) (.tmp 63) (.const (.bool false))⟩,
    ⟨(some 65), none, false, .mov (.tmp 64)⟩,
    ⟨(some 66), (some (65, true)), false, .build [.int .i64 0, .int .i64 0] []⟩,
    ⟨(some 67), (some (65, true)), false, .call tell_Fault [(.tmp 66)]⟩,
    ⟨(some 68), (some (65, true)), false, .bin .eql (.tmp 67) (.const (.string ⟨#[63]⟩))⟩,
    ⟨(some 69), none, false, .pick (.tmp 65) (.tmp 68) (.const (.bool false))⟩,
    ⟨(some 0), none, false, .mov (.tmp 69)⟩]) .ret)))
theorem fits_chantrylaw40_awake : Fits Tryd.prog 3 chantrylaw40_awake ic_chantrylaw40_awake [.tmp 0] 0 :=
  ⟨Tryd.f8, Tryd.func8, by decide, by kernel_rfl, by kernel_rfl⟩

/-- chantry/tell.Step -/
noncomputable def ic_tell_Step : IC :=
  (.seq (.ops [
    ⟨(some 1), none, false, .box (.tmp 0)⟩,
    ⟨(some 2), none, false, .mov (.const (.string ⟨#[]⟩))⟩]) (.seq (.seq (.ops [
    ⟨(some 10), none, false, .faddr (.tmp 1) 0⟩,
    ⟨(some 11), none, false, .load1 (.tmp 10)⟩,
    ⟨(some 12), none, false, .bin .lss (.tmp 11) (.const (.int .i64 0))⟩,
    ⟨(some 13), none, false, .mov (.tmp 12)⟩,
    ⟨(some 14), (some (13, false)), false, .faddr (.tmp 1) 0⟩,
    ⟨(some 15), (some (13, false)), false, .load1 (.tmp 14)⟩,
    ⟨(some 16), (some (13, false)), false, .bin .geq (.tmp 15) (.const (.int .i64 13))⟩,
    ⟨(some 17), none, false, .pick (.tmp 13) (.const (.bool true)) (.tmp 16)⟩]) (.cond (.tmp 17) (.seq (.ops [
    ⟨(some 18), none, false, .iarr (.global 0) (.const (.int .i64 0)) 13 1⟩,
    ⟨(some 19), none, false, .load1 (.tmp 18)⟩,
    ⟨(some 2), none, false, .mov (.tmp 19)⟩]) .ret) .skip)) (.seq (.ops [
    ⟨(some 20), none, false, .faddr (.tmp 1) 0⟩,
    ⟨(some 21), none, false, .load1 (.tmp 20)⟩,
    ⟨(some 22), none, false, .iarr (.global 0) (.tmp 21) 13 1⟩,
    ⟨(some 23), none, false, .load1 (.tmp 22)⟩,
    ⟨(some 24), none, false, .lit [.string ⟨#[]⟩] 1 1 [(0, 1, (.tmp 23))]⟩,
    ⟨(some 3), none, false, .mov (.tmp 24)⟩]) (.seq (.seq (.ops [
    ⟨(some 25), none, false, .faddr (.tmp 1) 0⟩,
    ⟨(some 26), none, false, .load1 (.tmp 25)⟩]) (.block 0 (.seq (.ops [
    ⟨(some 28), none, false, .bin .eql (.tmp 26) (.const (.int .i64 1))⟩,
    ⟨(some 27), none, false, .mov (.tmp 28)⟩]) (.cond (.tmp 27) (.seq (.ops [
    ⟨(some 29), none, false, .faddr (.tmp 1) 1⟩,
    ⟨(some 30), none, false, .load1 (.tmp 29)⟩,
    ⟨(some 31), none, false, .lens false (.tmp 30)⟩,
    ⟨(some 32), none, false, .mov (.const (.int .i64 0))⟩]) (.block 1 (.loop (.seq (.ops [
    ⟨(some 33), none, false, .bin .lss (.tmp 32) (.tmp 31)⟩]) (.seq (.cond (.tmp 33) .skip (.exit 1)) (.seq (.block 2 (.seq (.ops [
    ⟨(some 34), none, false, .iaddr (.tmp 30) (.tmp 32) 1⟩,
    ⟨(some 35), none, false, .load1 (.tmp 34)⟩,
    ⟨(some 5), none, false, .mov (.tmp 35)⟩]) (.ops [
    ⟨(some 36), none, false, .mov (.tmp 3)⟩,
    ⟨(some 37), none, false, .mov (.tmp 5)⟩,
    ⟨(some 38), none, false, .b2s (.tmp 37)⟩,
    ⟨(some 39), none, false, .call tell_digits [(.tmp 38)]⟩,
    ⟨(some 40), none, false, .lit [.string ⟨#[]⟩] 1 1 [(0, 1, (.tmp 39))]⟩,
    ⟨(some 41), none, false, .app (.tmp 36) (.tmp 40) 1 16⟩,
    ⟨(some 3), none, false, .mov (.tmp 41)⟩]))) (.ops [
    ⟨(some 42), none, false, .bin .add (.tmp 32) (.const (.int .i64 1))⟩,
    ⟨(some 32), none, false, .mov (.tmp 42)⟩]))))))) (.seq (.seq (.ops [
    ⟨(some 44), none, false, .bin .eql (.tmp 26) (.const (.int .i64 2))⟩,
    ⟨(some 43), none, false, .mov (.tmp 44)⟩]) (.cond (.tmp 43) .skip (.seq (.ops [
    ⟨(some 45), none, false, .bin .eql (.tmp 26) (.const (.int .i64 4))⟩,
    ⟨(some 43), none, false, .mov (.tmp 45)⟩]) (.cond (.tmp 43) .skip (.ops [
    ⟨(some 46), none, false, .bin .eql (.tmp 26) (.const (.int .i64 9))⟩,
    ⟨(some 43), none, false, .mov (.tmp 46)⟩]))))) (.cond (.tmp 43) (.seq (.ops [
    ⟨(some 47), none, false, .faddr (.tmp 1) 2⟩,
    ⟨(some 48), none, false, .load1 (.tmp 47)⟩,
    ⟨(some 49), none, false, .lens false (.tmp 48)⟩,
    ⟨(some 50), none, false, .mov (.const (.int .i64 0))⟩]) (.block 3 (.loop (.seq (.ops [
    ⟨(some 51), none, false, .bin .lss (.tmp 50) (.tmp 49)⟩]) (.seq (.cond (.tmp 51) .skip (.exit 3)) (.seq (.block 4 (.seq (.ops [
    ⟨(some 52), none, false, .iaddr (.tmp 48) (.tmp 50) 1⟩,
    ⟨(some 53), none, false, .load1 (.tmp 52)⟩,
    ⟨(some 7), none, false, .mov (.tmp 53)⟩]) (.ops [
    ⟨(some 54), none, false, .mov (.tmp 3)⟩,
    ⟨(some 55), none, false, .mov (.tmp 7)⟩,
    ⟨(some 56), none, false, .call tell_digits [(.tmp 55)]⟩,
    ⟨(some 57), none, false, .lit [.string ⟨#[]⟩] 1 1 [(0, 1, (.tmp 56))]⟩,
    ⟨(some 58), none, false, .app (.tmp 54) (.tmp 57) 1 16⟩,
    ⟨(some 3), none, false, .mov (.tmp 58)⟩]))) (.ops [
    ⟨(some 59), none, false, .bin .add (.tmp 50) (.const (.int .i64 1))⟩,
    ⟨(some 50), none, false, .mov (.tmp 59)⟩]))))))) (.seq (.ops [
    ⟨(some 61), none, false, .bin .eql (.tmp 26) (.const (.int .i64 10))⟩,
    ⟨(some 60), none, false, .mov (.tmp 61)⟩]) (.cond (.tmp 60) (.ops [
    ⟨(some 62), none, false, .mov (.tmp 3)⟩,
    ⟨(some 63), none, false, .faddr (.tmp 1) 3⟩,
    ⟨(some 64), none, false, .load1 (.tmp 63)⟩,
    ⟨(some 65), none, false, .call strconv_Itoa [(.tmp 64)]⟩,
    ⟨(some 66), none, false, .lit [.string ⟨#[]⟩] 1 1 [(0, 1, (.tmp 65))]⟩,
    ⟨(some 67), none, false, .app (.tmp 62) (.tmp 66) 1 16⟩,
    ⟨(some 3), none, false, .mov (.tmp 67)⟩]) (.seq (.ops [
    ⟨(some 69), none, false, .bin .eql (.tmp 26) (.const (.int .i64 11))⟩,
    ⟨(some 68), none, false, .mov (.tmp 69)⟩]) (.cond (.tmp 68) (.seq (.ops [
    ⟨(some 70), none, false, .faddr (.tmp 1) 4⟩,
    ⟨(some 71), none, false, .load1 (.tmp 70)⟩,
    ⟨(some 72), none, false, .lens false (.tmp 71)⟩,
    ⟨(some 73), none, false, .mov (.const (.int .i64 0))⟩]) (.block 5 (.loop (.seq (.ops [
    ⟨(some 74), none, false, .bin .lss (.tmp 73) (.tmp 72)⟩]) (.seq (.cond (.tmp 74) .skip (.exit 5)) (.seq (.block 6 (.seq (.ops [
    ⟨(some 75), none, false, .iaddr (.tmp 71) (.tmp 73) 1⟩,
    ⟨(some 76), none, false, .load1 (.tmp 75)⟩,
    ⟨(some 9), none, false, .mov (.tmp 76)⟩]) (.ops [
    ⟨(some 77), none, false, .mov (.tmp 3)⟩,
    ⟨(some 78), none, false, .mov (.tmp 9)⟩,
    ⟨(some 79), none, false, .call strconv_Itoa [(.tmp 78)]⟩,
    ⟨(some 80), none, false, .lit [.string ⟨#[]⟩] 1 1 [(0, 1, (.tmp 79))]⟩,
    ⟨(some 81), none, false, .app (.tmp 77) (.tmp 80) 1 16⟩,
    ⟨(some 3), none, false, .mov (.tmp 81)⟩]))) (.ops [
    ⟨(some 82), none, false, .bin .add (.tmp 73) (.const (.int .i64 1))⟩,
    ⟨(some 73), none, false, .mov (.tmp 82)⟩]))))))) .skip)))))))))) (.seq (.ops [
    ⟨(some 83), none, false, .mov (.tmp 3)⟩,
    ⟨(some 84), none, false, .call tell_line [(.tmp 83)]⟩,
    ⟨(some 2), none, false, .mov (.tmp 84)⟩]) .ret)))))
theorem fits_tell_Step : Fits Tryd.prog 3 tell_Step ic_tell_Step [.tmp 2] 1 :=
  ⟨Tryd.f9, Tryd.func9, by decide, by kernel_rfl, by kernel_rfl⟩

/-- chantry/chantryref40.Step -/
noncomputable def ic_chantryref40_Step : IC :=
  (.seq (.ops [
    ⟨(some 1), none, false, .box (.tmp 0)⟩,
    ⟨(some 2), none, false, .mov (.const (.string ⟨#[]⟩))⟩]) (.seq (.ops [
    ⟨(some 7), none, false, .lit [.string ⟨#[]⟩] 1 12 [(0, 1, (.const (.string ⟨#[105, 110, 103, 101, 115, 116]⟩))), (1, 1, (.const (.string ⟨#[103, 101, 116]⟩))), (2, 1, (.const (.string ⟨#[104, 101, 97, 100, 115]⟩))), (3, 1, (.const (.string ⟨#[99, 104, 105, 108, 100, 114, 101, 110]⟩))), (4, 1, (.const (.string ⟨#[115, 116, 97, 116, 101]⟩))), (5, 1, (.const (.string ⟨#[115, 110, 97, 112, 115, 104, 111, 116]⟩))), (6, 1, (.const (.string ⟨#[99, 104, 101, 99, 107, 112, 111, 105, 110, 116]⟩))), (7, 1, (.const (.string ⟨#[99, 111, 109, 112, 97, 99, 116]⟩))), (8, 1, (.const (.string ⟨#[109, 105, 115, 115, 105, 110, 103]⟩))), (9, 1, (.const (.string ⟨#[115, 116, 111, 112]⟩))), (10, 1, (.const (.string ⟨#[99, 114, 97, 115, 104]⟩))), (11, 1, (.const (.string ⟨#[111, 112, 101, 110]⟩)))]⟩,
    ⟨(some 8), none, false, .faddr (.tmp 1) 0⟩,
    ⟨(some 9), none, false, .load1 (.tmp 8)⟩,
    ⟨(some 10), none, false, .call chantryref40_name [(.tmp 7), (.tmp 9)]⟩,
    ⟨(some 3), none, false, .mov (.tmp 10)⟩]) (.seq (.seq (.ops [
    ⟨(some 11), none, false, .faddr (.tmp 1) 0⟩,
    ⟨(some 12), none, false, .load1 (.tmp 11)⟩]) (.block 0 (.seq (.ops [
    ⟨(some 14), none, false, .bin .eql (.tmp 12) (.const (.int .i64 1))⟩,
    ⟨(some 13), none, false, .mov (.tmp 14)⟩]) (.cond (.tmp 13) (.seq (.ops [
    ⟨(some 4), none, false, .mov (.const (.int .i64 0))⟩]) (.block 1 (.loop (.seq (.seq (.ops [
    ⟨(some 15), none, false, .mov (.tmp 4)⟩,
    ⟨(some 16), none, false, .faddr (.tmp 1) 1⟩,
    ⟨(some 17), none, false, .load1 (.tmp 16)⟩,
    ⟨(some 18), none, false, .lens false (.tmp 17)⟩,
    ⟨(some 19), none, false, .bin .lss (.tmp 15) (.tmp 18)⟩]) (.cond (.tmp 19) .skip (.exit 1))) (.seq (.block 2 (.ops [
    ⟨(some 22), none, false, .mov (.tmp 3)⟩,
    ⟨(some 23), none, false, .faddr (.tmp 1) 1⟩,
    ⟨(some 24), none, false, .load1 (.tmp 23)⟩,
    ⟨(some 25), none, false, .mov (.tmp 4)⟩,
    ⟨(some 26), none, false, .iaddr (.tmp 24) (.tmp 25) 1⟩,
    ⟨(some 27), none, false, .load1 (.tmp 26)⟩,
    ⟨(some 28), none, false, .b2s (.tmp 27)⟩,
    ⟨(some 29), none, false, .call chantryref40_digits [(.tmp 28)]⟩,
    ⟨(some 30), none, false, .bin .add (.tmp 22) (.tmp 29)⟩,
    ⟨(some 3), none, false, .mov (.tmp 30)⟩])) (.ops [
    ⟨(some 20), none, false, .mov (.tmp 4)⟩,
    ⟨(some 21), none, false, .bin .add (.tmp 20) (.const (.int .i64 1))⟩,
    ⟨(some 4), none, false, .mov (.tmp 21)⟩])))))) (.seq (.seq (.ops [
    ⟨(some 32), none, false, .bin .eql (.tmp 12) (.const (.int .i64 2))⟩,
    ⟨(some 31), none, false, .mov (.tmp 32)⟩]) (.cond (.tmp 31) .skip (.seq (.ops [
    ⟨(some 33), none, false, .bin .eql (.tmp 12) (.const (.int .i64 4))⟩,
    ⟨(some 31), none, false, .mov (.tmp 33)⟩]) (.cond (.tmp 31) .skip (.ops [
    ⟨(some 34), none, false, .bin .eql (.tmp 12) (.const (.int .i64 9))⟩,
    ⟨(some 31), none, false, .mov (.tmp 34)⟩]))))) (.cond (.tmp 31) (.seq (.ops [
    ⟨(some 5), none, false, .mov (.const (.int .i64 0))⟩]) (.block 3 (.loop (.seq (.seq (.ops [
    ⟨(some 35), none, false, .mov (.tmp 5)⟩,
    ⟨(some 36), none, false, .faddr (.tmp 1) 2⟩,
    ⟨(some 37), none, false, .load1 (.tmp 36)⟩,
    ⟨(some 38), none, false, .lens false (.tmp 37)⟩,
    ⟨(some 39), none, false, .bin .lss (.tmp 35) (.tmp 38)⟩]) (.cond (.tmp 39) .skip (.exit 3))) (.seq (.block 4 (.ops [
    ⟨(some 42), none, false, .mov (.tmp 3)⟩,
    ⟨(some 43), none, false, .faddr (.tmp 1) 2⟩,
    ⟨(some 44), none, false, .load1 (.tmp 43)⟩,
    ⟨(some 45), none, false, .mov (.tmp 5)⟩,
    ⟨(some 46), none, false, .iaddr (.tmp 44) (.tmp 45) 1⟩,
    ⟨(some 47), none, false, .load1 (.tmp 46)⟩,
    ⟨(some 48), none, false, .call chantryref40_digits [(.tmp 47)]⟩,
    ⟨(some 49), none, false, .bin .add (.tmp 42) (.tmp 48)⟩,
    ⟨(some 3), none, false, .mov (.tmp 49)⟩])) (.ops [
    ⟨(some 40), none, false, .mov (.tmp 5)⟩,
    ⟨(some 41), none, false, .bin .add (.tmp 40) (.const (.int .i64 1))⟩,
    ⟨(some 5), none, false, .mov (.tmp 41)⟩])))))) (.seq (.ops [
    ⟨(some 51), none, false, .bin .eql (.tmp 12) (.const (.int .i64 10))⟩,
    ⟨(some 50), none, false, .mov (.tmp 51)⟩]) (.cond (.tmp 50) (.ops [
    ⟨(some 52), none, false, .mov (.tmp 3)⟩,
    ⟨(some 53), none, false, .faddr (.tmp 1) 3⟩,
    ⟨(some 54), none, false, .load1 (.tmp 53)⟩,
    ⟨(some 55), none, false, .call chantryref40_number [(.tmp 54)]⟩,
    ⟨(some 56), none, false, .bin .add (.tmp 52) (.tmp 55)⟩,
    ⟨(some 3), none, false, .mov (.tmp 56)⟩]) (.seq (.ops [
    ⟨(some 58), none, false, .bin .eql (.tmp 12) (.const (.int .i64 11))⟩,
    ⟨(some 57), none, false, .mov (.tmp 58)⟩]) (.cond (.tmp 57) (.seq (.ops [
    ⟨(some 6), none, false, .mov (.const (.int .i64 0))⟩]) (.block 5 (.loop (.seq (.seq (.ops [
    ⟨(some 59), none, false, .mov (.tmp 6)⟩,
    ⟨(some 60), none, false, .faddr (.tmp 1) 4⟩,
    ⟨(some 61), none, false, .load1 (.tmp 60)⟩,
    ⟨(some 62), none, false, .lens false (.tmp 61)⟩,
    ⟨(some 63), none, false, .bin .lss (.tmp 59) (.tmp 62)⟩]) (.cond (.tmp 63) .skip (.exit 5))) (.seq (.block 6 (.ops [
    ⟨(some 66), none, false, .mov (.tmp 3)⟩,
    ⟨(some 67), none, false, .faddr (.tmp 1) 4⟩,
    ⟨(some 68), none, false, .load1 (.tmp 67)⟩,
    ⟨(some 69), none, false, .mov (.tmp 6)⟩,
    ⟨(some 70), none, false, .iaddr (.tmp 68) (.tmp 69) 1⟩,
    ⟨(some 71), none, false, .load1 (.tmp 70)⟩,
    ⟨(some 72), none, false, .call chantryref40_number [(.tmp 71)]⟩,
    ⟨(some 73), none, false, .bin .add (.tmp 66) (.tmp 72)⟩,
    ⟨(some 3), none, false, .mov (.tmp 73)⟩])) (.ops [
    ⟨(some 64), none, false, .mov (.tmp 6)⟩,
    ⟨(some 65), none, false, .bin .add (.tmp 64) (.const (.int .i64 1))⟩,
    ⟨(some 6), none, false, .mov (.tmp 65)⟩])))))) .skip)))))))))) (.seq (.ops [
    ⟨(some 74), none, false, .mov (.tmp 3)⟩,
    ⟨(some 2), none, false, .mov (.tmp 74)⟩]) .ret))))
theorem fits_chantryref40_Step : Fits Tryd.prog 3 chantryref40_Step ic_chantryref40_Step [.tmp 2] 1 :=
  ⟨Tryd.f10, Tryd.func10, by decide, by kernel_rfl, by kernel_rfl⟩

/-- chantry/chantryref01.Texts -/
noncomputable def ic_chantryref01_Texts : IC :=
  (.seq (.ops [
    ⟨(some 4), none, false, .mov (.const (.bool false))⟩]) (.seq (.seq (.ops [
    ⟨(some 6), none, false, .mov (.tmp 0)⟩,
    ⟨(some 7), none, false, .lens false (.tmp 6)⟩,
    ⟨(some 8), none, false, .mov (.tmp 1)⟩,
    ⟨(some 9), none, false, .lens false (.tmp 8)⟩,
    ⟨(some 10), none, false, .bin .neq (.tmp 7) (.tmp 9)⟩]) (.cond (.tmp 10) (.seq (.ops [
    ⟨(some 4), none, false, .mov (.const (.bool false))⟩]) .ret) .skip)) (.seq (.seq (.ops [
    ⟨(some 5), none, false, .mov (.const (.int .i64 0))⟩]) (.block 0 (.loop (.seq (.seq (.ops [
    ⟨(some 11), none, false, .mov (.tmp 5)⟩,
    ⟨(some 12), none, false, .mov (.tmp 0)⟩,
    ⟨(some 13), none, false, .lens false (.tmp 12)⟩,
    ⟨(some 14), none, false, .bin .lss (.tmp 11) (.tmp 13)⟩]) (.cond (.tmp 14) .skip (.exit 0))) (.seq (.block 1 (.seq (.draw [
    ⟨(some 17), none, false, .mov (.tmp 0)⟩,
    ⟨(some 18), none, false, .mov (.tmp 5)⟩,
    ⟨(some 19), none, false, .iaddr (.tmp 17) (.tmp 18) 1⟩,
    ⟨(some 20), none, false, .load1 (.tmp 19)⟩,
    ⟨(some 21), none, false, .mov (.tmp 1)⟩,
    ⟨(some 22), none, false, .mov (.tmp 5)⟩,
    ⟨(some 23), none, false, .iaddr (.tmp 21) (.tmp 22) 1⟩,
    ⟨(some 24), none, false, .load1 (.tmp 23)⟩,
    ⟨(some 25), none, false, .bin .neq (.tmp 20) (.tmp 24)⟩]) (.cond (.tmp 25) (.seq (.ops [
    ⟨(some 4), none, false, .mov (.const (.bool false))⟩]) .ret) .skip))) (.ops [
    ⟨(some 15), none, false, .mov (.tmp 5)⟩,
    ⟨(some 16), none, false, .bin .add (.tmp 15) (.const (.int .i64 1))⟩,
    ⟨(some 5), none, false, .mov (.tmp 16)⟩])))))) (.seq (.ops [
    ⟨(some 4), none, false, .mov (.const (.bool true))⟩]) .ret))))
theorem fits_chantryref01_Texts : Fits Tryd.prog 3 chantryref01_Texts ic_chantryref01_Texts [.tmp 4] 2 :=
  ⟨Tryd.f11, Tryd.func11, by decide, by kernel_rfl, by kernel_rfl⟩

/-- chantry/tell.Reply -/
noncomputable def ic_tell_Reply : IC :=
  (.seq (.ops [
    ⟨(some 2), none, false, .box (.tmp 0)⟩,
    ⟨(some 3), none, false, .box (.tmp 1)⟩,
    ⟨(some 4), none, false, .mov (.const (.slice none 0 0))⟩]) (.seq (.seq (.ops [
    ⟨(some 11), none, false, .faddr (.tmp 3) 0⟩,
    ⟨(some 12), none, false, .load1 (.tmp 11)⟩,
    ⟨(some 13), none, false, .bin .neq (.tmp 12) (.const (.int .i64 0))⟩]) (.cond (.tmp 13) (.seq (.ops [
    ⟨(some 14), none, false, .faddr (.tmp 3) 0⟩,
    ⟨(some 15), none, false, .load1 (.tmp 14)⟩,
    ⟨(some 16), none, false, .call strconv_Itoa [(.tmp 15)]⟩,
    ⟨(some 17), none, false, .lit [.string ⟨#[]⟩] 1 2 [(0, 1, (.const (.string ⟨#[101, 114, 114, 111, 114]⟩))), (1, 1, (.tmp 16))]⟩,
    ⟨(some 18), none, false, .call tell_line [(.tmp 17)]⟩,
    ⟨(some 19), none, false, .lit [.string ⟨#[]⟩] 1 1 [(0, 1, (.tmp 18))]⟩,
    ⟨(some 4), none, false, .mov (.tmp 19)⟩]) .ret) .skip)) (.seq (.ops [
    ⟨(some 5), none, false, .mov (.const (.slice none 0 0))⟩]) (.seq (.seq (.ops [
    ⟨(some 20), none, false, .faddr (.tmp 2) 0⟩,
    ⟨(some 21), none, false, .load1 (.tmp 20)⟩]) (.block 0 (.seq (.seq (.ops [
    ⟨(some 23), none, false, .bin .eql (.tmp 21) (.const (.int .i64 1))⟩,
    ⟨(some 22), none, false, .mov (.tmp 23)⟩]) (.cond (.tmp 22) .skip (.seq (.ops [
    ⟨(some 24), none, false, .bin .eql (.tmp 21) (.const (.int .i64 3))⟩,
    ⟨(some 22), none, false, .mov (.tmp 24)⟩]) (.cond (.tmp 22) .skip (.ops [
    ⟨(some 25), none, false, .bin .eql (.tmp 21) (.const (.int .i64 4))⟩,
    ⟨(some 22), none, false, .mov (.tmp 25)⟩]))))) (.cond (.tmp 22) (.seq (.ops [
    ⟨(some 26), none, false, .lit [.string ⟨#[]⟩] 1 1 [(0, 1, (.const (.string ⟨#[105, 100, 115]⟩)))]⟩,
    ⟨(some 6), none, false, .mov (.tmp 26)⟩]) (.seq (.seq (.ops [
    ⟨(some 27), none, false, .faddr (.tmp 3) 1⟩,
    ⟨(some 28), none, false, .load1 (.tmp 27)⟩,
    ⟨(some 29), none, false, .lens false (.tmp 28)⟩,
    ⟨(some 30), none, false, .mov (.const (.int .i64 0))⟩]) (.block 1 (.loop (.seq (.ops [
    ⟨(some 31), none, false, .bin .lss (.tmp 30) (.tmp 29)⟩]) (.seq (.cond (.tmp 31) .skip (.exit 1)) (.seq (.block 2 (.seq (.ops [
    ⟨(some 32), none, false, .iaddr (.tmp 28) (.tmp 30) 1⟩,
    ⟨(some 33), none, false, .load1 (.tmp 32)⟩,
    ⟨(some 8), none, false, .mov (.tmp 33)⟩]) (.ops [
    ⟨(some 34), none, false, .mov (.tmp 6)⟩,
    ⟨(some 35), none, false, .mov (.tmp 8)⟩,
    ⟨(some 36), none, false, .call tell_digits [(.tmp 35)]⟩,
    ⟨(some 37), none, false, .lit [.string ⟨#[]⟩] 1 1 [(0, 1, (.tmp 36))]⟩,
    ⟨(some 38), none, false, .app (.tmp 34) (.tmp 37) 1 16⟩,
    ⟨(some 6), none, false, .mov (.tmp 38)⟩]))) (.ops [
    ⟨(some 39), none, false, .bin .add (.tmp 30) (.const (.int .i64 1))⟩,
    ⟨(some 30), none, false, .mov (.tmp 39)⟩]))))))) (.seq (.ops [
    ⟨(some 40), none, false, .mov (.tmp 5)⟩,
    ⟨(some 41), none, false, .mov (.tmp 6)⟩,
    ⟨(some 42), none, false, .call tell_line [(.tmp 41)]⟩,
    ⟨(some 43), none, false, .lit [.string ⟨#[]⟩] 1 1 [(0, 1, (.tmp 42))]⟩,
    ⟨(some 44), none, false, .app (.tmp 40) (.tmp 43) 1 16⟩,
    ⟨(some 4), none, false, .mov (.tmp 44)⟩]) .ret))) (.seq (.seq (.ops [
    ⟨(some 46), none, false, .bin .eql (.tmp 21) (.const (.int .i64 2))⟩,
    ⟨(some 45), none, false, .mov (.tmp 46)⟩]) (.cond (.tmp 45) .skip (.ops [
    ⟨(some 47), none, false, .bin .eql (.tmp 21) (.const (.int .i64 9))⟩,
    ⟨(some 45), none, false, .mov (.tmp 47)⟩]))) (.cond (.tmp 45) (.seq (.seq (.ops [
    ⟨(some 48), none, false, .faddr (.tmp 3) 2⟩,
    ⟨(some 49), none, false, .load1 (.tmp 48)⟩,
    ⟨(some 50), none, false, .lens false (.tmp 49)⟩,
    ⟨(some 51), none, false, .mov (.const (.int .i64 0))⟩]) (.block 3 (.loop (.seq (.ops [
    ⟨(some 52), none, false, .bin .lss (.tmp 51) (.tmp 50)⟩]) (.seq (.cond (.tmp 52) .skip (.exit 3)) (.seq (.block 4 (.seq (.ops [
    ⟨(some 53), none, false, .iaddr (.tmp 49) (.tmp 51) 1⟩,
    ⟨(some 54), none, false, .load1 (.tmp 53)⟩,
    ⟨(some 10), none, false, .mov (.tmp 54)⟩]) (.ops [
    ⟨(some 55), none, false, .mov (.tmp 5)⟩,
    ⟨(some 56), none, false, .mov (.tmp 10)⟩,
    ⟨(some 57), none, false, .b2s (.tmp 56)⟩,
    ⟨(some 58), none, false, .call tell_digits [(.tmp 57)]⟩,
    ⟨(some 59), none, false, .lit [.string ⟨#[]⟩] 1 2 [(0, 1, (.const (.string ⟨#[116, 101, 120, 116]⟩))), (1, 1, (.tmp 58))]⟩,
    ⟨(some 60), none, false, .call tell_line [(.tmp 59)]⟩,
    ⟨(some 61), none, false, .lit [.string ⟨#[]⟩] 1 1 [(0, 1, (.tmp 60))]⟩,
    ⟨(some 62), none, false, .app (.tmp 55) (.tmp 61) 1 16⟩,
    ⟨(some 5), none, false, .mov (.tmp 62)⟩]))) (.ops [
    ⟨(some 63), none, false, .bin .add (.tmp 51) (.const (.int .i64 1))⟩,
    ⟨(some 51), none, false, .mov (.tmp 63)⟩]))))))) (.seq (.ops [
    ⟨(some 64), none, false, .mov (.tmp 5)⟩,
    ⟨(some 4), none, false, .mov (.tmp 64)⟩]) .ret)) (.seq (.ops [
    ⟨(some 66), none, false, .bin .eql (.tmp 21) (.const (.int .i64 5))⟩,
    ⟨(some 65), none, false, .mov (.tmp 66)⟩]) (.cond (.tmp 65) (.seq (.ops [
    ⟨(some 67), none, false, .faddr (.tmp 3) 3⟩,
    ⟨(some 68), none, false, .loadn (.tmp 67) 4⟩,
    ⟨(some 69), none, false, .call tell_State [(.tmp 68)]⟩,
    ⟨(some 4), none, false, .mov (.tmp 69)⟩]) .ret) .skip)))))))) (.seq (.ops [
    ⟨(some 70), none, false, .mov (.tmp 5)⟩,
    ⟨(some 71), none, false, .lit [.string ⟨#[]⟩] 1 1 [(0, 1, (.const (.string ⟨#[111, 107]⟩)))]⟩,
    ⟨(some 72), none, false, .app (.tmp 70) (.tmp 71) 1 16⟩,
    ⟨(some 4), none, false, .mov (.tmp 72)⟩]) .ret)))))
theorem fits_tell_Reply : Fits Tryd.prog 3 tell_Reply ic_tell_Reply [.tmp 4] 2 :=
  ⟨Tryd.f12, Tryd.func12, by decide, by kernel_rfl, by kernel_rfl⟩

/-- chantry/chantryref40.Reply -/
noncomputable def ic_chantryref40_Reply : IC :=
  (.seq (.ops [
    ⟨(some 2), none, false, .box (.tmp 0)⟩,
    ⟨(some 3), none, false, .box (.tmp 1)⟩,
    ⟨(some 4), none, false, .mov (.const (.slice none 0 0))⟩]) (.seq (.seq (.ops [
    ⟨(some 9), none, false, .faddr (.tmp 3) 0⟩,
    ⟨(some 10), none, false, .load1 (.tmp 9)⟩,
    ⟨(some 11), none, false, .bin .neq (.tmp 10) (.const (.int .i64 0))⟩]) (.cond (.tmp 11) (.seq (.ops [
    ⟨(some 12), none, false, .faddr (.tmp 3) 0⟩,
    ⟨(some 13), none, false, .load1 (.tmp 12)⟩,
    ⟨(some 14), none, false, .call chantryref40_number [(.tmp 13)]⟩,
    ⟨(some 15), none, false, .bin .add (.const (.string ⟨#[101, 114, 114, 111, 114]⟩)) (.tmp 14)⟩,
    ⟨(some 16), none, false, .lit [.string ⟨#[]⟩] 1 1 [(0, 1, (.tmp 15))]⟩,
    ⟨(some 4), none, false, .mov (.tmp 16)⟩]) .ret) .skip)) (.seq (.seq (.ops [
    ⟨(some 17), none, false, .faddr (.tmp 2) 0⟩,
    ⟨(some 18), none, false, .load1 (.tmp 17)⟩]) (.block 0 (.seq (.seq (.ops [
    ⟨(some 20), none, false, .bin .eql (.tmp 18) (.const (.int .i64 1))⟩,
    ⟨(some 19), none, false, .mov (.tmp 20)⟩]) (.cond (.tmp 19) .skip (.seq (.ops [
    ⟨(some 21), none, false, .bin .eql (.tmp 18) (.const (.int .i64 3))⟩,
    ⟨(some 19), none, false, .mov (.tmp 21)⟩]) (.cond (.tmp 19) .skip (.ops [
    ⟨(some 22), none, false, .bin .eql (.tmp 18) (.const (.int .i64 4))⟩,
    ⟨(some 19), none, false, .mov (.tmp 22)⟩]))))) (.cond (.tmp 19) (.seq (.ops [
    ⟨(some 5), none, false, .mov (.const (.string ⟨#[105, 100, 115]⟩))⟩]) (.seq (.seq (.ops [
    ⟨(some 6), none, false, .mov (.const (.int .i64 0))⟩]) (.block 1 (.loop (.seq (.seq (.ops [
    ⟨(some 23), none, false, .mov (.tmp 6)⟩,
    ⟨(some 24), none, false, .faddr (.tmp 3) 1⟩,
    ⟨(some 25), none, false, .load1 (.tmp 24)⟩,
    ⟨(some 26), none, false, .lens false (.tmp 25)⟩,
    ⟨(some 27), none, false, .bin .lss (.tmp 23) (.tmp 26)⟩]) (.cond (.tmp 27) .skip (.exit 1))) (.seq (.block 2 (.ops [
    ⟨(some 30), none, false, .mov (.tmp 5)⟩,
    ⟨(some 31), none, false, .faddr (.tmp 3) 1⟩,
    ⟨(some 32), none, false, .load1 (.tmp 31)⟩,
    ⟨(some 33), none, false, .mov (.tmp 6)⟩,
    ⟨(some 34), none, false, .iaddr (.tmp 32) (.tmp 33) 1⟩,
    ⟨(some 35), none, false, .load1 (.tmp 34)⟩,
    ⟨(some 36), none, false, .call chantryref40_digits [(.tmp 35)]⟩,
    ⟨(some 37), none, false, .bin .add (.tmp 30) (.tmp 36)⟩,
    ⟨(some 5), none, false, .mov (.tmp 37)⟩])) (.ops [
    ⟨(some 28), none, false, .mov (.tmp 6)⟩,
    ⟨(some 29), none, false, .bin .add (.tmp 28) (.const (.int .i64 1))⟩,
    ⟨(some 6), none, false, .mov (.tmp 29)⟩])))))) (.seq (.ops [
    ⟨(some 38), none, false, .mov (.tmp 5)⟩,
    ⟨(some 39), none, false, .lit [.string ⟨#[]⟩] 1 1 [(0, 1, (.tmp 38))]⟩,
    ⟨(some 4), none, false, .mov (.tmp 39)⟩]) .ret))) (.seq (.seq (.ops [
    ⟨(some 41), none, false, .bin .eql (.tmp 18) (.const (.int .i64 2))⟩,
    ⟨(some 40), none, false, .mov (.tmp 41)⟩]) (.cond (.tmp 40) .skip (.ops [
    ⟨(some 42), none, false, .bin .eql (.tmp 18) (.const (.int .i64 9))⟩,
    ⟨(some 40), none, false, .mov (.tmp 42)⟩]))) (.cond (.tmp 40) (.seq (.ops [
    ⟨(some 7), none, false, .mov (.const (.slice none 0 0))⟩]) (.seq (.seq (.ops [
    ⟨(some 8), none, false, .mov (.const (.int .i64 0))⟩]) (.block 3 (.loop (.seq (.seq (.ops [
    ⟨(some 43), none, false, .mov (.tmp 8)⟩,
    ⟨(some 44), none, false, .faddr (.tmp 3) 2⟩,
    ⟨(some 45), none, false, .load1 (.tmp 44)⟩,
    ⟨(some 46), none, false, .lens false (.tmp 45)⟩,
    ⟨(some 47), none, false, .bin .lss (.tmp 43) (.tmp 46)⟩]) (.cond (.tmp 47) .skip (.exit 3))) (.seq (.block 4 (.ops [
    ⟨(some 50), none, false, .mov (.tmp 7)⟩,
    ⟨(some 51), none, false, .faddr (.tmp 3) 2⟩,
    ⟨(some 52), none, false, .load1 (.tmp 51)⟩,
    ⟨(some 53), none, false, .mov (.tmp 8)⟩,
    ⟨(some 54), none, false, .iaddr (.tmp 52) (.tmp 53) 1⟩,
    ⟨(some 55), none, false, .load1 (.tmp 54)⟩,
    ⟨(some 56), none, false, .b2s (.tmp 55)⟩,
    ⟨(some 57), none, false, .call chantryref40_digits [(.tmp 56)]⟩,
    ⟨(some 58), none, false, .bin .add (.const (.string ⟨#[116, 101, 120, 116]⟩)) (.tmp 57)⟩,
    ⟨(some 59), none, false, .lit [.string ⟨#[]⟩] 1 1 [(0, 1, (.tmp 58))]⟩,
    ⟨(some 60), none, false, .app (.tmp 50) (.tmp 59) 1 16⟩,
    ⟨(some 7), none, false, .mov (.tmp 60)⟩])) (.ops [
    ⟨(some 48), none, false, .mov (.tmp 8)⟩,
    ⟨(some 49), none, false, .bin .add (.tmp 48) (.const (.int .i64 1))⟩,
    ⟨(some 8), none, false, .mov (.tmp 49)⟩])))))) (.seq (.ops [
    ⟨(some 61), none, false, .mov (.tmp 7)⟩,
    ⟨(some 4), none, false, .mov (.tmp 61)⟩]) .ret))) (.seq (.ops [
    ⟨(some 63), none, false, .bin .eql (.tmp 18) (.const (.int .i64 5))⟩,
    ⟨(some 62), none, false, .mov (.tmp 63)⟩]) (.cond (.tmp 62) (.seq (.ops [
    ⟨(some 64), none, false, .faddr (.tmp 3) 3⟩,
    ⟨(some 65), none, false, .loadn (.tmp 64) 4⟩,
    ⟨(some 66), none, false, .call chantryref40_State [(.tmp 65)]⟩,
    ⟨(some 4), none, false, .mov (.tmp 66)⟩]) .ret) .skip)))))))) (.seq (.ops [
    ⟨(some 67), none, false, .lit [.string ⟨#[]⟩] 1 1 [(0, 1, (.const (.string ⟨#[111, 107]⟩)))]⟩,
    ⟨(some 4), none, false, .mov (.tmp 67)⟩]) .ret))))
theorem fits_chantryref40_Reply : Fits Tryd.prog 3 chantryref40_Reply ic_chantryref40_Reply [.tmp 4] 2 :=
  ⟨Tryd.f13, Tryd.func13, by decide, by kernel_rfl, by kernel_rfl⟩

/-- chantry/tell.Fault -/
noncomputable def ic_tell_Fault : IC :=
  (.seq (.ops [
    ⟨(some 1), none, false, .box (.tmp 0)⟩,
    ⟨(some 2), none, false, .mov (.const (.string ⟨#[]⟩))⟩]) (.seq (.seq (.ops [
    ⟨(some 3), none, false, .faddr (.tmp 1) 0⟩,
    ⟨(some 4), none, false, .load1 (.tmp 3)⟩,
    ⟨(some 5), none, false, .bin .lss (.tmp 4) (.const (.int .i64 1))⟩,
    ⟨(some 6), none, false, .mov (.tmp 5)⟩,
    ⟨(some 7), (some (6, false)), false, .faddr (.tmp 1) 0⟩,
    ⟨(some 8), (some (6, false)), false, .load1 (.tmp 7)⟩,
    ⟨(some 9), (some (6, false)), false, .bin .geq (.tmp 8) (.const (.int .i64 8))⟩,
    ⟨(some 10), none, false, .pick (.tmp 6) (.const (.bool true)) (.tmp 9)⟩]) (.cond (.tmp 10) (.seq (.ops [
    ⟨(some 11), none, false, .iarr (.global 1) (.const (.int .i64 0)) 8 1⟩,
    ⟨(some 12), none, false, .load1 (.tmp 11)⟩,
    ⟨(some 2), none, false, .mov (.tmp 12)⟩]) .ret) .skip)) (.seq (.draw [
    ⟨(some 13), none, false, .faddr (.tmp 1) 0⟩,
    ⟨(some 14), none, true, .load1 (.tmp 13)⟩,
    ⟨(some 15), none, false, .iarr (.global 1) (.tmp 14) 8 1⟩,
    ⟨(some 16), none, true, .load1 (.tmp 15)⟩,
    ⟨(some 17), none, false, .faddr (.tmp 1) 1⟩,
    ⟨(some 18), none, false, .load1 (.tmp 17)⟩,
    ⟨(some 19), none, true, .call strconv_Itoa [(.tmp 18)]⟩,
    ⟨(some 20), none, false, .lit [.string ⟨#[]⟩] 1 2 [(0, 1, (.tmp 16)), (1, 1, (.tmp 19))]⟩,
    ⟨(some 21), none, false, .call tell_line [(.tmp 20)]⟩,
    ⟨(some 2), none, false, .mov (.tmp 21)⟩]) .ret)))
theorem fits_tell_Fault : Fits Tryd.prog 3 tell_Fault ic_tell_Fault [.tmp 2] 1 :=
  ⟨Tryd.f14, Tryd.func14, by decide, by kernel_rfl, by kernel_rfl⟩

/-- chantry/chantryref40.Fault -/
noncomputable def ic_chantryref40_Fault : IC :=
  (.seq (.ops [
    ⟨(some 1), none, false, .box (.tmp 0)⟩,
    ⟨(some 2), none, false, .mov (.const (.string ⟨#[]⟩))⟩]) (.seq (.ops [
    ⟨(some 4), none, false, .lit [.string ⟨#[]⟩] 1 7 [(0, 1, (.const (.string ⟨#[115, 117, 112, 101, 114]⟩))), (1, 1, (.const (.string ⟨#[109, 97, 110, 105, 102, 101, 115, 116]⟩))), (2, 1, (.const (.string ⟨#[115, 101, 103, 109, 101, 110, 116]⟩))), (3, 1, (.const (.string ⟨#[116, 119, 105, 99, 101]⟩))), (4, 1, (.const (.string ⟨#[117, 112, 100, 97, 116, 101]⟩))), (5, 1, (.const (.string ⟨#[112, 114, 101, 100]⟩))), (6, 1, (.const (.string ⟨#[115, 110, 97, 112, 115, 104, 111, 116]⟩)))]⟩,
    ⟨(some 5), none, false, .faddr (.tmp 1) 0⟩,
    ⟨(some 6), none, false, .load1 (.tmp 5)⟩,
    ⟨(some 7), none, false, .call chantryref40_name [(.tmp 4), (.tmp 6)]⟩,
    ⟨(some 3), none, false, .mov (.tmp 7)⟩]) (.seq (.seq (.ops [
    ⟨(some 8), none, false, .mov (.tmp 3)⟩,
    ⟨(some 9), none, false, .bin .eql (.tmp 8) (.const (.string ⟨#[63]⟩))⟩]) (.cond (.tmp 9) (.seq (.ops [
    ⟨(some 10), none, false, .mov (.tmp 3)⟩,
    ⟨(some 2), none, false, .mov (.tmp 10)⟩]) .ret) .skip)) (.seq (.ops [
    ⟨(some 11), none, false, .mov (.tmp 3)⟩,
    ⟨(some 12), none, false, .faddr (.tmp 1) 1⟩,
    ⟨(some 13), none, false, .load1 (.tmp 12)⟩,
    ⟨(some 14), none, false, .call chantryref40_number [(.tmp 13)]⟩,
    ⟨(some 15), none, false, .bin .add (.tmp 11) (.tmp 14)⟩,
    ⟨(some 2), none, false, .mov (.tmp 15)⟩]) .ret))))
theorem fits_chantryref40_Fault : Fits Tryd.prog 3 chantryref40_Fault ic_chantryref40_Fault [.tmp 2] 1 :=
  ⟨Tryd.f15, Tryd.func15, by decide, by kernel_rfl, by kernel_rfl⟩

/-- chantry/tell.State -/
noncomputable def ic_tell_State : IC :=
  (.seq (.ops [
    ⟨(some 1), none, false, .box (.tmp 0)⟩,
    ⟨(some 2), none, false, .mov (.const (.slice none 0 0))⟩]) (.seq (.ops [
    ⟨(some 3), none, false, .mov (.const (.slice none 0 0))⟩]) (.seq (.seq (.ops [
    ⟨(some 6), none, false, .faddr (.tmp 1) 0⟩,
    ⟨(some 7), none, false, .load1 (.tmp 6)⟩,
    ⟨(some 8), none, false, .lens false (.tmp 7)⟩,
    ⟨(some 9), none, false, .mov (.const (.int .i64 0))⟩]) (.block 0 (.loop (.seq (.ops [
    ⟨(some 10), none, false, .bin .lss (.tmp 9) (.tmp 8)⟩]) (.seq (.cond (.tmp 10) .skip (.exit 0)) (.seq (.block 1 (.seq (.ops [
    ⟨(some 11), none, false, .iaddr (.tmp 7) (.tmp 9) 2⟩,
    ⟨(some 12), none, false, .loadn (.tmp 11) 2⟩,
    ⟨(some 5), none, false, .new [.string ⟨#[]⟩, .int .i64 0]⟩,
    ⟨none, none, false, .store (.tmp 5) (.tmp 12) 2⟩]) (.draw [
    ⟨(some 13), none, false, .mov (.tmp 3)⟩,
    ⟨(some 14), none, false, .faddr (.tmp 5) 0⟩,
    ⟨(some 15), none, true, .load1 (.tmp 14)⟩,
    ⟨(some 16), none, false, .faddr (.tmp 5) 1⟩,
    ⟨(some 17), none, false, .load1 (.tmp 16)⟩,
    ⟨(some 18), none, true, .call strconv_Itoa [(.tmp 17)]⟩,
    ⟨(some 19), none, false, .lit [.string ⟨#[]⟩] 1 3 [(0, 1, (.const (.string ⟨#[99, 111, 117, 110, 116]⟩))), (1, 1, (.tmp 15)), (2, 1, (.tmp 18))]⟩,
    ⟨(some 20), none, false, .call tell_line [(.tmp 19)]⟩,
    ⟨(some 21), none, false, .lit [.string ⟨#[]⟩] 1 1 [(0, 1, (.tmp 20))]⟩,
    ⟨(some 22), none, false, .app (.tmp 13) (.tmp 21) 1 16⟩,
    ⟨(some 3), none, false, .mov (.tmp 22)⟩]))) (.ops [
    ⟨(some 23), none, false, .bin .add (.tmp 9) (.const (.int .i64 1))⟩,
    ⟨(some 9), none, false, .mov (.tmp 23)⟩]))))))) (.seq (.ops [
    ⟨(some 24), none, false, .mov (.tmp 3)⟩,
    ⟨(some 25), none, false, .faddr (.tmp 1) 1⟩,
    ⟨(some 26), none, false, .load1 (.tmp 25)⟩,
    ⟨(some 27), none, false, .call tell_words [(.const (.string ⟨#[109, 101, 109, 98, 101, 114]⟩)), (.tmp 26)]⟩,
    ⟨(some 28), none, false, .app (.tmp 24) (.tmp 27) 1 16⟩,
    ⟨(some 3), none, false, .mov (.tmp 28)⟩]) (.seq (.ops [
    ⟨(some 29), none, false, .mov (.tmp 3)⟩,
    ⟨(some 30), none, false, .faddr (.tmp 1) 2⟩,
    ⟨(some 31), none, false, .load1 (.tmp 30)⟩,
    ⟨(some 32), none, false, .call tell_words [(.const (.string ⟨#[118, 97, 108, 117, 101]⟩)), (.tmp 31)]⟩,
    ⟨(some 33), none, false, .app (.tmp 29) (.tmp 32) 1 16⟩,
    ⟨(some 3), none, false, .mov (.tmp 33)⟩]) (.seq (.ops [
    ⟨(some 34), none, false, .mov (.tmp 3)⟩,
    ⟨(some 35), none, false, .faddr (.tmp 1) 3⟩,
    ⟨(some 36), none, false, .load1 (.tmp 35)⟩,
    ⟨(some 37), none, false, .call tell_words [(.const (.string ⟨#[108, 105, 110, 101]⟩)), (.tmp 36)]⟩,
    ⟨(some 38), none, false, .app (.tmp 34) (.tmp 37) 1 16⟩,
    ⟨(some 2), none, false, .mov (.tmp 38)⟩]) .ret))))))
theorem fits_tell_State : Fits Tryd.prog 3 tell_State ic_tell_State [.tmp 2] 1 :=
  ⟨Tryd.f16, Tryd.func16, by decide, by kernel_rfl, by kernel_rfl⟩

/-- chantry/chantryref40.State -/
noncomputable def ic_chantryref40_State : IC :=
  (.seq (.ops [
    ⟨(some 1), none, false, .box (.tmp 0)⟩,
    ⟨(some 2), none, false, .mov (.const (.slice none 0 0))⟩]) (.seq (.ops [
    ⟨(some 3), none, false, .mov (.const (.slice none 0 0))⟩]) (.seq (.seq (.ops [
    ⟨(some 4), none, false, .mov (.const (.int .i64 0))⟩]) (.block 0 (.loop (.seq (.seq (.ops [
    ⟨(some 5), none, false, .mov (.tmp 4)⟩,
    ⟨(some 6), none, false, .faddr (.tmp 1) 0⟩,
    ⟨(some 7), none, false, .load1 (.tmp 6)⟩,
    ⟨(some 8), none, false, .lens false (.tmp 7)⟩,
    ⟨(some 9), none, false, .bin .lss (.tmp 5) (.tmp 8)⟩]) (.cond (.tmp 9) .skip (.exit 0))) (.seq (.block 1 (.draw [
    ⟨(some 12), none, false, .mov (.tmp 3)⟩,
    ⟨(some 13), none, false, .faddr (.tmp 1) 0⟩,
    ⟨(some 14), none, true, .load1 (.tmp 13)⟩,
    ⟨(some 15), none, false, .mov (.tmp 4)⟩,
    ⟨(some 16), none, false, .iaddr (.tmp 14) (.tmp 15) 2⟩,
    ⟨(some 17), none, false, .faddr (.tmp 16) 0⟩,
    ⟨(some 18), none, true, .load1 (.tmp 17)⟩,
    ⟨(some 19), none, false, .bin .add (.const (.string ⟨#[99, 111, 117, 110, 116, 32]⟩)) (.tmp 18)⟩,
    ⟨(some 20), none, false, .faddr (.tmp 1) 0⟩,
    ⟨(some 21), none, false, .load1 (.tmp 20)⟩,
    ⟨(some 22), none, false, .mov (.tmp 4)⟩,
    ⟨(some 23), none, false, .iaddr (.tmp 21) (.tmp 22) 2⟩,
    ⟨(some 24), none, false, .faddr (.tmp 23) 1⟩,
    ⟨(some 25), none, false, .load1 (.tmp 24)⟩,
    ⟨(some 26), none, true, .call chantryref40_number [(.tmp 25)]⟩,
    ⟨(some 27), none, false, .bin .add (.tmp 19) (.tmp 26)⟩,
    ⟨(some 28), none, false, .lit [.string ⟨#[]⟩] 1 1 [(0, 1, (.tmp 27))]⟩,
    ⟨(some 29), none, false, .app (.tmp 12) (.tmp 28) 1 16⟩,
    ⟨(some 3), none, false, .mov (.tmp 29)⟩])) (.ops [
    ⟨(some 10), none, false, .mov (.tmp 4)⟩,
    ⟨(some 11), none, false, .bin .add (.tmp 10) (.const (.int .i64 1))⟩,
    ⟨(some 4), none, false, .mov (.tmp 11)⟩])))))) (.seq (.ops [
    ⟨(some 30), none, false, .mov (.tmp 3)⟩,
    ⟨(some 31), none, false, .faddr (.tmp 1) 1⟩,
    ⟨(some 32), none, false, .load1 (.tmp 31)⟩,
    ⟨(some 33), none, false, .call chantryref40_words [(.const (.string ⟨#[109, 101, 109, 98, 101, 114]⟩)), (.tmp 32)]⟩,
    ⟨(some 34), none, false, .app (.tmp 30) (.tmp 33) 1 16⟩,
    ⟨(some 3), none, false, .mov (.tmp 34)⟩]) (.seq (.ops [
    ⟨(some 35), none, false, .mov (.tmp 3)⟩,
    ⟨(some 36), none, false, .faddr (.tmp 1) 2⟩,
    ⟨(some 37), none, false, .load1 (.tmp 36)⟩,
    ⟨(some 38), none, false, .call chantryref40_words [(.const (.string ⟨#[118, 97, 108, 117, 101]⟩)), (.tmp 37)]⟩,
    ⟨(some 39), none, false, .app (.tmp 35) (.tmp 38) 1 16⟩,
    ⟨(some 3), none, false, .mov (.tmp 39)⟩]) (.seq (.ops [
    ⟨(some 40), none, false, .mov (.tmp 3)⟩,
    ⟨(some 41), none, false, .faddr (.tmp 1) 3⟩,
    ⟨(some 42), none, false, .load1 (.tmp 41)⟩,
    ⟨(some 43), none, false, .call chantryref40_words [(.const (.string ⟨#[108, 105, 110, 101]⟩)), (.tmp 42)]⟩,
    ⟨(some 44), none, false, .app (.tmp 40) (.tmp 43) 1 16⟩,
    ⟨(some 2), none, false, .mov (.tmp 44)⟩]) .ret))))))
theorem fits_chantryref40_State : Fits Tryd.prog 3 chantryref40_State ic_chantryref40_State [.tmp 2] 1 :=
  ⟨Tryd.f17, Tryd.func17, by decide, by kernel_rfl, by kernel_rfl⟩

/-- chantry/chantryref23.Same -/
noncomputable def ic_chantryref23_Same : IC :=
  (.seq (.ops [
    ⟨(some 2), none, false, .box (.tmp 0)⟩,
    ⟨(some 3), none, false, .box (.tmp 1)⟩,
    ⟨(some 4), none, false, .mov (.const (.bool false))⟩]) (.seq (.ops [
    ⟨(some 5), none, false, .faddr (.tmp 2) 0⟩,
    ⟨(some 6), none, false, .load1 (.tmp 5)⟩,
    ⟨(some 7), none, false, .faddr (.tmp 3) 0⟩,
    ⟨(some 8), none, false, .load1 (.tmp 7)⟩,
    ⟨(some 9), none, false, .call chantryref19_Same [(.tmp 6), (.tmp 8)]⟩,
    ⟨(some 10), none, false, .mov (.tmp 9)⟩,
    ⟨(some 11), (some (10, true)), false, .faddr (.tmp 2) 1⟩,
    ⟨(some 12), (some (10, true)), false, .load1 (.tmp 11)⟩,
    ⟨(some 13), (some (10, true)), false, .faddr (.tmp 3) 1⟩,
    ⟨(some 14), (some (10, true)), false, .load1 (.tmp 13)⟩,
    ⟨(some 15), (some (10, true)), false, .call chantryref20_SameWords [(.tmp 12), (.tmp 14)]⟩,
    ⟨(some 16), none, false, .pick (.tmp 10) (.tmp 15) (.const (.bool false))⟩,
    ⟨(some 17), none, false, .mov (.tmp 16)⟩,
    ⟨(some 18), (some (17, true)), false, .faddr (.tmp 2) 2⟩,
    ⟨(some 19), (some (17, true)), false, .load1 (.tmp 18)⟩,
    ⟨(some 20), (some (17, true)), false, .faddr (.tmp 3) 2⟩,
    ⟨(some 21), (some (17, true)), false, .load1 (.tmp 20)⟩,
    ⟨(some 22), (some (17, true)), false, .call chantryref20_SameWords [(.tmp 19), (.tmp 21)]⟩,
    ⟨(some 23), none, false, .pick (.tmp 17) (.tmp 22) (.const (.bool false))⟩,
    ⟨(some 24), none, false, .mov (.tmp 23)⟩,
    ⟨(some 25), (some (24, true)), false, .faddr (.tmp 2) 3⟩,
    ⟨(some 26), (some (24, true)), false, .load1 (.tmp 25)⟩,
    ⟨(some 27), (some (24, true)), false, .faddr (.tmp 3) 3⟩,
    ⟨(some 28), (some (24, true)), false, .load1 (.tmp 27)⟩,
    ⟨(some 29), (some (24, true)), false, .call chantryref20_SameWords [(.tmp 26), (.tmp 28)]⟩,
    ⟨(some 30), none, false, .pick (.tmp 24) (.tmp 29) (.const (.bool false))⟩,
    ⟨(some 4), none, false, .mov (.tmp 30)⟩]) .ret))
theorem fits_chantryref23_Same : Fits Tryd.prog 3 chantryref23_Same ic_chantryref23_Same [.tmp 4] 2 :=
  ⟨Tryd.f18, Tryd.func18, by decide, by kernel_rfl, by kernel_rfl⟩

/-- chantry/chantryref39.Check -/
noncomputable def ic_chantryref39_Check : IC :=
  (.seq (.ops [
    ⟨(some 2), none, false, .mov (.const (.int .i64 0))⟩]) (.seq (.seq (.ops [
    ⟨(some 4), none, false, .mov (.tmp 0)⟩,
    ⟨(some 5), none, false, .lens false (.tmp 4)⟩,
    ⟨(some 6), none, false, .bin .gtr (.tmp 5) (.const (.int .i64 256))⟩]) (.cond (.tmp 6) (.seq (.ops [
    ⟨(some 2), none, false, .mov (.const (.int .i64 4))⟩]) .ret) .skip)) (.seq (.seq (.ops [
    ⟨(some 3), none, false, .mov (.const (.int .i64 0))⟩]) (.block 0 (.loop (.seq (.seq (.ops [
    ⟨(some 7), none, false, .mov (.tmp 3)⟩,
    ⟨(some 8), none, false, .mov (.tmp 0)⟩,
    ⟨(some 9), none, false, .lens false (.tmp 8)⟩,
    ⟨(some 10), none, false, .bin .lss (.tmp 7) (.tmp 9)⟩]) (.cond (.tmp 10) .skip (.exit 0))) (.seq (.block 1 (.seq (.ops [
    ⟨(some 13), none, false, .mov (.tmp 0)⟩,
    ⟨(some 14), none, false, .mov (.tmp 3)⟩,
    ⟨(some 15), none, false, .iaddr (.tmp 13) (.tmp 14) 5⟩,
    ⟨(some 16), none, false, .loadn (.tmp 15) 5⟩,
    ⟨(some 17), none, false, .call chantryref39_may [(.tmp 16)]⟩,
    ⟨(some 18), none, false, .un .not (.tmp 17)⟩]) (.cond (.tmp 18) (.seq (.ops [
    ⟨(some 2), none, false, .mov (.const (.int .i64 1))⟩]) .ret) .skip))) (.ops [
    ⟨(some 11), none, false, .mov (.tmp 3)⟩,
    ⟨(some 12), none, false, .bin .add (.tmp 11) (.const (.int .i64 1))⟩,
    ⟨(some 3), none, false, .mov (.tmp 12)⟩])))))) (.seq (.ops [
    ⟨(some 2), none, false, .mov (.const (.int .i64 0))⟩]) .ret))))
theorem fits_chantryref39_Check : Fits Tryd.prog 3 chantryref39_Check ic_chantryref39_Check [.tmp 2] 1 :=
  ⟨Tryd.f19, Tryd.func19, by decide, by kernel_rfl, by kernel_rfl⟩

/-- chantry/chantryref39.Same -/
noncomputable def ic_chantryref39_Same : IC :=
  (.seq (.ops [
    ⟨(some 4), none, false, .mov (.const (.bool false))⟩]) (.seq (.seq (.ops [
    ⟨(some 6), none, false, .mov (.tmp 0)⟩,
    ⟨(some 7), none, false, .lens false (.tmp 6)⟩,
    ⟨(some 8), none, false, .mov (.tmp 1)⟩,
    ⟨(some 9), none, false, .lens false (.tmp 8)⟩,
    ⟨(some 10), none, false, .bin .neq (.tmp 7) (.tmp 9)⟩]) (.cond (.tmp 10) (.seq (.ops [
    ⟨(some 4), none, false, .mov (.const (.bool false))⟩]) .ret) .skip)) (.seq (.seq (.ops [
    ⟨(some 5), none, false, .mov (.const (.int .i64 0))⟩]) (.block 0 (.loop (.seq (.seq (.ops [
    ⟨(some 11), none, false, .mov (.tmp 5)⟩,
    ⟨(some 12), none, false, .mov (.tmp 0)⟩,
    ⟨(some 13), none, false, .lens false (.tmp 12)⟩,
    ⟨(some 14), none, false, .bin .lss (.tmp 11) (.tmp 13)⟩]) (.cond (.tmp 14) .skip (.exit 0))) (.seq (.block 1 (.seq (.draw [
    ⟨(some 17), none, false, .mov (.tmp 0)⟩,
    ⟨(some 18), none, false, .mov (.tmp 5)⟩,
    ⟨(some 19), none, false, .iaddr (.tmp 17) (.tmp 18) 5⟩,
    ⟨(some 20), none, false, .faddr (.tmp 19) 0⟩,
    ⟨(some 21), none, false, .load1 (.tmp 20)⟩,
    ⟨(some 22), none, false, .mov (.tmp 1)⟩,
    ⟨(some 23), none, false, .mov (.tmp 5)⟩,
    ⟨(some 24), none, false, .iaddr (.tmp 22) (.tmp 23) 5⟩,
    ⟨(some 25), none, false, .faddr (.tmp 24) 0⟩,
    ⟨(some 26), none, false, .load1 (.tmp 25)⟩,
    ⟨(some 27), none, false, .bin .neq (.tmp 21) (.tmp 26)⟩,
    ⟨(some 28), none, false, .mov (.tmp 27)⟩,
    ⟨(some 29), (some (28, false)), false, .mov (.tmp 0)⟩,
    ⟨(some 30), (some (28, false)), false, .mov (.tmp 5)⟩,
    ⟨(some 31), (some (28, false)), false, .iaddr (.tmp 29) (.tmp 30) 5⟩,
    ⟨(some 32), (some (28, false)), false, .faddr (.tmp 31) 3⟩,
    ⟨(some 33), (some (28, false)), false, .load1 (.tmp 32)⟩,
    ⟨(some 34), (some (28, false)), false, .mov (.tmp 1)⟩,
    ⟨(some 35), (some (28, false)), false, .mov (.tmp 5)⟩,
    ⟨(some 36), (some (28, false)), false, .iaddr (.tmp 34) (.tmp 35) 5⟩,
    ⟨(some 37), (some (28, false)), false, .faddr (.tmp 36) 3⟩,
    ⟨(some 38), (some (28, false)), false, .load1 (.tmp 37)⟩,
    ⟨(some 39), (some (28, false)), false, .bin .neq (.tmp 33) (.tmp 38)⟩,
    ⟨(some 40), none, false, .pick (.tmp 28) (.const (.bool true)) (.tmp 39)⟩,
    ⟨(some 41), none, false, .mov (.tmp 40)⟩,
    ⟨(some 42), (some (41, false)), false, .mov (.tmp 0)⟩,
    ⟨(some 43), (some (41, false)), false, .mov (.tmp 5)⟩,
    ⟨(some 44), (some (41, false)), false, .iaddr (.tmp 42) (.tmp 43) 5⟩,
    ⟨(some 45), (some (41, false)), false, .faddr (.tmp 44) 1⟩,
    ⟨(some 46), (some (41, false)), false, .load1 (.tmp 45)⟩,
    ⟨(some 47), (some (41, false)), false, .mov (.tmp 1)⟩,
    ⟨(some 48), (some (41, false)), false, .mov (.tmp 5)⟩,
    ⟨(some 49), (some (41, false)), false, .iaddr (.tmp 47) (.tmp 48) 5⟩,
    ⟨(some 50), (some (41, false)), false, .faddr (.tmp 49) 1⟩,
    ⟨(some 51), (some (41, false)), false, .load1 (.tmp 50)⟩,
    ⟨(some 52), (some (41, false)), false, .call chantryref01_Bytes [(.tmp 46), (.tmp 51)]⟩,
    ⟨(some 53), (some (41, false)), false, .un .not (.tmp 52)⟩,
    ⟨(some 54), none, false, .pick (.tmp 41) (.const (.bool true)) (.tmp 53)⟩,
    ⟨(some 55), none, false, .mov (.tmp 54)⟩,
    ⟨(some 56), (some (55, false)), false, .mov (.tmp 0)⟩,
    ⟨(some 57), (some (55, false)), false, .mov (.tmp 5)⟩,
    ⟨(some 58), (some (55, false)), false, .iaddr (.tmp 56) (.tmp 57) 5⟩,
    ⟨(some 59), (some (55, false)), false, .faddr (.tmp 58) 2⟩,
    ⟨(some 60), (some (55, false)), false, .load1 (.tmp 59)⟩,
    ⟨(some 61), (some (55, false)), false, .mov (.tmp 1)⟩,
    ⟨(some 62), (some (55, false)), false, .mov (.tmp 5)⟩,
    ⟨(some 63), (some (55, false)), false, .iaddr (.tmp 61) (.tmp 62) 5⟩,
    ⟨(some 64), (some (55, false)), false, .faddr (.tmp 63) 2⟩,
    ⟨(some 65), (some (55, false)), false, .load1 (.tmp 64)⟩,
    ⟨(some 66), (some (55, false)), false, .call chantryref01_Texts [(.tmp 60), (.tmp 65)]⟩,
    ⟨(some 67), (some (55, false)), false, .un .not (.tmp 66)⟩,
    ⟨(some 68), none, false, .pick (.tmp 55) (.const (.bool true)) (.tmp 67)⟩,
    ⟨(some 69), none, false, .mov (.tmp 68)⟩,
    ⟨(some 70), (some (69, false)), false, .mov (.tmp 0)⟩,
    ⟨(some 71), (some (69, false)), false, .mov (.tmp 5)⟩,
    ⟨(some 72), (some (69, false)), false, .iaddr (.tmp 70) (.tmp 71) 5⟩,
    ⟨(some 73), (some (69, false)), false, .faddr (.tmp 72) 4⟩,
    ⟨(some 74), (some (69, false)), false, .load1 (.tmp 73)⟩,
    ⟨(some 75), (some (69, false)), false, .mov (.tmp 1)⟩,
    ⟨(some 76), (some (69, false)), false, .mov (.tmp 5)⟩,
    ⟨(some 77), (some (69, false)), false, .iaddr (.tmp 75) (.tmp 76) 5⟩,
    ⟨(some 78), (some (69, false)), false, .faddr (.tmp 77) 4⟩,
    ⟨(some 79), (some (69, false)), false, .load1 (.tmp 78)⟩,
    ⟨(some 80), (some (69, false)), false, .call chantryref01_Ints [(.tmp 74), (.tmp 79)]⟩,
    ⟨(some 81), (some (69, false)), false, .un .not (.tmp 80)⟩,
    ⟨(some 82), none, false, .pick (.tmp 69) (.const (.bool true)) (.tmp 81)⟩]) (.cond (.tmp 82) (.seq (.ops [
    ⟨(some 4), none, false, .mov (.const (.bool false))⟩]) .ret) .skip))) (.ops [
    ⟨(some 15), none, false, .mov (.tmp 5)⟩,
    ⟨(some 16), none, false, .bin .add (.tmp 15) (.const (.int .i64 1))⟩,
    ⟨(some 5), none, false, .mov (.tmp 16)⟩])))))) (.seq (.ops [
    ⟨(some 4), none, false, .mov (.const (.bool true))⟩]) .ret))))
theorem fits_chantryref39_Same : Fits Tryd.prog 3 chantryref39_Same ic_chantryref39_Same [.tmp 4] 2 :=
  ⟨Tryd.f20, Tryd.func20, by decide, by kernel_rfl, by kernel_rfl⟩

/-- chantry/tell.digits -/
noncomputable def ic_tell_digits : IC :=
  (.seq (.ops [
    ⟨(some 2), none, false, .mov (.const (.string ⟨#[]⟩))⟩]) (.seq (.ops [
    ⟨(some 3), none, false, .mov (.tmp 0)⟩,
    ⟨(some 4), none, false, .call ids_Hex [(.tmp 3)]⟩,
    ⟨(some 5), none, false, .bin .add (.const (.string ⟨#[35]⟩)) (.tmp 4)⟩,
    ⟨(some 2), none, false, .mov (.tmp 5)⟩]) .ret))
theorem fits_tell_digits : Fits Tryd.prog 3 tell_digits ic_tell_digits [.tmp 2] 1 :=
  ⟨Tryd.f21, Tryd.func21, by decide, by kernel_rfl, by kernel_rfl⟩

/-- chantry/tell.line -/
noncomputable def ic_tell_line : IC :=
  (.seq (.ops [
    ⟨(some 2), none, false, .mov (.const (.string ⟨#[]⟩))⟩]) (.seq (.ops [
    ⟨(some 3), none, false, .mov (.tmp 0)⟩,
    ⟨(some 4), none, false, .call strings_Join [(.tmp 3), (.const (.string ⟨#[32]⟩))]⟩,
    ⟨(some 2), none, false, .mov (.tmp 4)⟩]) .ret))
theorem fits_tell_line : Fits Tryd.prog 3 tell_line ic_tell_line [.tmp 2] 1 :=
  ⟨Tryd.f23, Tryd.func23, by decide, by kernel_rfl, by kernel_rfl⟩

/-- chantry/chantryref40.name -/
noncomputable def ic_chantryref40_name : IC :=
  (.seq (.ops [
    ⟨(some 4), none, false, .mov (.const (.string ⟨#[]⟩))⟩]) (.seq (.seq (.ops [
    ⟨(some 5), none, false, .mov (.tmp 1)⟩,
    ⟨(some 6), none, false, .bin .lss (.tmp 5) (.const (.int .i64 1))⟩,
    ⟨(some 7), none, false, .mov (.tmp 6)⟩,
    ⟨(some 8), (some (7, false)), false, .mov (.tmp 1)⟩,
    ⟨(some 9), (some (7, false)), false, .mov (.tmp 0)⟩,
    ⟨(some 10), (some (7, false)), false, .lens false (.tmp 9)⟩,
    ⟨(some 11), (some (7, false)), false, .bin .gtr (.tmp 8) (.tmp 10)⟩,
    ⟨(some 12), none, false, .pick (.tmp 7) (.const (.bool true)) (.tmp 11)⟩]) (.cond (.tmp 12) (.seq (.ops [
    ⟨(some 4), none, false, .mov (.const (.string ⟨#[63]⟩))⟩]) .ret) .skip)) (.seq (.ops [
    ⟨(some 13), none, false, .mov (.tmp 0)⟩,
    ⟨(some 14), none, false, .mov (.tmp 1)⟩,
    ⟨(some 15), none, false, .bin .sub (.tmp 14) (.const (.int .i64 1))⟩,
    ⟨(some 16), none, false, .iaddr (.tmp 13) (.tmp 15) 1⟩,
    ⟨(some 17), none, false, .load1 (.tmp 16)⟩,
    ⟨(some 4), none, false, .mov (.tmp 17)⟩]) .ret)))
theorem fits_chantryref40_name : Fits Tryd.prog 3 chantryref40_name ic_chantryref40_name [.tmp 4] 2 :=
  ⟨Tryd.f24, Tryd.func24, by decide, by kernel_rfl, by kernel_rfl⟩

/-- chantry/chantryref40.digits -/
noncomputable def ic_chantryref40_digits : IC :=
  (.seq (.ops [
    ⟨(some 2), none, false, .mov (.const (.string ⟨#[]⟩))⟩]) (.seq (.ops [
    ⟨(some 3), none, false, .mov (.tmp 0)⟩,
    ⟨(some 4), none, false, .call chantryref04_Hex [(.tmp 3)]⟩,
    ⟨(some 5), none, false, .bin .add (.const (.string ⟨#[32, 35]⟩)) (.tmp 4)⟩,
    ⟨(some 2), none, false, .mov (.tmp 5)⟩]) .ret))
theorem fits_chantryref40_digits : Fits Tryd.prog 3 chantryref40_digits ic_chantryref40_digits [.tmp 2] 1 :=
  ⟨Tryd.f25, Tryd.func25, by decide, by kernel_rfl, by kernel_rfl⟩

/-- chantry/chantryref40.number -/
noncomputable def ic_chantryref40_number : IC :=
  (.seq (.ops [
    ⟨(some 2), none, false, .mov (.const (.string ⟨#[]⟩))⟩]) (.seq (.seq (.ops [
    ⟨(some 3), none, false, .mov (.tmp 0)⟩,
    ⟨(some 4), none, false, .bin .eql (.tmp 3) (.const (.int .i64 (-9223372036854775808)))⟩]) (.cond (.tmp 4) (.seq (.ops [
    ⟨(some 2), none, false, .mov (.const (.string ⟨#[32, 45, 57, 50, 50, 51, 51, 55, 50, 48, 51, 54, 56, 53, 52, 55, 55, 53, 56, 48, 56]⟩))⟩]) .ret) .skip)) (.seq (.ops [
    ⟨(some 5), none, false, .mov (.tmp 0)⟩,
    ⟨(some 6), none, false, .call chantryref14_Digits [(.tmp 5)]⟩,
    ⟨(some 7), none, false, .bin .add (.const (.string ⟨#[32]⟩)) (.tmp 6)⟩,
    ⟨(some 2), none, false, .mov (.tmp 7)⟩]) .ret)))
theorem fits_chantryref40_number : Fits Tryd.prog 3 chantryref40_number ic_chantryref40_number [.tmp 2] 1 :=
  ⟨Tryd.f26, Tryd.func26, by decide, by kernel_rfl, by kernel_rfl⟩

/-- chantry/tell.words -/
noncomputable def ic_tell_words : IC :=
  (.seq (.ops [
    ⟨(some 4), none, false, .mov (.const (.slice none 0 0))⟩]) (.seq (.ops [
    ⟨(some 5), none, false, .mov (.const (.slice none 0 0))⟩]) (.seq (.seq (.ops [
    ⟨(some 8), none, false, .mov (.tmp 1)⟩,
    ⟨(some 9), none, false, .lens false (.tmp 8)⟩,
    ⟨(some 10), none, false, .mov (.const (.int .i64 0))⟩]) (.block 0 (.loop (.seq (.ops [
    ⟨(some 11), none, false, .bin .lss (.tmp 10) (.tmp 9)⟩]) (.seq (.cond (.tmp 11) .skip (.exit 0)) (.seq (.block 1 (.seq (.ops [
    ⟨(some 12), none, false, .iaddr (.tmp 8) (.tmp 10) 2⟩,
    ⟨(some 13), none, false, .loadn (.tmp 12) 2⟩,
    ⟨(some 7), none, false, .new [.string ⟨#[]⟩, .string ⟨#[]⟩]⟩,
    ⟨none, none, false, .store (.tmp 7) (.tmp 13) 2⟩]) (.draw [
    ⟨(some 14), none, false, .mov (.tmp 5)⟩,
    ⟨(some 15), none, false, .mov (.tmp 0)⟩,
    ⟨(some 16), none, false, .faddr (.tmp 7) 0⟩,
    ⟨(some 17), none, true, .load1 (.tmp 16)⟩,
    ⟨(some 18), none, false, .faddr (.tmp 7) 1⟩,
    ⟨(some 19), none, false, .load1 (.tmp 18)⟩,
    ⟨(some 20), none, true, .call tell_digits [(.tmp 19)]⟩,
    ⟨(some 21), none, false, .lit [.string ⟨#[]⟩] 1 3 [(0, 1, (.tmp 15)), (1, 1, (.tmp 17)), (2, 1, (.tmp 20))]⟩,
    ⟨(some 22), none, false, .call tell_line [(.tmp 21)]⟩,
    ⟨(some 23), none, false, .lit [.string ⟨#[]⟩] 1 1 [(0, 1, (.tmp 22))]⟩,
    ⟨(some 24), none, false, .app (.tmp 14) (.tmp 23) 1 16⟩,
    ⟨(some 5), none, false, .mov (.tmp 24)⟩]))) (.ops [
    ⟨(some 25), none, false, .bin .add (.tmp 10) (.const (.int .i64 1))⟩,
    ⟨(some 10), none, false, .mov (.tmp 25)⟩]))))))) (.seq (.ops [
    ⟨(some 26), none, false, .mov (.tmp 5)⟩,
    ⟨(some 4), none, false, .mov (.tmp 26)⟩]) .ret))))
theorem fits_tell_words : Fits Tryd.prog 3 tell_words ic_tell_words [.tmp 4] 2 :=
  ⟨Tryd.f27, Tryd.func27, by decide, by kernel_rfl, by kernel_rfl⟩

/-- chantry/chantryref40.words -/
noncomputable def ic_chantryref40_words : IC :=
  (.seq (.ops [
    ⟨(some 4), none, false, .mov (.const (.slice none 0 0))⟩]) (.seq (.ops [
    ⟨(some 5), none, false, .mov (.const (.slice none 0 0))⟩]) (.seq (.seq (.ops [
    ⟨(some 6), none, false, .mov (.const (.int .i64 0))⟩]) (.block 0 (.loop (.seq (.seq (.ops [
    ⟨(some 7), none, false, .mov (.tmp 6)⟩,
    ⟨(some 8), none, false, .mov (.tmp 1)⟩,
    ⟨(some 9), none, false, .lens false (.tmp 8)⟩,
    ⟨(some 10), none, false, .bin .lss (.tmp 7) (.tmp 9)⟩]) (.cond (.tmp 10) .skip (.exit 0))) (.seq (.block 1 (.draw [
    ⟨(some 13), none, false, .mov (.tmp 5)⟩,
    ⟨(some 14), none, false, .mov (.tmp 0)⟩,
    ⟨(some 15), none, false, .bin .add (.tmp 14) (.const (.string ⟨#[32]⟩))⟩,
    ⟨(some 16), none, false, .mov (.tmp 1)⟩,
    ⟨(some 17), none, false, .mov (.tmp 6)⟩,
    ⟨(some 18), none, false, .iaddr (.tmp 16) (.tmp 17) 2⟩,
    ⟨(some 19), none, false, .faddr (.tmp 18) 0⟩,
    ⟨(some 20), none, true, .load1 (.tmp 19)⟩,
    ⟨(some 21), none, false, .bin .add (.tmp 15) (.tmp 20)⟩,
    ⟨(some 22), none, false, .mov (.tmp 1)⟩,
    ⟨(some 23), none, false, .mov (.tmp 6)⟩,
    ⟨(some 24), none, false, .iaddr (.tmp 22) (.tmp 23) 2⟩,
    ⟨(some 25), none, false, .faddr (.tmp 24) 1⟩,
    ⟨(some 26), none, false, .load1 (.tmp 25)⟩,
    ⟨(some 27), none, true, .call chantryref40_digits [(.tmp 26)]⟩,
    ⟨(some 28), none, false, .bin .add (.tmp 21) (.tmp 27)⟩,
    ⟨(some 29), none, false, .lit [.string ⟨#[]⟩] 1 1 [(0, 1, (.tmp 28))]⟩,
    ⟨(some 30), none, false, .app (.tmp 13) (.tmp 29) 1 16⟩,
    ⟨(some 5), none, false, .mov (.tmp 30)⟩])) (.ops [
    ⟨(some 11), none, false, .mov (.tmp 6)⟩,
    ⟨(some 12), none, false, .bin .add (.tmp 11) (.const (.int .i64 1))⟩,
    ⟨(some 6), none, false, .mov (.tmp 12)⟩])))))) (.seq (.ops [
    ⟨(some 31), none, false, .mov (.tmp 5)⟩,
    ⟨(some 4), none, false, .mov (.tmp 31)⟩]) .ret))))
theorem fits_chantryref40_words : Fits Tryd.prog 3 chantryref40_words ic_chantryref40_words [.tmp 4] 2 :=
  ⟨Tryd.f28, Tryd.func28, by decide, by kernel_rfl, by kernel_rfl⟩

/-- chantry/chantryref19.Same -/
noncomputable def ic_chantryref19_Same : IC :=
  (.seq (.ops [
    ⟨(some 4), none, false, .mov (.const (.bool false))⟩]) (.seq (.seq (.ops [
    ⟨(some 6), none, false, .mov (.tmp 0)⟩,
    ⟨(some 7), none, false, .lens false (.tmp 6)⟩,
    ⟨(some 8), none, false, .mov (.tmp 1)⟩,
    ⟨(some 9), none, false, .lens false (.tmp 8)⟩,
    ⟨(some 10), none, false, .bin .neq (.tmp 7) (.tmp 9)⟩]) (.cond (.tmp 10) (.seq (.ops [
    ⟨(some 4), none, false, .mov (.const (.bool false))⟩]) .ret) .skip)) (.seq (.seq (.ops [
    ⟨(some 5), none, false, .mov (.const (.int .i64 0))⟩]) (.block 0 (.loop (.seq (.seq (.ops [
    ⟨(some 11), none, false, .mov (.tmp 5)⟩,
    ⟨(some 12), none, false, .mov (.tmp 0)⟩,
    ⟨(some 13), none, false, .lens false (.tmp 12)⟩,
    ⟨(some 14), none, false, .bin .lss (.tmp 11) (.tmp 13)⟩]) (.cond (.tmp 14) .skip (.exit 0))) (.seq (.block 1 (.seq (.draw [
    ⟨(some 17), none, false, .mov (.tmp 0)⟩,
    ⟨(some 18), none, false, .mov (.tmp 5)⟩,
    ⟨(some 19), none, false, .iaddr (.tmp 17) (.tmp 18) 2⟩,
    ⟨(some 20), none, false, .loadn (.tmp 19) 2⟩,
    ⟨(some 21), none, false, .mov (.tmp 1)⟩,
    ⟨(some 22), none, false, .mov (.tmp 5)⟩,
    ⟨(some 23), none, false, .iaddr (.tmp 21) (.tmp 22) 2⟩,
    ⟨(some 24), none, false, .loadn (.tmp 23) 2⟩,
    ⟨(some 25), none, false, .eqagg true (Tryd.prog.keyLits 8 48) (.tmp 20) (.tmp 24)⟩]) (.cond (.tmp 25) (.seq (.ops [
    ⟨(some 4), none, false, .mov (.const (.bool false))⟩]) .ret) .skip))) (.ops [
    ⟨(some 15), none, false, .mov (.tmp 5)⟩,
    ⟨(some 16), none, false, .bin .add (.tmp 15) (.const (.int .i64 1))⟩,
    ⟨(some 5), none, false, .mov (.tmp 16)⟩])))))) (.seq (.ops [
    ⟨(some 4), none, false, .mov (.const (.bool true))⟩]) .ret))))
theorem fits_chantryref19_Same : Fits Tryd.prog 3 chantryref19_Same ic_chantryref19_Same [.tmp 4] 2 :=
  ⟨Tryd.f29, Tryd.func29, by decide, by kernel_rfl, by kernel_rfl⟩

/-- chantry/chantryref20.SameWords -/
noncomputable def ic_chantryref20_SameWords : IC :=
  (.seq (.ops [
    ⟨(some 4), none, false, .mov (.const (.bool false))⟩]) (.seq (.seq (.ops [
    ⟨(some 6), none, false, .mov (.tmp 0)⟩,
    ⟨(some 7), none, false, .lens false (.tmp 6)⟩,
    ⟨(some 8), none, false, .mov (.tmp 1)⟩,
    ⟨(some 9), none, false, .lens false (.tmp 8)⟩,
    ⟨(some 10), none, false, .bin .neq (.tmp 7) (.tmp 9)⟩]) (.cond (.tmp 10) (.seq (.ops [
    ⟨(some 4), none, false, .mov (.const (.bool false))⟩]) .ret) .skip)) (.seq (.seq (.ops [
    ⟨(some 5), none, false, .mov (.const (.int .i64 0))⟩]) (.block 0 (.loop (.seq (.seq (.ops [
    ⟨(some 11), none, false, .mov (.tmp 5)⟩,
    ⟨(some 12), none, false, .mov (.tmp 0)⟩,
    ⟨(some 13), none, false, .lens false (.tmp 12)⟩,
    ⟨(some 14), none, false, .bin .lss (.tmp 11) (.tmp 13)⟩]) (.cond (.tmp 14) .skip (.exit 0))) (.seq (.block 1 (.seq (.draw [
    ⟨(some 17), none, false, .mov (.tmp 0)⟩,
    ⟨(some 18), none, false, .mov (.tmp 5)⟩,
    ⟨(some 19), none, false, .iaddr (.tmp 17) (.tmp 18) 2⟩,
    ⟨(some 20), none, false, .loadn (.tmp 19) 2⟩,
    ⟨(some 21), none, false, .mov (.tmp 1)⟩,
    ⟨(some 22), none, false, .mov (.tmp 5)⟩,
    ⟨(some 23), none, false, .iaddr (.tmp 21) (.tmp 22) 2⟩,
    ⟨(some 24), none, false, .loadn (.tmp 23) 2⟩,
    ⟨(some 25), none, false, .eqagg true (Tryd.prog.keyLits 8 50) (.tmp 20) (.tmp 24)⟩]) (.cond (.tmp 25) (.seq (.ops [
    ⟨(some 4), none, false, .mov (.const (.bool false))⟩]) .ret) .skip))) (.ops [
    ⟨(some 15), none, false, .mov (.tmp 5)⟩,
    ⟨(some 16), none, false, .bin .add (.tmp 15) (.const (.int .i64 1))⟩,
    ⟨(some 5), none, false, .mov (.tmp 16)⟩])))))) (.seq (.ops [
    ⟨(some 4), none, false, .mov (.const (.bool true))⟩]) .ret))))
theorem fits_chantryref20_SameWords : Fits Tryd.prog 3 chantryref20_SameWords ic_chantryref20_SameWords [.tmp 4] 2 :=
  ⟨Tryd.f30, Tryd.func30, by decide, by kernel_rfl, by kernel_rfl⟩

/-- chantry/chantryref39.may -/
noncomputable def ic_chantryref39_may : IC :=
  (.seq (.ops [
    ⟨(some 1), none, false, .box (.tmp 0)⟩,
    ⟨(some 2), none, false, .mov (.const (.bool false))⟩]) (.seq (.ops [
    ⟨(some 12), none, false, .faddr (.tmp 1) 0⟩,
    ⟨(some 13), none, false, .load1 (.tmp 12)⟩,
    ⟨(some 14), none, false, .call chantryref39_uses [(.tmp 13)]⟩,
    ⟨(some 11), none, false, .mov (.tmp 14)⟩,
    ⟨(some 15), none, false, .ext (.tmp 11) 0⟩,
    ⟨(some 16), none, false, .ext (.tmp 11) 1⟩,
    ⟨(some 17), none, false, .ext (.tmp 11) 2⟩,
    ⟨(some 18), none, false, .ext (.tmp 11) 3⟩,
    ⟨(some 19), none, false, .ext (.tmp 11) 4⟩,
    ⟨(some 3), none, false, .mov (.tmp 15)⟩,
    ⟨(some 4), none, false, .mov (.tmp 16)⟩,
    ⟨(some 5), none, false, .mov (.tmp 17)⟩,
    ⟨(some 6), none, false, .mov (.tmp 18)⟩,
    ⟨(some 7), none, false, .mov (.tmp 19)⟩]) (.seq (.seq (.ops [
    ⟨(some 20), none, false, .mov (.tmp 7)⟩,
    ⟨(some 21), none, false, .un .not (.tmp 20)⟩,
    ⟨(some 22), none, false, .mov (.tmp 21)⟩,
    ⟨(some 23), (some (22, false)), false, .mov (.tmp 3)⟩,
    ⟨(some 24), (some (22, false)), false, .un .not (.tmp 23)⟩,
    ⟨(some 25), (some (22, false)), false, .mov (.tmp 24)⟩,
    ⟨(some 26), (some (25, true)), false, .faddr (.tmp 1) 1⟩,
    ⟨(some 27), (some (25, true)), false, .load1 (.tmp 26)⟩,
    ⟨(some 28), (some (25, true)), false, .lens false (.tmp 27)⟩,
    ⟨(some 29), (some (25, true)), false, .bin .gtr (.tmp 28) (.const (.int .i64 0))⟩,
    ⟨(some 30), (some (22, false)), false, .pick (.tmp 25) (.tmp 29) (.const (.bool false))⟩,
    ⟨(some 31), none, false, .pick (.tmp 22) (.const (.bool true)) (.tmp 30)⟩,
    ⟨(some 32), none, false, .mov (.tmp 31)⟩,
    ⟨(some 33), (some (32, false)), false, .mov (.tmp 4)⟩,
    ⟨(some 34), (some (32, false)), false, .un .not (.tmp 33)⟩,
    ⟨(some 35), (some (32, false)), false, .mov (.tmp 34)⟩,
    ⟨(some 36), (some (35, true)), false, .faddr (.tmp 1) 2⟩,
    ⟨(some 37), (some (35, true)), false, .load1 (.tmp 36)⟩,
    ⟨(some 38), (some (35, true)), false, .lens false (.tmp 37)⟩,
    ⟨(some 39), (some (35, true)), false, .bin .gtr (.tmp 38) (.const (.int .i64 0))⟩,
    ⟨(some 40), (some (32, false)), false, .pick (.tmp 35) (.tmp 39) (.const (.bool false))⟩,
    ⟨(some 41), none, false, .pick (.tmp 32) (.const (.bool true)) (.tmp 40)⟩,
    ⟨(some 42), none, false, .mov (.tmp 41)⟩,
    ⟨(some 43), (some (42, false)), false, .mov (.tmp 5)⟩,
    ⟨(some 44), (some (42, false)), false, .un .not (.tmp 43)⟩,
    ⟨(some 45), (some (42, false)), false, .mov (.tmp 44)⟩,
    ⟨(some 46), (some (45, true)), false, .faddr (.tmp 1) 3⟩,
    ⟨(some 47), (some (45, true)), false, .load1 (.tmp 46)⟩,
    ⟨(some 48), (some (45, true)), false, .bin .neq (.tmp 47) (.const (.int .i64 0))⟩,
    ⟨(some 49), (some (42, false)), false, .pick (.tmp 45) (.tmp 48) (.const (.bool false))⟩,
    ⟨(some 50), none, false, .pick (.tmp 42) (.const (.bool true)) (.tmp 49)⟩,
    ⟨(some 51), none, false, .mov (.tmp 50)⟩,
    ⟨(some 52), (some (51, false)), false, .mov (.tmp 6)⟩,
    ⟨(some 53), (some (51, false)), false, .un .not (.tmp 52)⟩,
    ⟨(some 54), (some (51, false)), false, .mov (.tmp 53)⟩,
    ⟨(some 55), (some (54, true)), false, .faddr (.tmp 1) 4⟩,
    ⟨(some 56), (some (54, true)), false, .load1 (.tmp 55)⟩,
    ⟨(some 57), (some (54, true)), false, .lens false (.tmp 56)⟩,
    ⟨(some 58), (some (54, true)), false, .bin .gtr (.tmp 57) (.const (.int .i64 0))⟩,
    ⟨(some 59), (some (51, false)), false, .pick (.tmp 54) (.tmp 58) (.const (.bool false))⟩,
    ⟨(some 60), none, false, .pick (.tmp 51) (.const (.bool true)) (.tmp 59)⟩]) (.cond (.tmp 60) (.seq (.ops [
    ⟨(some 2), none, false, .mov (.const (.bool false))⟩]) .ret) .skip)) (.seq (.seq (.ops [
    ⟨(some 61), none, false, .faddr (.tmp 1) 1⟩,
    ⟨(some 62), none, false, .load1 (.tmp 61)⟩,
    ⟨(some 63), none, false, .lens false (.tmp 62)⟩,
    ⟨(some 64), none, false, .bin .gtr (.tmp 63) (.const (.int .i64 64))⟩,
    ⟨(some 65), none, false, .mov (.tmp 64)⟩,
    ⟨(some 66), (some (65, false)), false, .faddr (.tmp 1) 2⟩,
    ⟨(some 67), (some (65, false)), false, .load1 (.tmp 66)⟩,
    ⟨(some 68), (some (65, false)), false, .lens false (.tmp 67)⟩,
    ⟨(some 69), (some (65, false)), false, .bin .gtr (.tmp 68) (.const (.int .i64 64))⟩,
    ⟨(some 70), none, false, .pick (.tmp 65) (.const (.bool true)) (.tmp 69)⟩,
    ⟨(some 71), none, false, .mov (.tmp 70)⟩,
    ⟨(some 72), (some (71, false)), false, .faddr (.tmp 1) 3⟩,
    ⟨(some 73), (some (71, false)), false, .load1 (.tmp 72)⟩,
    ⟨(some 74), (some (71, false)), false, .bin .lss (.tmp 73) (.const (.int .i64 0))⟩,
    ⟨(some 75), none, false, .pick (.tmp 71) (.const (.bool true)) (.tmp 74)⟩,
    ⟨(some 76), none, false, .mov (.tmp 75)⟩,
    ⟨(some 77), (some (76, false)), false, .faddr (.tmp 1) 3⟩,
    ⟨(some 78), (some (76, false)), false, .load1 (.tmp 77)⟩,
    ⟨(some 79), (some (76, false)), false, .bin .gtr (.tmp 78) (.const (.int .i64 2147483647))⟩,
    ⟨(some 80), none, false, .pick (.tmp 76) (.const (.bool true)) (.tmp 79)⟩,
    ⟨(some 81), none, false, .mov (.tmp 80)⟩,
    ⟨(some 82), (some (81, false)), false, .faddr (.tmp 1) 4⟩,
    ⟨(some 83), (some (81, false)), false, .load1 (.tmp 82)⟩,
    ⟨(some 84), (some (81, false)), false, .lens false (.tmp 83)⟩,
    ⟨(some 85), (some (81, false)), false, .bin .gtr (.tmp 84) (.const (.int .i64 1024))⟩,
    ⟨(some 86), none, false, .pick (.tmp 81) (.const (.bool true)) (.tmp 85)⟩]) (.cond (.tmp 86) (.seq (.ops [
    ⟨(some 2), none, false, .mov (.const (.bool false))⟩]) .ret) .skip)) (.seq (.seq (.ops [
    ⟨(some 87), none, false, .faddr (.tmp 1) 0⟩,
    ⟨(some 88), none, false, .load1 (.tmp 87)⟩,
    ⟨(some 89), none, false, .bin .eql (.tmp 88) (.const (.int .i64 2))⟩,
    ⟨(some 90), none, false, .mov (.tmp 89)⟩,
    ⟨(some 91), (some (90, false)), false, .faddr (.tmp 1) 0⟩,
    ⟨(some 92), (some (90, false)), false, .load1 (.tmp 91)⟩,
    ⟨(some 93), (some (90, false)), false, .bin .eql (.tmp 92) (.const (.int .i64 4))⟩,
    ⟨(some 94), none, false, .pick (.tmp 90) (.const (.bool true)) (.tmp 93)⟩,
    ⟨(some 95), none, false, .mov (.tmp 94)⟩,
    ⟨(some 96), (some (95, true)), false, .faddr (.tmp 1) 2⟩,
    ⟨(some 97), (some (95, true)), false, .load1 (.tmp 96)⟩,
    ⟨(some 98), (some (95, true)), false, .lens false (.tmp 97)⟩,
    ⟨(some 99), (some (95, true)), false, .bin .neq (.tmp 98) (.const (.int .i64 1))⟩,
    ⟨(some 100), none, false, .pick (.tmp 95) (.tmp 99) (.const (.bool false))⟩]) (.cond (.tmp 100) (.seq (.ops [
    ⟨(some 2), none, false, .mov (.const (.bool false))⟩]) .ret) .skip)) (.seq (.seq (.ops [
    ⟨(some 8), none, false, .mov (.const (.int .i64 0))⟩]) (.block 0 (.loop (.seq (.seq (.ops [
    ⟨(some 101), none, false, .mov (.tmp 8)⟩,
    ⟨(some 102), none, false, .faddr (.tmp 1) 1⟩,
    ⟨(some 103), none, false, .load1 (.tmp 102)⟩,
    ⟨(some 104), none, false, .lens false (.tmp 103)⟩,
    ⟨(some 105), none, false, .bin .lss (.tmp 101) (.tmp 104)⟩]) (.cond (.tmp 105) .skip (.exit 0))) (.seq (.block 1 (.seq (.ops [
    ⟨(some 108), none, false, .faddr (.tmp 1) 1⟩,
    ⟨(some 109), none, false, .load1 (.tmp 108)⟩,
    ⟨(some 110), none, false, .mov (.tmp 8)⟩,
    ⟨(some 111), none, false, .iaddr (.tmp 109) (.tmp 110) 1⟩,
    ⟨(some 112), none, false, .load1 (.tmp 111)⟩,
    ⟨(some 113), none, false, .lens false (.tmp 112)⟩,
    ⟨(some 114), none, false, .bin .gtr (.tmp 113) (.const (.int .i64 1024))⟩]) (.cond (.tmp 114) (.seq (.ops [
    ⟨(some 2), none, false, .mov (.const (.bool false))⟩]) .ret) .skip))) (.ops [
    ⟨(some 106), none, false, .mov (.tmp 8)⟩,
    ⟨(some 107), none, false, .bin .add (.tmp 106) (.const (.int .i64 1))⟩,
    ⟨(some 8), none, false, .mov (.tmp 107)⟩])))))) (.seq (.seq (.ops [
    ⟨(some 9), none, false, .mov (.const (.int .i64 0))⟩]) (.block 2 (.loop (.seq (.seq (.ops [
    ⟨(some 115), none, false, .mov (.tmp 9)⟩,
    ⟨(some 116), none, false, .faddr (.tmp 1) 2⟩,
    ⟨(some 117), none, false, .load1 (.tmp 116)⟩,
    ⟨(some 118), none, false, .lens false (.tmp 117)⟩,
    ⟨(some 119), none, false, .bin .lss (.tmp 115) (.tmp 118)⟩]) (.cond (.tmp 119) .skip (.exit 2))) (.seq (.block 3 (.seq (.ops [
    ⟨(some 122), none, false, .faddr (.tmp 1) 2⟩,
    ⟨(some 123), none, false, .load1 (.tmp 122)⟩,
    ⟨(some 124), none, false, .mov (.tmp 9)⟩,
    ⟨(some 125), none, false, .iaddr (.tmp 123) (.tmp 124) 1⟩,
    ⟨(some 126), none, false, .load1 (.tmp 125)⟩,
    ⟨(some 127), none, false, .lens true (.tmp 126)⟩,
    ⟨(some 128), none, false, .bin .gtr (.tmp 127) (.const (.int .i64 64))⟩]) (.cond (.tmp 128) (.seq (.ops [
    ⟨(some 2), none, false, .mov (.const (.bool false))⟩]) .ret) .skip))) (.ops [
    ⟨(some 120), none, false, .mov (.tmp 9)⟩,
    ⟨(some 121), none, false, .bin .add (.tmp 120) (.const (.int .i64 1))⟩,
    ⟨(some 9), none, false, .mov (.tmp 121)⟩])))))) (.seq (.seq (.ops [
    ⟨(some 10), none, false, .mov (.const (.int .i64 0))⟩]) (.block 4 (.loop (.seq (.seq (.ops [
    ⟨(some 129), none, false, .mov (.tmp 10)⟩,
    ⟨(some 130), none, false, .faddr (.tmp 1) 4⟩,
    ⟨(some 131), none, false, .load1 (.tmp 130)⟩,
    ⟨(some 132), none, false, .lens false (.tmp 131)⟩,
    ⟨(some 133), none, false, .bin .lss (.tmp 129) (.tmp 132)⟩]) (.cond (.tmp 133) .skip (.exit 4))) (.seq (.block 5 (.seq (.ops [
    ⟨(some 136), none, false, .faddr (.tmp 1) 4⟩,
    ⟨(some 137), none, false, .load1 (.tmp 136)⟩,
    ⟨(some 138), none, false, .mov (.tmp 10)⟩,
    ⟨(some 139), none, false, .iaddr (.tmp 137) (.tmp 138) 1⟩,
    ⟨(some 140), none, false, .load1 (.tmp 139)⟩,
    ⟨(some 141), none, false, .bin .lss (.tmp 140) (.const (.int .i64 0))⟩,
    ⟨(some 142), none, false, .mov (.tmp 141)⟩,
    ⟨(some 143), (some (142, false)), false, .faddr (.tmp 1) 4⟩,
    ⟨(some 144), (some (142, false)), false, .load1 (.tmp 143)⟩,
    ⟨(some 145), (some (142, false)), false, .mov (.tmp 10)⟩,
    ⟨(some 146), (some (142, false)), false, .iaddr (.tmp 144) (.tmp 145) 1⟩,
    ⟨(some 147), (some (142, false)), false, .load1 (.tmp 146)⟩,
    ⟨(some 148), (some (142, false)), false, .bin .gtr (.tmp 147) (.const (.int .i64 15))⟩,
    ⟨(some 149), none, false, .pick (.tmp 142) (.const (.bool true)) (.tmp 148)⟩]) (.cond (.tmp 149) (.seq (.ops [
    ⟨(some 2), none, false, .mov (.const (.bool false))⟩]) .ret) .skip))) (.ops [
    ⟨(some 134), none, false, .mov (.tmp 10)⟩,
    ⟨(some 135), none, false, .bin .add (.tmp 134) (.const (.int .i64 1))⟩,
    ⟨(some 10), none, false, .mov (.tmp 135)⟩])))))) (.seq (.ops [
    ⟨(some 2), none, false, .mov (.const (.bool true))⟩]) .ret)))))))))
theorem fits_chantryref39_may : Fits Tryd.prog 3 chantryref39_may ic_chantryref39_may [.tmp 2] 1 :=
  ⟨Tryd.f31, Tryd.func31, by decide, by kernel_rfl, by kernel_rfl⟩

/-- chantry/chantryref01.Bytes -/
noncomputable def ic_chantryref01_Bytes : IC :=
  (.seq (.ops [
    ⟨(some 4), none, false, .mov (.const (.bool false))⟩]) (.seq (.seq (.ops [
    ⟨(some 6), none, false, .mov (.tmp 0)⟩,
    ⟨(some 7), none, false, .lens false (.tmp 6)⟩,
    ⟨(some 8), none, false, .mov (.tmp 1)⟩,
    ⟨(some 9), none, false, .lens false (.tmp 8)⟩,
    ⟨(some 10), none, false, .bin .neq (.tmp 7) (.tmp 9)⟩]) (.cond (.tmp 10) (.seq (.ops [
    ⟨(some 4), none, false, .mov (.const (.bool false))⟩]) .ret) .skip)) (.seq (.seq (.ops [
    ⟨(some 5), none, false, .mov (.const (.int .i64 0))⟩]) (.block 0 (.loop (.seq (.seq (.ops [
    ⟨(some 11), none, false, .mov (.tmp 5)⟩,
    ⟨(some 12), none, false, .mov (.tmp 0)⟩,
    ⟨(some 13), none, false, .lens false (.tmp 12)⟩,
    ⟨(some 14), none, false, .bin .lss (.tmp 11) (.tmp 13)⟩]) (.cond (.tmp 14) .skip (.exit 0))) (.seq (.block 1 (.seq (.draw [
    ⟨(some 17), none, false, .mov (.tmp 0)⟩,
    ⟨(some 18), none, false, .mov (.tmp 5)⟩,
    ⟨(some 19), none, false, .iaddr (.tmp 17) (.tmp 18) 1⟩,
    ⟨(some 20), none, false, .load1 (.tmp 19)⟩,
    ⟨(some 21), none, false, .b2s (.tmp 20)⟩,
    ⟨(some 22), none, false, .mov (.tmp 1)⟩,
    ⟨(some 23), none, false, .mov (.tmp 5)⟩,
    ⟨(some 24), none, false, .iaddr (.tmp 22) (.tmp 23) 1⟩,
    ⟨(some 25), none, false, .load1 (.tmp 24)⟩,
    ⟨(some 26), none, false, .b2s (.tmp 25)⟩,
    ⟨(some 27), none, false, .bin .neq (.tmp 21) (.tmp 26)⟩]) (.cond (.tmp 27) (.seq (.ops [
    ⟨(some 4), none, false, .mov (.const (.bool false))⟩]) .ret) .skip))) (.ops [
    ⟨(some 15), none, false, .mov (.tmp 5)⟩,
    ⟨(some 16), none, false, .bin .add (.tmp 15) (.const (.int .i64 1))⟩,
    ⟨(some 5), none, false, .mov (.tmp 16)⟩])))))) (.seq (.ops [
    ⟨(some 4), none, false, .mov (.const (.bool true))⟩]) .ret))))
theorem fits_chantryref01_Bytes : Fits Tryd.prog 3 chantryref01_Bytes ic_chantryref01_Bytes [.tmp 4] 2 :=
  ⟨Tryd.f32, Tryd.func32, by decide, by kernel_rfl, by kernel_rfl⟩

/-- chantry/chantryref01.Ints -/
noncomputable def ic_chantryref01_Ints : IC :=
  (.seq (.ops [
    ⟨(some 4), none, false, .mov (.const (.bool false))⟩]) (.seq (.seq (.ops [
    ⟨(some 6), none, false, .mov (.tmp 0)⟩,
    ⟨(some 7), none, false, .lens false (.tmp 6)⟩,
    ⟨(some 8), none, false, .mov (.tmp 1)⟩,
    ⟨(some 9), none, false, .lens false (.tmp 8)⟩,
    ⟨(some 10), none, false, .bin .neq (.tmp 7) (.tmp 9)⟩]) (.cond (.tmp 10) (.seq (.ops [
    ⟨(some 4), none, false, .mov (.const (.bool false))⟩]) .ret) .skip)) (.seq (.seq (.ops [
    ⟨(some 5), none, false, .mov (.const (.int .i64 0))⟩]) (.block 0 (.loop (.seq (.seq (.ops [
    ⟨(some 11), none, false, .mov (.tmp 5)⟩,
    ⟨(some 12), none, false, .mov (.tmp 0)⟩,
    ⟨(some 13), none, false, .lens false (.tmp 12)⟩,
    ⟨(some 14), none, false, .bin .lss (.tmp 11) (.tmp 13)⟩]) (.cond (.tmp 14) .skip (.exit 0))) (.seq (.block 1 (.seq (.draw [
    ⟨(some 17), none, false, .mov (.tmp 0)⟩,
    ⟨(some 18), none, false, .mov (.tmp 5)⟩,
    ⟨(some 19), none, false, .iaddr (.tmp 17) (.tmp 18) 1⟩,
    ⟨(some 20), none, false, .load1 (.tmp 19)⟩,
    ⟨(some 21), none, false, .mov (.tmp 1)⟩,
    ⟨(some 22), none, false, .mov (.tmp 5)⟩,
    ⟨(some 23), none, false, .iaddr (.tmp 21) (.tmp 22) 1⟩,
    ⟨(some 24), none, false, .load1 (.tmp 23)⟩,
    ⟨(some 25), none, false, .bin .neq (.tmp 20) (.tmp 24)⟩]) (.cond (.tmp 25) (.seq (.ops [
    ⟨(some 4), none, false, .mov (.const (.bool false))⟩]) .ret) .skip))) (.ops [
    ⟨(some 15), none, false, .mov (.tmp 5)⟩,
    ⟨(some 16), none, false, .bin .add (.tmp 15) (.const (.int .i64 1))⟩,
    ⟨(some 5), none, false, .mov (.tmp 16)⟩])))))) (.seq (.ops [
    ⟨(some 4), none, false, .mov (.const (.bool true))⟩]) .ret))))
theorem fits_chantryref01_Ints : Fits Tryd.prog 3 chantryref01_Ints ic_chantryref01_Ints [.tmp 4] 2 :=
  ⟨Tryd.f33, Tryd.func33, by decide, by kernel_rfl, by kernel_rfl⟩

/-- chantry/ids.Hex -/
noncomputable def ic_ids_Hex : IC :=
  (.seq (.ops [
    ⟨(some 2), none, false, .mov (.const (.string ⟨#[]⟩))⟩]) (.seq (.ops [
    ⟨(some 3), none, false, .mov (.const (.slice none 0 0))⟩]) (.seq (.seq (.ops [
    ⟨(some 6), none, false, .mov (.tmp 0)⟩,
    ⟨(some 7), none, false, .s2b (.tmp 6)⟩,
    ⟨(some 8), none, false, .lens false (.tmp 7)⟩,
    ⟨(some 9), none, false, .mov (.const (.int .i64 0))⟩]) (.block 0 (.loop (.seq (.ops [
    ⟨(some 10), none, false, .bin .lss (.tmp 9) (.tmp 8)⟩]) (.seq (.cond (.tmp 10) .skip (.exit 0)) (.seq (.block 1 (.seq (.ops [
    ⟨(some 11), none, false, .iaddr (.tmp 7) (.tmp 9) 1⟩,
    ⟨(some 12), none, false, .load1 (.tmp 11)⟩,
    ⟨(some 5), none, false, .mov (.tmp 12)⟩]) (.draw [
    ⟨(some 13), none, false, .mov (.tmp 3)⟩,
    ⟨(some 14), none, false, .mov (.tmp 5)⟩,
    ⟨(some 15), none, false, .bin .shr (.tmp 14) (.const (.int .u64 4))⟩,
    ⟨(some 16), none, false, .idxs (.const (.string ⟨#[48, 49, 50, 51, 52, 53, 54, 55, 56, 57, 97, 98, 99, 100, 101, 102]⟩)) (.tmp 15)⟩,
    ⟨(some 17), none, false, .mov (.tmp 5)⟩,
    ⟨(some 18), none, false, .bin .and (.tmp 17) (.const (.int .u8 15))⟩,
    ⟨(some 19), none, false, .idxs (.const (.string ⟨#[48, 49, 50, 51, 52, 53, 54, 55, 56, 57, 97, 98, 99, 100, 101, 102]⟩)) (.tmp 18)⟩,
    ⟨(some 20), none, false, .lit [.int .u8 0] 1 2 [(0, 1, (.tmp 16)), (1, 1, (.tmp 19))]⟩,
    ⟨(some 21), none, false, .app (.tmp 13) (.tmp 20) 1 1⟩,
    ⟨(some 3), none, false, .mov (.tmp 21)⟩]))) (.ops [
    ⟨(some 22), none, false, .bin .add (.tmp 9) (.const (.int .i64 1))⟩,
    ⟨(some 9), none, false, .mov (.tmp 22)⟩]))))))) (.seq (.ops [
    ⟨(some 23), none, false, .mov (.tmp 3)⟩,
    ⟨(some 24), none, false, .b2s (.tmp 23)⟩,
    ⟨(some 2), none, false, .mov (.tmp 24)⟩]) .ret))))
theorem fits_ids_Hex : Fits Tryd.prog 3 ids_Hex ic_ids_Hex [.tmp 2] 1 :=
  ⟨Tryd.f34, Tryd.func34, by decide, by kernel_rfl, by kernel_rfl⟩

/-- strings.Join -/
noncomputable def ic_strings_Join : IC :=
  (.seq (.ops [
    ⟨(some 4), none, false, .mov (.const (.string ⟨#[]⟩))⟩]) (.seq (.seq (.ops [
    ⟨(some 11), none, false, .mov (.tmp 0)⟩,
    ⟨(some 12), none, false, .lens false (.tmp 11)⟩]) (.block 0 (.seq (.ops [
    ⟨(some 14), none, false, .bin .eql (.tmp 12) (.const (.int .i64 0))⟩,
    ⟨(some 13), none, false, .mov (.tmp 14)⟩]) (.cond (.tmp 13) (.seq (.ops [
    ⟨(some 4), none, false, .mov (.const (.string ⟨#[]⟩))⟩]) .ret) (.seq (.ops [
    ⟨(some 16), none, false, .bin .eql (.tmp 12) (.const (.int .i64 1))⟩,
    ⟨(some 15), none, false, .mov (.tmp 16)⟩]) (.cond (.tmp 15) (.seq (.ops [
    ⟨(some 17), none, false, .mov (.tmp 0)⟩,
    ⟨(some 18), none, false, .iaddr (.tmp 17) (.const (.int .i64 0)) 1⟩,
    ⟨(some 19), none, false, .load1 (.tmp 18)⟩,
    ⟨(some 4), none, false, .mov (.tmp 19)⟩]) .ret) .skip)))))) (.seq (.ops [
    ⟨(some 5), none, false, .mov (.const (.int .i64 0))⟩]) (.seq (.seq (.ops [
    ⟨(some 20), none, false, .mov (.tmp 1)⟩,
    ⟨(some 21), none, false, .lens true (.tmp 20)⟩,
    ⟨(some 22), none, false, .bin .gtr (.tmp 21) (.const (.int .i64 0))⟩]) (.cond (.tmp 22) (.seq (.seq (.ops [
    ⟨(some 23), none, false, .mov (.tmp 1)⟩,
    ⟨(some 24), none, false, .lens true (.tmp 23)⟩,
    ⟨(some 25), none, false, .mov (.tmp 0)⟩,
    ⟨(some 26), none, false, .lens false (.tmp 25)⟩,
    ⟨(some 27), none, false, .bin .sub (.tmp 26) (.const (.int .i64 1))⟩,
    ⟨(some 28), none, false, .bin .quo (.const (.int .i64 9223372036854775807)) (.tmp 27)⟩,
    ⟨(some 29), none, false, .bin .geq (.tmp 24) (.tmp 28)⟩]) (.cond (.tmp 29) (.ops [
    ⟨(some 30), none, false, .ifc 9 (.const (.string ⟨#[115, 116, 114, 105, 110, 103, 115, 58, 32, 74, 111, 105, 110, 32, 111, 117, 116, 112, 117, 116, 32, 108, 101, 110, 103, 116, 104, 32, 111, 118, 101, 114, 102, 108, 111, 119]⟩))⟩,
    ⟨none, none, false, .fail⟩]) .skip)) (.ops [
    ⟨(some 31), none, false, .mov (.tmp 5)⟩,
    ⟨(some 32), none, false, .mov (.tmp 1)⟩,
    ⟨(some 33), none, false, .lens true (.tmp 32)⟩,
    ⟨(some 34), none, false, .mov (.tmp 0)⟩,
    ⟨(some 35), none, false, .lens false (.tmp 34)⟩,
    ⟨(some 36), none, false, .bin .sub (.tmp 35) (.const (.int .i64 1))⟩,
    ⟨(some 37), none, false, .bin .mul (.tmp 33) (.tmp 36)⟩,
    ⟨(some 38), none, false, .bin .add (.tmp 31) (.tmp 37)⟩,
    ⟨(some 5), none, false, .mov (.tmp 38)⟩])) .skip)) (.seq (.seq (.ops [
    ⟨(some 39), none, false, .mov (.tmp 0)⟩,
    ⟨(some 40), none, false, .lens false (.tmp 39)⟩,
    ⟨(some 41), none, false, .mov (.const (.int .i64 0))⟩]) (.block 1 (.loop (.seq (.ops [
    ⟨(some 42), none, false, .bin .lss (.tmp 41) (.tmp 40)⟩]) (.seq (.cond (.tmp 42) .skip (.exit 1)) (.seq (.block 2 (.seq (.ops [
    ⟨(some 43), none, false, .iaddr (.tmp 39) (.tmp 41) 1⟩,
    ⟨(some 44), none, false, .load1 (.tmp 43)⟩,
    ⟨(some 7), none, false, .mov (.tmp 44)⟩]) (.seq (.seq (.ops [
    ⟨(some 45), none, false, .mov (.tmp 7)⟩,
    ⟨(some 46), none, false, .lens true (.tmp 45)⟩,
    ⟨(some 47), none, false, .mov (.tmp 5)⟩,
    ⟨(some 48), none, false, .bin .sub (.const (.int .i64 9223372036854775807)) (.tmp 47)⟩,
    ⟨(some 49), none, false, .bin .gtr (.tmp 46) (.tmp 48)⟩]) (.cond (.tmp 49) (.ops [
    ⟨(some 50), none, false, .ifc 9 (.const (.string ⟨#[115, 116, 114, 105, 110, 103, 115, 58, 32, 74, 111, 105, 110, 32, 111, 117, 116, 112, 117, 116, 32, 108, 101, 110, 103, 116, 104, 32, 111, 118, 101, 114, 102, 108, 111, 119]⟩))⟩,
    ⟨none, none, false, .fail⟩]) .skip)) (.ops [
    ⟨(some 51), none, false, .mov (.tmp 5)⟩,
    ⟨(some 52), none, false, .mov (.tmp 7)⟩,
    ⟨(some 53), none, false, .lens true (.tmp 52)⟩,
    ⟨(some 54), none, false, .bin .add (.tmp 51) (.tmp 53)⟩,
    ⟨(some 5), none, false, .mov (.tmp 54)⟩])))) (.ops [
    ⟨(some 55), none, false, .bin .add (.tmp 41) (.const (.int .i64 1))⟩,
    ⟨(some 41), none, false, .mov (.tmp 55)⟩]))))))) (.seq (.ops [
    ⟨(some 8), none, false, .new [.pointer none, .slice none 0 0]⟩]) (.seq (.ops [
    ⟨(some 56), none, false, .mov (.tmp 5)⟩,
    ⟨(some 57), none, false, .call strings_Builder_Grow [(.tmp 8), (.tmp 56)]⟩]) (.seq (.ops [
    ⟨(some 58), none, false, .mov (.tmp 0)⟩,
    ⟨(some 59), none, false, .iaddr (.tmp 58) (.const (.int .i64 0)) 1⟩,
    ⟨(some 60), none, false, .load1 (.tmp 59)⟩,
    ⟨(some 61), none, false, .call strings_Builder_WriteString [(.tmp 8), (.tmp 60)]⟩]) (.seq (.seq (.ops [
    ⟨(some 62), none, false, .mov (.tmp 0)⟩,
    ⟨(some 63), none, false, .sll (.tmp 62) (some (.const (.int .i64 1))) none none 1⟩,
    ⟨(some 64), none, false, .lens false (.tmp 63)⟩,
    ⟨(some 65), none, false, .mov (.const (.int .i64 0))⟩]) (.block 3 (.loop (.seq (.ops [
    ⟨(some 66), none, false, .bin .lss (.tmp 65) (.tmp 64)⟩]) (.seq (.cond (.tmp 66) .skip (.exit 3)) (.seq (.block 4 (.seq (.ops [
    ⟨(some 67), none, false, .iaddr (.tmp 63) (.tmp 65) 1⟩,
    ⟨(some 68), none, false, .load1 (.tmp 67)⟩,
    ⟨(some 10), none, false, .mov (.tmp 68)⟩]) (.seq (.ops [
    ⟨(some 69), none, false, .mov (.tmp 1)⟩,
    ⟨(some 70), none, false, .call strings_Builder_WriteString [(.tmp 8), (.tmp 69)]⟩]) (.ops [
    ⟨(some 71), none, false, .mov (.tmp 10)⟩,
    ⟨(some 72), none, false, .call strings_Builder_WriteString [(.tmp 8), (.tmp 71)]⟩])))) (.ops [
    ⟨(some 73), none, false, .bin .add (.tmp 65) (.const (.int .i64 1))⟩,
    ⟨(some 65), none, false, .mov (.tmp 73)⟩]))))))) (.seq (.ops [
    ⟨(some 74), none, false, .call strings_Builder_String [(.tmp 8)]⟩,
    ⟨(some 4), none, false, .mov (.tmp 74)⟩]) .ret))))))))))
theorem fits_strings_Join : Fits Tryd.prog 3 strings_Join ic_strings_Join [.tmp 4] 2 :=
  ⟨Tryd.f36, Tryd.func36, by decide, by kernel_rfl, by kernel_rfl⟩

/-- chantry/chantryref04.Hex -/
noncomputable def ic_chantryref04_Hex : IC :=
  (.seq (.ops [
    ⟨(some 2), none, false, .mov (.const (.string ⟨#[]⟩))⟩]) (.seq (.ops [
    ⟨(some 3), none, false, .mov (.const (.string ⟨#[48, 49, 50, 51, 52, 53, 54, 55, 56, 57, 97, 98, 99, 100, 101, 102]⟩))⟩]) (.seq (.ops [
    ⟨(some 4), none, false, .mov (.const (.slice none 0 0))⟩]) (.seq (.seq (.ops [
    ⟨(some 5), none, false, .mov (.const (.int .i64 0))⟩]) (.block 0 (.loop (.seq (.seq (.ops [
    ⟨(some 6), none, false, .mov (.tmp 5)⟩,
    ⟨(some 7), none, false, .mov (.tmp 0)⟩,
    ⟨(some 8), none, false, .lens true (.tmp 7)⟩,
    ⟨(some 9), none, false, .bin .lss (.tmp 6) (.tmp 8)⟩]) (.cond (.tmp 9) .skip (.exit 0))) (.seq (.block 1 (.draw [
    ⟨(some 12), none, false, .mov (.tmp 4)⟩,
    ⟨(some 13), none, false, .mov (.tmp 3)⟩,
    ⟨(some 14), none, false, .mov (.tmp 0)⟩,
    ⟨(some 15), none, false, .mov (.tmp 5)⟩,
    ⟨(some 16), none, false, .idxs (.tmp 14) (.tmp 15)⟩,
    ⟨(some 17), none, false, .bin .quo (.tmp 16) (.const (.int .u8 16))⟩,
    ⟨(some 18), none, false, .idxs (.tmp 13) (.tmp 17)⟩,
    ⟨(some 19), none, false, .mov (.tmp 3)⟩,
    ⟨(some 20), none, false, .mov (.tmp 0)⟩,
    ⟨(some 21), none, false, .mov (.tmp 5)⟩,
    ⟨(some 22), none, false, .idxs (.tmp 20) (.tmp 21)⟩,
    ⟨(some 23), none, false, .bin .rem (.tmp 22) (.const (.int .u8 16))⟩,
    ⟨(some 24), none, false, .idxs (.tmp 19) (.tmp 23)⟩,
    ⟨(some 25), none, false, .lit [.int .u8 0] 1 2 [(0, 1, (.tmp 18)), (1, 1, (.tmp 24))]⟩,
    ⟨(some 26), none, false, .app (.tmp 12) (.tmp 25) 1 1⟩,
    ⟨(some 4), none, false, .mov (.tmp 26)⟩])) (.ops [
    ⟨(some 10), none, false, .mov (.tmp 5)⟩,
    ⟨(some 11), none, false, .bin .add (.tmp 10) (.const (.int .i64 1))⟩,
    ⟨(some 5), none, false, .mov (.tmp 11)⟩])))))) (.seq (.ops [
    ⟨(some 27), none, false, .mov (.tmp 4)⟩,
    ⟨(some 28), none, false, .b2s (.tmp 27)⟩,
    ⟨(some 2), none, false, .mov (.tmp 28)⟩]) .ret)))))
theorem fits_chantryref04_Hex : Fits Tryd.prog 3 chantryref04_Hex ic_chantryref04_Hex [.tmp 2] 1 :=
  ⟨Tryd.f37, Tryd.func37, by decide, by kernel_rfl, by kernel_rfl⟩

/-- chantry/chantryref14.Digits -/
noncomputable def ic_chantryref14_Digits : IC :=
  (.seq (.ops [
    ⟨(some 2), none, false, .mov (.const (.string ⟨#[]⟩))⟩]) (.seq (.seq (.ops [
    ⟨(some 4), none, false, .mov (.tmp 0)⟩,
    ⟨(some 5), none, false, .bin .lss (.tmp 4) (.const (.int .i64 0))⟩]) (.cond (.tmp 5) (.seq (.ops [
    ⟨(some 6), none, false, .mov (.tmp 0)⟩,
    ⟨(some 7), none, false, .un .neg (.tmp 6)⟩,
    ⟨(some 8), none, false, .call chantryref14_Digits [(.tmp 7)]⟩,
    ⟨(some 9), none, false, .bin .add (.const (.string ⟨#[45]⟩)) (.tmp 8)⟩,
    ⟨(some 2), none, false, .mov (.tmp 9)⟩]) .ret) .skip)) (.seq (.ops [
    ⟨(some 3), none, false, .mov (.const (.string ⟨#[]⟩))⟩]) (.seq (.block 0 (.loop (.seq (.seq (.ops [
    ⟨(some 10), none, false, .mov (.tmp 0)⟩,
    ⟨(some 11), none, false, .bin .gtr (.tmp 10) (.const (.int .i64 0))⟩,
    ⟨(some 12), none, false, .mov (.tmp 11)⟩,
    ⟨(some 13), (some (12, false)), false, .mov (.tmp 3)⟩,
    ⟨(some 14), (some (12, false)), false, .bin .eql (.tmp 13) (.const (.string ⟨#[]⟩))⟩,
    ⟨(some 15), none, false, .pick (.tmp 12) (.const (.bool true)) (.tmp 14)⟩]) (.cond (.tmp 15) .skip (.exit 0))) (.block 1 (.seq (.ops [
    ⟨(some 16), none, false, .mov (.tmp 0)⟩,
    ⟨(some 17), none, false, .bin .rem (.tmp 16) (.const (.int .i64 10))⟩,
    ⟨(some 18), none, false, .mov (.tmp 0)⟩,
    ⟨(some 19), none, false, .bin .rem (.tmp 18) (.const (.int .i64 10))⟩,
    ⟨(some 20), none, false, .bin .add (.tmp 19) (.const (.int .i64 1))⟩,
    ⟨(some 21), none, false, .sls (.const (.string ⟨#[48, 49, 50, 51, 52, 53, 54, 55, 56, 57]⟩)) (some (.tmp 17)) (some (.tmp 20))⟩,
    ⟨(some 22), none, false, .mov (.tmp 3)⟩,
    ⟨(some 23), none, false, .bin .add (.tmp 21) (.tmp 22)⟩,
    ⟨(some 3), none, false, .mov (.tmp 23)⟩]) (.ops [
    ⟨(some 24), none, false, .mov (.tmp 0)⟩,
    ⟨(some 25), none, false, .bin .quo (.tmp 24) (.const (.int .i64 10))⟩,
    ⟨(some 0), none, false, .mov (.tmp 25)⟩])))))) (.seq (.ops [
    ⟨(some 26), none, false, .mov (.tmp 3)⟩,
    ⟨(some 2), none, false, .mov (.tmp 26)⟩]) .ret)))))
theorem fits_chantryref14_Digits : Fits Tryd.prog 3 chantryref14_Digits ic_chantryref14_Digits [.tmp 2] 1 :=
  ⟨Tryd.f38, Tryd.func38, by decide, by kernel_rfl, by kernel_rfl⟩

/-- chantry/chantryref39.uses -/
noncomputable def ic_chantryref39_uses : IC :=
  (.seq (.ops [
    ⟨(some 2), none, false, .mov (.const (.bool false))⟩,
    ⟨(some 3), none, false, .mov (.const (.bool false))⟩,
    ⟨(some 4), none, false, .mov (.const (.bool false))⟩,
    ⟨(some 5), none, false, .mov (.const (.bool false))⟩,
    ⟨(some 6), none, false, .mov (.const (.bool false))⟩]) (.seq (.seq (.ops [
    ⟨(some 7), none, false, .mov (.tmp 0)⟩]) (.block 0 (.seq (.ops [
    ⟨(some 9), none, false, .bin .eql (.tmp 7) (.const (.int .i64 1))⟩,
    ⟨(some 8), none, false, .mov (.tmp 9)⟩]) (.cond (.tmp 8) (.seq (.ops [
    ⟨(some 2), none, false, .mov (.const (.bool true))⟩,
    ⟨(some 3), none, false, .mov (.const (.bool false))⟩,
    ⟨(some 4), none, false, .mov (.const (.bool false))⟩,
    ⟨(some 5), none, false, .mov (.const (.bool false))⟩,
    ⟨(some 6), none, false, .mov (.const (.bool true))⟩]) .ret) (.seq (.seq (.ops [
    ⟨(some 11), none, false, .bin .eql (.tmp 7) (.const (.int .i64 2))⟩,
    ⟨(some 10), none, false, .mov (.tmp 11)⟩]) (.cond (.tmp 10) .skip (.seq (.ops [
    ⟨(some 12), none, false, .bin .eql (.tmp 7) (.const (.int .i64 4))⟩,
    ⟨(some 10), none, false, .mov (.tmp 12)⟩]) (.cond (.tmp 10) .skip (.ops [
    ⟨(some 13), none, false, .bin .eql (.tmp 7) (.const (.int .i64 9))⟩,
    ⟨(some 10), none, false, .mov (.tmp 13)⟩]))))) (.cond (.tmp 10) (.seq (.ops [
    ⟨(some 2), none, false, .mov (.const (.bool false))⟩,
    ⟨(some 3), none, false, .mov (.const (.bool true))⟩,
    ⟨(some 4), none, false, .mov (.const (.bool false))⟩,
    ⟨(some 5), none, false, .mov (.const (.bool false))⟩,
    ⟨(some 6), none, false, .mov (.const (.bool true))⟩]) .ret) (.seq (.ops [
    ⟨(some 15), none, false, .bin .eql (.tmp 7) (.const (.int .i64 10))⟩,
    ⟨(some 14), none, false, .mov (.tmp 15)⟩]) (.cond (.tmp 14) (.seq (.ops [
    ⟨(some 2), none, false, .mov (.const (.bool false))⟩,
    ⟨(some 3), none, false, .mov (.const (.bool false))⟩,
    ⟨(some 4), none, false, .mov (.const (.bool true))⟩,
    ⟨(some 5), none, false, .mov (.const (.bool false))⟩,
    ⟨(some 6), none, false, .mov (.const (.bool true))⟩]) .ret) (.seq (.ops [
    ⟨(some 17), none, false, .bin .eql (.tmp 7) (.const (.int .i64 11))⟩,
    ⟨(some 16), none, false, .mov (.tmp 17)⟩]) (.cond (.tmp 16) (.seq (.ops [
    ⟨(some 2), none, false, .mov (.const (.bool false))⟩,
    ⟨(some 3), none, false, .mov (.const (.bool false))⟩,
    ⟨(some 4), none, false, .mov (.const (.bool false))⟩,
    ⟨(some 5), none, false, .mov (.const (.bool true))⟩,
    ⟨(some 6), none, false, .mov (.const (.bool true))⟩]) .ret) (.seq (.seq (.ops [
    ⟨(some 19), none, false, .bin .eql (.tmp 7) (.const (.int .i64 3))⟩,
    ⟨(some 18), none, false, .mov (.tmp 19)⟩]) (.cond (.tmp 18) .skip (.seq (.ops [
    ⟨(some 20), none, false, .bin .eql (.tmp 7) (.const (.int .i64 5))⟩,
    ⟨(some 18), none, false, .mov (.tmp 20)⟩]) (.cond (.tmp 18) .skip (.seq (.ops [
    ⟨(some 21), none, false, .bin .eql (.tmp 7) (.const (.int .i64 6))⟩,
    ⟨(some 18), none, false, .mov (.tmp 21)⟩]) (.cond (.tmp 18) .skip (.seq (.ops [
    ⟨(some 22), none, false, .bin .eql (.tmp 7) (.const (.int .i64 7))⟩,
    ⟨(some 18), none, false, .mov (.tmp 22)⟩]) (.cond (.tmp 18) .skip (.seq (.ops [
    ⟨(some 23), none, false, .bin .eql (.tmp 7) (.const (.int .i64 8))⟩,
    ⟨(some 18), none, false, .mov (.tmp 23)⟩]) (.cond (.tmp 18) .skip (.ops [
    ⟨(some 24), none, false, .bin .eql (.tmp 7) (.const (.int .i64 12))⟩,
    ⟨(some 18), none, false, .mov (.tmp 24)⟩]))))))))))) (.cond (.tmp 18) (.seq (.ops [
    ⟨(some 2), none, false, .mov (.const (.bool false))⟩,
    ⟨(some 3), none, false, .mov (.const (.bool false))⟩,
    ⟨(some 4), none, false, .mov (.const (.bool false))⟩,
    ⟨(some 5), none, false, .mov (.const (.bool false))⟩,
    ⟨(some 6), none, false, .mov (.const (.bool true))⟩]) .ret) .skip)))))))))))) (.seq (.ops [
    ⟨(some 2), none, false, .mov (.const (.bool false))⟩,
    ⟨(some 3), none, false, .mov (.const (.bool false))⟩,
    ⟨(some 4), none, false, .mov (.const (.bool false))⟩,
    ⟨(some 5), none, false, .mov (.const (.bool false))⟩,
    ⟨(some 6), none, false, .mov (.const (.bool false))⟩]) .ret)))
theorem fits_chantryref39_uses : Fits Tryd.prog 3 chantryref39_uses ic_chantryref39_uses [.tmp 2, .tmp 3, .tmp 4, .tmp 5, .tmp 6] 1 :=
  ⟨Tryd.f39, Tryd.func39, by decide, by kernel_rfl, by kernel_rfl⟩

/-- (*strings.Builder).Grow -/
noncomputable def ic_strings_Builder_Grow : IC :=
  (.seq (.ops [
    ⟨(some 4), none, false, .mov (.tmp 0)⟩,
    ⟨(some 5), none, false, .call strings_Builder_copyCheck [(.tmp 4)]⟩]) (.seq (.seq (.ops [
    ⟨(some 6), none, false, .mov (.tmp 1)⟩,
    ⟨(some 7), none, false, .bin .lss (.tmp 6) (.const (.int .i64 0))⟩]) (.cond (.tmp 7) (.ops [
    ⟨(some 8), none, false, .ifc 9 (.const (.string ⟨#[115, 116, 114, 105, 110, 103, 115, 46, 66, 117, 105, 108, 100, 101, 114, 46, 71, 114, 111, 119, 58, 32, 110, 101, 103, 97, 116, 105, 118, 101, 32, 99, 111, 117, 110, 116]⟩))⟩,
    ⟨none, none, false, .fail⟩]) .skip)) (.seq (.draw [
    ⟨(some 9), none, false, .mov (.tmp 0)⟩,
    ⟨(some 10), none, false, .nilc (.tmp 9)⟩,
    ⟨(some 11), none, false, .faddr (.tmp 10) 1⟩,
    ⟨(some 12), none, false, .load1 (.tmp 11)⟩,
    ⟨(some 13), none, false, .capn (.tmp 12)⟩,
    ⟨(some 14), none, false, .mov (.tmp 0)⟩,
    ⟨(some 15), none, false, .nilc (.tmp 14)⟩,
    ⟨(some 16), none, false, .faddr (.tmp 15) 1⟩,
    ⟨(some 17), none, false, .load1 (.tmp 16)⟩,
    ⟨(some 18), none, false, .lens false (.tmp 17)⟩,
    ⟨(some 19), none, false, .bin .sub (.tmp 13) (.tmp 18)⟩,
    ⟨(some 20), none, false, .mov (.tmp 1)⟩,
    ⟨(some 21), none, false, .bin .lss (.tmp 19) (.tmp 20)⟩]) (.cond (.tmp 21) (.ops [
    ⟨(some 22), none, false, .mov (.tmp 0)⟩,
    ⟨(some 23), none, false, .mov (.tmp 1)⟩,
    ⟨(some 24), none, false, .call strings_Builder_grow [(.tmp 22), (.tmp 23)]⟩]) .skip))))
theorem fits_strings_Builder_Grow : Fits Tryd.prog 3 strings_Builder_Grow ic_strings_Builder_Grow [] 2 :=
  ⟨Tryd.f41, Tryd.func41, by decide, by kernel_rfl, by kernel_rfl⟩

/-- (*strings.Builder).WriteString -/
noncomputable def ic_strings_Builder_WriteString : IC :=
  (.seq (.ops [
    ⟨(some 4), none, false, .mov (.const (.int .i64 0))⟩,
    ⟨(some 5), none, false, .mov (.const (.nilIface))⟩]) (.seq (.ops [
    ⟨(some 6), none, false, .mov (.tmp 0)⟩,
    ⟨(some 7), none, false, .call strings_Builder_copyCheck [(.tmp 6)]⟩]) (.seq (.ops [
    ⟨(some 8), none, false, .mov (.tmp 0)⟩,
    ⟨(some 9), none, false, .mov (.tmp 0)⟩,
    ⟨(some 10), none, false, .nilc (.tmp 9)⟩,
    ⟨(some 11), none, false, .faddr (.tmp 10) 1⟩,
    ⟨(some 12), none, false, .load1 (.tmp 11)⟩,
    ⟨(some 13), none, false, .mov (.tmp 1)⟩,
    ⟨(some 14), none, false, .apps (.tmp 12) (.tmp 13) 1⟩,
    ⟨(some 15), none, false, .nilc (.tmp 8)⟩,
    ⟨(some 16), none, false, .faddr (.tmp 15) 1⟩,
    ⟨none, none, false, .store (.tmp 16) (.tmp 14) 1⟩]) (.seq (.ops [
    ⟨(some 17), none, false, .mov (.tmp 1)⟩,
    ⟨(some 18), none, false, .lens true (.tmp 17)⟩,
    ⟨(some 4), none, false, .mov (.tmp 18)⟩,
    ⟨(some 5), none, false, .mov (.const (.nilIface))⟩]) .ret))))
theorem fits_strings_Builder_WriteString : Fits Tryd.prog 3 strings_Builder_WriteString ic_strings_Builder_WriteString [.tmp 4, .tmp 5] 2 :=
  ⟨Tryd.f42, Tryd.func42, by decide, by kernel_rfl, by kernel_rfl⟩

-- NOT SERVED 43 (*strings.Builder).String: builtin unsafeSliceData

-- NOT SERVED 48 (*strings.Builder).copyCheck: conversion pointer to unsafePointer

-- NOT SERVED 55 internal/abi.NoEscape: no body

-- NOT SERVED 56 internal/bytealg.MakeNoZero: no body

-- NOT SERVED 59 (runtime.boundsError).Error: no body

-- NOT SERVED 60 (runtime.boundsError).RuntimeError: no body

-- NOT SERVED 61 (runtime.errorString).Error: no body

-- NOT SERVED 62 (runtime.errorString).RuntimeError: no body

-- NOT SERVED 63 (runtime.plainError).Error: no body

-- NOT SERVED 64 (runtime.plainError).RuntimeError: no body

-- NOT SERVED 65 (runtime.errorAddressString).Error: no body

-- NOT SERVED 66 (runtime.errorAddressString).RuntimeError: no body

-- NOT SERVED 67 (*runtime.TypeAssertionError).Error: no body

-- NOT SERVED 68 (*runtime.TypeAssertionError).RuntimeError: no body

-- NOT SERVED 69 (*runtime.PanicNilError).Error: no body

-- NOT SERVED 70 (*runtime.PanicNilError).RuntimeError: no body

-- NOT SERVED 71 (*internal/abi.Type).Align: no body

-- NOT SERVED 72 (internal/runtime/maps.unhashableTypeError).Error: no body

-- NOT SERVED 73 (internal/runtime/maps.unhashableTypeError).RuntimeError: no body

-- NOT SERVED 74 (*strings.Builder).Reset: no body

-- NOT SERVED 75 (internal/abi.Kind).String: no body

-- NOT SERVED 76 var's door: chantry/tell.faults is laid by its own initialiser, plain data (look 11): no body

-- NOT SERVED 77 var's door: chantry/tell.steps is laid by its own initialiser, plain data (look 11): no body

-- NOT SERVED 78 var's door: gosem.cut.vars holds initialisers alone; see the manifest's row cutvarsword (look 11, test files too): no body

-- NOT SERVED 79 var's door: internal/strconv.uint64pow10 is laid by its own initialiser, plain data (look 11): no body

-- NOT SERVED 80 var's door: math/bits.deBruijn32tab is laid by its own initialiser, plain data (look 11): no body

-- NOT SERVED 81 var's door: math/bits.deBruijn64tab is laid by its own initialiser, plain data (look 11): no body

-- NOT SERVED 82 var's door: the look of gosem.cut.vars went over the folder that the caller named as the repository's root (look 11): no body

end Go.AS.C


namespace Go.AS.C
open Go Go.Proofs
set_option linter.unusedVariables false
set_option linter.unusedSimpArgs false
set_option maxRecDepth 10000

theorem mixed : Tryd.prog.follows .mixedOrders = true := by kernel_rfl

end Go.AS.C


namespace Go.AS.C
open Go Go.Proofs
set_option linter.unusedVariables false
set_option linter.unusedSimpArgs false
set_option maxRecDepth 10000

theorem shr8 (c : UInt8) : binA .shr (.int .u8 (c.toNat : Int)) (.int .u64 4) = some (.int .u8 ((c.toNat / 16 : Nat) : Int)) := by
  have h := binA_shr8 c .u64 4 (by omega)
  unfold by8 at h
  have hc := c.toNat_lt
  rw [UInt8.toNat_ofNat', Nat.mod_eq_of_lt (by omega)] at h
  exact h
theorem and8 (c : UInt8) : binA .and (.int .u8 (c.toNat : Int)) (.int .u8 15) = some (.int .u8 ((c.toNat % 16 : Nat) : Int)) := by
  have h := binA_and8 c 15
  unfold by8 at h
  rw [UInt8.toNat_and] at h
  have e : c.toNat &&& (15 : UInt8).toNat = c.toNat % 16 := Nat.and_two_pow_sub_one_eq_mod c.toNat 4
  rw [e] at h
  exact h
def hexL : List UInt8 := [48, 49, 50, 51, 52, 53, 54, 55, 56, 57, 97, 98, 99, 100, 101, 102]
def hexC (n : Nat) : UInt8 := hexL.getD n 0
def hexD (c : UInt8) : List UInt8 := [hexC (c.toNat / 16), hexC (c.toNat % 16)]
/-- A text's digits. -/
def hexP (bs : List UInt8) : List UInt8 := bs.flatMap hexD
theorem hexP_snoc (bs : List UInt8) (c : UInt8) : hexP (bs ++ [c]) = hexP bs ++ hexD c := by simp [hexP]
theorem hexP_len (bs : List UInt8) : (hexP bs).length = 2 * bs.length := by
  unfold hexP
  induction bs with
  | nil => rfl
  | cons c bs ih => rw [List.flatMap_cons, List.length_append, ih, List.length_cons]; show 2 + _ = _; omega
theorem idx_str {A : AH} {s : ByteArray} {k : IntKind} {j : Nat} {b : UInt8} (h : s.data.toList[j]? = some b) : sIdxs A (.string s) (.int k (j : Int)) = some (.int .u8 (b.toNat : Int), A) := by
  unfold sIdxs asI
  have e : s[j]? = some b := by
    rw [← h]
    have h1 : j < s.data.toList.length := lt_of_get h
    have h2 : j < s.size := by rw [size_bytes]; exact h1
    rw [getElem?_pos s j h2, List.getElem?_eq_getElem h1]
    rfl
  simp [e]
theorem idx_hex (A : AH) (n : Nat) (h : n < 16) : sIdxs A (.string ⟨#[48, 49, 50, 51, 52, 53, 54, 55, 56, 57, 97, 98, 99, 100, 101, 102]⟩) (.int .u8 (n : Int)) = some (.int .u8 ((hexC n).toNat : Int), A) := by
  refine idx_str ?_
  show hexL[n]? = _
  unfold hexC
  rw [List.getD_eq_getElem?_getD]
  obtain ⟨x, hx⟩ := get_some (l := hexL) (k := n) h
  rw [hx]; rfl

theorem ids_Hex_spec {A : AH} {s : ByteArray} {Q : Value → AH → Prop} (hl : s.size < 2 ^ 20) (hq : ∀ A', Le A A' → Q (.string ⟨(hexP s.data.toList).toArray⟩) A') : ACalls 3 Tryd.prog ids_Hex [.string s] Q A := by
  refine ACalls.of_fits mixed fits_ids_Hex rfl ?_
  unfold ic_ids_Hex
  have i0 : initA [.string s] 0 = .string s := rfl
  generalize initA [.string s] = a at i0
  have hb := s2b_row A s
  have ho := (s2b_byt A s).byt
  generalize eA : A ++ [.row (s.data.toList.map by8) .own 1 false] = A1 at hb ho
  have k1 : Le A A1 := by rw [← eA]; exact .push _ _
  generalize ev : Value.slice (some ⟨A.length, 0, none⟩) s.size s.size = v at hb ho
  have hvl := fun B => Sl.lenB ho B
  have hsz := size_bytes s
  simp (maxSteps := 1000000) (disch := omega) only [stepS, reduceIte, Nat.reduceBEq, Nat.reduceEqDiff, tupleOf, stepT, i0, hb, hvl]
  refine W_loop (fun a' B => ∃ k : Nat, k ≤ s.size ∧ Le A1 B ∧ a' 7 = v ∧ a' 8 = ii s.size ∧ a' 9 = ii k ∧ OwnB A1.length B (a' 3) (hexP (s.data.toList.take k))) (fun a' _ => s.size - (iv (a' 9)).toNat) ?_ ?_
  · refine ⟨0, by omega, .refl _, ?_⟩
    simp (maxSteps := 1000000) (disch := omega) only [stepS, reduceIte, Nat.reduceBEq, Nat.reduceEqDiff, tupleOf, stepT, i0, hsz]
    exact ⟨rfl, OwnB.nil _ _⟩
  · rintro a2 B ⟨k, hk, hle, g7, g8, g9, g3⟩
    generalize ex : a2 3 = w at g3
    rcases Nat.lt_or_ge k s.size with hlt | hge
    · obtain ⟨c, hc⟩ := get_some (l := s.data.toList) (k := k) (by omega)
      obtain ⟨p, p1, p2⟩ := Sl.at1L ho (j := k) (x := by8 c) (by rw [List.getElem?_map, hc]; rfl)
      have p3 := p2 B hle
      unfold by8 at p3
      have hcl := c.toNat_lt
      have x1 := idx_hex B (c.toNat / 16) (by omega)
      have x2 := idx_hex B (c.toNat % 16) (by omega)
      have l1 := litB B (hexD c) (len := 2) (ps := [(0, 1, .int .u8 ((hexC (c.toNat / 16)).toNat : Int)), (1, 1, .int .u8 ((hexC (c.toNat % 16)).toNat : Int))]) rfl rfl
      have k2 : Le B (B ++ [.row (List.map by8 (hexD c)) .own 1 true]) := .push _ _
      have hpl := hexP_len (s.data.toList.take k)
      rw [List.length_take] at hpl
      obtain ⟨v2, A2, q1, q2, q3, _⟩ := app_bytes (hle.trans k2) (OwnS.le g3 k2) (byt_last B (hexD c)) (by rw [hpl]; simp [hexD]; omega)
      have hd : (hexD c).length = 2 := rfl
      rw [hd] at q1 l1
      simp (maxSteps := 1000000) (disch := omega) only [stepS, reduceIte, Nat.reduceBEq, Nat.reduceEqDiff, tupleOf, stepT, g7, g8, g9, ex, p1, p3, shr8, and8, x1, x2, l1, q1]
      refine ⟨⟨k + 1, by omega, q2, rfl, ?_⟩, by omega⟩
      rw [List.take_add_one, hc, Option.toList_some, hexP_snoc]
      exact q3
    · rw [List.take_of_length_le (by omega)] at g3
      simp (maxSteps := 1000000) (disch := omega) only [stepS, reduceIte, Nat.reduceBEq, Nat.reduceEqDiff, tupleOf, stepT, g7, g8, g9, ex, g3.byt.str]
      exact hq _ (k1.trans hle)
end Go.AS.C


namespace Go.AS.C
open Go Go.Proofs
set_option linter.unusedVariables false
set_option linter.unusedSimpArgs false
set_option maxRecDepth 10000

/-! Numbers as texts. -/
theorem cat_str (x y : ByteArray) (h : x.size + y.size < 2 ^ 60) : binA .add (.string x) (.string y) = some (.string (x ++ y)) := by
  simp only [binA]
  rw [if_neg]
  have e : IntKind.i64.max = 9223372036854775807 := by decide
  rw [e]
  omega
theorem ba_cat (s t : List UInt8) : (⟨s.toArray⟩ : ByteArray) ++ ⟨t.toArray⟩ = ⟨(s ++ t).toArray⟩ := by
  apply ByteArray.ext
  simp
end Go.AS.C


namespace Go.AS
open Go Go.Sort Go.RowKit Go.Proofs
set_option linter.unusedVariables false
set_option linter.unusedSimpArgs false

/-! The kit's contract of slices.Sort at texts, told of abstract states. -/
section
variable {G : Nat} {P : Program} {μ : Mu} {A A0 B : AH} {w : World} {v : Value} {a0 : Nat}
theorem grow_old (w : World) (os : Array Obj) {i : Nat} (h : i < w.heap.size) : (grow w os).heap[i]? = w.heap[i]? := by
  show (w.heap ++ os)[i]? = _
  rw [Array.getElem?_append, if_pos h]
/-- New blocks of which nothing is known. -/
theorem Rel.grown (h : Rel G μ A w) (os : Array Obj) : Rel G μ A (grow w os) ∧ Stp μ A w μ A (grow w os) := by
  have hs : (grow w os).heap.size = w.heap.size + os.size := by simp [grow]
  refine ⟨⟨h.len, h.glo, fun i e he => by have := h.lt i e he; omega, ?_, h.szs, ?_, ?_, h.apart⟩, ?_⟩
  · intro i cs st sz ex e hb he hst
    obtain ⟨rc, T, fr, g1, g2⟩ := h.row i cs st sz ex e hb he hst
    exact ⟨rc, T, fr, by rw [grow_old _ _ (h.lt i e he)]; exact g1, g2⟩
  · intro i s p e hb he
    rw [grow_old _ _ (h.lt i e he)]; exact h.sit i s p e hb he
  · intro i es e hb he
    rw [grow_old _ _ (h.lt i e he)]; exact h.mp i es e hb he
  · exact ⟨⟨[], by simp⟩, rfl, rfl, rfl, by omega, fun r hr _ => grow_old _ _ hr, fun i b e h1 h2 h3 _ => ⟨i, b, e, h1, h2, h3, rfl⟩⟩
end
end Go.AS


namespace Go.AS
open Go
set_option maxRecDepth 100000
/-! Codes of library functions that are alike in many chapters (printed by geni.py). -/
end Go.AS


namespace Go.AS
open Go
set_option linter.unusedVariables false
set_option linter.unusedSimpArgs false
set_option maxRecDepth 10000

/-! Slices of texts of the call's own. -/
def strE (l : List ByteArray) : List (List Value) := l.map fun s => [.string s]
theorem strE_flat (l : List ByteArray) : (strE l).flatten = l.map .string := by
  unfold strE
  induction l with
  | nil => rfl
  | cons s l ih => rw [List.map_cons, List.flatten_cons, ih]; rfl
theorem strE_len (l : List ByteArray) : (strE l).length = l.length := by simp [strE]
theorem strE_ok (l : List ByteArray) : ∀ e ∈ strE l, e.length = 1 ∧ ones e = true := by
  intro e he
  obtain ⟨s, _, rfl⟩ := List.mem_map.1 he
  exact ⟨rfl, rfl⟩
/-- A slice of texts, of the call's own. -/
def OwnT (a0 : Nat) (A : AH) (v : Value) (l : List ByteArray) : Prop := OwnS a0 A 1 v l.length (l.map .string)
def SlT (A : AH) (v : Value) (l : List ByteArray) : Prop := Sl A 1 v l.length (l.map .string)
section
variable {A B A0 : AH} {v : Value} {a0 b0 : Nat} {l m : List ByteArray} {lo hi : Option Value}
theorem OwnT.e (h : OwnT a0 A v l) : OwnE a0 A 1 v (strE l) := ⟨strE_ok l, by rw [strE_flat, strE_len]; exact h⟩
theorem OwnE.t (h : OwnE a0 A 1 v (strE l)) : OwnT a0 A v l := by
  have := h.2
  rw [strE_flat, strE_len] at this
  exact this
theorem OwnT.sl (h : OwnT a0 A v l) : SlT A v l := OwnS.sl h
theorem OwnT.le (h : OwnT a0 A v l) (hl : Le A B) : OwnT a0 B v l := OwnS.le h hl
theorem OwnT.mono (h : OwnT a0 A v l) (hb : b0 ≤ a0) : OwnT b0 A v l := OwnS.mono h hb
theorem OwnT.nil (a0 : Nat) (A : AH) : OwnT a0 A (.slice none 0 0) [] := OwnS.nil _ _ _
theorem SlT.le (h : SlT A v l) (hl : Le A B) : SlT B v l := Sl.le h hl
theorem SlT.len (h : SlT A v l) (B : AH) : sLens B false v = some (.int .i64 l.length, B) := Sl.lenB h B
theorem SlT.one (h : SlT A v l) : one1 v := Sl.one1 h
theorem SlT.at (h : SlT A v l) {j : Nat} {s : ByteArray} (hj : l[j]? = some s) : ∃ p, (∀ (B : AH) (n : Int), n = (j : Int) → sIaddr B v (.int .i64 n) 1 = some (p, B)) ∧ ∀ B, Le A B → sLoad1 B p = some (.string s, B) :=
  Sl.at1L h (j := j) (x := .string s) (by rw [List.getElem?_map, hj]; rfl)
theorem OwnT.at (h : OwnT a0 A v l) {j : Nat} {s : ByteArray} (hj : l[j]? = some s) : ∃ p, blkOf p = blkOf v ∧ (∀ (B : AH) (n : Int), n = (j : Int) → sIaddr B v (.int .i64 n) 1 = some (p, B)) ∧ sLoad1 A p = some (.string s, A) := by
  obtain ⟨p, p1, p2⟩ := Sl.at1 (OwnS.sl h) (j := j) (v0 := .string s) (by rw [List.getElem?_map, hj]; rfl)
  exact ⟨p, iaddr_blk p1, by rintro B n rfl; exact iaddr_any p1 B, p2⟩
theorem OwnT.put (h : OwnT a0 A v l) {j : Nat} (s : ByteArray) (hj : j < l.length) {p : Value} (hp : sIaddr A v (.int .i64 (j : Int)) 1 = some (p, A)) : ∃ A', sStore A p (.string s) 1 = some (undef, A') ∧ OwnT a0 A' v (l.set j s) ∧ KeepV A v A' := by
  obtain ⟨A', s1, s2, s3⟩ := h.e.put (e := [.string s]) (by rw [strE_len]; exact hj) rfl rfl hp
  refine ⟨A', s1, ?_, s3⟩
  have e : (strE l).set j [.string s] = strE (l.set j s) := by simp [strE, List.map_set]
  rw [e] at s2
  exact s2.t
theorem OwnT.cut (h : OwnT a0 A v l) {i k : Nat} (hlk : i ≤ k) (hk : k ≤ l.length) (hb : ∀ c, l.length ≤ c → boundsA l.length c lo hi none = some (i, k, c)) :
    ∃ u, (∀ j ∈ blkOf u, j ∈ blkOf v) ∧ (∃ p c, u = .slice p (k - i) c) ∧ ∀ B m, OwnT a0 B v m → m.length = l.length → sSll B v lo hi none 1 = some (u, B) ∧ OwnT a0 B u ((m.take k).drop i) := by
  obtain ⟨u, u1, u2, u3⟩ := h.e.cut (l := i) (k := k) (lo := lo) (hi := hi) hlk (by rw [strE_len]; exact hk) (by rw [strE_len]; exact hb)
  refine ⟨u, u1, u2, fun B m hm hl => ?_⟩
  obtain ⟨e1, e2⟩ := u3 B (strE m) hm.e (by rw [strE_len, strE_len]; exact hl)
  refine ⟨e1, ?_⟩
  have e : ((strE m).take k).drop i = strE ((m.take k).drop i) := by simp [strE, List.map_take, List.map_drop]
  rw [e] at e2
  exact e2.t
theorem OwnT.clr (h : OwnT a0 A v l) {i : Nat} {u : Value} (hl : i ≤ l.length) (hu : sSll A v (some (.int .i64 (i : Int))) none none 1 = some (u, A)) :
    ∃ A', sClr A u [.string ⟨#[]⟩] = some (undef, A') ∧ OwnT a0 A' v (l.take i ++ List.replicate (l.length - i) ⟨#[]⟩) ∧ KeepV A v A' := by
  obtain ⟨A', s1, s2, s3⟩ := h.e.clr (l := i) (z := [.string ⟨#[]⟩]) (by rw [strE_len]; exact hl) rfl rfl hu
  refine ⟨A', s1, ?_, s3⟩
  have e : (strE l).take i ++ List.replicate ((strE l).length - i) [.string ⟨#[]⟩] = strE (l.take i ++ List.replicate (l.length - i) ⟨#[]⟩) := by simp [strE, List.map_take]
  rw [e] at s2
  exact s2.t
theorem OwnT.push (s : ByteArray) (hl : Le A0 A) (h : OwnT A0.length A v l) (hb : l.length ≤ 2 ^ 40) :
    sLit A [.string ⟨#[]⟩] 1 1 [(0, 1, .string s)] = some (.slice (some ⟨A.length, 0, none⟩) 1 1, A ++ [.row [.string s] .own 1 true]) ∧
    ∃ w' A', sApp (A ++ [.row [.string s] .own 1 true]) v (.slice (some ⟨A.length, 0, none⟩) 1 1) 1 16 = some (w', A') ∧ Le A0 A' ∧ OwnT A0.length A' w' (l ++ [s]) ∧ KeepV A v A' ∧ ∀ j ∈ blkOf w', j ∈ blkOf v ∨ A.length ≤ j := by
  obtain ⟨l1, w', A', e1, e2, e3, e4⟩ := app_str s hl h hb
  refine ⟨l1, w', A', e1, e2, e3, e4, fun j hj => ?_⟩
  rcases sApp_blk e1 j hj with h | h
  · exact .inl h
  · simp at h; exact .inr (by omega)
theorem OwnT.app {x : Value} (hl : Le A0 A) (h : OwnT A0.length A v l) (hx : SlT A x m) (hb : l.length + m.length ≤ 2 ^ 40) :
    ∃ w' A', sApp A v x 1 16 = some (w', A') ∧ Le A0 A' ∧ OwnT A0.length A' w' (l ++ m) ∧ KeepV A v A' := by
  obtain ⟨w', A', e1, e2, e3, e4⟩ := h.e.app (x := x) (fs := strE m) (bytes := 16) hl (by rw [strE_flat, strE_len]; exact hx) (strE_ok m) (by omega) (by rw [strE_len, strE_len]; omega) (by omega)
  refine ⟨w', A', e1, e2, ?_, e4⟩
  have e : strE l ++ strE m = strE (l ++ m) := by simp [strE]
  rw [e] at e3
  exact e3.t
end

section
variable {G : Nat} {P : Program} (hm : P.follows .mixedOrders = true) {a0 : Nat} {A : AH} {v : Value} {Q : Value → AH → Prop}
include hm
end
end Go.AS


namespace Go.AS
open Go Go.RowKit Go.Proofs
set_option linter.unusedVariables false
set_option linter.unusedSimpArgs false

/-! The kit's contract of strings.Join, told of abstract states. -/
section
variable {G : Nat} {P : Program} {μ : Mu} {A : AH} {w w' : World} {v : Value}
/-- New blocks, and draws, of which nothing is known. -/
theorem Rel.below (h : Rel G μ A w) (hb : Below w.heap.size w w') : Rel G μ A w' ∧ Stp μ A w μ A w' := by
  have hk : ∀ i, i < w.heap.size → w'.heap[i]? = w.heap[i]? := fun i hi => hb.block i hi
  refine ⟨⟨h.len, h.glo, fun i e he => Nat.lt_of_lt_of_le (h.lt i e he) hb.size, ?_, h.szs, ?_, ?_, h.apart⟩, ?_⟩
  · intro i cs st sz ex e hb he hst
    obtain ⟨rc, T, fr, g1, g2⟩ := h.row i cs st sz ex e hb he hst
    exact ⟨rc, T, fr, by rw [hk _ (h.lt i e he)]; exact g1, g2⟩
  · intro i s p e hb he
    rw [hk _ (h.lt i e he)]; exact h.sit i s p e hb he
  · intro i es e hb he
    rw [hk _ (h.lt i e he)]; exact h.mp i es e hb he
  · exact ⟨⟨[], by simp⟩, hb.os, hb.tape, hb.output, hb.size, fun r hr _ => hk r hr, fun i b e h1 h2 h3 _ => ⟨i, b, e, h1, h2, h3, rfl⟩⟩
/-- What a machine's function must do to join texts. -/
def JoinsTexts (P : Program) (f : FuncId) : Prop :=
  (∀ (bk o c : Nat) (xs : List ByteArray) (sep : ByteArray) (w : World), (∀ (j : Nat) x, xs[j]? = some x → w.cell? ⟨bk, o + j, none⟩ = some (.string x)) → bk < w.heap.size → xs.length ≤ 140737488355328 → xs.length ≤ c →
    (Lib.join (xs.map (·.data.toList)) sep.data.toList).length ≤ 140737488355328 →
    Calls P f #[.slice (some ⟨bk, o, none⟩) xs.length c, .string sep] w fun e w' => e = .returned (.string ⟨(Lib.join (xs.map (·.data.toList)) sep.data.toList).toArray⟩) ∧ Below w.heap.size w w') ∧
  (∀ (a : Option Addr) (c : Nat) (sep : ByteArray) (w : World), Calls P f #[.slice a 0 c, .string sep] w fun e w' => e = .returned (.string ⟨#[]⟩) ∧ w' = w)
/-- Texts, one behind the other, what stands between them. -/
def joinT (l : List ByteArray) (sep : ByteArray) : ByteArray := ⟨(Lib.join (l.map (·.data.toList)) sep.data.toList).toArray⟩
theorem join_spec {f : FuncId} (hf : JoinsTexts P f) {l : List ByteArray} {sep : ByteArray} {Q : Value → AH → Prop} (h : SlT A v l) (hl : l.length ≤ 140737488355328) (hj : (joinT l sep).size ≤ 140737488355328)
    (hq : Q (.string (joinT l sep)) A) : ACalls G P f [v, .string sep] Q A := by
  intro μ args' w hr h1 h2
  obtain ⟨v', s', rfl⟩ : ∃ v' s', args' = #[v', s'] := by
    have : args'.size = 2 := by simpa using h1
    exact ⟨args'[0], args'[1], by apply Array.ext (by simpa using this); intro i hi1 hi2; simp at hi2; match i with | 0 => rfl | 1 => rfl⟩
  have hv := h2 0 v v' rfl rfl
  have hs := (h2 1 _ s' rfl rfl).string
  subst hs
  by_cases h0 : l.length = 0
  · have hl0 : l = [] := List.length_eq_zero_iff.1 h0
    subst hl0
    have hn : ∃ p c, v' = .slice p 0 c := by
      obtain ⟨_, h⟩ := h
      rcases h with ⟨rfl, _⟩ | ⟨rfl, _⟩ | ⟨_, _, _, _, _, _, rfl, _⟩
      · obtain ⟨a', c', e, _⟩ := hv.sl_inv; exact ⟨a', c', e⟩
      · obtain ⟨a', c', e, _⟩ := hv.sl_inv; exact ⟨a', c', e⟩
      · obtain ⟨a', c', e, _⟩ := hv.sl_inv; exact ⟨a', c', e⟩
    obtain ⟨p, c, rfl⟩ := hn
    refine (hf.2 p c sep w).mono ?_
    rintro e w' ⟨rfl, rfl⟩
    exact ⟨_, _, μ, A, rfl, .flat rfl, hr, Stp.refl _ _ _, hq⟩
  · obtain ⟨hc0, h⟩ := h
    rcases h with ⟨_, hz⟩ | ⟨_, hz⟩ | ⟨i, o, c, rc, st, ex, rfl, k2, k3, k4, k5, k6⟩
    · exact absurd hz h0
    · exact absurd hz h0
    obtain ⟨e, he, c', hcc, rfl⟩ : ∃ (e : Ent), μ[i]? = some e ∧ ∃ c', l.length ≤ c' ∧ v' = .slice (some ⟨e.blk, e.off + o, none⟩) l.length c' := by
      generalize l.length = nn at hv h0
      cases hv with
      | flat h => cases h
      | slc h g1 g2 g4 => exact ⟨_, h, _, by omega, rfl⟩
      | sle h => exact absurd rfl h0
    obtain ⟨mc, T, fr, g1, g2, g3, g4⟩ := hr.row i rc st 1 ex e k3 he k4
    refine (hf.1 e.blk (e.off + o) c' l sep w ?_ (hr.lt i e he) hl hcc ?_).mono ?_
    · intro j x hx
      have hjl := lt_of_get hx
      have hrc := k6 j (by omega)
      rw [List.getElem?_map, hx, Option.map_some] at hrc
      obtain ⟨_, u, u1, u2⟩ := g2 (o + j) _ hrc
      rw [u2.string] at u1
      simp [World.cell?, g1, Nat.add_assoc, u1]
    · have : (joinT l sep).size = (Lib.join (l.map (·.data.toList)) sep.data.toList).length := by
        unfold joinT
        show (Array.size _) = _
        simp
      omega
    · rintro en w' ⟨rfl, hb⟩
      obtain ⟨hr1, hs1⟩ := hr.below hb
      exact ⟨_, _, μ, A, rfl, .flat rfl, hr1, hs1, hq⟩
end
end Go.AS


namespace Go.AS.C
open Go Go.Proofs
set_option linter.unusedVariables false
set_option linter.unusedSimpArgs false
set_option maxRecDepth 10000

/-! Lines: parts with blanks between, as plain data. -/
def hexT (s : ByteArray) : ByteArray := ⟨(35 :: hexP s.data.toList).toArray⟩
def numT (n : Int) : ByteArray := ⟨(Lib.itoa n).toArray⟩
def tail1 (s : ByteArray) : List UInt8 := 32 :: s.data.toList
def lineT (l : List ByteArray) : ByteArray := joinT l ⟨#[32]⟩
theorem lineT_cons (x : ByteArray) (l : List ByteArray) : lineT (x :: l) = ⟨(x.data.toList ++ l.flatMap tail1).toArray⟩ := by
  unfold lineT joinT
  rw [List.map_cons, Lib.join_cons]
  congr 2
  unfold Lib.joinTail
  rw [List.flatMap_def, List.map_map]
  rfl
theorem hexT_size (s : ByteArray) : (hexT s).size = 1 + 2 * s.size := by
  unfold hexT
  show (35 :: hexP s.data.toList).length = _
  rw [List.length_cons, hexP_len, size_bytes]
  omega
theorem tail1_len (s : ByteArray) : (tail1 s).length = 1 + s.size := by
  unfold tail1
  rw [List.length_cons, size_bytes]
  omega
theorem numT_size {n : Int} (h0 : -9223372036854775808 ≤ n) (h1 : n ≤ 9223372036854775807) : (numT n).size ≤ 21 := Lib.itoa_length_le n h0 h1
end Go.AS.C


/-
  DERIVED: THE SHELF's CONTRACTS AT THIS DUMP, IN PLAIN WORDS (tools/lay-plain.mjs out of 'TrydShelf.lean', which tools/lay-shelf.mjs wrote): THE SAME DECLARATIONS UNDER THE SAME NAMES: 'import', 'namespace', 'open', 'def', 'theorem' AND NOTHING ELSE: no command of the shelf's: FOR A HAND-IN. Each laying: the table of numbers ('.._ren') and one theorem, a field a fact of the dump's own or the kernel's comparison; each contract: ONE APPLICATION.
-/
namespace Go.Proofs
open Go.Shelf
def Tryd.lays156_ren : Go.Shelf.Ren := ⟨fun | 156 => 36 | 165 => 41 | 166 => 42 | 169 => 43 | 240 => 48 | 241 => 49 | 276 => 55 | 277 => 56 | n => n, fun | 31 => 23 | 9 => 9 | 3 => 3 | 4 => 4 | 0 => 0 | 20 => 20 | 72 => 75 | 76 => 79 | 70 => 73 | 37 => 55 | 75 => 78 | 127 => 88 | 164 => 96 | 5 => 5 | 80 => 81 | n => n, fun | n => n⟩
theorem Tryd.lays156 : Go.Proofs.Lays.n156 Tryd.prog Tryd.lays156_ren := {
  mixed := by kernel_rfl
  f156 := Tryd.func36.trans (congrArg some (by kernel_rfl))
  f165 := Tryd.func41.trans (congrArg some (by kernel_rfl))
  f166 := Tryd.func42.trans (congrArg some (by kernel_rfl))
  f169 := Tryd.func43.trans (congrArg some (by kernel_rfl))
  f240 := Tryd.func48.trans (congrArg some (by kernel_rfl))
  f241 := Tryd.func49.trans (congrArg some (by kernel_rfl))
  f276 := Tryd.func55.trans (congrArg some (by kernel_rfl))
  f277 := Tryd.func56.trans (congrArg some (by kernel_rfl))
  t0 := Tryd.underlying0
  a0 := Tryd.isAgg0
  z0 := Tryd.sizeOf0
  v0 := Tryd.zeroValue0
  t3 := Tryd.underlying3
  a3 := Tryd.isAgg3
  z3 := Tryd.sizeOf3
  v3 := Tryd.zeroValue3
  t4 := Tryd.underlying4
  a4 := Tryd.isAgg4
  z4 := Tryd.sizeOf4
  v4 := Tryd.zeroValue4
  t9 := Tryd.underlying9
  a9 := Tryd.isAgg9
  z9 := Tryd.sizeOf9
  v9 := Tryd.zeroValue9
  t20 := Tryd.underlying20
  a20 := Tryd.isAgg20
  z20 := Tryd.sizeOf20
  v20 := Tryd.zeroValue20
  t31 := Tryd.underlying23
  a31 := Tryd.isAgg23
  z31 := Tryd.sizeOf23
  v31 := Tryd.zeroValue23
  t37 := Tryd.underlying55
  a37 := Tryd.isAgg55
  z37 := Tryd.sizeOf55
  v37 := Tryd.zeroValue55
  t70 := Tryd.underlying73
  a70 := Tryd.isAgg73
  z70 := Tryd.sizeOf73
  v70 := Tryd.zeroValue73
  t72 := Tryd.underlying75
  a72 := Tryd.isAgg75
  z72 := Tryd.sizeOf75
  v72 := Tryd.zeroValue75
  t75 := Tryd.underlying78
  a75 := Tryd.isAgg78
  z75 := Tryd.sizeOf78
  v75 := Tryd.zeroValue78
  t76 := Tryd.underlying79
  a76 := Tryd.isAgg79
  z76 := Tryd.sizeOf79
  v76 := Tryd.zeroValue79
  t127 := Tryd.underlying88
  a127 := Tryd.isAgg88
  z127 := Tryd.sizeOf88
  v127 := Tryd.zeroValue88
  t164 := Tryd.underlying96
  a164 := Tryd.isAgg96
  z164 := Tryd.sizeOf96
  v164 := Tryd.zeroValue96 }
theorem Tryd.Builder_Extra_156 : Builder.Extra Tryd.prog Tryd.lays156_ren := {
  sizeBuilder := by kernel_rfl
  liesBuilder := by kernel_rfl
  t5 := Tryd.underlying5
  a5 := Tryd.isAgg5
  z5 := Tryd.sizeOf5
  v5 := Tryd.zeroValue5
  infoByte := by kernel_rfl
  cellsByte := by kernel_rfl
  sizeByte := by kernel_rfl
  neB5 := by decide }
open Go.RowKit in
/-- No element: the empty string; the world is as it was. (Whatever the slice's address and capacity: a nil slice too.) (LAID: no walk: one application.) -/
theorem Tryd.strings_Join_none (a : Option Addr) (c : Nat) (sep : ByteArray) (w : World) :
    Calls Tryd.prog 36 #[.slice a 0 c, .string sep] w fun e w' => e = .returned (.string ⟨#[]⟩) ∧ w' = w := Any.strings_Join_none Tryd.lays156 Tryd.Builder_Extra_156 a c sep w
open Go.RowKit in
/-- strings.Join: "Join concatenates the elements of its first argument to create a single string. The separator string sep is placed between elements in the resulting string.": HOWEVER MANY ELEMENTS. Below the heap's end the world is as it was. (LAID: no walk: one application.) -/
theorem Tryd.strings_Join (bk o c : Nat) (xs : List ByteArray) (sep : ByteArray) (w : World) (hcells : ∀ (j : Nat) x, xs[j]? = some x → w.cell? ⟨bk, o + j, none⟩ = some (.string x)) (hbk : bk < w.heap.size) (hN : xs.length ≤ 140737488355328) (hcap : xs.length ≤ c) (hlen : (Lib.join (xs.map (·.data.toList)) sep.data.toList).length ≤ 140737488355328) :
    Calls Tryd.prog 36 #[.slice (some ⟨bk, o, none⟩) xs.length c, .string sep] w fun e w' => e = .returned (.string ⟨(Lib.join (xs.map (·.data.toList)) sep.data.toList).toArray⟩) ∧ Below w.heap.size w w' := Any.strings_Join Tryd.lays156 Tryd.Builder_Extra_156 bk o c xs sep w hcells hbk hN hcap hlen
def Tryd.laysM171_ren : Go.Shelf.Ren := ⟨fun | 171 => 22 | 243 => 35 | 246 => 40 | 283 => 44 | 284 => 45 | 285 => 46 | 286 => 47 | 129 => 51 | 317 => 50 | 318 => 52 | 319 => 53 | 320 => 54 | 337 => 57 | 338 => 58 | n => n, fun | 3 => 3 | 9 => 9 | 2 => 2 | 4 => 4 | 171 => 82 | 0 => 0 | 53 => 83 | 37 => 55 | 5 => 5 | 173 => 86 | 212 => 91 | 51 => 92 | 20 => 20 | 213 => 93 | 46 => 71 | 232 => 100 | 233 => 101 | n => n, fun | 17 => 2 | 18 => 4 | 19 => 5 | n => n⟩
theorem Tryd.laysM171 : Go.Proofs.LaysM.n171 Tryd.prog Tryd.laysM171_ren := {
  mixed := by kernel_rfl
  f129 := Tryd.func51.trans (congrArg some (by kernel_rfl))
  f171 := Tryd.func22.trans (congrArg some (by kernel_rfl))
  f243 := Tryd.func35.trans (congrArg some (by kernel_rfl))
  f246 := Tryd.func40.trans (congrArg some (by kernel_rfl))
  f283 := Tryd.func44.trans (congrArg some (by kernel_rfl))
  f284 := Tryd.func45.trans (congrArg some (by kernel_rfl))
  f285 := Tryd.func46.trans (congrArg some (by kernel_rfl))
  f286 := Tryd.func47.trans (congrArg some (by kernel_rfl))
  f317 := Tryd.func50.trans (congrArg some (by kernel_rfl))
  f318 := Tryd.func52.trans (congrArg some (by kernel_rfl))
  f319 := Tryd.func53.trans (congrArg some (by kernel_rfl))
  f320 := Tryd.func54.trans (congrArg some (by kernel_rfl))
  f337 := Tryd.func57.trans (congrArg some (by kernel_rfl))
  f338 := Tryd.func58.trans (congrArg some (by kernel_rfl))
  t0 := Tryd.underlying0
  a0 := Tryd.isAgg0
  z0 := Tryd.sizeOf0
  v0 := Tryd.zeroValue0
  t2 := Tryd.underlying2
  a2 := Tryd.isAgg2
  z2 := Tryd.sizeOf2
  v2 := Tryd.zeroValue2
  t3 := Tryd.underlying3
  a3 := Tryd.isAgg3
  z3 := Tryd.sizeOf3
  v3 := Tryd.zeroValue3
  t4 := Tryd.underlying4
  a4 := Tryd.isAgg4
  z4 := Tryd.sizeOf4
  v4 := Tryd.zeroValue4
  t5 := Tryd.underlying5
  a5 := Tryd.isAgg5
  z5 := Tryd.sizeOf5
  v5 := Tryd.zeroValue5
  t9 := Tryd.underlying9
  a9 := Tryd.isAgg9
  z9 := Tryd.sizeOf9
  v9 := Tryd.zeroValue9
  t20 := Tryd.underlying20
  a20 := Tryd.isAgg20
  z20 := Tryd.sizeOf20
  v20 := Tryd.zeroValue20
  t37 := Tryd.underlying55
  a37 := Tryd.isAgg55
  z37 := Tryd.sizeOf55
  v37 := Tryd.zeroValue55
  t46 := Tryd.underlying71
  a46 := Tryd.isAgg71
  z46 := Tryd.sizeOf71
  v46 := Tryd.zeroValue71
  t51 := Tryd.underlying92
  a51 := Tryd.isAgg92
  z51 := Tryd.sizeOf92
  v51 := Tryd.zeroValue92
  t53 := Tryd.underlying83
  a53 := Tryd.isAgg83
  z53 := Tryd.sizeOf83
  v53 := Tryd.zeroValue83
  t171 := Tryd.underlying82
  a171 := Tryd.isAgg82
  z171 := Tryd.sizeOf82
  v171 := Tryd.zeroValue82
  t173 := Tryd.underlying86
  a173 := Tryd.isAgg86
  z173 := Tryd.sizeOf86
  v173 := Tryd.zeroValue86
  t212 := Tryd.underlying91
  a212 := Tryd.isAgg91
  z212 := Tryd.sizeOf91
  v212 := Tryd.zeroValue91
  t213 := Tryd.underlying93
  a213 := Tryd.isAgg93
  z213 := Tryd.sizeOf93
  t232 := Tryd.underlying100
  a232 := Tryd.isAgg100
  z232 := Tryd.sizeOf100
  v232 := Tryd.zeroValue100
  t233 := Tryd.underlying101
  a233 := Tryd.isAgg101
  z233 := Tryd.sizeOf101
  v233 := Tryd.zeroValue101
  g17 := by kernel_rfl
  g18 := by kernel_rfl
  g19 := by kernel_rfl
  i0 := by kernel_rfl
  i2 := by kernel_rfl
  i3 := by kernel_rfl
  i4 := by kernel_rfl
  i5 := by kernel_rfl
  i9 := by kernel_rfl
  i20 := by kernel_rfl
  i37 := by kernel_rfl
  i46 := by kernel_rfl
  i51 := by kernel_rfl
  i53 := by kernel_rfl
  i171 := by kernel_rfl
  i173 := by kernel_rfl
  i212 := by kernel_rfl
  i232 := by kernel_rfl
  i233 := by kernel_rfl
  m17 := by kernel_rfl
  m18 := by kernel_rfl
  m19 := by kernel_rfl }
open Go.RowKit Go.Sort Go.Lib in
/-- strconv.Itoa: "Itoa is equivalent to FormatInt(int64(i), 10).": i's DECIMAL NUMERAL ('Lib.itoa': a '-' where i is negative, then the digits), FOR EVERY int. The world behind the call: the world before it, new blocks behind the heap (the library's 'var a [24]byte'), draws. (LAID: no walk: one application.) -/
theorem Tryd.strconv_Itoa (n : Int) (h0 : -9223372036854775808 ≤ n) (h1 : n ≤ 9223372036854775807) (w : World) (htab : Lib.TabIs Tryd.prog w "internal/strconv.uint64pow10" .u64 Lib.pow10Tab) :
    Calls Tryd.prog 22 #[.int .i64 n] w fun e w' => e = .returned (.string ⟨(Lib.itoa n).toArray⟩) ∧ ∃ k os, w' = grow (w.drewN k) os := Any.strconv_Itoa Tryd.laysM171 n h0 h1 w htab
end Go.Proofs


namespace Go.AS.C
open Go Go.Proofs
/-! The kit's contracts, told of abstract states. -/
theorem joinsTexts : JoinsTexts Tryd.prog strings_Join :=
  ⟨fun bk o c xs sep w h1 h2 h3 h4 h5 => Tryd.strings_Join bk o c xs sep w h1 h2 h3 h4 h5, fun a c sep w => Tryd.strings_Join_none a c sep w⟩
end Go.AS.C


namespace Go.AS.C
open Go Go.Proofs
set_option linter.unusedVariables false
set_option linter.unusedSimpArgs false
set_option maxRecDepth 10000

/-! tell's and the reference's small functions. -/
theorem bl_size (s : ByteArray) : s.data.toList.length = s.size := by rw [size_bytes]
theorem tell_digits_spec {A : AH} {s : ByteArray} {Q : Value → AH → Prop} (hl : s.size < 2 ^ 20) (hq : ∀ A', Le A A' → Q (.string (hexT s)) A') : ACalls 3 Tryd.prog tell_digits [.string s] Q A := by
  refine ACalls.of_fits mixed fits_tell_digits rfl ?_
  unfold ic_tell_digits
  have i0 : initA [.string s] 0 = .string s := rfl
  generalize initA [.string s] = a at i0
  have hxl := hexP_len s.data.toList
  rw [bl_size] at hxl
  have c1 := cat_str ⟨[35].toArray⟩ ⟨(hexP s.data.toList).toArray⟩ (by show 1 + (hexP s.data.toList).length < _; omega)
  rw [ba_cat] at c1
  simp (maxSteps := 1000000) (disch := omega) only [stepS, reduceIte, Nat.reduceBEq, Nat.reduceEqDiff, tupleOf, stepT, i0]
  refine ids_Hex_spec hl fun C kC => ?_
  simp (maxSteps := 1000000) (disch := omega) only [stepS, reduceIte, Nat.reduceBEq, Nat.reduceEqDiff, tupleOf, stepT, c1]
  exact hq _ kC
theorem tell_line_spec {A : AH} {v : Value} {l : List ByteArray} {Q : Value → AH → Prop} (h : SlT A v l) (hl : l.length ≤ 140737488355328) (hj : (lineT l).size ≤ 140737488355328) (hq : Q (.string (lineT l)) A) : ACalls 3 Tryd.prog tell_line [v] Q A := by
  refine ACalls.of_fits mixed fits_tell_line rfl ?_
  unfold ic_tell_line
  have i0 : initA [v] 0 = v := rfl
  generalize initA [v] = a at i0
  simp (maxSteps := 1000000) (disch := omega) only [stepS, reduceIte, Nat.reduceBEq, Nat.reduceEqDiff, tupleOf, stepT, i0]
  refine join_spec joinsTexts h hl hj ?_
  simp (maxSteps := 1000000) (disch := omega) only [stepS, reduceIte, Nat.reduceBEq, Nat.reduceEqDiff, tupleOf, stepT]
  exact hq
/-- The name of a place in a list, from 1 on. -/
def nameT (l : List ByteArray) (i : Int) : ByteArray := if i < 1 ∨ (l.length : Int) < i then ⟨#[63]⟩ else l.getD (i - 1).toNat ⟨#[]⟩
end Go.AS.C


namespace Go.AS.C
open Go Go.Proofs
set_option linter.unusedVariables false
set_option linter.unusedSimpArgs false
set_option maxRecDepth 10000

/-! Words as lines. -/
structure WordV where
  name : ByteArray
  text : ByteArray
def wordE (w : WordV) : List Value := [.string w.name, .string w.text]
/-- A slice of words. -/
def WordsA (A : AH) (v : Value) (l : List WordV) : Prop := Sl A 2 v (l.map wordE).length (l.map wordE).flatten
theorem wordE_ok (l : List WordV) : ∀ e ∈ l.map wordE, e.length = 2 ∧ ones e = true := by
  intro e he
  rw [List.mem_map] at he
  obtain ⟨w, _, rfl⟩ := he
  exact ⟨rfl, rfl⟩
theorem WordsA.le {A B : AH} {v : Value} {l : List WordV} (h : WordsA A v l) (hl : Le A B) : WordsA B v l := Sl.le h hl
theorem WordsA.len {A : AH} {v : Value} {l : List WordV} (h : WordsA A v l) (B : AH) : sLens B false v = some (ii l.length, B) := by
  have := Sl.lenB h B
  rw [List.length_map] at this
  exact this
theorem WordsA.at {A : AH} {v : Value} {l : List WordV} (h : WordsA A v l) {j : Nat} {w : WordV} (hj : l[j]? = some w) : ∃ p, (∀ (B : AH) (n : Int), n = (j : Int) → sIaddr B v (.int .i64 n) 2 = some (p, B)) ∧ ∀ B, Le A B → sLoadn B p 2 = some (.agg #[.string w.name, .string w.text], B) := by
  obtain ⟨p, _, p1, _, p3⟩ := Sl.el h (wordE_ok l) (j := j) (e := wordE w) (by rw [List.getElem?_map, hj]; rfl)
  exact ⟨p, p1, fun B hB => p3 B (fun k b hb _ => hB.get hb)⟩
def SmallW (w : WordV) : Prop := w.name.size ≤ 100 ∧ w.text.size ≤ 200
def lineW (what : ByteArray) (w : WordV) : ByteArray := lineT [what, w.name, hexT w.text]
theorem lineW_size {what : ByteArray} {w : WordV} (h0 : what.size ≤ 20) (h : SmallW w) : (lineW what w).size ≤ 1000 := by
  unfold lineW
  rw [lineT_cons]
  show (what.data.toList ++ [w.name, hexT w.text].flatMap tail1).length ≤ 1000
  have h1 := tail1_len w.name
  have h2 := tail1_len (hexT w.text)
  have h3 := hexT_size w.text
  have h4 := bl_size what
  obtain ⟨s1, s2⟩ := h
  simp only [List.flatMap_cons, List.flatMap_nil, List.append_nil, List.length_append]
  omega
theorem tell_words_spec {A : AH} {v : Value} {l : List WordV} {what : ByteArray} {Q : Value → AH → Prop} (h : WordsA A v l) (hs : ∀ w ∈ l, SmallW w) (hl : l.length ≤ 1000) (h0 : what.size ≤ 20)
    (hq : ∀ A' u, Le A A' → OwnT A.length A' u (l.map (lineW what)) → Q u A') : ACalls 3 Tryd.prog tell_words [.string what, v] Q A := by
  refine ACalls.of_fits mixed fits_tell_words rfl ?_
  unfold ic_tell_words
  have i0 : initA [.string what, v] 0 = .string what := rfl
  have i1 : initA [.string what, v] 1 = v := rfl
  generalize initA [.string what, v] = a at i0 i1
  have hll := h.len
  simp (maxSteps := 1000000) (disch := omega) only [stepS, reduceIte, Nat.reduceBEq, Nat.reduceEqDiff, tupleOf, stepT, i0, i1, hll]
  refine W_loop (fun a' B => ∃ j : Nat, j ≤ l.length ∧ Le A B ∧ a' 0 = .string what ∧ a' 8 = v ∧ a' 9 = ii l.length ∧ a' 10 = ii j ∧ OwnT A.length B (a' 5) ((l.take j).map (lineW what))) (fun a' _ => l.length - (iv (a' 10)).toNat) ?_ ?_
  · refine ⟨0, Nat.zero_le _, .refl _, ?_⟩
    simp (maxSteps := 1000000) (disch := omega) only [stepS, reduceIte, Nat.reduceBEq, Nat.reduceEqDiff, tupleOf, stepT, i0, i1, hll]
    exact ⟨rfl, OwnT.nil _ _⟩
  · rintro a2 B ⟨j, hj, hle, g0, g8, g9, g10, o5⟩
    obtain ⟨y, g5⟩ : ∃ y, a2 5 = y := ⟨_, rfl⟩
    rw [g5] at o5
    rcases Nat.lt_or_ge j l.length with hlt | hge
    · obtain ⟨w, hw⟩ := get_some hlt
      have hsw := hs w (List.mem_of_getElem? hw)
      obtain ⟨hn1, hn2⟩ := hsw
      have hsw : SmallW w := ⟨hn1, hn2⟩
      obtain ⟨p, p1, p2⟩ := h.at hw
      have p3 := p2 B hle
      have htk : l.take (j + 1) = l.take j ++ [w] := by rw [List.take_add_one, hw]; rfl
      have k1 : Le B ((B ++ [Blk.row [.string ⟨#[]⟩, .string ⟨#[]⟩] .own 0 true]).set B.length (Blk.row [.string w.name, .string w.text] .own 0 true)) := by (repeat first | exact Le.refl _ | assumption | refine Le.app ?_ _ | refine Le.set ?_ ?_ | omega | (simp only [List.length_append, List.length_singleton, List.length_set]; omega))
      simp (maxSteps := 1000000) (disch := omega) only [stepS, reduceIte, Nat.reduceBEq, Nat.reduceEqDiff, tupleOf, stepT, stepX, heapR, lensR, Nat.reduceAdd, Nat.reduceLeDiff, g0, g8, g9, g10, g5, p1, p3]
      refine tell_digits_spec (s := w.text) (by omega) fun E kE => ?_
      have kAE := (hle.trans k1).trans kE
      have oE := (OwnT.le o5 k1).le kE
      have l3 := lit1 (A := E) (z := .string ⟨#[]⟩) (len := 3) (ps := [(0, 1, .string what), (1, 1, .string w.name), (2, 1, .string (hexT w.text))]) [.string what, .string w.name, .string (hexT w.text)] rfl rfl (fun x hx => by
        simp only [List.mem_cons, List.not_mem_nil, or_false] at hx
        rcases hx with rfl | rfl | rfl <;> exact one1_str _)
      have k3 : Le E (E ++ [.row [.string what, .string w.name, .string (hexT w.text)] .own 1 true]) := .push _ _
      have s3 : SlT (E ++ [.row [.string what, .string w.name, .string (hexT w.text)] .own 1 true]) (.slice (some ⟨E.length, 0, none⟩) 3 3) [what, w.name, hexT w.text] := sl_last E (by decide) (Nat.le_refl _)
      obtain ⟨l1, x, F, q1, q2, q3, q4, q5⟩ := OwnT.push (lineW what w) (kAE.trans k3) (OwnT.le oE k3) (by rw [List.length_map, List.length_take]; omega)
      have hsz := lineW_size h0 hsw
      have hlE : (E ++ [Blk.row [.string what, .string w.name, .string (hexT w.text)] .own 1 true]).length = E.length + 1 := by simp
      rw [hlE] at l1 q1
      simp (maxSteps := 1000000) (disch := omega) only [stepS, reduceIte, Nat.reduceBEq, Nat.reduceEqDiff, tupleOf, stepT, stepX, heapR, lensR, Nat.reduceAdd, Nat.reduceLeDiff, g0, g8, g9, g10, g5, kE.rd, l3]
      refine tell_line_spec s3 (by simp) (by show (lineW what w).size ≤ _; omega) ?_
      have e1 : lineT [what, w.name, hexT w.text] = lineW what w := rfl
      rw [e1]
      simp (maxSteps := 1000000) (disch := omega) only [stepS, reduceIte, Nat.reduceBEq, Nat.reduceEqDiff, tupleOf, stepT, stepX, heapR, lensR, Nat.reduceAdd, Nat.reduceLeDiff, g0, g8, g9, g10, g5, l1, q1]
      refine ⟨⟨j + 1, by omega, q2, rfl, ?_⟩, by omega⟩
      rw [htk, List.map_append]
      exact q3
    · rw [List.take_of_length_le (by omega)] at o5
      simp (maxSteps := 1000000) (disch := omega) only [stepS, reduceIte, Nat.reduceBEq, Nat.reduceEqDiff, tupleOf, stepT, g0, g8, g9, g10, g5]
      exact hq _ _ hle o5
end Go.AS.C


namespace Go.AS.C
open Go Go.Proofs
set_option linter.unusedVariables false
set_option linter.unusedSimpArgs false
set_option maxRecDepth 10000

theorem WordsA.fld {A : AH} {v : Value} {l : List WordV} (h : WordsA A v l) {j o : Nat} {w : WordV} {x : Value} (hj : l[j]? = some w) (ho : (wordE w)[o]? = some x) : ∃ p q, (∀ (B : AH) (n : Int), n = (j : Int) → sIaddr B v (.int .i64 n) 2 = some (p, B)) ∧ (∀ B, sFaddr B p o = some (q, B)) ∧ ∀ B, Le A B → sLoad1 B q = some (x, B) :=
  Sl.elfL h (wordE_ok l) (j := j) (e := wordE w) (by rw [List.getElem?_map, hj]; rfl) ho
end Go.AS.C


namespace Go.AS.C
open Go Go.Proofs Go.RowKit Go.Sort
set_option linter.unusedVariables false
set_option linter.unusedSimpArgs false
set_option maxRecDepth 10000

/-! The three package variables: the steps' names, the faults', the powers of ten. -/
def stepsL : List ByteArray := [⟨#[63]⟩, ⟨#[105, 110, 103, 101, 115, 116]⟩, ⟨#[103, 101, 116]⟩, ⟨#[104, 101, 97, 100, 115]⟩, ⟨#[99, 104, 105, 108, 100, 114, 101, 110]⟩, ⟨#[115, 116, 97, 116, 101]⟩, ⟨#[115, 110, 97, 112, 115, 104, 111, 116]⟩, ⟨#[99, 104, 101, 99, 107, 112, 111, 105, 110, 116]⟩, ⟨#[99, 111, 109, 112, 97, 99, 116]⟩, ⟨#[109, 105, 115, 115, 105, 110, 103]⟩, ⟨#[115, 116, 111, 112]⟩, ⟨#[99, 114, 97, 115, 104]⟩, ⟨#[111, 112, 101, 110]⟩]
def faultsL : List ByteArray := [⟨#[63]⟩, ⟨#[115, 117, 112, 101, 114]⟩, ⟨#[109, 97, 110, 105, 102, 101, 115, 116]⟩, ⟨#[115, 101, 103, 109, 101, 110, 116]⟩, ⟨#[116, 119, 105, 99, 101]⟩, ⟨#[117, 112, 100, 97, 116, 101]⟩, ⟨#[112, 114, 101, 100]⟩, ⟨#[115, 110, 97, 112, 115, 104, 111, 116]⟩]
def kIn : List Int := Lib.pow10Tab
def kVs : List Value := stepsL.map .string
def kVf : List Value := faultsL.map .string
def kVn : List Value := kIn.map fun n => .int .u64 n
theorem strs_flat (l : List ByteArray) : ∀ v ∈ l.map Value.string, flatV v = true ∧ v.oneCell' = true := by
  intro v hv
  rw [List.mem_map] at hv
  obtain ⟨n, _, rfl⟩ := hv
  exact ⟨rfl, rfl⟩
theorem kIn_cells : (kIn.map fun m => Value.int .u64 m) = kVn := id rfl
theorem kIn_flat : ∀ v ∈ kVn, flatV v = true ∧ v.oneCell' = true := by
  intro v hv
  unfold kVn at hv
  rw [List.mem_map] at hv
  obtain ⟨n, _, rfl⟩ := hv
  exact ⟨rfl, rfl⟩
theorem stepsL_cells : (stepsL.map fun s => Value.string s) = kVs := id rfl
theorem faultsL_cells : (faultsL.map fun s => Value.string s) = kVf := id rfl
theorem stepsL_flat : ∀ v ∈ kVs, flatV v = true ∧ v.oneCell' = true := strs_flat _
theorem faultsL_flat : ∀ v ∈ kVf, flatV v = true ∧ v.oneCell' = true := strs_flat _
def kBs : Blk := .row kVs .ro 0 true
def kBf : Blk := .row kVf .ro 0 true
def kBn : Blk := .row kVn .ro 0 true
/-- The heap begins with the three. -/
abbrev G3 : AH := [kBs, kBf, kBn]
theorem below_grow (w : World) (k : Nat) (os : Array Obj) : Below w.heap.size w (grow (w.drewN k) os) :=
  ⟨rfl, rfl, rfl, by simp [grow, World.drewN], fun i hi => by
    show (w.heap ++ os)[i]? = _
    rw [Array.getElem?_append_left hi]⟩
theorem tab_is {μ : Mu} {A : AH} {w : World} (hg : Le G3 A) (hr : Rel 3 μ A w) : Lib.TabIs Tryd.prog w "internal/strconv.uint64pow10" .u64 Lib.pow10Tab := by
  obtain ⟨e, he, hb, ho⟩ := hr.glo 2 (by omega)
  have h0 : A[2]? = some (.row kVn .ro 0 true) := hg.get (show G3[2]? = some kBn from rfl)
  obtain ⟨rc, T, fr, g1, g2, _, g4⟩ := hr.row 2 kVn .ro 0 true e h0 he (by decide)
  have hs := g4.2 rfl
  rw [ho] at g2 hs
  rw [hb] at g1
  have hl : rc.toList = kVn := by
    apply List.ext_getElem?
    intro j
    rcases Nat.lt_or_ge j kVn.length with hj | hj
    · have hv : kVn[j]? = some kVn[j] := List.getElem?_eq_getElem hj
      obtain ⟨_, v', q1, q2⟩ := g2 j _ hv
      rw [Nat.zero_add, q2.eq_of_flat (kIn_flat _ (List.getElem_mem hj)).1] at q1
      rw [hv, Array.getElem?_toList, q1]
    · rw [List.getElem?_eq_none (by rw [Array.length_toList]; omega), List.getElem?_eq_none hj]
  unfold Lib.TabIs World.var?
  have hn : Tryd.prog.globalNamed "internal/strconv.uint64pow10" = some 2 := by kernel_rfl
  rw [hn]
  simp only [Option.bind_some, g1]
  rw [← Array.toArray_toList (xs := rc), hl]
  rfl
theorem itoa_spec {A : AH} {n : Int} {Q : Value → AH → Prop} (hg : Le G3 A) (h0 : -9223372036854775808 ≤ n) (h1 : n ≤ 9223372036854775807) (hq : Q (.string (numT n)) A) : ACalls 3 Tryd.prog strconv_Itoa [ii n] Q A := by
  intro μ args' w hr k1 k2
  obtain ⟨v', rfl⟩ : ∃ v', args' = #[v'] := by
    have : args'.size = 1 := by simpa using k1
    exact ⟨args'[0], by apply Array.ext (by simpa using this); intro i hi1 hi2; simp at hi2; subst hi2; rfl⟩
  have hv := k2 0 _ v' rfl rfl
  have e : v' = ii n := hv.eq_of_flat rfl
  subst e
  refine (Tryd.strconv_Itoa n h0 h1 w (tab_is hg hr)).mono ?_
  rintro en w' ⟨rfl, k, os, rfl⟩
  obtain ⟨hr1, hs1⟩ := hr.below (below_grow w k os)
  exact ⟨_, _, μ, A, rfl, .flat rfl, hr1, hs1, hq⟩
end Go.AS.C


namespace Go.AS.C
open Go Go.Proofs
set_option linter.unusedVariables false
set_option linter.unusedSimpArgs false
set_option maxRecDepth 10000

/-! States as lines. -/
abbrev ptr (i : Nat) : Value := .pointer (some ⟨i, 0, none⟩)
structure CountV where
  name : ByteArray
  n : Int
def countE (w : CountV) : List Value := [.string w.name, ii w.n]
def CountsA (A : AH) (v : Value) (l : List CountV) : Prop := Sl A 2 v (l.map countE).length (l.map countE).flatten
theorem countE_ok (l : List CountV) : ∀ e ∈ l.map countE, e.length = 2 ∧ ones e = true := by
  intro e he
  rw [List.mem_map] at he
  obtain ⟨w, _, rfl⟩ := he
  exact ⟨rfl, rfl⟩
theorem CountsA.le {A B : AH} {v : Value} {l : List CountV} (h : CountsA A v l) (hl : Le A B) : CountsA B v l := Sl.le h hl
theorem CountsA.len {A : AH} {v : Value} {l : List CountV} (h : CountsA A v l) (B : AH) : sLens B false v = some (ii l.length, B) := by
  have := Sl.lenB h B
  rw [List.length_map] at this
  exact this
theorem CountsA.at {A : AH} {v : Value} {l : List CountV} (h : CountsA A v l) {j : Nat} {w : CountV} (hj : l[j]? = some w) : ∃ p, (∀ (B : AH) (n : Int), n = (j : Int) → sIaddr B v (.int .i64 n) 2 = some (p, B)) ∧ ∀ B, Le A B → sLoadn B p 2 = some (.agg #[.string w.name, ii w.n], B) := by
  obtain ⟨p, _, p1, _, p3⟩ := Sl.el h (countE_ok l) (j := j) (e := countE w) (by rw [List.getElem?_map, hj]; rfl)
  exact ⟨p, p1, fun B hB => p3 B (fun k b hb _ => hB.get hb)⟩
theorem CountsA.fld {A : AH} {v : Value} {l : List CountV} (h : CountsA A v l) {j o : Nat} {w : CountV} {x : Value} (hj : l[j]? = some w) (ho : (countE w)[o]? = some x) : ∃ p q, (∀ (B : AH) (n : Int), n = (j : Int) → sIaddr B v (.int .i64 n) 2 = some (p, B)) ∧ (∀ B, sFaddr B p o = some (q, B)) ∧ ∀ B, Le A B → sLoad1 B q = some (x, B) :=
  Sl.elfL h (countE_ok l) (j := j) (e := countE w) (by rw [List.getElem?_map, hj]; rfl) ho
structure StateV where
  counts : List CountV
  members : List WordV
  values : List WordV
  lines : List WordV
/-- A state, as a value of which the lists stand in the heap. -/
def StateA (A : AH) (x : Value) (s : StateV) : Prop := ∃ c m v l : Value, x = .agg #[c, m, v, l] ∧ CountsA A c s.counts ∧ WordsA A m s.members ∧ WordsA A v s.values ∧ WordsA A l s.lines
theorem StateA.le {A B : AH} {x : Value} {s : StateV} (h : StateA A x s) (hl : Le A B) : StateA B x s := by
  obtain ⟨c, m, v, l, h1, h2, h3, h4, h5⟩ := h
  exact ⟨c, m, v, l, h1, h2.le hl, h3.le hl, h4.le hl, h5.le hl⟩
def SmallC (w : CountV) : Prop := w.name.size ≤ 100 ∧ -9223372036854775808 ≤ w.n ∧ w.n < 9223372036854775808
def SmallS (s : StateV) : Prop := (s.counts.length ≤ 30 ∧ ∀ w ∈ s.counts, SmallC w) ∧ (s.members.length ≤ 30 ∧ ∀ w ∈ s.members, SmallW w) ∧ (s.values.length ≤ 30 ∧ ∀ w ∈ s.values, SmallW w) ∧ (s.lines.length ≤ 30 ∧ ∀ w ∈ s.lines, SmallW w)
def countT : ByteArray := ⟨#[99, 111, 117, 110, 116]⟩
def memberT : ByteArray := ⟨#[109, 101, 109, 98, 101, 114]⟩
def valueT : ByteArray := ⟨#[118, 97, 108, 117, 101]⟩
def linesT : ByteArray := ⟨#[108, 105, 110, 101]⟩
def lineC (w : CountV) : ByteArray := lineT [countT, w.name, numT w.n]
theorem lineC_size {w : CountV} (h : SmallC w) : (lineC w).size ≤ 1000 := by
  unfold lineC
  rw [lineT_cons]
  show (countT.data.toList ++ [w.name, numT w.n].flatMap tail1).length ≤ 1000
  have h1 := tail1_len w.name
  have h2 := tail1_len (numT w.n)
  have h3 := numT_size (n := w.n) h.2.1 (by have := h.2.2; omega)
  have h4 : countT.data.toList.length = 5 := rfl
  obtain ⟨s1, s2⟩ := h
  simp only [List.flatMap_cons, List.flatMap_nil, List.append_nil, List.length_append]
  omega
/-- A state's lines. -/
def stateL (s : StateV) : List ByteArray := s.counts.map lineC ++ s.members.map (lineW memberT) ++ s.values.map (lineW valueT) ++ s.lines.map (lineW linesT)
theorem tell_State_spec {A : AH} {x : Value} {s : StateV} {Q : Value → AH → Prop} (hg : Le G3 A) (hx : StateA A x s) (hs : SmallS s) (hq : ∀ A' u, Le A A' → OwnT A.length A' u (stateL s) → Q u A') : ACalls 3 Tryd.prog tell_State [x] Q A := by
  obtain ⟨c, m, v, l, rfl, hc, hm, hv, hl⟩ := hx
  obtain ⟨⟨sc, sc2⟩, ⟨sm, sm2⟩, ⟨sv, sv2⟩, ⟨sl, sl2⟩⟩ := hs
  refine ACalls.of_fits mixed fits_tell_State rfl ?_
  unfold ic_tell_State
  have i0 : initA [.agg #[c, m, v, l]] 0 = .agg #[c, m, v, l] := rfl
  generalize initA [.agg #[c, m, v, l]] = a at i0
  have oc := (Sl.one1 hc).2
  have om := (Sl.one1 hm).2
  have ov := (Sl.one1 hv).2
  have ol := (Sl.one1 hl).2
  refine W_mid (fun a B => B = A ++ [.row [c, m, v, l] .own 0 true] ∧ a 1 = ptr A.length) ?_ ?_
  · simp (maxSteps := 1000000) (disch := omega) only [stepS, reduceIte, Nat.reduceBEq, Nat.reduceEqDiff, tupleOf, stepT, stepX, heapR, lensR, Nat.reduceAdd, Nat.reduceLeDiff, i0, oc, om, ov, ol]
  rintro a B0 ⟨hB, g1⟩
  have k0 : Le A B0 := by rw [hB]; exact .push _ _
  have r1 : rowAt B0 A.length = some ([c, m, v, l], .own, 0, true) := by rw [hB]; exact rowAt_own (get_last _ _)
  clear i0 hB
  refine W_mid (fun a B => B = B0 ∧ a 1 = ptr A.length ∧ a 3 = .slice none 0 0) ?_ ?_
  · simp (maxSteps := 1000000) (disch := omega) only [stepS, reduceIte, Nat.reduceBEq, Nat.reduceEqDiff, tupleOf, stepT, stepX, heapR, lensR, Nat.reduceAdd, Nat.reduceLeDiff, g1]
  rintro a B' ⟨hB, g1, g3⟩
  obtain rfl : B0 = B' := hB.symm
  clear hB
  have hcl := hc.len
  refine W_mid (fun a B => ∃ u, Le B0 B ∧ a 1 = ptr A.length ∧ a 3 = u ∧ OwnT B0.length B u (s.counts.map lineC)) ?_ ?_
  · simp (maxSteps := 1000000) (disch := omega) only [stepS, reduceIte, Nat.reduceBEq, Nat.reduceEqDiff, tupleOf, stepT, stepX, heapR, lensR, Nat.reduceAdd, Nat.reduceLeDiff, g1, g3, r1, hcl]
    refine W_loop (fun a' B => ∃ j : Nat, j ≤ s.counts.length ∧ Le B0 B ∧ a' 1 = ptr A.length ∧ a' 7 = c ∧ a' 8 = ii s.counts.length ∧ a' 9 = ii j ∧ OwnT B0.length B (a' 3) ((s.counts.take j).map lineC)) (fun a' _ => s.counts.length - (iv (a' 9)).toNat) ?_ ?_
    · refine ⟨0, Nat.zero_le _, .refl _, ?_⟩
      simp (maxSteps := 1000000) (disch := omega) only [stepS, reduceIte, Nat.reduceBEq, Nat.reduceEqDiff, tupleOf, stepT, stepX, heapR, lensR, Nat.reduceAdd, Nat.reduceLeDiff, g1, g3, r1, hcl]
      exact ⟨rfl, OwnT.nil _ _⟩
    · clear g1 g3
      rintro a2 B ⟨j, hj, hle, g1, g7, g8, g9, o3⟩
      obtain ⟨y, g3⟩ : ∃ y, a2 3 = y := ⟨_, rfl⟩
      rw [g3] at o3
      rcases Nat.lt_or_ge j s.counts.length with hlt | hge
      · obtain ⟨w, hw⟩ := get_some hlt
        obtain ⟨hn1, hn2, hn3⟩ := sc2 w (List.mem_of_getElem? hw)
        have hsz := lineC_size (w := w) ⟨hn1, hn2, hn3⟩
        obtain ⟨p, p1, p2⟩ := hc.at hw
        have p3 := p2 B (k0.trans hle)
        have htk : s.counts.take (j + 1) = s.counts.take j ++ [w] := by rw [List.take_add_one, hw]; rfl
        have k1 : Le B ((B ++ [Blk.row [.string ⟨#[]⟩, .int .i64 0] .own 0 true]).set B.length (Blk.row [.string w.name, ii w.n] .own 0 true)) := by (repeat first | exact Le.refl _ | assumption | refine Le.app ?_ _ | refine Le.set ?_ ?_ | omega | (simp only [List.length_append, List.length_singleton, List.length_set]; omega))
        simp (maxSteps := 1000000) (disch := omega) only [stepS, reduceIte, Nat.reduceBEq, Nat.reduceEqDiff, tupleOf, stepT, stepX, heapR, lensR, Nat.reduceAdd, Nat.reduceLeDiff, g1, g3, g7, g8, g9, p1, p3]
        refine itoa_spec (n := w.n) (hg.trans ((k0.trans hle).trans k1)) hn2 (by omega) ?_
        generalize hD : (B ++ [Blk.row [.string ⟨#[]⟩, .int .i64 0] .own 0 true]).set B.length (Blk.row [.string w.name, ii w.n] .own 0 true) = D at *
        have kAD := hle.trans k1
        have oD := OwnT.le o3 k1
        have l3 := lit1 (A := D) (z := .string ⟨#[]⟩) (len := 3) (ps := [(0, 1, .string ⟨#[99, 111, 117, 110, 116]⟩), (1, 1, .string w.name), (2, 1, .string (numT w.n))]) [.string countT, .string w.name, .string (numT w.n)] rfl rfl (fun x hx => by
          simp only [List.mem_cons, List.not_mem_nil, or_false] at hx
          rcases hx with rfl | rfl | rfl <;> exact one1_str _)
        have k3 : Le D (D ++ [.row [.string countT, .string w.name, .string (numT w.n)] .own 1 true]) := .push _ _
        have s3 : SlT (D ++ [.row [.string countT, .string w.name, .string (numT w.n)] .own 1 true]) (.slice (some ⟨D.length, 0, none⟩) 3 3) [countT, w.name, numT w.n] := sl_last D (by decide) (Nat.le_refl _)
        obtain ⟨l1, x, F, q1, q2, q3, q4, q5⟩ := OwnT.push (lineC w) (kAD.trans k3) (OwnT.le oD k3) (by rw [List.length_map, List.length_take]; omega)
        have hlE : (D ++ [Blk.row [.string countT, .string w.name, .string (numT w.n)] .own 1 true]).length = D.length + 1 := by simp
        rw [hlE] at l1 q1
        simp (maxSteps := 1000000) (disch := omega) only [stepS, reduceIte, Nat.reduceBEq, Nat.reduceEqDiff, tupleOf, stepT, stepX, heapR, lensR, Nat.reduceAdd, Nat.reduceLeDiff, g1, g3, g7, g8, g9, l3]
        refine tell_line_spec s3 (by simp) (by show (lineC w).size ≤ _; omega) ?_
        have e1 : lineT [countT, w.name, numT w.n] = lineC w := rfl
        rw [e1]
        simp (maxSteps := 1000000) (disch := omega) only [stepS, reduceIte, Nat.reduceBEq, Nat.reduceEqDiff, tupleOf, stepT, stepX, heapR, lensR, Nat.reduceAdd, Nat.reduceLeDiff, g1, g3, g7, g8, g9, l1, q1]
        refine ⟨⟨j + 1, by omega, q2, rfl, ?_⟩, by omega⟩
        rw [htk, List.map_append]
        exact q3
      · rw [List.take_of_length_le (by omega)] at o3
        simp (maxSteps := 1000000) (disch := omega) only [stepS, reduceIte, Nat.reduceBEq, Nat.reduceEqDiff, tupleOf, stepT, g1, g3, g7, g8, g9]
        exact ⟨_, hle, rfl, o3⟩
  clear g1 g3 hcl
  rintro a B ⟨u, hle, g1, g3, o3⟩
  have r2 := hle.row r1
  have lc : (s.counts.map lineC).length ≤ 30 := by rw [List.length_map]; exact sc
  have lm : (s.members.map (lineW memberT)).length ≤ 30 := by rw [List.length_map]; exact sm
  have lv : (s.values.map (lineW valueT)).length ≤ 30 := by rw [List.length_map]; exact sv
  have ll : (s.lines.map (lineW linesT)).length ≤ 30 := by rw [List.length_map]; exact sl
  refine W_mid (fun a B => ∃ u, Le B0 B ∧ a 1 = ptr A.length ∧ a 3 = u ∧ OwnT B0.length B u (s.counts.map lineC ++ s.members.map (lineW memberT))) ?_ ?_
  · simp (maxSteps := 1000000) (disch := omega) only [stepS, reduceIte, Nat.reduceBEq, Nat.reduceEqDiff, tupleOf, stepT, stepX, heapR, lensR, Nat.reduceAdd, Nat.reduceLeDiff, g1, g3, r2]
    refine tell_words_spec (what := memberT) (hm.le (k0.trans hle)) sm2 (by omega) (by decide) fun C t kC oC => ?_
    obtain ⟨x, D, q1, q2, q3, _⟩ := OwnT.app (hle.trans kC) (OwnT.le o3 kC) (OwnT.sl oC) (by omega)
    simp (maxSteps := 1000000) (disch := omega) only [stepS, reduceIte, Nat.reduceBEq, Nat.reduceEqDiff, tupleOf, stepT, stepX, heapR, lensR, Nat.reduceAdd, Nat.reduceLeDiff, g1, g3, q1]
    exact ⟨_, q2, rfl, q3⟩
  clear g1 g3 o3 r2 hle
  rintro a B ⟨u, hle, g1, g3, o3⟩
  have r2 := hle.row r1
  refine W_mid (fun a B => ∃ u, Le B0 B ∧ a 1 = ptr A.length ∧ a 3 = u ∧ OwnT B0.length B u (s.counts.map lineC ++ s.members.map (lineW memberT) ++ s.values.map (lineW valueT))) ?_ ?_
  · simp (maxSteps := 1000000) (disch := omega) only [stepS, reduceIte, Nat.reduceBEq, Nat.reduceEqDiff, tupleOf, stepT, stepX, heapR, lensR, Nat.reduceAdd, Nat.reduceLeDiff, g1, g3, r2]
    refine tell_words_spec (what := valueT) (hv.le (k0.trans hle)) sv2 (by omega) (by decide) fun C t kC oC => ?_
    obtain ⟨x, D, q1, q2, q3, _⟩ := OwnT.app (hle.trans kC) (OwnT.le o3 kC) (OwnT.sl oC) (by rw [List.length_append]; omega)
    simp (maxSteps := 1000000) (disch := omega) only [stepS, reduceIte, Nat.reduceBEq, Nat.reduceEqDiff, tupleOf, stepT, stepX, heapR, lensR, Nat.reduceAdd, Nat.reduceLeDiff, g1, g3, q1]
    exact ⟨_, q2, rfl, q3⟩
  clear g1 g3 o3 r2 hle
  rintro a B ⟨u, hle, g1, g3, o3⟩
  have r2 := hle.row r1
  simp (maxSteps := 1000000) (disch := omega) only [stepS, reduceIte, Nat.reduceBEq, Nat.reduceEqDiff, tupleOf, stepT, stepX, heapR, lensR, Nat.reduceAdd, Nat.reduceLeDiff, g1, g3, r2]
  refine tell_words_spec (what := linesT) (hl.le (k0.trans hle)) sl2 (by omega) (by decide) fun C t kC oC => ?_
  obtain ⟨x, D, q1, q2, q3, _⟩ := OwnT.app (hle.trans kC) (OwnT.le o3 kC) (OwnT.sl oC) (by rw [List.length_append, List.length_append]; omega)
  simp (maxSteps := 1000000) (disch := omega) only [stepS, reduceIte, Nat.reduceBEq, Nat.reduceEqDiff, tupleOf, stepT, stepX, heapR, lensR, Nat.reduceAdd, Nat.reduceLeDiff, g1, g3, q1]
  exact hq _ _ (k0.trans q2) (OwnT.mono q3 k0.len)
end Go.AS.C


namespace Go.AS.C
open Go Go.Proofs
set_option linter.unusedVariables false
set_option linter.unusedSimpArgs false
set_option maxRecDepth 10000

def SmallS0 (s : StateV) : Prop := (s.counts.length ≤ 30 ∧ ∀ w ∈ s.counts, w.name.size ≤ 100) ∧ (s.members.length ≤ 30 ∧ ∀ w ∈ s.members, SmallW w) ∧ (s.values.length ≤ 30 ∧ ∀ w ∈ s.values, SmallW w) ∧ (s.lines.length ≤ 30 ∧ ∀ w ∈ s.lines, SmallW w)
def LargeA (s : StateV) (v : Value) : Prop := ∃ b, v = .bool b ∧ (b = false → SmallS0 s)
theorem large_spec {A : AH} {x : Value} {s : StateV} {Q : Value → AH → Prop} (hx : StateA A x s) (hq : ∀ b : Bool, (b = false → SmallS0 s) → Q (.bool b) A) : ACalls 3 Tryd.prog chantrylaw40_large [x] Q A := by
  refine ACalls.pure (S := LargeA s) (fun v ⟨b, e, h⟩ => by rw [e]; exact hq b h) ?_
  have big : LargeA s (.bool true) := ⟨true, rfl, fun h => by cases h⟩
  obtain ⟨c, m, v, l, rfl, hc, hm, hv, hl⟩ := hx
  refine ACalls.of_fits mixed fits_chantrylaw40_large rfl ?_
  unfold ic_chantrylaw40_large
  have i0 : initA [.agg #[c, m, v, l]] 0 = .agg #[c, m, v, l] := rfl
  generalize initA [.agg #[c, m, v, l]] = a at i0
  have oc := (Sl.one1 hc).2
  have om := (Sl.one1 hm).2
  have ov := (Sl.one1 hv).2
  have ol := (Sl.one1 hl).2
  refine W_mid (fun a B => B = A ++ [.row [c, m, v, l] .own 0 true] ∧ a 1 = ptr A.length) ?_ ?_
  · simp (maxSteps := 1000000) (disch := omega) only [stepS, reduceIte, Nat.reduceBEq, Nat.reduceEqDiff, tupleOf, stepT, stepX, heapR, lensR, Nat.reduceAdd, Nat.reduceLeDiff, i0, oc, om, ov, ol]
  rintro a B0 ⟨hB, g1⟩
  have k0 : Le A B0 := by rw [hB]; exact .push _ _
  have r1 : rowAt B0 A.length = some ([c, m, v, l], .own, 0, true) := by rw [hB]; exact rowAt_own (get_last _ _)
  clear i0 hB
  have lc := hc.len
  have lm := hm.len
  have lv := hv.len
  have ll := hl.len
  refine W_midR (fun a B => (s.counts.length ≤ 30 ∧ s.members.length ≤ 30 ∧ s.values.length ≤ 30 ∧ s.lines.length ≤ 30) ∧ B = B0 ∧ a 1 = ptr A.length) ?_ ?_
  · by_cases h1 : s.counts.length ≤ 30
    · by_cases h2 : s.members.length ≤ 30
      · by_cases h3 : s.values.length ≤ 30
        · by_cases h4 : s.lines.length ≤ 30
          · simp (maxSteps := 1000000) (disch := omega) only [stepS, reduceIte, Nat.reduceBEq, Nat.reduceEqDiff, tupleOf, stepT, stepX, heapR, lensR, Nat.reduceAdd, Nat.reduceLeDiff, g1, r1, lc, lm, lv, ll, reduceCtorEq, false_and, or_false, true_and]
            all_goals exact ⟨h1, h2, h3, h4⟩
          · simp (maxSteps := 1000000) (disch := omega) only [stepS, reduceIte, Nat.reduceBEq, Nat.reduceEqDiff, tupleOf, stepT, stepX, heapR, lensR, Nat.reduceAdd, Nat.reduceLeDiff, g1, r1, lc, lm, lv, ll, reduceCtorEq, false_and, false_or, true_and]
            exact ⟨k0, rfl, big⟩
        · simp (maxSteps := 1000000) (disch := omega) only [stepS, reduceIte, Nat.reduceBEq, Nat.reduceEqDiff, tupleOf, stepT, stepX, heapR, lensR, Nat.reduceAdd, Nat.reduceLeDiff, g1, r1, lc, lm, lv, ll, reduceCtorEq, false_and, false_or, true_and]
          exact ⟨k0, rfl, big⟩
      · simp (maxSteps := 1000000) (disch := omega) only [stepS, reduceIte, Nat.reduceBEq, Nat.reduceEqDiff, tupleOf, stepT, stepX, heapR, lensR, Nat.reduceAdd, Nat.reduceLeDiff, g1, r1, lc, lm, lv, ll, reduceCtorEq, false_and, false_or, true_and]
        exact ⟨k0, rfl, big⟩
    · simp (maxSteps := 1000000) (disch := omega) only [stepS, reduceIte, Nat.reduceBEq, Nat.reduceEqDiff, tupleOf, stepT, stepX, heapR, lensR, Nat.reduceAdd, Nat.reduceLeDiff, g1, r1, lc, lm, lv, ll, reduceCtorEq, false_and, false_or, true_and]
      exact ⟨k0, rfl, big⟩
  rintro a B1 ⟨⟨b1, b2, b3, b4⟩, hB, g1⟩
  obtain rfl : B0 = B1 := hB.symm
  clear hB
  refine W_midR (fun a B => (∀ w ∈ s.counts, w.name.size ≤ 100) ∧ B = B0 ∧ a 1 = ptr A.length) ?_ ?_
  · simp (maxSteps := 1000000) (disch := omega) only [stepS, reduceIte, Nat.reduceBEq, Nat.reduceEqDiff, tupleOf, stepT, g1]
    refine W_loop (fun a' D => ∃ j : Nat, j ≤ s.counts.length ∧ D = B0 ∧ a' 1 = ptr A.length ∧ a' 3 = ii j ∧ ∀ w ∈ s.counts.take j, w.name.size ≤ 100) (fun a' _ => s.counts.length - (iv (a' 3)).toNat) ?_ ?_
    · refine ⟨0, Nat.zero_le _, rfl, ?_⟩
      simp (maxSteps := 1000000) (disch := omega) only [stepS, reduceIte, Nat.reduceBEq, Nat.reduceEqDiff, tupleOf, stepT, g1]
      simp
    · rintro a2 D ⟨j, hj, hD, g1, g3, hs⟩
      obtain rfl : B0 = D := hD.symm
      clear hD
      rcases Nat.lt_or_ge j s.counts.length with hlt | hge
      · obtain ⟨w, hw⟩ := get_some hlt
        obtain ⟨p, q, p1, p2, p3⟩ := hc.fld hw (o := 0) (x := .string w.name) rfl
        have p4 := p3 B0 k0
        have htk : s.counts.take (j + 1) = s.counts.take j ++ [w] := by rw [List.take_add_one, hw]; rfl
        by_cases h5 : w.name.size ≤ 100
        · simp (maxSteps := 1000000) (disch := omega) only [stepS, reduceIte, Nat.reduceBEq, Nat.reduceEqDiff, tupleOf, stepT, stepX, heapR, lensR, Nat.reduceAdd, Nat.reduceLeDiff, g1, g3, lc, r1, p1, p2, p4]
          refine ⟨⟨j + 1, by omega, rfl, fun x hx => ?_⟩, by omega⟩
          rw [htk, List.mem_append, List.mem_singleton] at hx
          rcases hx with hx | rfl
          · exact hs x hx
          · exact h5
        · simp (maxSteps := 1000000) (disch := omega) only [stepS, reduceIte, Nat.reduceBEq, Nat.reduceEqDiff, tupleOf, stepT, stepX, heapR, lensR, Nat.reduceAdd, Nat.reduceLeDiff, g1, g3, lc, r1, p1, p2, p4]
          exact .inr ⟨k0, rfl, big⟩
      · simp (maxSteps := 1000000) (disch := omega) only [stepS, reduceIte, Nat.reduceBEq, Nat.reduceEqDiff, tupleOf, stepT, stepX, heapR, lensR, Nat.reduceAdd, Nat.reduceLeDiff, g1, g3, lc, r1]
        rw [List.take_of_length_le hge] at hs
        exact .inl hs
  rintro a B1 ⟨b5, hB, g1⟩
  obtain rfl : B0 = B1 := hB.symm
  clear hB
  have l0 : sLit B0 [.string ⟨#[]⟩, .string ⟨#[]⟩] 2 0 [] = some (.slice (some ⟨B0.length, 0, none⟩) 0 0, B0 ++ [.row [] .own 2 true]) := rfl
  have k1 : Le B0 (B0 ++ [.row [] .own 2 true]) := .push _ _
  have w0 : OwnE B0.length (B0 ++ [.row [] .own 2 true]) 2 (.slice (some ⟨B0.length, 0, none⟩) 0 0) [] :=
    ⟨fun e he => (by cases he), rfl, .inr (.inr ⟨B0.length, 0, 0, [], true, rfl, Nat.le_refl _, Nat.le_refl _, by simp, by simp, fun j hj => by simp at hj⟩)⟩
  obtain ⟨x1, D1, q1, j1, w1, e1⟩ := OwnE.app (bytes := 32) k1 w0 (hm.le (k0.trans k1)) (wordE_ok _) (by decide) (by rw [List.length_map]; simp; omega) (by decide)
  obtain ⟨x2, D2, q2, j2, w2, e2⟩ := OwnE.app (bytes := 32) j1 w1 (hv.le (k0.trans j1)) (wordE_ok _) (by decide) (by simp; omega) (by decide)
  obtain ⟨x3, D3, q3, j3, w3, e3⟩ := OwnE.app (bytes := 32) j2 w2 (hl.le (k0.trans j2)) (wordE_ok _) (by decide) (by simp; omega) (by decide)
  have hA := lt_of_get (rowAt_get r1)
  have low : ∀ {D : AH} {x : Value} {n : Nat} {cs : List Value}, OwnS B0.length D 2 x n cs → ∀ k ∈ [A.length, A.length, A.length], k ∉ blkOf x := fun h k hk hm => by
    have h1 := (OwnS.ge h k hm).1
    simp only [List.mem_cons, List.not_mem_nil, or_false, or_self] at hk
    omega
  have rd1 := e1.rd (low w0.2)
  have rd2 := e2.rd (low w1.2)
  refine W_mid (fun a B => B = D3 ∧ a 4 = x3) ?_ ?_
  · simp (maxSteps := 1000000) (disch := omega) only [stepS, reduceIte, Nat.reduceBEq, Nat.reduceEqDiff, tupleOf, stepT, stepX, heapR, lensR, Nat.reduceAdd, Nat.reduceLeDiff, g1, r1, l0, q1, q2, q3]
    exact ⟨rd1, rd2⟩
  rintro a B ⟨hB, g4⟩
  subst hB
  have hWL : WordsA B x3 (s.members ++ s.values ++ s.lines) := by
    unfold WordsA
    rw [List.map_append, List.map_append]
    exact w3.2.sl
  have lw := hWL.len
  have kB := k0.trans j3
  refine W_midR (fun a B' => B' = B ∧ (∀ w ∈ s.members ++ s.values ++ s.lines, SmallW w)) ?_ ?_
  · simp (maxSteps := 1000000) (disch := omega) only [stepS, reduceIte, Nat.reduceBEq, Nat.reduceEqDiff, tupleOf, stepT, g4]
    generalize hW : s.members ++ s.values ++ s.lines = ws at *
    have hwl : ws.length ≤ 90 := by rw [← hW]; simp; omega
    refine W_loop (fun a' D => ∃ j : Nat, j ≤ ws.length ∧ D = B ∧ a' 4 = x3 ∧ a' 5 = ii j ∧ ∀ w ∈ ws.take j, SmallW w) (fun a' _ => ws.length - (iv (a' 5)).toNat) ?_ ?_
    · refine ⟨0, Nat.zero_le _, rfl, ?_⟩
      simp (maxSteps := 1000000) (disch := omega) only [stepS, reduceIte, Nat.reduceBEq, Nat.reduceEqDiff, tupleOf, stepT, g4]
      simp
    · rintro a2 D ⟨j, hj, hD, g4, g5, hs⟩
      subst hD
      rcases Nat.lt_or_ge j ws.length with hlt | hge
      · obtain ⟨w, hw⟩ := get_some hlt
        obtain ⟨p, q, p1, p2, p3⟩ := hWL.fld hw (o := 0) (x := .string w.name) rfl
        obtain ⟨p', q', u1, u2, u3⟩ := hWL.fld hw (o := 1) (x := .string w.text) rfl
        have e : p' = p := by
          have h1 := p1 D j rfl
          rw [u1 D j rfl] at h1
          injection h1 with h1
          injection h1 with h1 _
        subst e
        have p4 := p3 D (.refl _)
        have u4 := u3 D (.refl _)
        have htk : ws.take (j + 1) = ws.take j ++ [w] := by rw [List.take_add_one, hw]; rfl
        by_cases h5 : w.name.size ≤ 100
        · by_cases h6 : w.text.size ≤ 200
          · simp (maxSteps := 1000000) (disch := omega) only [stepS, reduceIte, Nat.reduceBEq, Nat.reduceEqDiff, tupleOf, stepT, stepX, heapR, lensR, Nat.reduceAdd, Nat.reduceLeDiff, g4, g5, lw, p1, p2, p4, u2, u4]
            refine ⟨⟨j + 1, by omega, rfl, fun x hx => ?_⟩, by omega⟩
            rw [htk, List.mem_append, List.mem_singleton] at hx
            rcases hx with hx | rfl
            · exact hs x hx
            · exact ⟨h5, h6⟩
          · simp (maxSteps := 1000000) (disch := omega) only [stepS, reduceIte, Nat.reduceBEq, Nat.reduceEqDiff, tupleOf, stepT, stepX, heapR, lensR, Nat.reduceAdd, Nat.reduceLeDiff, g4, g5, lw, p1, p2, p4, u2, u4]
            exact .inr ⟨kB, rfl, big⟩
        · simp (maxSteps := 1000000) (disch := omega) only [stepS, reduceIte, Nat.reduceBEq, Nat.reduceEqDiff, tupleOf, stepT, stepX, heapR, lensR, Nat.reduceAdd, Nat.reduceLeDiff, g4, g5, lw, p1, p2, p4]
          exact .inr ⟨kB, rfl, big⟩
      · simp (maxSteps := 1000000) (disch := omega) only [stepS, reduceIte, Nat.reduceBEq, Nat.reduceEqDiff, tupleOf, stepT, stepX, heapR, lensR, Nat.reduceAdd, Nat.reduceLeDiff, g4, g5, lw]
        rw [List.take_of_length_le hge] at hs
        exact .inl hs
  rintro a B' ⟨hB, hall⟩
  subst hB
  simp (maxSteps := 1000000) (disch := omega) only [stepS, reduceIte, Nat.reduceBEq, Nat.reduceEqDiff, tupleOf, stepT]
  exact ⟨kB, rfl, false, rfl, fun _ => ⟨⟨b1, b5⟩, ⟨b2, fun w hw => hall w (by simp [hw])⟩, ⟨b3, fun w hw => hall w (by simp [hw])⟩, b4, fun w hw => hall w (by simp [hw])⟩⟩
end Go.AS.C


namespace Go.AS.C
open Go Go.Proofs
set_option linter.unusedVariables false
set_option linter.unusedSimpArgs false
set_option maxRecDepth 10000

theorem ref01_Texts_spec {A : AH} {v w : Value} {l m : List ByteArray} {Q : Value → AH → Prop} (hv : SlT A v l) (hw : SlT A w m) (hl : l.length < 2 ^ 50) (hm : m.length < 2 ^ 50) (hq : ∀ b : Bool, (b = true ↔ l = m) → Q (.bool b) A) : ACalls 3 Tryd.prog chantryref01_Texts [v, w] Q A := by
  refine ACalls.of_fits mixed fits_chantryref01_Texts rfl ?_
  unfold ic_chantryref01_Texts
  have i0 : initA [v, w] 0 = v := rfl
  have i1 : initA [v, w] 1 = w := rfl
  generalize initA [v, w] = a at i0 i1
  have hvl := hv.len
  have hwl := hw.len
  by_cases hn : l.length = m.length
  · simp (maxSteps := 1000000) (disch := omega) only [stepS, reduceIte, Nat.reduceBEq, Nat.reduceEqDiff, tupleOf, stepT, i0, i1, hvl, hwl]
    refine W_loop (fun a' B => B = A ∧ ∃ k : Nat, k ≤ l.length ∧ l.take k = m.take k ∧ a' 0 = v ∧ a' 1 = w ∧ a' 5 = ii k) (fun a' _ => l.length - (iv (a' 5)).toNat) ?_ ?_
    · refine ⟨rfl, 0, by omega, rfl, ?_⟩
      simp (maxSteps := 1000000) (disch := omega) only [stepS, reduceIte, Nat.reduceBEq, Nat.reduceEqDiff, tupleOf, stepT, i0, i1]
      (all_goals (and_intros <;> first | rfl | assumption | (push_cast; rfl) | (congr 1; omega) | omega | (simp; done)))
    · rintro a2 B ⟨rfl, k, hk, hn2, g0, g1, g5⟩
      rcases Nat.lt_or_ge k l.length with hlt | hge
      · obtain ⟨s, hs⟩ := get_some hlt
        obtain ⟨t, ht⟩ := get_some (l := m) (k := k) (by omega)
        obtain ⟨p, p1, p2⟩ := hv.at hs
        have p3 := p2 B (.refl _)
        obtain ⟨q, q1, q2⟩ := hw.at ht
        have q3 := q2 B (.refl _)
        by_cases hst : s = t
        · have hd : decide (s ≠ t) = false := decide_eq_false (fun h => h hst)
          simp (maxSteps := 1000000) (disch := omega) only [stepS, reduceIte, Nat.reduceBEq, Nat.reduceEqDiff, tupleOf, stepT, g0, g1, g5, hvl, hwl, p1, p3, q1, q3, hd]
          refine ⟨⟨k + 1, by omega, ?_, rfl⟩, by omega⟩
          rw [List.take_add_one, List.take_add_one, hs, ht, hn2, hst]
        · have hd : decide (s ≠ t) = true := decide_eq_true hst
          simp (maxSteps := 1000000) (disch := omega) only [stepS, reduceIte, Nat.reduceBEq, Nat.reduceEqDiff, tupleOf, stepT, g0, g1, g5, hvl, hwl, p1, p3, q1, q3, hd]
          exact hq false ⟨(fun h => by cases h), fun h => by subst h; rw [hs] at ht; injection ht with ht; exact absurd ht hst⟩
      · rw [List.take_of_length_le hge, List.take_of_length_le (by omega)] at hn2
        simp (maxSteps := 1000000) (disch := omega) only [stepS, reduceIte, Nat.reduceBEq, Nat.reduceEqDiff, tupleOf, stepT, g0, g1, g5, hvl]
        exact hq true ⟨fun _ => hn2, fun _ => rfl⟩
  · simp (maxSteps := 1000000) (disch := omega) only [stepS, reduceIte, Nat.reduceBEq, Nat.reduceEqDiff, tupleOf, stepT, i0, i1, hvl, hwl]
    exact hq false ⟨(fun h => by cases h), fun h => absurd (by rw [h]) hn⟩
end Go.AS.C
