/- Lemmas for the proof of a given statement; no conditions. -/
import Derived.Test.YtpaegpjgegcdeaaM3
import Derived.Sort.Grow
import Derived.Sort.EncStr
import Derived.Lib.Join
import Derived.Below
import Derived.Sort.KeysCollected
import Derived.Maps.Own
import Derived.CallsIn
import Derived.Test.YtpaegpjgegcdeaaRows
import Derived.Shelf.SlIter.Nil
import Derived.Shelf.SortM.Plain
import Derived.Shelf.SortM.SortNone
import Derived.Shelf.Strings.FuncGrows
import Derived.Shelf.Small.Bits
import Derived.Shelf.Strconv.Itoa0
import Derived.Shelf.Sort.Plain
import Derived.Shelf.GgClosure.StringsIndexFunc
import Derived.Shelf.GgClosure.StringsIndexFuncTop
import Derived.Shelf.Slices.In.SortNone
set_option maxHeartbeats 1000000

namespace Go.AS
open Go
set_option linter.unusedVariables false
set_option linter.unusedSimpArgs false

/-! Slices of elements of some cells each, of the call's own: read, written, swapped. -/

/-- All but the row at which v leads is as it was. -/
def KeepV (A : AH) (v : Value) (A' : AH) : Prop := A.length ≤ A'.length ∧ ∀ k b, A[k]? = some b → k ∉ blkOf v → A'[k]? = some b
def OwnE (a0 : Nat) (A : AH) (sz : Nat) (v : Value) (es : List (List Value)) : Prop := (∀ e ∈ es, e.length = sz ∧ ones e = true) ∧ OwnS a0 A sz v es.length es.flatten

section
variable {A B C A0 : AH} {v w : Value} {sz n a0 : Nat} {cs : List Value} {es fs : List (List Value)}
theorem KeepV.refl (A : AH) (v : Value) : KeepV A v A := ⟨Nat.le_refl _, fun _ _ h _ => h⟩
theorem KeepV.trans (h : KeepV A v B) (k : KeepV B v C) : KeepV A v C := ⟨Nat.le_trans h.1 k.1, fun j b hb hj => k.2 j b (h.2 j b hb hj) hj⟩
theorem KeepV.le (h : KeepV A v B) (hl : Le A0 A) (hi : ∀ k ∈ blkOf v, A0.length ≤ k) : Le A0 B := by
  refine Le.of_get (fun k hk => ?_) (Nat.le_trans hl.len h.1)
  have hb : A0[k]? = some A0[k] := List.getElem?_eq_getElem hk
  rw [hb, h.2 k _ (hl.get hb) (fun hm => by have := hi k hm; omega)]
theorem iaddr_any {x i p : Value} {A' : AH} (h : sIaddr A x i sz = some (p, A')) (B : AH) : sIaddr B x i sz = some (p, B) := by
  unfold sIaddr at h ⊢
  split at h
  · rw [Option.bind_eq_some_iff] at h
    obtain ⟨j, h1, h⟩ := h
    split at h
    · rename_i hc
      injection h with h; injection h with h2 h3; subst h2
      simp only [h1, Option.bind_some]
      rw [if_pos hc]
    · cases h
  · cases h
theorem ones_flatten (h : ∀ e ∈ es, e.length = sz ∧ ones e = true) : ones es.flatten = true := by
  unfold ones
  rw [List.all_eq_true]
  intro x hx
  obtain ⟨e, he, hx⟩ := List.mem_flatten.1 hx
  have := (h e he).2
  unfold ones at this
  rw [List.all_eq_true] at this
  exact this x hx
theorem flat_len' (h : ∀ e ∈ es, e.length = sz ∧ ones e = true) : es.flatten.length = es.length * sz := flat_len es sz (fun j c hc => (h c (List.mem_of_getElem? hc)).1)
theorem flat_cut (h : ∀ e ∈ es, e.length = sz ∧ ones e = true) {j : Nat} {e : List Value} (hj : es[j]? = some e) : (es.flatten.drop (j * sz)).take sz = e := by
  have h1 := flat_part es j e hj
  have h2 := flat_len_take es sz (fun j c hc => (h c (List.mem_of_getElem? hc)).1) j (Nat.le_of_lt (lt_of_get hj))
  rw [h2, (h e (List.mem_of_getElem? hj)).1] at h1
  exact h1
theorem flat_at (h : ∀ e ∈ es, e.length = sz ∧ ones e = true) {j o : Nat} {e : List Value} (hj : es[j]? = some e) (ho : o < sz) : es.flatten[j * sz + o]? = e[o]? := by
  have := flat_cut h hj
  rw [← this, List.getElem?_take_of_lt ho, List.getElem?_drop]
/-- An element is read. -/
theorem Sl.el (h : Sl A sz v es.length es.flatten) (he : ∀ e ∈ es, e.length = sz ∧ ones e = true) {j : Nat} {e : List Value} (hj : es[j]? = some e) :
    ∃ p, blkOf p = blkOf v ∧ (∀ (B : AH) (n : Int), n = (j : Int) → sIaddr B v (.int .i64 n) sz = some (p, B)) ∧ sLoadn A p sz = some (.agg e.toArray, A) ∧ ∀ B, (∀ k b, A[k]? = some b → k ∈ blkOf v → B[k]? = some b) → sLoadn B p sz = some (.agg e.toArray, B) := by
  obtain ⟨p, p1, p2⟩ := h.atn (lt_of_get hj)
  rw [flat_cut he hj] at p2
  refine ⟨p, iaddr_blk p1, ?_, p2, fun B hB => ?_⟩
  · rintro B n rfl; exact iaddr_any p1 B
  · have hb := iaddr_blk p1
    unfold sLoadn at p2 ⊢
    split at p2
    · rename_i i o
      rw [Option.bind_eq_some_iff] at p2
      obtain ⟨r, q1, q2⟩ := p2
      rw [Option.map_eq_some_iff] at q2
      obtain ⟨l, q2, q3⟩ := q2
      injection q3 with q3 q4
      obtain ⟨r1, r2, r3, r4⟩ := r
      obtain ⟨g1, g2⟩ := getRow_some q1
      have g3 := hB i _ g1 (by rw [← hb]; simp [blkOf])
      have : getRow B i = some (r1, r2, r3, r4) := by unfold getRow; simp only [g3, if_neg g2]
      simp only [this, Option.bind_some, q2, Option.map_some, q3]
    · cases p2
theorem OwnE.el (h : OwnE a0 A sz v es) {j : Nat} {e : List Value} (hj : es[j]? = some e) :
    ∃ p, blkOf p = blkOf v ∧ (∀ (B : AH) (n : Int), n = (j : Int) → sIaddr B v (.int .i64 n) sz = some (p, B)) ∧ sLoadn A p sz = some (.agg e.toArray, A) ∧ ∀ B, (∀ k b, A[k]? = some b → k ∈ blkOf v → B[k]? = some b) → sLoadn B p sz = some (.agg e.toArray, B) := Sl.el h.2.sl h.1 hj
/-- An element is written. -/
theorem OwnE.put (h : OwnE a0 A sz v es) {j : Nat} {e : List Value} (hj : j < es.length) (h1 : e.length = sz) (h2 : ones e = true) {p : Value} (hp : sIaddr A v (.int .i64 (j : Int)) sz = some (p, A)) :
    ∃ A', sStore A p (.agg e.toArray) sz = some (undef, A') ∧ OwnE a0 A' sz v (es.set j e) ∧ KeepV A v A' := by
  obtain ⟨he, hs⟩ := h
  have hfl := flat_len' he
  have hm : j * sz + sz ≤ es.length * sz := by
    have := Nat.mul_le_mul_right sz (show j + 1 ≤ es.length by omega)
    rw [Nat.add_mul, Nat.one_mul] at this
    exact this
  obtain ⟨h0, hs⟩ := hs
  rcases hs with ⟨rfl, hz⟩ | ⟨rfl, hz⟩ | ⟨i, o, c, rc, ex, rfl, k2, k3, k4, k5, k6⟩
  · omega
  · omega
  · have e1 : sIaddr A (.slice (some ⟨i, o, none⟩) es.length c) (.int .i64 (j : Int)) sz = some (.pointer (some ⟨i, o + j * sz, none⟩), A) := by
      unfold sIaddr
      simp only [asI, Option.bind_some]
      rw [if_pos ⟨by omega, by omega⟩]
      simp
    rw [e1] at hp
    injection hp with hp; injection hp with hp _; subst hp
    have ec : (Value.agg e.toArray).cells = e.toArray := rfl
    refine ⟨A.set i (.row (setAll rc (o + j * sz) e) .own sz ex), ?_, ⟨?_, ?_⟩, ?_⟩
    · unfold sStore
      rw [ec]
      simp only [List.size_toArray]
      rw [if_pos h1]
      unfold wr
      simp only [k4]
      rw [if_pos ⟨by omega, h2⟩]
      rfl
    · intro x hx
      rcases List.mem_or_eq_of_mem_set hx with hx | rfl
      · exact he x hx
      · exact ⟨h1, h2⟩
    · have he' : ∀ x ∈ es.set j e, x.length = sz ∧ ones x = true := by
        intro x hx
        rcases List.mem_or_eq_of_mem_set hx with hx | rfl
        · exact he x hx
        · exact ⟨h1, h2⟩
      have hl2 : (es.set j e).length = es.length := List.length_set ..
      refine ⟨by rw [flat_len' he'], .inr (.inr ⟨i, o, c, setAll rc (o + j * sz) e, ex, by rw [hl2], by rw [hl2]; exact k2, k3, by rw [List.getElem?_set_self (lt_of_get k4)], ?_, ?_⟩)⟩
      · rw [setAll_length _ _ _ (by omega), hl2]; exact k5
      · intro m hm2
        rw [hl2] at hm2
        have hsz : 0 < sz := by
          rcases Nat.eq_zero_or_pos sz with h | h
          · subst h; omega
          · exact h
        rw [setAll_get _ _ _ (by omega)]
        obtain ⟨q, r, rfl, hr⟩ : ∃ q r, m = q * sz + r ∧ r < sz := ⟨m / sz, m % sz, by rw [Nat.mul_comm]; exact (Nat.div_add_mod m sz).symm, Nat.mod_lt _ hsz⟩
        have hq : q < es.length := by
          rcases Nat.lt_or_ge q es.length with h | h
          · exact h
          · have := Nat.mul_le_mul_right sz h; omega
        by_cases hqj : q = j
        · subst hqj
          rw [if_pos ⟨by omega, by omega⟩, flat_at he' (j := q) (o := r) (e := e) (List.getElem?_set_self hq) hr]
          congr 1; omega
        · obtain ⟨x, hx⟩ : ∃ x, es[q]? = some x := ⟨_, List.getElem?_eq_getElem hq⟩
          have hne : ¬ (o + j * sz ≤ o + (q * sz + r) ∧ o + (q * sz + r) < o + j * sz + e.length) := by
            rintro ⟨u1, u2⟩
            rcases Nat.lt_or_gt_of_ne hqj with hlt | hgt
            · have := Nat.mul_le_mul_right sz (show q + 1 ≤ j by omega)
              rw [Nat.add_mul, Nat.one_mul] at this; omega
            · have := Nat.mul_le_mul_right sz (show j + 1 ≤ q by omega)
              rw [Nat.add_mul, Nat.one_mul] at this; omega
          rw [if_neg hne, k6 _ hm2, flat_at he hx hr, flat_at he' (e := x) (by rw [List.getElem?_set_ne (by omega)]; exact hx) hr]
    · refine ⟨by rw [List.length_set]; exact Nat.le_refl _, fun k b hb hk => ?_⟩
      rw [List.getElem?_set_ne (fun h => hk (by subst h; simp [blkOf]))]
      exact hb
theorem OwnE.le (h : OwnE a0 A sz v es) (hl : Le A B) : OwnE a0 B sz v es := ⟨h.1, h.2.le hl⟩
theorem OwnE.ge (h : OwnE a0 A sz v es) : ∀ k ∈ blkOf v, a0 ≤ k ∧ k < A.length := h.2.ge
theorem OwnE.len (h : OwnE a0 A sz v es) : sLens A false v = some (.int .i64 es.length, A) := h.2.sl.len
end
end Go.AS


namespace Go.AS
open Go
set_option linter.unusedVariables false
set_option linter.unusedSimpArgs false

/-! Lists in order by a key; rearrangements that keep what has one key in its order. -/

theorem bytesLess_lt : ∀ (x y : List UInt8), Op.bytesLess x y = decide (x < y)
  | [], [] => by simp [Op.bytesLess]
  | _ :: _, [] => by simp [Op.bytesLess]
  | [], _ :: _ => by simp [Op.bytesLess]
  | a :: x, b :: y => by
    rw [Op.bytesLess, bytesLess_lt x y]
    simp only [List.cons_lt_cons_iff]
    by_cases h1 : a < b <;> by_cases h2 : a = b <;> by_cases h3 : x < y <;> simp [h1, h2, h3]

theorem kl_irr (a : List UInt8) : ¬ a < a := List.lt_irrefl a
theorem kl_tr {a b c : List UInt8} (h : a < b) (k : b < c) : a < c := List.lt_trans h k
theorem kl_asym {a b : List UInt8} (h : a < b) : ¬ b < a := fun k => kl_irr a (kl_tr h k)
theorem kl_tri (a b : List UInt8) : a < b ∨ a = b ∨ b < a := by
  by_cases h : a < b
  · exact .inl h
  · by_cases k : b < a
    · exact .inr (.inr k)
    · exact .inr (.inl (List.le_antisymm (List.not_lt.1 k) (List.not_lt.1 h)))
section
variable {α : Type} {key : α → List UInt8}
/-- A stable rearrangement. -/
def Rk (key : α → List UInt8) (l l' : List α) : Prop := l'.length = l.length ∧ ∀ k, l'.filter (fun e => decide (key e = k)) = l.filter (fun e => decide (key e = k))
/-- In order. -/
def Srt (key : α → List UInt8) (l : List α) : Prop := l.Pairwise fun a b => ¬ key b < key a

theorem Rk.refl (l : List α) : Rk key l l := ⟨rfl, fun _ => rfl⟩
theorem Rk.trans {a b c : List α} (h : Rk key a b) (k : Rk key b c) : Rk key a c := ⟨k.1.trans h.1, fun x => (k.2 x).trans (h.2 x)⟩
theorem Rk.app {a b c d : List α} (h : Rk key a b) (k : Rk key c d) : Rk key (a ++ c) (b ++ d) :=
  ⟨by simp [h.1, k.1], fun x => by simp [List.filter_append, h.2 x, k.2 x]⟩
theorem Rk.mem {a b : List α} (h : Rk key a b) {x : α} : x ∈ b ↔ x ∈ a := by
  have := h.2 (key x)
  have e : ∀ l : List α, x ∈ l.filter (fun e => decide (key e = key x)) ↔ x ∈ l := fun l => by simp
  rw [← e b, this, e a]
theorem Srt.app {a b : List α} (ha : Srt key a) (hb : Srt key b) (h : ∀ x ∈ a, ∀ y ∈ b, ¬ key y < key x) : Srt key (a ++ b) :=
  List.pairwise_append.2 ⟨ha, hb, h⟩
theorem Srt.left {a b : List α} (h : Srt key (a ++ b)) : Srt key a := (List.pairwise_append.1 h).1
theorem Srt.right {a b : List α} (h : Srt key (a ++ b)) : Srt key b := (List.pairwise_append.1 h).2.1
theorem Srt.get {l : List α} (h : Srt key l) {i j : Nat} {x y : α} (hi : l[i]? = some x) (hj : l[j]? = some y) (hij : i ≤ j) : ¬ key y < key x := by
  rcases Nat.lt_or_ge i j with hlt | hge
  · obtain ⟨h1, h2⟩ := List.getElem?_eq_some_iff.1 hi
    obtain ⟨h3, h4⟩ := List.getElem?_eq_some_iff.1 hj
    have := List.pairwise_iff_getElem.1 h i j h1 h3 hlt
    rw [h2, h4] at this
    exact this
  · have : i = j := by omega
    subst this
    rw [hi] at hj
    obtain rfl := Option.some.inj hj
    exact kl_irr _
theorem Srt.one (x : α) : Srt key [x] := by simp [Srt]
theorem Srt.nil : Srt key ([] : List α) := by simp [Srt]
end
end Go.AS


namespace Go.AS
open Go
set_option maxRecDepth 100000
/-! Codes of library functions that are alike in many chapters (printed by geni.py). -/
end Go.AS


namespace Go.AS
open Go
set_option linter.unusedVariables false
set_option linter.unusedSimpArgs false
set_option maxRecDepth 10000

section
variable {G : Nat} {P : Program} (hm : P.follows .mixedOrders = true) {sz a0 : Nat} {A : AH} {v fv : Value} {Q : Value → AH → Prop}
include hm
end
end Go.AS


namespace Go.AS
open Go
set_option linter.unusedVariables false
set_option linter.unusedSimpArgs false
set_option maxRecDepth 10000

section
variable {G : Nat} {P : Program} (hm : P.follows .mixedOrders = true) {sz a0 : Nat} {A : AH} {v fv : Value} {Q : Value → AH → Prop} {dom : List Value → Prop} {key : List Value → List UInt8}
include hm
end
end Go.AS


namespace Go.AS
open Go
set_option linter.unusedVariables false
set_option linter.unusedSimpArgs false

section
variable {α : Type} {key : α → List UInt8}
theorem get_some {l : List α} {k : Nat} (h : k < l.length) : ∃ x, l[k]? = some x := ⟨_, List.getElem?_eq_getElem h⟩
end
end Go.AS


namespace Go.AS
open Go
set_option linter.unusedVariables false
set_option linter.unusedSimpArgs false
set_option maxRecDepth 10000

section
variable {G : Nat} {P : Program} (hm : P.follows .mixedOrders = true) {sz : Nat} {fv : Value} {dom : List Value → Prop} {key : List Value → List UInt8}

section
variable {A : AH} {v : Value} {a0 : Nat} {X Y : List (List Value)} {r : AT} {R : Exit → AT → AH → Prop}
include hm in
end
end
end Go.AS


namespace Go.AS
open Go
set_option linter.unusedVariables false
set_option linter.unusedSimpArgs false
set_option maxRecDepth 10000

section
variable {G : Nat} {P : Program} (hm : P.follows .mixedOrders = true) {sz : Nat} {fv : Value} {dom : List Value → Prop} {key : List Value → List UInt8}
include hm in
end
end Go.AS


namespace Go.AS
open Go
set_option linter.unusedVariables false
set_option linter.unusedSimpArgs false
set_option maxRecDepth 10000

section
variable {α : Type} {key : α → List UInt8}
/-- In order in parts of so many. -/
def ChS (key : α → List UInt8) (bs : Nat) (l : List α) : Prop := ∀ i, Srt key ((l.drop (i * bs)).take bs)
theorem ChS.nil {bs : Nat} : ChS key bs ([] : List α) := fun i => by simp [Srt]
theorem ChS.push {bs i : Nat} {D S : List α} (h : ChS key bs D) (hD : D.length = i * bs) (hS : S.length ≤ bs) (hs : Srt key S) : ChS key bs (D ++ S) := by
  intro j
  rcases Nat.lt_trichotomy j i with hj | hj | hj
  · have : j * bs + bs ≤ D.length := by
      rw [hD]
      have := Nat.mul_le_mul_right bs (show j + 1 ≤ i by omega)
      rw [Nat.add_mul, Nat.one_mul] at this; exact this
    rw [List.drop_append_of_le_length (by omega), List.take_append_of_le_length (by rw [List.length_drop]; omega)]
    exact h j
  · subst hj
    rw [← hD, List.drop_left, List.take_of_length_le hS]
    exact hs
  · have : (D ++ S).length ≤ j * bs := by
      rw [List.length_append, hD]
      have := Nat.mul_le_mul_right bs (show i + 1 ≤ j by omega)
      rw [Nat.add_mul, Nat.one_mul] at this; omega
    rw [List.drop_of_length_le this]
    simp [Srt]
theorem ChS.all {bs : Nat} {l : List α} (h : ChS key bs l) (hl : l.length ≤ bs) : Srt key l := by
  have := h 0
  rw [Nat.zero_mul, List.drop_zero, List.take_of_length_le hl] at this
  exact this
end

section
variable {G : Nat} {P : Program} (hm : P.follows .mixedOrders = true) {sz a0 : Nat} {A : AH} {v fv : Value} {Q : Value → AH → Prop} {dom : List Value → Prop} {key : List Value → List UInt8}
include hm
end
end Go.AS


namespace Go.AS
open Go
set_option linter.unusedVariables false
set_option linter.unusedSimpArgs false

/-! Slices of elements: cut, cleared, appended to. -/
section
variable {A B C A0 : AH} {v w u : Value} {sz n a0 l k : Nat} {cs e z : List Value} {es fs : List (List Value)} {lo hi : Option Value}

theorem flatten_cut (h : ∀ e ∈ es, e.length = sz ∧ ones e = true) (hlk : l ≤ k) (hk : k ≤ es.length) : ((es.take k).drop l).flatten = (es.flatten.drop (l * sz)).take ((k - l) * sz) := by
  have ht : ∀ j, j ≤ es.length → (es.take j).flatten.length = j * sz := fun j hj => flat_len_take es sz (fun j c hc => (h c (List.mem_of_getElem? hc)).1) j hj
  have e1 : es.flatten = ((es.take k).take l).flatten ++ (((es.take k).drop l).flatten ++ (es.drop k).flatten) := by
    rw [← List.append_assoc, ← List.flatten_append, List.take_append_drop, ← List.flatten_append, List.take_append_drop]
  have l1 : ((es.take k).take l).flatten.length = l * sz := by
    rw [List.take_take, Nat.min_eq_left hlk]; exact ht l (by omega)
  have l2 : ((es.take k).drop l).flatten.length = (k - l) * sz := by
    have := ht k hk
    rw [← List.take_append_drop l (es.take k), List.flatten_append, List.length_append, l1] at this
    rw [Nat.sub_mul]; omega
  rw [e1, ← l1, List.drop_left, ← l2, List.take_left]
/-- A part of a slice. -/
theorem OwnE.cut (h : OwnE a0 A sz v es) (hlk : l ≤ k) (hk : k ≤ es.length) (hb : ∀ c, es.length ≤ c → boundsA es.length c lo hi none = some (l, k, c)) :
    ∃ u, (∀ j ∈ blkOf u, j ∈ blkOf v) ∧ (∃ p c, u = .slice p (k - l) c) ∧ ∀ B fs, OwnE a0 B sz v fs → fs.length = es.length → sSll B v lo hi none sz = some (u, B) ∧ OwnE a0 B sz u ((fs.take k).drop l) := by
  obtain ⟨he, h0, h⟩ := h
  have mem : ∀ fs : List (List Value), (∀ e ∈ fs, e.length = sz ∧ ones e = true) → ∀ e ∈ (fs.take k).drop l, e.length = sz ∧ ones e = true := fun fs hf e hx => hf e (List.mem_of_mem_take (List.mem_of_mem_drop hx))
  rcases h with ⟨rfl, hz⟩ | ⟨rfl, hz⟩ | ⟨i, o, c, rc, ex, rfl, h2, h3, h4, h5, h6⟩
  · have : l = 0 := by omega
    have : k = 0 := by omega
    subst l k
    refine ⟨.slice none 0 0, fun j hj => hj, ⟨_, _, rfl⟩, fun B fs hf hl => ⟨?_, ?_⟩⟩
    · rw [hz] at hb
      unfold sSll
      simp only [hb 0 (Nat.le_refl _)]
      rfl
    · exact ⟨fun e hx => by simp at hx, OwnS.nil _ _ _⟩
  · have : l = 0 := by omega
    have : k = 0 := by omega
    subst l k
    refine ⟨.slice (some zmk) 0 0, fun j hj => hj, ⟨_, _, rfl⟩, fun B fs hf hl => ⟨?_, ?_⟩⟩
    · rw [hz] at hb
      unfold sSll zmk
      simp only [hb 0 (Nat.le_refl _)]
      rfl
    · exact ⟨fun e hx => by simp at hx, by simp, .inr (.inl ⟨rfl, rfl⟩)⟩
  · refine ⟨.slice (some ⟨i, o + l * sz, none⟩) (k - l) (c - l), fun j hj => hj, ⟨_, _, rfl⟩, fun B fs hf hl => ?_⟩
    obtain ⟨hf1, hf0, hf⟩ := hf
    have hlen : ((fs.take k).drop l).length = k - l := by rw [List.length_drop, List.length_take]; omega
    have hmul : l * sz + (k - l) * sz ≤ es.length * sz := by rw [← Nat.add_mul]; exact Nat.mul_le_mul_right _ (by omega)
    rcases hf with ⟨q, _⟩ | ⟨q, _⟩ | ⟨i', o', c', rc', ex', q, q2, q3, q4, q5, q6⟩
    · cases q
    · cases q
    · injection q with q q7 q8
      injection q with q
      injection q with q9 q10
      subst q9 q10 q8
      constructor
      · unfold sSll
        simp only [hb c h2, Option.bind_some]
        unfold rowSz
        rw [q4]
        simp
      · refine ⟨mem fs hf1, by rw [flat_len' (mem fs hf1)], .inr (.inr ⟨i, o + l * sz, c - l, rc', ex', by rw [hlen], by rw [hlen]; omega, q3, q4, by rw [hlen]; rw [hl] at q5; omega, ?_⟩)⟩
        intro j hj
        rw [hlen] at hj
        rw [flatten_cut hf1 hlk (by omega), List.getElem?_take_of_lt hj, List.getElem?_drop, Nat.add_assoc, q6 _ (by rw [hl]; omega)]
theorem ones_rep (hz : ones z = true) (m : Nat) : ones ((List.replicate m z).flatten) = true := by
  unfold ones at *
  rw [List.all_eq_true] at *
  intro x hx
  obtain ⟨l, h1, h2⟩ := List.mem_flatten.1 hx
  rw [List.mem_replicate] at h1
  rw [h1.2] at h2
  exact hz x h2
/-- What stands from l on is cleared. -/
theorem OwnE.clr (h : OwnE a0 A sz v es) (hl : l ≤ es.length) (hz : z.length = sz) (hz1 : ones z = true) (hu : sSll A v (some (.int .i64 (l : Int))) none none sz = some (u, A)) :
    ∃ A', sClr A u z = some (undef, A') ∧ OwnE a0 A' sz v (es.take l ++ List.replicate (es.length - l) z) ∧ KeepV A v A' := by
  have hE := h
  obtain ⟨he, h0, h⟩ := h
  have hb : ∀ c, es.length ≤ c → boundsA es.length c (some (ii l)) none none = some (l, es.length, c) := fun c hc => bnd_lo hl hc
  rcases h with ⟨rfl, hzz⟩ | ⟨rfl, hzz⟩ | ⟨i, o, c, rc, ex, rfl, h2, h3, h4, h5, h6⟩
  · have : l = 0 := by omega
    subst l
    have hes : es = [] := List.length_eq_zero_iff.1 hzz
    subst hes
    have : sSll A (.slice none 0 0) (some (ii (0 : Nat))) none none sz = some (.slice none 0 0, A) := rfl
    rw [show (Value.int .i64 ((0 : Nat) : Int)) = ii (0 : Nat) from rfl, this] at hu
    injection hu with hu; injection hu with hu; subst hu
    exact ⟨A, rfl, hE, .refl _ _⟩
  · have : l = 0 := by omega
    subst l
    have hes : es = [] := List.length_eq_zero_iff.1 hzz
    subst hes
    have : sSll A (.slice (some zmk) 0 0) (some (ii (0 : Nat))) none none sz = some (.slice (some zmk) 0 0, A) := rfl
    rw [show (Value.int .i64 ((0 : Nat) : Int)) = ii (0 : Nat) from rfl, this] at hu
    injection hu with hu; injection hu with hu; subst hu
    exact ⟨A, rfl, hE, .refl _ _⟩
  · have e : sSll A (.slice (some ⟨i, o, none⟩) es.length c) (some (.int .i64 (l : Int))) none none sz = some (.slice (some ⟨i, o + l * sz, none⟩) (es.length - l) (c - l), A) := by
      unfold sSll
      have := hb c h2
      unfold ii at this
      simp only [this, Option.bind_some]
      unfold rowSz
      rw [h4]
      simp
    rw [e] at hu
    injection hu with hu; injection hu with hu _; subst hu
    by_cases hm : es.length - l = 0
    · rw [hm]
      have : l = es.length := by omega
      subst this
      refine ⟨A, rfl, ?_, .refl _ _⟩
      rw [List.take_length]
      simpa using hE
    · obtain ⟨m, hm'⟩ : ∃ m, es.length - l = m + 1 := ⟨es.length - l - 1, by omega⟩
      have hmul : l * sz + (es.length - l) * sz = es.length * sz := by rw [← Nat.add_mul]; congr 1; omega
      have hrl : ((List.replicate (m + 1) z).flatten).length = (m + 1) * sz := by rw [rep_length, hz]
      rw [hm'] at hmul ⊢
      refine ⟨A.set i (.row (setAll rc (o + l * sz) ((List.replicate (m + 1) z).flatten)) .own sz ex), ?_, ⟨?_, ?_⟩, ?_⟩
      · show (wr A i (o + l * sz) _).map _ = _
        unfold wr
        simp only [h4]
        rw [if_pos ⟨by rw [hrl]; omega, ones_rep hz1 _⟩]
        rfl
      · intro x hx
        rcases List.mem_append.1 hx with hx | hx
        · exact he x (List.mem_of_mem_take hx)
        · rw [(List.mem_replicate.1 hx).2]; exact ⟨hz, hz1⟩
      · have hll : (es.take l ++ List.replicate (m + 1) z).length = es.length := by simp; omega
        have hfl : (es.take l).flatten.length = l * sz := flat_len_take es sz (fun j c hc => (he c (List.mem_of_getElem? hc)).1) l hl
        refine ⟨by rw [hll, List.flatten_append, List.length_append, hfl, hrl]; omega, .inr (.inr ⟨i, o, c, _, ex, by rw [hll], by rw [hll]; exact h2, h3, by rw [List.getElem?_set_self (lt_of_get h4)], ?_, ?_⟩)⟩
        · rw [setAll_length _ _ _ (by rw [hrl]; omega), hll]; exact h5
        · intro j hj
          rw [hll] at hj
          rw [setAll_get _ _ _ (by rw [hrl]; omega), List.flatten_append, hrl]
          rcases Nat.lt_or_ge j (l * sz) with hlt | hge
          · rw [if_neg (by omega), h6 _ hj, List.getElem?_append_left (by omega)]
            conv => lhs; rw [← List.take_append_drop l es, List.flatten_append]
            rw [List.getElem?_append_left (by omega)]
          · rw [if_pos (by omega), List.getElem?_append_right (by omega), hfl]
            congr 1; omega
      · refine ⟨by rw [List.length_set]; exact Nat.le_refl _, fun k b hb' hk => ?_⟩
        rw [List.getElem?_set_ne (fun h => hk (by subst h; simp [blkOf]))]
        exact hb'
theorem OwnE.nil (a0 : Nat) (A : AH) (sz : Nat) : OwnE a0 A sz (.slice none 0 0) [] := ⟨(fun e h => by cases h), OwnS.nil _ _ _⟩
theorem litE (A : AH) (hz : z.length = sz) (he : e.length = sz) (ho : ones e = true) : sLit A z sz 1 [(0, sz, .agg e.toArray)] = some (.slice (some ⟨A.length, 0, none⟩) 1 1, A ++ [.row e .own sz true]) := by
  unfold sLit
  have ec : (Value.agg e.toArray).cells = e.toArray := rfl
  have e1 : (List.replicate 1 z).flatten = z := by simp
  rw [e1]
  unfold fillA
  rw [ec]
  rw [if_pos ⟨by simpa using he, by omega, by simpa using ho⟩]
  unfold fillA
  simp only [Option.map_some]
  congr 4
  unfold setAll
  simp [he, hz]
/-- One more element. -/
theorem OwnE.push {bytes : Nat} (hl : Le A0 A) (h : OwnE A0.length A sz v es) (hsz : 0 < sz) (he : e.length = sz) (ho : ones e = true) (hb : 2 * ((es.length + 1) * bytes) ≤ 2 ^ 48) (hb0 : 0 < bytes) :
    ∃ v' A', sApp (A ++ [.row e .own sz true]) v (.slice (some ⟨A.length, 0, none⟩) 1 1) sz bytes = some (v', A') ∧ Le A0 A' ∧ OwnE A0.length A' sz v' (es ++ [e]) ∧ KeepV A v A' ∧ (blkOf v' = [A.length + 1] ∨ blkOf v' = blkOf v) := by
  have k1 : Le A (A ++ [.row e .own sz true]) := .push _ _
  have hs : Sl (A ++ [.row e .own sz true]) sz (.slice (some ⟨A.length, 0, none⟩) 1 1) 1 e :=
    ⟨by simp [he], .inr (.inr ⟨A.length, 0, 1, e, .own, true, rfl, by omega, by simp, by simp, by simp [he], fun j _ => by rw [Nat.zero_add]⟩)⟩
  obtain ⟨v', A', e1, e2, e3, e4⟩ := app_cells (bytes := bytes) (hl.trans k1) (h.2.le k1) hs ho hsz hb hb0
  have hf := app_fresh rfl (by simp) e1
  have hle := k1.len
  refine ⟨v', A', e1, e2, ⟨?_, ?_⟩, ⟨?_, fun i b hb hi => e4 i b (k1.get hb) (fun o c q => hi (by rw [q]; simp [blkOf]))⟩, by simpa using hf⟩
  · intro x hx
    rcases List.mem_append.1 hx with hx | hx
    · exact h.1 x hx
    · rw [List.mem_singleton.1 hx]; exact ⟨he, ho⟩
  · simpa using e3
  · refine Nat.le_trans hle ?_
    have : ∀ i, i < (A ++ [Blk.row e .own sz true]).length → i ∉ blkOf v → i < A'.length := by
      intro i hi hv
      exact lt_of_get (e4 i _ (List.getElem?_eq_getElem hi) (fun o c q => hv (by rw [q]; simp [blkOf])))
    have hlast := this A.length (by simp) (fun hv => by have := (h.2.ge A.length hv).2; omega)
    simp
    omega
end
end Go.AS


namespace Go.AS
open Go
set_option maxRecDepth 100000
/-! Codes of library functions that are alike in many chapters (printed by geni.py). -/
end Go.AS


namespace Go.AS
open Go
set_option linter.unusedVariables false
set_option linter.unusedSimpArgs false
set_option maxRecDepth 10000

section
variable {α : Type} {key : α → List UInt8}
/-- What keeps the order of what has one key keeps the first with each. -/
theorem Rk.find {a b : List α} (h : Rk key a b) (k : List UInt8) : b.find? (fun e => decide (key e = k)) = a.find? (fun e => decide (key e = k)) := by
  rw [← List.head?_filter, ← List.head?_filter, h.2 k]
/-- Two lists that rise and have the same are the same. -/
theorem rise_ext : ∀ {a b : List α}, a.Pairwise (fun x y => key x < key y) → b.Pairwise (fun x y => key x < key y) → (∀ x, x ∈ a ↔ x ∈ b) → a = b
  | [], [], _, _, _ => rfl
  | [], y :: b, _, _, h => by have := (h y).2 (List.mem_cons_self ..); cases this
  | x :: a, [], _, _, h => by have := (h x).1 (List.mem_cons_self ..); cases this
  | x :: a, y :: b, ha, hb, h => by
    obtain ⟨ha1, ha2⟩ := List.pairwise_cons.1 ha
    obtain ⟨hb1, hb2⟩ := List.pairwise_cons.1 hb
    have hxy : x = y := by
      rcases List.mem_cons.1 ((h x).1 (List.mem_cons_self ..)) with e | e
      · exact e
      · rcases List.mem_cons.1 ((h y).2 (List.mem_cons_self ..)) with e' | e'
        · exact e'.symm
        · exact absurd (ha1 y e') (kl_asym (hb1 x e))
    subst hxy
    rw [rise_ext ha2 hb2 fun z => ?_]
    have hz := h z
    constructor
    · intro hm
      rcases List.mem_cons.1 (hz.1 (List.mem_cons_of_mem _ hm)) with e | e
      · subst e; exact absurd (ha1 z hm) (kl_irr _)
      · exact e
    · intro hm
      rcases List.mem_cons.1 (hz.2 (List.mem_cons_of_mem _ hm)) with e | e
      · subst e; exact absurd (hb1 z hm) (kl_irr _)
      · exact e
end

section
variable {G : Nat} {P : Program} (hm : P.follows .mixedOrders = true) {sz a0 : Nat} {A : AH} {v fv : Value} {Q : Value → AH → Prop} {dom : List Value → Prop} {key : List Value → List UInt8}
include hm
end
end Go.AS


namespace Go.AS
open Go
set_option linter.unusedVariables false
set_option linter.unusedSimpArgs false

/-! One by one into a list that rises; what has the key of one that is there goes. -/
section
variable {α β : Type} {key : α → List UInt8}
theorem Rk.map {f : β → α} {kb : β → List UInt8} {a b : List β} (h : Rk kb a b) (hk : ∀ x ∈ a, kb x = key (f x)) : Rk key (a.map f) (b.map f) := by
  refine ⟨by simp [h.1], fun k => ?_⟩
  have aux : ∀ l : List β, (∀ x ∈ l, kb x = key (f x)) → (l.map f).filter (fun e => decide (key e = k)) = (l.filter (fun e => decide (kb e = k))).map f := by
    intro l hl
    rw [List.filter_map]
    congr 1
    apply List.filter_congr
    intro x hx
    simp [hl x hx]
  rw [aux b (fun x hx => hk x (h.mem.1 hx)), aux a hk, h.2 k]
theorem Srt.map {f : β → α} {kb : β → List UInt8} {a : List β} (h : Srt kb a) (hk : ∀ x ∈ a, kb x = key (f x)) : Srt key (a.map f) := by
  unfold Srt at *
  rw [List.pairwise_map]
  exact h.imp_of_mem (fun {x y} hx hy hxy => by rw [← hk x hx, ← hk y hy]; exact hxy)
end
end Go.AS


namespace Go.AS
open Go
set_option linter.unusedVariables false
set_option linter.unusedSimpArgs false

/-! Texts: their order. -/
abbrev bl (s : ByteArray) : List UInt8 := s.data.toList
theorem bl_inj {a b : ByteArray} : bl a = bl b ↔ a = b := by
  constructor
  · intro h; cases a; cases b; congr; exact Array.toList_inj.1 h
  · rintro rfl; rfl
theorem ltS (a b : ByteArray) : binA .lss (.string a) (.string b) = some (.bool (decide (bl a < bl b))) := by
  simp only [binA, toList_data, bytesLess_lt]
theorem geS (a b : ByteArray) : binA .geq (.string a) (.string b) = some (.bool (decide (¬ bl a < bl b))) := by
  simp only [binA, toList_data, bytesLess_lt]
  congr 2
  by_cases h : bl a < bl b <;> simp [h]
section
variable {A B : AH} {sz n : Nat} {v x : Value} {cs : List Value}
theorem get_snoc {b : Blk} : (A ++ [b])[A.length]? = some b := by simp
end
end Go.AS


namespace Go.AS
open Go
set_option linter.unusedVariables false
set_option linter.unusedSimpArgs false

/-! Slices of one's own that stand apart; structs that are copied. -/
section
variable {A B C A0 : AH} {v w u x : Value} {sz s2 n m a0 b0 i : Nat} {cs ds e z : List Value} {es fs : List (List Value)}
theorem OwnS.apart (h : OwnS a0 A sz v n cs) (k : OwnS b0 A s2 w m ds) (hs : sz ≠ s2) : ∀ j ∈ blkOf w, j ∉ blkOf v := by
  obtain ⟨_, h⟩ := h
  obtain ⟨_, k⟩ := k
  intro j hj hv
  rcases k with ⟨rfl, _⟩ | ⟨rfl, _⟩ | ⟨i, o, c, rc, ex, rfl, k2, k3, k4, _⟩
  · cases hj
  · cases hj
  · simp only [blkOf, List.mem_singleton] at hj
    subst hj
    rcases h with ⟨rfl, _⟩ | ⟨rfl, _⟩ | ⟨i', o', c', rc', ex', rfl, h2, h3, h4, _⟩
    · cases hv
    · cases hv
    · simp only [blkOf, List.mem_singleton] at hv
      subst hv
      rw [h4] at k4
      injection k4 with k4
      injection k4 with _ _ k4 _
      exact hs k4
theorem OwnS.row_apart (h : OwnS a0 A sz v n cs) {rc : List Value} {st : St} {ex : Bool} (hi : A[i]? = some (.row rc st s2 ex)) (hs : s2 ≠ sz) : i ∉ blkOf v := by
  obtain ⟨_, h⟩ := h
  intro hv
  rcases h with ⟨rfl, _⟩ | ⟨rfl, _⟩ | ⟨j, o, c, rc', ex', rfl, h2, h3, h4, _⟩
  · cases hv
  · cases hv
  · simp only [blkOf, List.mem_singleton] at hv
    subst hv
    rw [h4] at hi
    injection hi with hi
    injection hi with _ _ hi _
    exact hs hi.symm
theorem OwnE.mono (h : OwnE a0 A sz v es) (hb : b0 ≤ a0) : OwnE b0 A sz v es := ⟨h.1, h.2.mono hb⟩
theorem OwnS.ki (h : OwnS a0 A sz v n cs) (hk : Keep A i B) {rc : List Value} {st : St} {ex : Bool} (hi : A[i]? = some (.row rc st s2 ex)) (hs : s2 ≠ sz) : OwnS a0 B sz v n cs := OwnS.kp h hk hi hs
theorem OwnE.ki (h : OwnE a0 A sz v es) (hk : Keep A i B) {rc : List Value} {st : St} {ex : Bool} (hi : A[i]? = some (.row rc st s2 ex)) (hs : s2 ≠ sz) : OwnE a0 B sz v es := ⟨h.1, h.2.kp hk hi hs⟩
theorem OwnB.le {bs : List UInt8} (h : OwnB a0 A v bs) (hl : Le A B) : OwnB a0 B v bs := OwnS.le h hl
theorem OwnB.mono {bs : List UInt8} (h : OwnB a0 A v bs) (hb : b0 ≤ a0) : OwnB b0 A v bs := OwnS.mono h hb
theorem OwnB.ki {bs : List UInt8} (h : OwnB a0 A v bs) (hk : Keep A i B) {rc : List Value} {st : St} {ex : Bool} (hi : A[i]? = some (.row rc st s2 ex)) (hs : s2 ≠ 1) : OwnB a0 B v bs := OwnS.ki h hk hi hs
theorem Sl.lenB (h : Sl A sz v n cs) (B : AH) : sLens B false v = some (.int .i64 n, B) := by
  obtain ⟨_, h⟩ := h
  rcases h with ⟨rfl, rfl⟩ | ⟨rfl, rfl⟩ | ⟨_, _, _, _, _, _, rfl, _⟩ <;> rfl
theorem KeepV.of_own (h : OwnS a0 A sz v n cs) (hl : A.length ≤ B.length) (hk : ∀ i b, A[i]? = some b → (∀ o c, v ≠ .slice (some ⟨i, o, none⟩) n c) → B[i]? = some b) : KeepV A v B :=
  ⟨hl, fun i b hb hi => hk i b hb (fun o c q => hi (by rw [q]; simp [blkOf]))⟩
theorem appI_len {s : Value} {new : List Value} {k bytes : Nat} {r : Value × AH} (h : appA A s new k sz bytes = some r) : A.length ≤ r.2.length := by
  unfold appA at h
  cases hi : appI A s new k sz bytes with
  | some q =>
    rw [hi] at h
    obtain rfl := Option.some.inj h
    unfold appI at hi
    split at hi
    · split at hi
      · split at hi
        · injection hi with hi; subst hi; simp
        · cases hi
      · cases hi
    · cases hi
  | none =>
  rw [hi, Option.none_or] at h
  unfold appA1 at h
  cases hf : appF A s new k sz bytes with
  | some q =>
    rw [hf] at h
    obtain rfl := Option.some.inj h
    unfold appF at hf
    split at hf
    · split at hf
      · split at hf
        · injection hf with hf; subst hf; simp
        · cases hf
      · cases hf
    · cases hf
  | none =>
  rw [hf, Option.none_or] at h
  unfold appA0 at h
  split at h
  · split at h
    · injection h with h; subst h; exact Nat.le_refl _
    · injection h with h; subst h; exact Nat.le_refl _
    · cases h
  · rw [Option.bind_eq_some_iff] at h
    obtain ⟨q, h1, h⟩ := h
    split at h
    · injection h with h; subst h
      simp only [List.length_append]
      rw [appBase_len h1]; omega
    · cases h
theorem sApp_len {s x : Value} {bytes : Nat} {v' : Value} {A' : AH} (h : sApp A s x sz bytes = some (v', A')) : A.length ≤ A'.length := by
  unfold sApp at h
  split at h
  · rw [Option.bind_eq_some_iff] at h
    obtain ⟨new, _, h⟩ := h
    exact appI_len h
  · cases h
/-- append(v, x...): bytes. -/
theorem OwnB.app {bs xs : List UInt8} (hl : Le A0 A) (h : OwnB A0.length A v bs) (hx : Byt A x xs) (hb : bs.length + xs.length ≤ 2 ^ 47) :
    ∃ v' A', sApp A v x 1 1 = some (v', A') ∧ Le A0 A' ∧ OwnB A0.length A' v' (bs ++ xs) ∧ KeepV A v A' := by
  obtain ⟨v', A', h1, h2, h3, h4⟩ := app_bytes hl h hx hb
  exact ⟨v', A', h1, h2, h3, KeepV.of_own h (sApp_len h1) h4⟩
/-- append(v, s...): a text's bytes. -/
theorem OwnB.apps {bs : List UInt8} {s : ByteArray} (hl : Le A0 A) (h : OwnB A0.length A v bs) (hb : bs.length + s.size ≤ 2 ^ 47) :
    ∃ v' A', sApps A v (.string s) 1 = some (v', A') ∧ Le A0 A' ∧ OwnB A0.length A' v' (bs ++ bl s) ∧ KeepV A v A' := by
  have he : u8s s = (bl s).map by8 := rfl
  have hls : (bl s).length = s.size := by simp
  obtain ⟨v', A', h1, h2, h3, h4⟩ := app_own (new := u8s s) (k := s.size) (bytes := 1) hl h (by omega) (by omega) (by omega) (by rw [he, List.length_map, hls, Nat.mul_one]) (by rw [he]; exact Byt.ones8 _)
  refine ⟨v', A', h1, h2, ?_, KeepV.of_own h (appI_len h1) h4⟩
  unfold OwnB
  rw [List.length_append, List.map_append, hls, ← he]
  exact h3
/-- One more text. -/
theorem app_str {l : List ByteArray} (s : ByteArray) (hl : Le A0 A) (h : OwnS A0.length A 1 w l.length (l.map .string)) (hb : l.length ≤ 2 ^ 40) :
    sLit A [.string ⟨#[]⟩] 1 1 [(0, 1, .string s)] = some (.slice (some ⟨A.length, 0, none⟩) 1 1, A ++ [.row [.string s] .own 1 true]) ∧
    ∃ w' A', sApp (A ++ [.row [.string s] .own 1 true]) w (.slice (some ⟨A.length, 0, none⟩) 1 1) 1 16 = some (w', A') ∧ Le A0 A' ∧ OwnS A0.length A' 1 w' (l ++ [s]).length ((l ++ [s]).map .string) ∧ KeepV A w A' := by
  have l1 := lit1 (A := A) (z := .string ⟨#[]⟩) (len := 1) (ps := [(0, 1, .string s)]) [.string s] rfl rfl (by
    intro y hy
    rw [List.mem_singleton] at hy
    subst hy; exact one1_str _)
  have k1 : Le A (A ++ [.row [.string s] .own 1 true]) := .push _ _
  obtain ⟨v2, A2, p1, p2, p3, p4⟩ := app_cells (bytes := 16) (hl.trans k1) (OwnS.le h k1) (sl_last A (cs := [.string s]) (st := .own) (ex := true) (c := 1) (by simp) (by simp)) rfl (by omega) (by simp; omega) (by omega)
  rw [List.length_singleton] at l1 p1
  refine ⟨l1, v2, A2, p1, p2, by simpa using p3, ⟨Nat.le_trans k1.len (sApp_len p1), fun i b hb hi => p4 i b (k1.get hb) (fun o c q => hi (by rw [q]; simp [blkOf]))⟩⟩
/-- A struct is put into a new variable. -/
theorem copy_el (A : AH) (hz : z.length = sz) (he : e.length = sz) (ho : ones e = true) : sStore (A ++ [.row z .own 0 true]) (.pointer (some ⟨A.length, 0, none⟩)) (.agg e.toArray) sz = some (undef, A ++ [.row e .own 0 true]) := by
  rw [row_storen (i := A.length) (cs := z) (ds := e) get_snoc (by omega) ho hz.symm, set_last]
theorem KeepV.get (h : KeepV A v B) {j : Nat} {b : Blk} (hb : A[j]? = some b) (hj : j ∉ blkOf v) : B[j]? = some b := h.2 j b hb hj
theorem KeepV.rd (h : KeepV A v B) {R : List Nat} (hR : ∀ k ∈ R, k ∉ blkOf v) : RdOk R A B := fun k hk b hb => h.2 k b hb (hR k hk)
theorem Byt.one1 {bs : List UInt8} (h : Byt A v bs) : AS.one1 v := by
  obtain ⟨p, c, hs, _⟩ := h.shape
  rw [hs]; exact one1_sl _ _ _
theorem Sl.one1 (h : Sl A sz v n cs) : AS.one1 v := by
  obtain ⟨_, h⟩ := h
  rcases h with ⟨rfl, _⟩ | ⟨rfl, _⟩ | ⟨_, _, _, _, _, _, rfl, _⟩ <;> exact one1_sl _ _ _
end
end Go.AS


namespace Go.AS
open Go
set_option linter.unusedVariables false
set_option linter.unusedSimpArgs false

section
variable {A B C A0 : AH} {v w u x : Value} {sz s2 n m a0 b0 i k : Nat} {cs ds e z : List Value} {es fs : List (List Value)}
theorem faddr_any {p q : Value} {o : Nat} {A' : AH} (h : sFaddr A p o = some (q, A')) (B : AH) : sFaddr B p o = some (q, B) := by
  unfold sFaddr at h ⊢
  split at h
  · injection h with h; injection h with h _; subst h; rfl
  · cases h
theorem faddr_blk {p q : Value} {o : Nat} {A' : AH} (h : sFaddr A p o = some (q, A')) : blkOf q = blkOf p := by
  unfold sFaddr at h
  split at h
  · injection h with h; injection h with h _; subst h; rfl
  · cases h
theorem load1_keep {p x : Value} (h : sLoad1 A p = some (x, A)) (hB : ∀ k b, A[k]? = some b → k ∈ blkOf p → B[k]? = some b) : sLoad1 B p = some (x, B) := by
  unfold sLoad1 at h ⊢
  split at h
  · rename_i i o
    rw [Option.bind_eq_some_iff] at h
    obtain ⟨r, q1, q2⟩ := h
    rw [Option.map_eq_some_iff] at q2
    obtain ⟨l, q2, q3⟩ := q2
    injection q3 with q3 q4
    obtain ⟨r1, r2, r3, r4⟩ := r
    obtain ⟨g1, g2⟩ := getRow_some q1
    have g3 := hB i _ g1 (by simp [blkOf])
    have : getRow B i = some (r1, r2, r3, r4) := by unfold getRow; simp only [g3, if_neg g2]
    simp only [this, Option.bind_some, q2, Option.map_some, q3]
  · cases h
/-- A part of an element is read. -/
theorem Sl.elf (h : Sl A sz v es.length es.flatten) (he : ∀ e ∈ es, e.length = sz ∧ ones e = true) {j o : Nat} {e : List Value} {x : Value} (hj : es[j]? = some e) (ho : e[o]? = some x) :
    ∃ p q, blkOf q = blkOf v ∧ (∀ (B : AH) (n : Int), n = (j : Int) → sIaddr B v (.int .i64 n) sz = some (p, B)) ∧ (∀ B, sFaddr B p o = some (q, B)) ∧ sLoad1 A q = some (x, A) := by
  have hel := (he e (List.mem_of_getElem? hj)).1
  have hlt := lt_of_get ho
  obtain ⟨p, q, p1, p2, p3⟩ := h.field (v0 := x) (lt_of_get hj) (off := o) (by omega) (by rw [flat_at he hj (by omega)]; exact ho)
  refine ⟨p, q, ?_, ?_, faddr_any p2, p3⟩
  · rw [faddr_blk p2, iaddr_blk p1]
  · rintro B n rfl; exact iaddr_any p1 B
theorem Sl.elfL (h : Sl A sz v es.length es.flatten) (he : ∀ e ∈ es, e.length = sz ∧ ones e = true) {j o : Nat} {e : List Value} {x : Value} (hj : es[j]? = some e) (ho : e[o]? = some x) :
    ∃ p q, (∀ (B : AH) (n : Int), n = (j : Int) → sIaddr B v (.int .i64 n) sz = some (p, B)) ∧ (∀ B, sFaddr B p o = some (q, B)) ∧ ∀ B, Le A B → sLoad1 B q = some (x, B) := by
  obtain ⟨p, q, _, p1, p2, p3⟩ := h.elf he hj ho
  exact ⟨p, q, p1, p2, fun B hB => load1_keep p3 (fun k b hb _ => hB.get hb)⟩
/-- An element of one cell is read. -/
theorem Sl.at1L (h : Sl A 1 v n cs) {j : Nat} {x : Value} (hj : cs[j]? = some x) : ∃ p, (∀ (B : AH) (n : Int), n = (j : Int) → sIaddr B v (.int .i64 n) 1 = some (p, B)) ∧ ∀ B, Le A B → sLoad1 B p = some (x, B) := by
  obtain ⟨p, p1, p2⟩ := h.at1 hj
  exact ⟨p, by rintro B n rfl; exact iaddr_any p1 B, fun B hB => load1_keep p2 (fun k b hb _ => hB.get hb)⟩
/-- Two values lead to blocks apart. -/
def Ap (v w : Value) : Prop := ∀ j ∈ blkOf v, j ∉ blkOf w
theorem Ap.symm (h : Ap v w) : Ap w v := fun j hj hk => h j hk hj
theorem Ap.grow {v' : Value} {n : Nat} (h : Ap v w) (hb : ∀ j ∈ blkOf v', j ∈ blkOf v ∨ n ≤ j) (hw : ∀ j ∈ blkOf w, j < n) : Ap v' w := fun j hj hk => by
  rcases hb j hj with h1 | h1
  · exact h j h1 hk
  · have := hw j hk; omega
theorem Ap.nil {n c : Nat} : Ap (.slice none n c) w := fun j hj => by cases hj
theorem OwnS.lt {sz n : Nat} {cs : List Value} (h : OwnS a0 A sz v n cs) : ∀ j ∈ blkOf v, j < A.length := fun j hj => (h.ge j hj).2
theorem sApp_blk {s x : Value} {bytes : Nat} {v' : Value} {A' : AH} (h : sApp A s x sz bytes = some (v', A')) : ∀ j ∈ blkOf v', j ∈ blkOf s ∨ A.length ≤ j := by
  intro j hj
  have hx : ∃ p k c, x = .slice p k c := by
    unfold sApp at h
    split at h
    · exact ⟨_, _, _, rfl⟩
    · cases h
  obtain ⟨p, k, c, rfl⟩ := hx
  by_cases hk : k = 0
  · subst hk
    unfold sApp at h
    simp only [Option.bind_eq_some_iff] at h
    obtain ⟨new, _, h⟩ := h
    unfold appA at h
    rw [appI_zero, Option.none_or] at h
    unfold appA1 at h
    rw [appF_zero, Option.none_or] at h
    unfold appA0 at h
    rw [if_pos rfl] at h
    split at h
    · injection h with h; injection h with h _; subst h; exact .inl hj
    · injection h with h; injection h with h _; subst h; exact .inl hj
    · cases h
  · rcases app_fresh rfl hk h with e | e
    · rw [e, List.mem_singleton] at hj; exact .inr (by omega)
    · rw [e] at hj; exact .inl hj
/-- Elements of another slice are appended. -/
theorem OwnE.app {bytes : Nat} (hl : Le A0 A) (h : OwnE A0.length A sz v es) (hx : Sl A sz x fs.length fs.flatten) (hf : ∀ e ∈ fs, e.length = sz ∧ ones e = true) (hsz : 0 < sz) (hb : 2 * ((es.length + fs.length) * bytes) ≤ 2 ^ 48) (hb0 : 0 < bytes) :
    ∃ v' A', sApp A v x sz bytes = some (v', A') ∧ Le A0 A' ∧ OwnE A0.length A' sz v' (es ++ fs) ∧ KeepV A v A' := by
  obtain ⟨v', A', e1, e2, e3, e4⟩ := app_cells (bytes := bytes) hl h.2 hx (ones_flatten hf) hsz hb hb0
  refine ⟨v', A', e1, e2, ⟨?_, by simpa using e3⟩, KeepV.of_own h.2 (sApp_len e1) e4⟩
  intro y hy
  rcases List.mem_append.1 hy with hy | hy
  · exact h.1 y hy
  · exact hf y hy
theorem lit_noneE (A : AH) (z : List Value) (sz : Nat) (hl : Le A0 A) : sLit A z sz 0 [] = some (.slice (some ⟨A.length, 0, none⟩) 0 0, A ++ [.row [] .own sz true]) ∧ OwnE A0.length (A ++ [.row [] .own sz true]) sz (.slice (some ⟨A.length, 0, none⟩) 0 0) [] := by
  refine ⟨rfl, (fun e he => by cases he), by simp, .inr (.inr ⟨A.length, 0, 0, [], true, rfl, Nat.le_refl _, hl.len, get_snoc, by simp, by simp⟩)⟩
end
section
variable {α : Type} {key : α → List UInt8}
end
end Go.AS


namespace Go.AS
open Go
set_option maxRecDepth 100000
/-! Codes of library functions that are alike in many chapters (printed by geni.py). -/
end Go.AS


namespace Go.AS
open Go
set_option linter.unusedVariables false
set_option linter.unusedSimpArgs false
set_option maxRecDepth 10000

/-! Slices of texts of the call's own. -/
def strE (l : List ByteArray) : List (List Value) := l.map fun s => [.string s]
theorem strE_flat (l : List ByteArray) : (strE l).flatten = l.map .string := by
  unfold strE
  induction l with
  | nil => rfl
  | cons s l ih => rw [List.map_cons, List.flatten_cons, ih]; rfl
theorem strE_len (l : List ByteArray) : (strE l).length = l.length := by simp [strE]
theorem strE_ok (l : List ByteArray) : ∀ e ∈ strE l, e.length = 1 ∧ ones e = true := by
  intro e he
  obtain ⟨s, _, rfl⟩ := List.mem_map.1 he
  exact ⟨rfl, rfl⟩
/-- A slice of texts, of the call's own. -/
def OwnT (a0 : Nat) (A : AH) (v : Value) (l : List ByteArray) : Prop := OwnS a0 A 1 v l.length (l.map .string)
def SlT (A : AH) (v : Value) (l : List ByteArray) : Prop := Sl A 1 v l.length (l.map .string)
section
variable {A B A0 : AH} {v : Value} {a0 b0 : Nat} {l m : List ByteArray} {lo hi : Option Value}
theorem OwnT.e (h : OwnT a0 A v l) : OwnE a0 A 1 v (strE l) := ⟨strE_ok l, by rw [strE_flat, strE_len]; exact h⟩
theorem OwnE.t (h : OwnE a0 A 1 v (strE l)) : OwnT a0 A v l := by
  have := h.2
  rw [strE_flat, strE_len] at this
  exact this
theorem OwnT.sl (h : OwnT a0 A v l) : SlT A v l := OwnS.sl h
theorem OwnT.le (h : OwnT a0 A v l) (hl : Le A B) : OwnT a0 B v l := OwnS.le h hl
theorem OwnT.mono (h : OwnT a0 A v l) (hb : b0 ≤ a0) : OwnT b0 A v l := OwnS.mono h hb
theorem OwnT.nil (a0 : Nat) (A : AH) : OwnT a0 A (.slice none 0 0) [] := OwnS.nil _ _ _
theorem SlT.le (h : SlT A v l) (hl : Le A B) : SlT B v l := Sl.le h hl
theorem SlT.len (h : SlT A v l) (B : AH) : sLens B false v = some (.int .i64 l.length, B) := Sl.lenB h B
theorem SlT.one (h : SlT A v l) : one1 v := Sl.one1 h
theorem SlT.at (h : SlT A v l) {j : Nat} {s : ByteArray} (hj : l[j]? = some s) : ∃ p, (∀ (B : AH) (n : Int), n = (j : Int) → sIaddr B v (.int .i64 n) 1 = some (p, B)) ∧ ∀ B, Le A B → sLoad1 B p = some (.string s, B) :=
  Sl.at1L h (j := j) (x := .string s) (by rw [List.getElem?_map, hj]; rfl)
theorem OwnT.at (h : OwnT a0 A v l) {j : Nat} {s : ByteArray} (hj : l[j]? = some s) : ∃ p, blkOf p = blkOf v ∧ (∀ (B : AH) (n : Int), n = (j : Int) → sIaddr B v (.int .i64 n) 1 = some (p, B)) ∧ sLoad1 A p = some (.string s, A) := by
  obtain ⟨p, p1, p2⟩ := Sl.at1 (OwnS.sl h) (j := j) (v0 := .string s) (by rw [List.getElem?_map, hj]; rfl)
  exact ⟨p, iaddr_blk p1, by rintro B n rfl; exact iaddr_any p1 B, p2⟩
theorem OwnT.put (h : OwnT a0 A v l) {j : Nat} (s : ByteArray) (hj : j < l.length) {p : Value} (hp : sIaddr A v (.int .i64 (j : Int)) 1 = some (p, A)) : ∃ A', sStore A p (.string s) 1 = some (undef, A') ∧ OwnT a0 A' v (l.set j s) ∧ KeepV A v A' := by
  obtain ⟨A', s1, s2, s3⟩ := h.e.put (e := [.string s]) (by rw [strE_len]; exact hj) rfl rfl hp
  refine ⟨A', s1, ?_, s3⟩
  have e : (strE l).set j [.string s] = strE (l.set j s) := by simp [strE, List.map_set]
  rw [e] at s2
  exact s2.t
theorem OwnT.cut (h : OwnT a0 A v l) {i k : Nat} (hlk : i ≤ k) (hk : k ≤ l.length) (hb : ∀ c, l.length ≤ c → boundsA l.length c lo hi none = some (i, k, c)) :
    ∃ u, (∀ j ∈ blkOf u, j ∈ blkOf v) ∧ (∃ p c, u = .slice p (k - i) c) ∧ ∀ B m, OwnT a0 B v m → m.length = l.length → sSll B v lo hi none 1 = some (u, B) ∧ OwnT a0 B u ((m.take k).drop i) := by
  obtain ⟨u, u1, u2, u3⟩ := h.e.cut (l := i) (k := k) (lo := lo) (hi := hi) hlk (by rw [strE_len]; exact hk) (by rw [strE_len]; exact hb)
  refine ⟨u, u1, u2, fun B m hm hl => ?_⟩
  obtain ⟨e1, e2⟩ := u3 B (strE m) hm.e (by rw [strE_len, strE_len]; exact hl)
  refine ⟨e1, ?_⟩
  have e : ((strE m).take k).drop i = strE ((m.take k).drop i) := by simp [strE, List.map_take, List.map_drop]
  rw [e] at e2
  exact e2.t
theorem OwnT.clr (h : OwnT a0 A v l) {i : Nat} {u : Value} (hl : i ≤ l.length) (hu : sSll A v (some (.int .i64 (i : Int))) none none 1 = some (u, A)) :
    ∃ A', sClr A u [.string ⟨#[]⟩] = some (undef, A') ∧ OwnT a0 A' v (l.take i ++ List.replicate (l.length - i) ⟨#[]⟩) ∧ KeepV A v A' := by
  obtain ⟨A', s1, s2, s3⟩ := h.e.clr (l := i) (z := [.string ⟨#[]⟩]) (by rw [strE_len]; exact hl) rfl rfl hu
  refine ⟨A', s1, ?_, s3⟩
  have e : (strE l).take i ++ List.replicate ((strE l).length - i) [.string ⟨#[]⟩] = strE (l.take i ++ List.replicate (l.length - i) ⟨#[]⟩) := by simp [strE, List.map_take]
  rw [e] at s2
  exact s2.t
theorem OwnT.push (s : ByteArray) (hl : Le A0 A) (h : OwnT A0.length A v l) (hb : l.length ≤ 2 ^ 40) :
    sLit A [.string ⟨#[]⟩] 1 1 [(0, 1, .string s)] = some (.slice (some ⟨A.length, 0, none⟩) 1 1, A ++ [.row [.string s] .own 1 true]) ∧
    ∃ w' A', sApp (A ++ [.row [.string s] .own 1 true]) v (.slice (some ⟨A.length, 0, none⟩) 1 1) 1 16 = some (w', A') ∧ Le A0 A' ∧ OwnT A0.length A' w' (l ++ [s]) ∧ KeepV A v A' ∧ ∀ j ∈ blkOf w', j ∈ blkOf v ∨ A.length ≤ j := by
  obtain ⟨l1, w', A', e1, e2, e3, e4⟩ := app_str s hl h hb
  refine ⟨l1, w', A', e1, e2, e3, e4, fun j hj => ?_⟩
  rcases sApp_blk e1 j hj with h | h
  · exact .inl h
  · simp at h; exact .inr (by omega)
theorem OwnT.app {x : Value} (hl : Le A0 A) (h : OwnT A0.length A v l) (hx : SlT A x m) (hb : l.length + m.length ≤ 2 ^ 40) :
    ∃ w' A', sApp A v x 1 16 = some (w', A') ∧ Le A0 A' ∧ OwnT A0.length A' w' (l ++ m) ∧ KeepV A v A' := by
  obtain ⟨w', A', e1, e2, e3, e4⟩ := h.e.app (x := x) (fs := strE m) (bytes := 16) hl (by rw [strE_flat, strE_len]; exact hx) (strE_ok m) (by omega) (by rw [strE_len, strE_len]; omega) (by omega)
  refine ⟨w', A', e1, e2, ?_, e4⟩
  have e : strE l ++ strE m = strE (l ++ m) := by simp [strE]
  rw [e] at e3
  exact e3.t
end

section
variable {G : Nat} {P : Program} (hm : P.follows .mixedOrders = true) {a0 : Nat} {A : AH} {v : Value} {Q : Value → AH → Prop}
include hm
end
end Go.AS


namespace Go.AS
open Go
set_option linter.unusedVariables false
set_option linter.unusedSimpArgs false
section
variable {A B : AH} {v : Value} {sz : Nat} {es : List (List Value)}
/-- An element's fields, by one address. -/
theorem Sl.elfs (h : Sl A sz v es.length es.flatten) (he : ∀ e ∈ es, e.length = sz ∧ ones e = true) {j : Nat} {e : List Value} {x0 : Value} (hj : es[j]? = some e) (h0 : e[0]? = some x0) :
    ∃ p, (∀ (B : AH) (n : Int), n = (j : Int) → sIaddr B v (.int .i64 n) sz = some (p, B)) ∧ ∀ o x, e[o]? = some x → ∃ q, (∀ B, sFaddr B p o = some (q, B)) ∧ ∀ B, Le A B → sLoad1 B q = some (x, B) := by
  obtain ⟨p, q, p1, p2, p3⟩ := Sl.elfL h he hj h0
  refine ⟨p, p1, fun o x hx => ?_⟩
  obtain ⟨p', q', u1, u2, u3⟩ := Sl.elfL h he hj hx
  have e : p' = p := by
    have h1 := p1 A j rfl
    rw [u1 A j rfl] at h1
    injection h1 with h1
    injection h1 with h1 _
  subst e
  exact ⟨q', u2, u3⟩
theorem SlR.lenB {n : Nat} {cs : List Value} (h : SlR A sz v n cs) (B : AH) : sLens B false v = some (.int .i64 n, B) := by
  obtain ⟨h0, h⟩ := h
  rcases h with ⟨rfl, rfl⟩ | ⟨rfl, rfl⟩ | ⟨i, o, c, rc, st, bsz, ex, rfl, h2, h3, h4, h5, h6⟩ <;> simp [sLens]
theorem SlR.el (h : SlR A sz v es.length es.flatten) (he : ∀ e ∈ es, e.length = sz ∧ ones e = true) {j : Nat} {e : List Value} (hj : es[j]? = some e) :
    ∃ p, blkOf p = blkOf v ∧ (∀ (B : AH) (n : Int), n = (j : Int) → sIaddr B v (.int .i64 n) sz = some (p, B)) ∧ sLoadn A p sz = some (.agg e.toArray, A) ∧ ∀ B, (∀ k b, A[k]? = some b → k ∈ blkOf v → B[k]? = some b) → sLoadn B p sz = some (.agg e.toArray, B) := by
  obtain ⟨p, p1, p2⟩ := h.atn (lt_of_get hj)
  rw [flat_cut he hj] at p2
  refine ⟨p, iaddr_blk p1, ?_, p2, fun B hB => ?_⟩
  · rintro B n rfl; exact iaddr_any p1 B
  · have hb := iaddr_blk p1
    unfold sLoadn at p2 ⊢
    split at p2
    · rename_i i o
      rw [Option.bind_eq_some_iff] at p2
      obtain ⟨r, q1, q2⟩ := p2
      rw [Option.map_eq_some_iff] at q2
      obtain ⟨l, q2, q3⟩ := q2
      injection q3 with q3 q4
      obtain ⟨r1, r2, r3, r4⟩ := r
      obtain ⟨g1, g2⟩ := getRow_some q1
      have g3 := hB i _ g1 (by rw [← hb]; simp [blkOf])
      have : getRow B i = some (r1, r2, r3, r4) := by unfold getRow; simp only [g3, if_neg g2]
      simp only [this, Option.bind_some, q2, Option.map_some, q3]
    · cases p2
theorem SlR.elf (h : SlR A sz v es.length es.flatten) (he : ∀ e ∈ es, e.length = sz ∧ ones e = true) {j o : Nat} {e : List Value} {x : Value} (hj : es[j]? = some e) (ho : e[o]? = some x) :
    ∃ p q, blkOf q = blkOf v ∧ (∀ (B : AH) (n : Int), n = (j : Int) → sIaddr B v (.int .i64 n) sz = some (p, B)) ∧ (∀ B, sFaddr B p o = some (q, B)) ∧ sLoad1 A q = some (x, A) := by
  have hel := (he e (List.mem_of_getElem? hj)).1
  have hlt := lt_of_get ho
  obtain ⟨p, q, p1, p2, p3⟩ := h.field (v0 := x) (lt_of_get hj) (off := o) (by omega) (by rw [flat_at he hj (by omega)]; exact ho)
  refine ⟨p, q, ?_, ?_, faddr_any p2, p3⟩
  · rw [faddr_blk p2, iaddr_blk p1]
  · rintro B n rfl; exact iaddr_any p1 B
theorem SlR.elfL (h : SlR A sz v es.length es.flatten) (he : ∀ e ∈ es, e.length = sz ∧ ones e = true) {j o : Nat} {e : List Value} {x : Value} (hj : es[j]? = some e) (ho : e[o]? = some x) :
    ∃ p q, (∀ (B : AH) (n : Int), n = (j : Int) → sIaddr B v (.int .i64 n) sz = some (p, B)) ∧ (∀ B, sFaddr B p o = some (q, B)) ∧ ∀ B, Le A B → sLoad1 B q = some (x, B) := by
  obtain ⟨p, q, _, p1, p2, p3⟩ := h.elf he hj ho
  exact ⟨p, q, p1, p2, fun B hB => load1_keep p3 (fun k b hb _ => hB.get hb)⟩
/-- An element's fields, by one address. -/
theorem SlR.elfs (h : SlR A sz v es.length es.flatten) (he : ∀ e ∈ es, e.length = sz ∧ ones e = true) {j : Nat} {e : List Value} {x0 : Value} (hj : es[j]? = some e) (h0 : e[0]? = some x0) :
    ∃ p, (∀ (B : AH) (n : Int), n = (j : Int) → sIaddr B v (.int .i64 n) sz = some (p, B)) ∧ ∀ o x, e[o]? = some x → ∃ q, (∀ B, sFaddr B p o = some (q, B)) ∧ ∀ B, Le A B → sLoad1 B q = some (x, B) := by
  obtain ⟨p, q, p1, p2, p3⟩ := SlR.elfL h he hj h0
  refine ⟨p, p1, fun o x hx => ?_⟩
  obtain ⟨p', q', u1, u2, u3⟩ := SlR.elfL h he hj hx
  have e : p' = p := by
    have h1 := p1 A j rfl
    rw [u1 A j rfl] at h1
    injection h1 with h1
    injection h1 with h1 _
  subst e
  exact ⟨q', u2, u3⟩
end
end Go.AS


namespace Go.AS
open Go Go.Sort Go.RowKit Go.Proofs
set_option linter.unusedVariables false
set_option linter.unusedSimpArgs false

/-! The kit's contract of slices.Sort at texts, told of abstract states. -/
section
variable {G : Nat} {P : Program} {μ : Mu} {A A0 B : AH} {w : World} {v : Value} {a0 : Nat}
theorem grow_old (w : World) (os : Array Obj) {i : Nat} (h : i < w.heap.size) : (grow w os).heap[i]? = w.heap[i]? := by
  show (w.heap ++ os)[i]? = _
  rw [Array.getElem?_append, if_pos h]
/-- New blocks of which nothing is known. -/
theorem Rel.grown (h : Rel G μ A w) (os : Array Obj) : Rel G μ A (grow w os) ∧ Stp μ A w μ A (grow w os) := by
  have hs : (grow w os).heap.size = w.heap.size + os.size := by simp [grow]
  refine ⟨⟨h.len, h.glo, fun i e he => by have := h.lt i e he; omega, ?_, h.szs, ?_, ?_, h.apart⟩, ?_⟩
  · intro i cs st sz ex e hb he hst
    obtain ⟨rc, T, fr, g1, g2⟩ := h.row i cs st sz ex e hb he hst
    exact ⟨rc, T, fr, by rw [grow_old _ _ (h.lt i e he)]; exact g1, g2⟩
  · intro i s p e hb he
    rw [grow_old _ _ (h.lt i e he)]; exact h.sit i s p e hb he
  · intro i es e hb he
    rw [grow_old _ _ (h.lt i e he)]; exact h.mp i es e hb he
  · exact ⟨⟨[], by simp⟩, rfl, rfl, rfl, by omega, fun r hr _ => grow_old _ _ hr, fun i b e h1 h2 h3 _ => ⟨i, b, e, h1, h2, h3, rfl⟩⟩
def sortT (l : List ByteArray) : List ByteArray := ((l.map bl).mergeSort fun x y => decide (x ≤ y)).map fun b => ⟨b.toArray⟩
theorem sortT_len (l : List ByteArray) : (sortT l).length = l.length := by simp [sortT]
end
end Go.AS


namespace Go.AS
open Go Go.RowKit Go.Proofs
set_option linter.unusedVariables false
set_option linter.unusedSimpArgs false

/-! The kit's contract of strings.Join, told of abstract states. -/
section
variable {G : Nat} {P : Program} {μ : Mu} {A : AH} {w w' : World} {v : Value}
/-- New blocks, and draws, of which nothing is known. -/
theorem Rel.below (h : Rel G μ A w) (hb : Below w.heap.size w w') : Rel G μ A w' ∧ Stp μ A w μ A w' := by
  have hk : ∀ i, i < w.heap.size → w'.heap[i]? = w.heap[i]? := fun i hi => hb.block i hi
  refine ⟨⟨h.len, h.glo, fun i e he => Nat.lt_of_lt_of_le (h.lt i e he) hb.size, ?_, h.szs, ?_, ?_, h.apart⟩, ?_⟩
  · intro i cs st sz ex e hb he hst
    obtain ⟨rc, T, fr, g1, g2⟩ := h.row i cs st sz ex e hb he hst
    exact ⟨rc, T, fr, by rw [hk _ (h.lt i e he)]; exact g1, g2⟩
  · intro i s p e hb he
    rw [hk _ (h.lt i e he)]; exact h.sit i s p e hb he
  · intro i es e hb he
    rw [hk _ (h.lt i e he)]; exact h.mp i es e hb he
  · exact ⟨⟨[], by simp⟩, hb.os, hb.tape, hb.output, hb.size, fun r hr _ => hk r hr, fun i b e h1 h2 h3 _ => ⟨i, b, e, h1, h2, h3, rfl⟩⟩
end
end Go.AS


namespace Go.AS
open Go Go.RowKit Go.Maps Go.Sort Go.Proofs Go.WideElems Go.MapKept Go.WideShapes
set_option linter.unusedVariables false
set_option linter.unusedSimpArgs false

/-! The kit's contract of slices.Sorted over maps.Keys (keys: texts), told of abstract states. -/
section
variable {G : Nat} {P : Program} {μ : Mu} {A : AH} {w w' : World}
/-- A new block that holds the call's own texts. -/
theorem Rel.fresh (h : Rel G μ A w) (hb : Below w.heap.size w w') {g : Nat} {cur : Array Value} {T : TypeId} {cs : List Value} (hg : w.heap.size ≤ g) (hc : w'.heap[g]? = some (.cells cur T (0, 0))) (hf : cs.all flatV = true) (hcs : cur.toList.take cs.length = cs) (sz : Nat) :
    Rel G (μ ++ [⟨g, 0, cur.size, sz⟩]) (A ++ [.row cs .own sz false]) w' ∧ Stp μ A w (μ ++ [⟨g, 0, cur.size, sz⟩]) (A ++ [.row cs .own sz false]) w' := by
  obtain ⟨k, s⟩ := h.below hb
  have hlt : ∀ (i : Nat) (e : Ent), μ[i]? = some e → e.blk < g := fun i e he => Nat.lt_of_lt_of_le (h.lt i e he) hg
  have hlc : cs.length ≤ cur.size := by
    have := congrArg List.length hcs
    simp only [List.length_take, Array.length_toList] at this
    have h9 := Nat.min_le_right cs.length cur.size
    rw [this] at h9; exact h9
  refine ⟨⟨by simp [h.len], ?_, ?_, ?_, ?_, ?_, ?_, ?_⟩, ⟨⟨_, rfl⟩, s.os, s.tape, s.output, s.size, ?_, ?_⟩⟩
  · intro g' hg'
    obtain ⟨e, h1, h2, h3⟩ := h.glo g' hg'
    exact ⟨e, pre_get h1, h2, h3⟩
  · intro i e he
    rcases push_get he with ⟨_, he⟩ | ⟨_, rfl⟩
    · exact k.lt i e he
    · exact (Array.getElem?_eq_some_iff.1 hc).1
  · intro i cs' st sz' ex' e hb' he hst
    rcases push_get hb' with ⟨hi, hb'⟩ | ⟨hi, hb'⟩
    · rcases push_get he with ⟨_, he⟩ | ⟨hi', _⟩
      · obtain ⟨rc', T', fr', g1, g2, g3, g4⟩ := k.row i cs' st sz' ex' e hb' he hst
        exact ⟨rc', T', fr', g1, VR.cellMono g2, g3, g4⟩
      · rw [h.len] at hi'; omega
    · injection hb' with q1 q2 q3 q4
      subst q1 q2 q3 q4
      rcases push_get he with ⟨hi', he⟩ | ⟨_, rfl⟩
      · rw [h.len] at hi'; omega
      · refine ⟨cur, T, (0, 0), hc, ?_, hlc, fun _ => ⟨by simp, .inl rfl, fun hx => by cases hx⟩, fun hx => by cases hx⟩
        intro j v hj
        rw [List.all_eq_true] at hf
        have hv := hf v (List.mem_of_getElem? hj)
        refine ⟨flat_one hv, v, ?_, .flat hv⟩
        have hjl := lt_of_get hj
        rw [← hcs, List.getElem?_take_of_lt hjl, Array.getElem?_toList] at hj
        simpa using hj
  · intro i cs' st sz' ex' e hb' he
    rcases push_get hb' with ⟨hi, hb'⟩ | ⟨hi, hb'⟩
    · rcases push_get he with ⟨_, he⟩ | ⟨hi', _⟩
      · exact k.szs i cs' st sz' ex' e hb' he
      · rw [h.len] at hi'; omega
    · injection hb' with q1 q2 q3 q4
      subst q3
      rcases push_get he with ⟨hi', he⟩ | ⟨_, rfl⟩
      · rw [h.len] at hi'; omega
      · rfl
  · intro i s' p e hb' he
    rcases push_get hb' with ⟨hi, hb'⟩ | ⟨hi, hb'⟩
    · rcases push_get he with ⟨_, he⟩ | ⟨hi', _⟩
      · exact k.sit i s' p e hb' he
      · rw [h.len] at hi'; omega
    · cases hb'
  · intro i es e hb' he
    rcases push_get hb' with ⟨hi, hb'⟩ | ⟨hi, hb'⟩
    · rcases push_get he with ⟨_, he⟩ | ⟨hi', _⟩
      · obtain ⟨mes, clock, g1, g2, g3, g4⟩ := k.mp i es e hb' he
        exact ⟨mes, clock, g1, g2, fun j m kk v a b => let ⟨x, y, z⟩ := g3 j m kk v a b; ⟨x.mono, y.mono, z⟩, g4⟩
      · rw [h.len] at hi'; omega
    · cases hb'
  · intro i j b b' e e' hb1 hb2 ho ha hne he he'
    rcases push_get he with ⟨hi, he⟩ | ⟨hi, rfl⟩
    · rcases push_get he' with ⟨hj, he'⟩ | ⟨hj, rfl⟩
      · rcases push_get hb1 with ⟨_, hb1⟩ | ⟨hi2, _⟩
        · rcases push_get hb2 with ⟨_, hb2⟩ | ⟨hj2, _⟩
          · exact k.apart i j b b' e e' hb1 hb2 ho ha hne he he'
          · rw [h.len] at hj; omega
        · rw [h.len] at hi; omega
      · have := hlt i e he; simp only; omega
    · rcases push_get he' with ⟨hj, he'⟩ | ⟨hj, rfl⟩
      · have := hlt j e' he'; simp only; omega
      · omega
  · intro r hr hno
    exact s.keep r hr hno
  · intro i b e h1 h2 h3 h4
    rcases push_get h3 with ⟨hi, h3⟩ | ⟨hi, rfl⟩
    · rcases push_get h1 with ⟨_, h1⟩ | ⟨hi2, _⟩
      · exact s.ownb i b e h1 h2 h3 h4
      · rw [h.len] at hi; omega
    · simp only at h4; omega

/-- Any value reads. -/
def rAny : Value → Option (DataW Unit × List MemPlace) := fun _ => some (.nil, [])
/-- What a machine's function must do to give a map's keys, sorted. -/
def SortsKeys (P : Program) (f g : FuncId) (kt : TypeId) : Prop :=
  ∀ (Bm b nn : Nat) (D0 : DataW Unit) (w : World), Bm < w.heap.size → w.cell? ⟨Bm, 0, none⟩ = some (.map (some b)) → w.ownsMap P kt rAny b nn D0 → Maps.size D0 ≤ 2 ^ 40 →
    Calls P f #[.func (.func g) #[] #[.pointer (some ⟨Bm, 0, none⟩)]] w fun e w' => ∃ (v : Value) (ss : List (List UInt8)), e = .returned v ∧ ss.Perm (strKeys D0) ∧
      w'.ownsRow w.heap.size kt 1 v ss.length ((ss.mergeSort (fun x y => decide (x ≤ y))).map encStr) ∧ (v = .slice none 0 0 ↔ ss = []) ∧ Below w.heap.size w w'
theorem keyOf_str {kt : TypeId} (hk : P.underlying kt = some .string) {s : ByteArray} (hs : s.size ≤ maxLen) : keyOf P kt (.string s) = some (.string s.data.toList) := by
  unfold keyOf mapKey
  simp [hk, hs]
theorem skeys_spec {f g : FuncId} {kt : TypeId} (hf : SortsKeys P f g kt) (hkt : P.underlying kt = some .string) {k i : Nat} {es : List (Value × Value)} {names : List ByteArray} {st : St} {ex : Bool} {Q : Value → AH → Prop} (hk : A[k]? = some (.row [.map (some i)] st 0 ex)) (hst : st.mine = true) (hi : A[i]? = some (.mp es))
    (hm : mapOk .str es = true) (hn : es.map (·.1) = names.map .string) (hl : names.length ≤ 2 ^ 40) (hsz : ∀ s ∈ names, s.size ≤ maxLen)
    (hq : ∀ u B, Le A B → OwnS A.length B 1 u (sortT names).length ((sortT names).map .string) → Q u B) : ACalls G P f [.func (.func g) #[] #[.pointer (some ⟨k, 0, none⟩)]] Q A := by
  intro μ args' w hr h1 h2
  obtain ⟨v', rfl⟩ : ∃ v', args' = #[v'] := by
    have : args'.size = 1 := by simpa using h1
    exact ⟨args'[0], by apply Array.ext (by simpa using this); intro i hi1 hi2; simp at hi2; subst hi2; rfl⟩
  have hv := h2 0 _ v' rfl rfl
  obtain ⟨e, he, rfl⟩ : ∃ e : Ent, μ[k]? = some e ∧ v' = .func (.func g) #[] #[.pointer (some ⟨e.blk, e.off + 0, none⟩)] := by
    cases hv with
    | flat h => simp [flatV] at h
    | func hf q1 q2 q3 q4 =>
      rename_i a' b'
      have hb1 : b'.size = 1 := by simpa using q3.symm
      have h0 := q4 0 _ b'[0] rfl (by simp)
      obtain ⟨e, he, hp⟩ := h0.ptr_inv
      refine ⟨e, he, ?_⟩
      have e1 : a' = #[] := Array.eq_empty_of_size_eq_zero (by simpa using q1.symm)
      have e2 : b' = #[.pointer (some ⟨e.blk, e.off + 0, none⟩)] := by
        apply Array.ext (by simpa using hb1)
        intro j hj1 hj2
        have : j = 0 := by simp at hj2; omega
        subst this
        simpa using hp
      rw [e1, e2]
  obtain ⟨ei, hei⟩ := hr.mu_lt hi
  obtain ⟨rc, T, fr, g1, g2, _, g4, _⟩ := hr.row k _ st 0 ex e hk he (by rintro rfl; simp [St.mine] at hst)
  have he0 : e.off = 0 := (g4 hst).1.1 rfl
  obtain ⟨_, u, u1, u2⟩ := g2 0 (.map (some i)) rfl
  obtain ⟨ei', hei', rfl⟩ := u2.map_inv
  rw [hei] at hei'
  obtain rfl := Option.some.inj hei'
  obtain ⟨mes, clock, m1, m2⟩ := hr.mpOf hi hei
  have hkeys := m2.keys (mapOk_all hm)
  -- the machine's keys
  have hmk : mes.toList.map (·.key) = names.map .string := by
    rw [← hn]
    apply List.ext_getElem?
    intro j
    simp only [List.getElem?_map, Array.getElem?_toList]
    cases hj : mes[j]? with
    | none =>
      rw [Array.getElem?_eq_none_iff, m2.1] at hj
      rw [List.getElem?_eq_none hj]; rfl
    | some m =>
      obtain ⟨a, b, e1, e2, _⟩ := m2.get hj
      rw [e1]
      simp only [Option.map_some]
      congr 1
      exact keyOk_vr (mapOk_all hm _ (List.mem_of_getElem? e1)) e2
  have hnd : (names.map Value.string).Nodup := by
    rw [← hn]
    unfold mapOk at hm
    rw [Bool.and_eq_true, List.all_eq_true] at hm
    obtain ⟨h1, h2⟩ := hm
    clear hn hi m2 hkeys hmk
    induction es with
    | nil => simp
    | cons x r ih =>
      simp only [nodupK, Bool.and_eq_true, List.all_eq_true, Bool.not_eq_true'] at h2
      rw [List.map_cons, List.nodup_cons]
      refine ⟨fun hx => ?_, ih (fun y hy => h1 y (by simp [hy])) h2.2⟩
      rw [List.mem_map] at hx
      obtain ⟨y, hy, he⟩ := hx
      have := h2.1 y hy
      have h3 := (keq_iff (h1 y (by simp [hy])) (h1 x (by simp))).2 he
      rw [h3] at this; cases this
  have hlen : mes.size = names.length := by
    have := congrArg List.length hmk
    simpa using this
  have hstr : ∀ x ∈ mes.toList, ∃ s ∈ names, x.key = .string s := by
    intro x hx
    have : x.key ∈ names.map Value.string := by rw [← hmk]; exact List.mem_map.2 ⟨x, hx, rfl⟩
    rw [List.mem_map] at this
    obtain ⟨s, h3, h4⟩ := this
    exact ⟨s, h3, h4.symm⟩
  have hrd : ∀ x ∈ mes.toList, ∀ s, x.key = .string s → s ∈ names → rd P kt rAny x = some (.string s.data.toList, .nil) := by
    intro x _ s hx hs
    unfold Go.WideElems.rd rAny
    rw [hx, keyOf_str hkt (hsz s hs)]
    rfl
  have hF : Fit P kt rAny mes clock := by
    refine ⟨by have : maxLen = 9223372036854775807 := by decide
               omega, ⟨fun x hx => ?_, ?_, ?_⟩, fun x hx => ?_⟩
    · obtain ⟨j, hj⟩ := List.getElem?_of_mem hx
      obtain ⟨_, _, _, _, _, h⟩ := m2.get (j := j) (m := x) (by simpa using hj)
      exact h
    · rw [List.Nodup, List.pairwise_map]
      exact m2.2.2.imp (fun h => Nat.ne_of_lt h)
    · rw [hmk]; exact hnd
    · obtain ⟨s, h3, h4⟩ := hstr x hx
      exact ⟨_, hrd x hx s h4 h3⟩
  obtain ⟨D0, hD0⟩ : ∃ D0 : DataW Unit, D0 = .map ((mes.toList.map (rg P kt rAny)).foldr DataW.insert []) := ⟨_, rfl⟩
  have hD : (strKeys D0).Perm (names.map bl) := by
    rw [hD0]
    show (((mes.toList.map (rg P kt rAny)).foldr DataW.insert []).map fun p => strOf p.1).Perm _
    refine ((sorted_perm _).map _).trans ?_
    rw [List.map_map]
    have : mes.toList.map ((fun p => strOf p.1) ∘ rg P kt rAny) = names.map bl := by
      have e1 : names.map bl = (names.map Value.string).map fun v => match v with | .string s => bl s | _ => [] := by
        rw [List.map_map]; rfl
      rw [e1, ← hmk, List.map_map]
      apply List.map_congr_left
      intro x hx
      obtain ⟨s, h3, h4⟩ := hstr x hx
      simp only [Function.comp_apply, rg, hrd x hx s h4 h3, Option.getD_some, h4]
      rfl
    rw [this]
  have hsize : Maps.size D0 ≤ 2 ^ 40 := by
    have : Maps.size D0 = mes.size := by
      rw [hD0]
      show List.length _ = _
      rw [(sorted_perm _).length_eq]; simp
    omega
  simp only [he0, Nat.zero_add, Nat.add_zero] at u1 ⊢
  refine (hf (e.blk) ei.blk mes.size D0 w (hr.lt k e he) ?_ ⟨mes, clock, m1, hF, Nat.le_refl _, hD0⟩ hsize).mono ?_
  · simp [World.cell?, g1, u1]
  · rintro en w' ⟨v, ss, rfl, hp, hrow, hnil, hb⟩
    have hss : ss.mergeSort (fun x y => decide (x ≤ y)) = (names.map bl).mergeSort fun x y => decide (x ≤ y) := mergeSort_of_perm (hp.trans hD)
    have hcells : (ss.mergeSort (fun x y => decide (x ≤ y))).map encStr = (sortT names).map .string := by
      rw [hss]
      unfold sortT
      rw [List.map_map]
      apply List.map_congr_left
      intro x _
      rfl
    have hsl : ss.length = (sortT names).length := by
      have := congrArg List.length hcells
      simpa using this
    rw [hcells, hsl] at hrow
    obtain ⟨hr0, hrow⟩ := hrow
    rcases hrow with ⟨rfl, hz⟩ | ⟨gb, cap, cur, rfl, hbase, hg, r1, r2, r3, r4⟩
    · obtain ⟨k1, k2⟩ := hr.below hb
      refine ⟨_, _, μ, A, rfl, .flat rfl, k1, k2, hq _ _ (.refl _) ?_⟩
      exact ⟨by simp, .inl ⟨rfl, hz⟩⟩
    · have hcl : ((sortT names).map Value.string).length = (sortT names).length := by simp
      obtain ⟨k1, k2⟩ := hr.fresh hb hbase hg (cs := (sortT names).map .string) (by rw [List.all_eq_true]; intro x hx; rw [List.mem_map] at hx; obtain ⟨s, _, rfl⟩ := hx; rfl) (by rw [hcl]; simpa using r4) 1
      refine ⟨.slice (some ⟨A.length, 0, none⟩) (sortT names).length (sortT names).length, _, _, _, rfl, ?_, k1, k2, hq _ _ (.push _ _) ?_⟩
      · refine VR.slc (e := ⟨gb, 0, cur.size, 1⟩) ?_ (Nat.le_refl _) r1 (by simp; omega) (fun _ => by simp; omega)
        rw [← hr.len]; simp
      · exact ⟨by simp, .inr (.inr ⟨A.length, 0, _, _, false, rfl, Nat.le_refl _, Nat.le_refl _, get_last _ _, by simp, fun j _ => by rw [Nat.zero_add]⟩)⟩
end
end Go.AS


-- ALIAS Try G 0
-- Printed by gen.py (wip/tools): the abstract code of each function, and that it fits the program.
namespace Go.AS.C
open Go Go.Proofs
set_option maxRecDepth 100000
abbrev chantrylaw19_CounterLoads : FuncId := 4
abbrev counter_Empty : FuncId := 6
abbrev chantrylaw19_Few : FuncId := 7
abbrev chantrylaw19_awake : FuncId := 8
abbrev chantryref19_Add : FuncId := 9
abbrev counter_Counts_Add : FuncId := 10
abbrev chantryref19_Same : FuncId := 11
abbrev counter_Counts_Tell : FuncId := 12
abbrev counter_Counts_Rows : FuncId := 14
abbrev counter_Counts_Of : FuncId := 16
abbrev counter_Load : FuncId := 18
abbrev chantryref19_Load : FuncId := 19
abbrev chantryref14_Name : FuncId := 20
abbrev op_Name : FuncId := 21
abbrev slices_Sorted_string : FuncId := 22
abbrev maps_Keys_map_string_int_string_int : FuncId := 23
abbrev counter_odd : FuncId := 24
abbrev strings_IndexFunc : FuncId := 25
abbrev op_Name_1 : FuncId := 26
abbrev maps_Keys_map_string_int_string_int_1 : FuncId := 29
/-- chantry/chantrylaw19.CounterLoads -/
noncomputable def ic_chantrylaw19_CounterLoads : IC :=
  (.seq (.ops [
    ⟨(some 4), none, false, .mov (.const (.bool false))⟩]) (.seq (.seq (.ops [
    ⟨(some 14), none, false, .mov (.tmp 0)⟩,
    ⟨(some 15), none, false, .lens false (.tmp 14)⟩,
    ⟨(some 16), none, false, .bin .gtr (.tmp 15) (.const (.int .i64 60))⟩,
    ⟨(some 17), none, false, .mov (.tmp 16)⟩,
    ⟨(some 18), (some (17, false)), false, .mov (.tmp 1)⟩,
    ⟨(some 19), (some (17, false)), false, .call chantrylaw19_Few [(.tmp 18)]⟩,
    ⟨(some 20), (some (17, false)), false, .un .not (.tmp 19)⟩,
    ⟨(some 21), none, false, .pick (.tmp 17) (.const (.bool true)) (.tmp 20)⟩]) (.cond (.tmp 21) (.seq (.ops [
    ⟨(some 22), none, false, .call chantrylaw19_awake []⟩,
    ⟨(some 4), none, false, .mov (.tmp 22)⟩]) .ret) .skip)) (.seq (.seq (.ops [
    ⟨(some 5), none, false, .mov (.const (.int .i64 0))⟩]) (.block 0 (.loop (.seq (.seq (.ops [
    ⟨(some 23), none, false, .mov (.tmp 5)⟩,
    ⟨(some 24), none, false, .mov (.tmp 0)⟩,
    ⟨(some 25), none, false, .lens false (.tmp 24)⟩,
    ⟨(some 26), none, false, .bin .lss (.tmp 23) (.tmp 25)⟩]) (.cond (.tmp 26) .skip (.exit 0))) (.seq (.block 1 (.seq (.ops [
    ⟨(some 29), none, false, .mov (.tmp 0)⟩,
    ⟨(some 30), none, false, .mov (.tmp 5)⟩,
    ⟨(some 31), none, false, .iaddr (.tmp 29) (.tmp 30) 7⟩,
    ⟨(some 32), none, false, .faddr (.tmp 31) 1⟩,
    ⟨(some 33), none, false, .load1 (.tmp 32)⟩,
    ⟨(some 34), none, false, .lens true (.tmp 33)⟩,
    ⟨(some 35), none, false, .bin .gtr (.tmp 34) (.const (.int .i64 100))⟩,
    ⟨(some 36), none, false, .mov (.tmp 35)⟩,
    ⟨(some 37), (some (36, false)), false, .mov (.tmp 0)⟩,
    ⟨(some 38), (some (36, false)), false, .mov (.tmp 5)⟩,
    ⟨(some 39), (some (36, false)), false, .iaddr (.tmp 37) (.tmp 38) 7⟩,
    ⟨(some 40), (some (36, false)), false, .faddr (.tmp 39) 2⟩,
    ⟨(some 41), (some (36, false)), false, .load1 (.tmp 40)⟩,
    ⟨(some 42), (some (36, false)), false, .lens true (.tmp 41)⟩,
    ⟨(some 43), (some (36, false)), false, .bin .gtr (.tmp 42) (.const (.int .i64 100))⟩,
    ⟨(some 44), none, false, .pick (.tmp 36) (.const (.bool true)) (.tmp 43)⟩,
    ⟨(some 45), none, false, .mov (.tmp 44)⟩,
    ⟨(some 46), (some (45, false)), false, .mov (.tmp 0)⟩,
    ⟨(some 47), (some (45, false)), false, .mov (.tmp 5)⟩,
    ⟨(some 48), (some (45, false)), false, .iaddr (.tmp 46) (.tmp 47) 7⟩,
    ⟨(some 49), (some (45, false)), false, .faddr (.tmp 48) 4⟩,
    ⟨(some 50), (some (45, false)), false, .load1 (.tmp 49)⟩,
    ⟨(some 51), (some (45, false)), false, .lens true (.tmp 50)⟩,
    ⟨(some 52), (some (45, false)), false, .bin .gtr (.tmp 51) (.const (.int .i64 100))⟩,
    ⟨(some 53), none, false, .pick (.tmp 45) (.const (.bool true)) (.tmp 52)⟩,
    ⟨(some 54), none, false, .mov (.tmp 53)⟩,
    ⟨(some 55), (some (54, false)), false, .mov (.tmp 0)⟩,
    ⟨(some 56), (some (54, false)), false, .mov (.tmp 5)⟩,
    ⟨(some 57), (some (54, false)), false, .iaddr (.tmp 55) (.tmp 56) 7⟩,
    ⟨(some 58), (some (54, false)), false, .faddr (.tmp 57) 5⟩,
    ⟨(some 59), (some (54, false)), false, .load1 (.tmp 58)⟩,
    ⟨(some 60), (some (54, false)), false, .lens true (.tmp 59)⟩,
    ⟨(some 61), (some (54, false)), false, .bin .gtr (.tmp 60) (.const (.int .i64 100))⟩,
    ⟨(some 62), none, false, .pick (.tmp 54) (.const (.bool true)) (.tmp 61)⟩]) (.cond (.tmp 62) (.seq (.ops [
    ⟨(some 63), none, false, .call chantrylaw19_awake []⟩,
    ⟨(some 4), none, false, .mov (.tmp 63)⟩]) .ret) .skip))) (.ops [
    ⟨(some 27), none, false, .mov (.tmp 5)⟩,
    ⟨(some 28), none, false, .bin .add (.tmp 27) (.const (.int .i64 1))⟩,
    ⟨(some 5), none, false, .mov (.tmp 28)⟩])))))) (.seq (.ops [
    ⟨(some 65), none, false, .mov (.tmp 0)⟩,
    ⟨(some 66), none, false, .call counter_Load [(.tmp 65)]⟩,
    ⟨(some 64), none, false, .mov (.tmp 66)⟩,
    ⟨(some 67), none, false, .ext (.tmp 64) 0⟩,
    ⟨(some 68), none, false, .ext (.tmp 64) 1⟩,
    ⟨(some 6), none, false, .mov (.tmp 67)⟩,
    ⟨(some 7), none, false, .mov (.tmp 68)⟩]) (.seq (.ops [
    ⟨(some 70), none, false, .mov (.tmp 0)⟩,
    ⟨(some 71), none, false, .call chantryref19_Load [(.tmp 70)]⟩,
    ⟨(some 69), none, false, .mov (.tmp 71)⟩,
    ⟨(some 72), none, false, .ext (.tmp 69) 0⟩,
    ⟨(some 73), none, false, .ext (.tmp 69) 1⟩,
    ⟨(some 8), none, false, .new [.slice none 0 0]⟩,
    ⟨none, none, false, .store (.tmp 8) (.tmp 72) 1⟩,
    ⟨(some 9), none, false, .mov (.tmp 73)⟩]) (.seq (.seq (.ops [
    ⟨(some 74), none, false, .mov (.tmp 7)⟩,
    ⟨(some 75), none, false, .mov (.tmp 9)⟩,
    ⟨(some 76), none, false, .bin .neq (.tmp 74) (.tmp 75)⟩,
    ⟨(some 77), none, false, .mov (.tmp 76)⟩,
    ⟨(some 78), (some (77, false)), false, .mov (.tmp 6)⟩,
    ⟨(some 79), (some (77, false)), false, .isnil (.pointer 54) (.tmp 78) true⟩,
    ⟨(some 80), (some (77, false)), false, .mov (.tmp 9)⟩,
    ⟨(some 81), (some (77, false)), false, .bin .eql (.tmp 80) (.const (.int .i64 0))⟩,
    ⟨(some 82), (some (77, false)), false, .beq true (.tmp 79) (.tmp 81)⟩,
    ⟨(some 83), none, false, .pick (.tmp 77) (.const (.bool true)) (.tmp 82)⟩]) (.cond (.tmp 83) (.seq (.ops [
    ⟨(some 4), none, false, .mov (.const (.bool false))⟩]) .ret) .skip)) (.seq (.seq (.ops [
    ⟨(some 10), none, false, .mov (.const (.int .i64 0))⟩]) (.block 2 (.loop (.seq (.seq (.ops [
    ⟨(some 84), none, false, .mov (.tmp 10)⟩,
    ⟨(some 85), none, false, .mov (.tmp 1)⟩,
    ⟨(some 86), none, false, .lens false (.tmp 85)⟩,
    ⟨(some 87), none, false, .bin .lss (.tmp 84) (.tmp 86)⟩,
    ⟨(some 88), none, false, .mov (.tmp 87)⟩,
    ⟨(some 89), (some (88, true)), false, .mov (.tmp 6)⟩,
    ⟨(some 90), (some (88, true)), false, .isnil (.pointer 54) (.tmp 89) true⟩,
    ⟨(some 91), none, false, .pick (.tmp 88) (.tmp 90) (.const (.bool false))⟩]) (.cond (.tmp 91) .skip (.exit 2))) (.seq (.block 3 (.seq (.draw [
    ⟨(some 94), none, false, .mov (.tmp 6)⟩,
    ⟨(some 95), none, false, .mov (.tmp 1)⟩,
    ⟨(some 96), none, false, .mov (.tmp 10)⟩,
    ⟨(some 97), none, false, .iaddr (.tmp 95) (.tmp 96) 2⟩,
    ⟨(some 98), none, false, .faddr (.tmp 97) 0⟩,
    ⟨(some 99), none, false, .load1 (.tmp 98)⟩,
    ⟨(some 100), none, false, .mov (.tmp 1)⟩,
    ⟨(some 101), none, false, .mov (.tmp 10)⟩,
    ⟨(some 102), none, false, .iaddr (.tmp 100) (.tmp 101) 2⟩,
    ⟨(some 103), none, false, .faddr (.tmp 102) 1⟩,
    ⟨(some 104), none, false, .load1 (.tmp 103)⟩,
    ⟨(some 105), none, false, .call counter_Counts_Add [(.tmp 94), (.tmp 99), (.tmp 104)]⟩]) (.draw [
    ⟨(some 107), none, false, .loadn (.tmp 8) 1⟩,
    ⟨(some 108), none, false, .mov (.tmp 1)⟩,
    ⟨(some 109), none, false, .mov (.tmp 10)⟩,
    ⟨(some 110), none, false, .iaddr (.tmp 108) (.tmp 109) 2⟩,
    ⟨(some 111), none, false, .faddr (.tmp 110) 0⟩,
    ⟨(some 112), none, false, .load1 (.tmp 111)⟩,
    ⟨(some 113), none, false, .mov (.tmp 1)⟩,
    ⟨(some 114), none, false, .mov (.tmp 10)⟩,
    ⟨(some 115), none, false, .iaddr (.tmp 113) (.tmp 114) 2⟩,
    ⟨(some 116), none, false, .faddr (.tmp 115) 1⟩,
    ⟨(some 117), none, false, .load1 (.tmp 116)⟩,
    ⟨(some 118), none, false, .call chantryref19_Add [(.tmp 107), (.tmp 112), (.tmp 117)]⟩,
    ⟨(some 106), none, false, .mov (.tmp 118)⟩,
    ⟨(some 119), none, false, .ext (.tmp 106) 0⟩,
    ⟨(some 120), none, false, .ext (.tmp 106) 1⟩,
    ⟨none, none, false, .store (.tmp 8) (.tmp 119) 1⟩]))) (.ops [
    ⟨(some 92), none, false, .mov (.tmp 10)⟩,
    ⟨(some 93), none, false, .bin .add (.tmp 92) (.const (.int .i64 1))⟩,
    ⟨(some 10), none, false, .mov (.tmp 93)⟩])))))) (.seq (.ops [
    ⟨(some 11), none, false, .mov (.const (.pointer none))⟩]) (.seq (.ops [
    ⟨(some 122), none, false, .mov (.tmp 11)⟩,
    ⟨(some 123), none, false, .call counter_Counts_Of [(.tmp 122), (.const (.string ⟨#[97]⟩))]⟩,
    ⟨(some 121), none, false, .mov (.tmp 123)⟩,
    ⟨(some 124), none, false, .ext (.tmp 121) 0⟩,
    ⟨(some 125), none, false, .ext (.tmp 121) 1⟩,
    ⟨(some 12), none, false, .mov (.tmp 124)⟩,
    ⟨(some 13), none, false, .mov (.tmp 125)⟩]) (.seq (.draw [
    ⟨(some 126), none, false, .mov (.tmp 6)⟩,
    ⟨(some 128), none, false, .faddr (.tmp 8) 0⟩,
    ⟨(some 129), none, true, .load1 (.tmp 128)⟩,
    ⟨(some 127), none, true, .call counter_Counts_Tell [(.tmp 126)]⟩,
    ⟨(some 130), none, false, .call chantryref19_Same [(.tmp 127), (.tmp 129)]⟩,
    ⟨(some 131), none, false, .mov (.tmp 130)⟩,
    ⟨(some 132), (some (131, true)), false, .mov (.tmp 11)⟩,
    ⟨(some 133), (some (131, true)), false, .call counter_Counts_Add [(.tmp 132), (.const (.string ⟨#[97]⟩)), (.const (.int .i64 1))]⟩,
    ⟨(some 134), (some (131, true)), false, .bin .eql (.tmp 133) (.const (.int .i64 8))⟩,
    ⟨(some 135), none, false, .pick (.tmp 131) (.tmp 134) (.const (.bool false))⟩,
    ⟨(some 136), none, false, .mov (.tmp 135)⟩,
    ⟨(some 137), (some (136, true)), false, .mov (.tmp 13)⟩,
    ⟨(some 138), (some (136, true)), false, .un .not (.tmp 137)⟩,
    ⟨(some 139), none, false, .pick (.tmp 136) (.tmp 138) (.const (.bool false))⟩,
    ⟨(some 140), none, false, .mov (.tmp 139)⟩,
    ⟨(some 141), (some (140, true)), false, .mov (.tmp 11)⟩,
    ⟨(some 142), (some (140, true)), false, .call counter_Counts_Tell [(.tmp 141)]⟩,
    ⟨(some 143), (some (140, true)), false, .lens false (.tmp 142)⟩,
    ⟨(some 144), (some (140, true)), false, .bin .eql (.tmp 143) (.const (.int .i64 0))⟩,
    ⟨(some 145), none, false, .pick (.tmp 140) (.tmp 144) (.const (.bool false))⟩,
    ⟨(some 146), none, false, .mov (.tmp 145)⟩,
    ⟨(some 147), (some (146, true)), false, .mov (.tmp 11)⟩,
    ⟨(some 148), (some (146, true)), false, .call counter_Counts_Rows [(.tmp 147)]⟩,
    ⟨(some 149), (some (146, true)), false, .lens false (.tmp 148)⟩,
    ⟨(some 150), (some (146, true)), false, .bin .eql (.tmp 149) (.const (.int .i64 0))⟩,
    ⟨(some 151), none, false, .pick (.tmp 146) (.tmp 150) (.const (.bool false))⟩,
    ⟨(some 152), none, false, .mov (.tmp 151)⟩,
    ⟨(some 153), (some (152, true)), false, .call chantrylaw19_awake []⟩,
    ⟨(some 154), none, false, .pick (.tmp 152) (.tmp 153) (.const (.bool false))⟩,
    ⟨(some 4), none, false, .mov (.tmp 154)⟩]) .ret))))))))))
theorem fits_chantrylaw19_CounterLoads : Fits Try.prog 0 chantrylaw19_CounterLoads ic_chantrylaw19_CounterLoads [.tmp 4] 2 :=
  ⟨Try.f4, Try.func4, by decide, by kernel_rfl, by kernel_rfl⟩

/-- chantry/counter.Empty -/
noncomputable def ic_counter_Empty : IC :=
  (.seq (.ops [
    ⟨(some 0), none, false, .mov (.const (.pointer none))⟩]) (.seq (.ops [
    ⟨(some 1), none, false, .mkm⟩,
    ⟨(some 2), none, false, .build [.map none] [(0, 1, (.tmp 1))]⟩,
    ⟨(some 3), none, false, .box (.tmp 2)⟩,
    ⟨(some 0), none, false, .mov (.tmp 3)⟩]) .ret))
theorem fits_counter_Empty : Fits Try.prog 0 counter_Empty ic_counter_Empty [.tmp 0] 0 :=
  ⟨Try.f6, Try.func6, by decide, by kernel_rfl, by kernel_rfl⟩

/-- chantry/chantrylaw19.Few -/
noncomputable def ic_chantrylaw19_Few : IC :=
  (.seq (.ops [
    ⟨(some 2), none, false, .mov (.const (.bool false))⟩]) (.seq (.seq (.ops [
    ⟨(some 4), none, false, .mov (.tmp 0)⟩,
    ⟨(some 5), none, false, .lens false (.tmp 4)⟩,
    ⟨(some 6), none, false, .bin .gtr (.tmp 5) (.const (.int .i64 60))⟩]) (.cond (.tmp 6) (.seq (.ops [
    ⟨(some 2), none, false, .mov (.const (.bool false))⟩]) .ret) .skip)) (.seq (.seq (.ops [
    ⟨(some 3), none, false, .mov (.const (.int .i64 0))⟩]) (.block 0 (.loop (.seq (.seq (.ops [
    ⟨(some 7), none, false, .mov (.tmp 3)⟩,
    ⟨(some 8), none, false, .mov (.tmp 0)⟩,
    ⟨(some 9), none, false, .lens false (.tmp 8)⟩,
    ⟨(some 10), none, false, .bin .lss (.tmp 7) (.tmp 9)⟩]) (.cond (.tmp 10) .skip (.exit 0))) (.seq (.block 1 (.seq (.ops [
    ⟨(some 13), none, false, .mov (.tmp 0)⟩,
    ⟨(some 14), none, false, .mov (.tmp 3)⟩,
    ⟨(some 15), none, false, .iaddr (.tmp 13) (.tmp 14) 2⟩,
    ⟨(some 16), none, false, .faddr (.tmp 15) 0⟩,
    ⟨(some 17), none, false, .load1 (.tmp 16)⟩,
    ⟨(some 18), none, false, .lens true (.tmp 17)⟩,
    ⟨(some 19), none, false, .bin .gtr (.tmp 18) (.const (.int .i64 100))⟩]) (.cond (.tmp 19) (.seq (.ops [
    ⟨(some 2), none, false, .mov (.const (.bool false))⟩]) .ret) .skip))) (.ops [
    ⟨(some 11), none, false, .mov (.tmp 3)⟩,
    ⟨(some 12), none, false, .bin .add (.tmp 11) (.const (.int .i64 1))⟩,
    ⟨(some 3), none, false, .mov (.tmp 12)⟩])))))) (.seq (.ops [
    ⟨(some 2), none, false, .mov (.const (.bool true))⟩]) .ret))))
theorem fits_chantrylaw19_Few : Fits Try.prog 0 chantrylaw19_Few ic_chantrylaw19_Few [.tmp 2] 1 :=
  ⟨Try.f7, Try.func7, by decide, by kernel_rfl, by kernel_rfl⟩

/-- chantry/chantrylaw19.awake -/
noncomputable def ic_chantrylaw19_awake : IC :=
  (.seq (.ops [
    ⟨(some 0), none, false, .mov (.const (.bool false))⟩]) (.seq (.ops [
    ⟨(some 13), none, false, .call counter_Empty []⟩,
    ⟨(some 1), none, false, .mov (.tmp 13)⟩]) (.seq (.seq (.ops [
    ⟨(some 14), none, false, .mov (.tmp 1)⟩,
    ⟨(some 15), none, false, .isnil (.pointer 54) (.tmp 14) false⟩]) (.cond (.tmp 15) (.seq (.ops [
    ⟨(some 0), none, false, .mov (.const (.bool false))⟩]) .ret) .skip)) (.seq (.ops [
    ⟨(some 16), none, false, .mov (.tmp 1)⟩,
    ⟨(some 17), none, false, .call counter_Counts_Add [(.tmp 16), (.const (.string ⟨#[97]⟩)), (.const (.int .i64 3))]⟩,
    ⟨(some 18), none, false, .mov (.tmp 1)⟩,
    ⟨(some 19), none, false, .call counter_Counts_Add [(.tmp 18), (.const (.string ⟨#[97]⟩)), (.const (.int .i64 (-1)))]⟩,
    ⟨(some 20), none, false, .mov (.tmp 1)⟩,
    ⟨(some 21), none, false, .call counter_Counts_Add [(.tmp 20), (.const (.string ⟨#[65]⟩)), (.const (.int .i64 1))]⟩,
    ⟨(some 2), none, false, .mov (.tmp 17)⟩,
    ⟨(some 3), none, false, .mov (.tmp 19)⟩,
    ⟨(some 4), none, false, .mov (.tmp 21)⟩]) (.seq (.ops [
    ⟨(some 23), none, false, .mov (.tmp 1)⟩,
    ⟨(some 24), none, false, .call counter_Counts_Of [(.tmp 23), (.const (.string ⟨#[97]⟩))]⟩,
    ⟨(some 22), none, false, .mov (.tmp 24)⟩,
    ⟨(some 25), none, false, .ext (.tmp 22) 0⟩,
    ⟨(some 26), none, false, .ext (.tmp 22) 1⟩,
    ⟨(some 5), none, false, .mov (.tmp 25)⟩,
    ⟨(some 6), none, false, .mov (.tmp 26)⟩]) (.seq (.ops [
    ⟨(some 28), none, false, .mov (.tmp 1)⟩,
    ⟨(some 29), none, false, .call counter_Counts_Of [(.tmp 28), (.const (.string ⟨#[98]⟩))]⟩,
    ⟨(some 27), none, false, .mov (.tmp 29)⟩,
    ⟨(some 30), none, false, .ext (.tmp 27) 0⟩,
    ⟨(some 31), none, false, .ext (.tmp 27) 1⟩,
    ⟨(some 7), none, false, .mov (.tmp 30)⟩,
    ⟨(some 8), none, false, .mov (.tmp 31)⟩]) (.seq (.ops [
    ⟨(some 33), none, false, .mov (.tmp 1)⟩,
    ⟨(some 34), none, false, .call counter_Counts_Rows [(.tmp 33)]⟩,
    ⟨(some 35), none, false, .call counter_Load [(.tmp 34)]⟩,
    ⟨(some 32), none, false, .mov (.tmp 35)⟩,
    ⟨(some 36), none, false, .ext (.tmp 32) 0⟩,
    ⟨(some 37), none, false, .ext (.tmp 32) 1⟩,
    ⟨(some 9), none, false, .mov (.tmp 36)⟩,
    ⟨(some 10), none, false, .mov (.tmp 37)⟩]) (.seq (.ops [
    ⟨(some 39), none, false, .build [.int .i64 0, .string ⟨#[]⟩, .string ⟨#[]⟩, .int .i64 0, .string ⟨#[]⟩, .string ⟨#[]⟩, .bool false] [(0, 1, (.const (.int .i64 2))), (1, 1, (.const (.string ⟨#[97]⟩)))]⟩,
    ⟨(some 40), none, false, .lit [.int .i64 0, .string ⟨#[]⟩, .string ⟨#[]⟩, .int .i64 0, .string ⟨#[]⟩, .string ⟨#[]⟩, .bool false] 7 1 [(0, 7, (.tmp 39))]⟩,
    ⟨(some 41), none, false, .call counter_Load [(.tmp 40)]⟩,
    ⟨(some 38), none, false, .mov (.tmp 41)⟩,
    ⟨(some 42), none, false, .ext (.tmp 38) 0⟩,
    ⟨(some 43), none, false, .ext (.tmp 38) 1⟩,
    ⟨(some 11), none, false, .mov (.tmp 42)⟩,
    ⟨(some 12), none, false, .mov (.tmp 43)⟩]) (.seq (.ops [
    ⟨(some 44), none, false, .mov (.tmp 2)⟩,
    ⟨(some 45), none, false, .bin .eql (.tmp 44) (.const (.int .i64 0))⟩,
    ⟨(some 46), none, false, .mov (.tmp 45)⟩,
    ⟨(some 47), (some (46, true)), false, .mov (.tmp 3)⟩,
    ⟨(some 48), (some (46, true)), false, .bin .eql (.tmp 47) (.const (.int .i64 0))⟩,
    ⟨(some 49), none, false, .pick (.tmp 46) (.tmp 48) (.const (.bool false))⟩,
    ⟨(some 50), none, false, .mov (.tmp 49)⟩,
    ⟨(some 51), (some (50, true)), false, .mov (.tmp 4)⟩,
    ⟨(some 52), (some (50, true)), false, .bin .eql (.tmp 51) (.const (.int .i64 1))⟩,
    ⟨(some 53), none, false, .pick (.tmp 50) (.tmp 52) (.const (.bool false))⟩,
    ⟨(some 54), none, false, .mov (.tmp 53)⟩,
    ⟨(some 55), (some (54, true)), false, .mov (.tmp 5)⟩,
    ⟨(some 56), (some (54, true)), false, .bin .eql (.tmp 55) (.const (.int .i64 2))⟩,
    ⟨(some 57), none, false, .pick (.tmp 54) (.tmp 56) (.const (.bool false))⟩,
    ⟨(some 58), none, false, .mov (.tmp 57)⟩,
    ⟨(some 59), (some (58, true)), false, .mov (.tmp 6)⟩,
    ⟨(some 60), none, false, .pick (.tmp 58) (.tmp 59) (.const (.bool false))⟩,
    ⟨(some 61), none, false, .mov (.tmp 60)⟩,
    ⟨(some 62), (some (61, true)), false, .mov (.tmp 8)⟩,
    ⟨(some 63), (some (61, true)), false, .un .not (.tmp 62)⟩,
    ⟨(some 64), none, false, .pick (.tmp 61) (.tmp 63) (.const (.bool false))⟩,
    ⟨(some 65), none, false, .mov (.tmp 64)⟩,
    ⟨(some 66), (some (65, true)), false, .mov (.tmp 1)⟩,
    ⟨(some 67), (some (65, true)), false, .call counter_Counts_Tell [(.tmp 66)]⟩,
    ⟨(some 68), (some (65, true)), false, .build [.string ⟨#[]⟩, .int .i64 0] [(0, 1, (.const (.string ⟨#[97]⟩))), (1, 1, (.const (.int .i64 2)))]⟩,
    ⟨(some 69), (some (65, true)), false, .lit [.string ⟨#[]⟩, .int .i64 0] 2 1 [(0, 2, (.tmp 68))]⟩,
    ⟨(some 70), (some (65, true)), false, .call chantryref19_Same [(.tmp 67), (.tmp 69)]⟩,
    ⟨(some 71), none, false, .pick (.tmp 65) (.tmp 70) (.const (.bool false))⟩,
    ⟨(some 72), none, false, .mov (.tmp 71)⟩,
    ⟨(some 73), (some (72, true)), false, .mov (.tmp 10)⟩,
    ⟨(some 74), (some (72, true)), false, .bin .eql (.tmp 73) (.const (.int .i64 0))⟩,
    ⟨(some 75), none, false, .pick (.tmp 72) (.tmp 74) (.const (.bool false))⟩,
    ⟨(some 76), none, false, .mov (.tmp 75)⟩,
    ⟨(some 77), (some (76, true)), false, .mov (.tmp 9)⟩,
    ⟨(some 78), (some (76, true)), false, .isnil (.pointer 54) (.tmp 77) true⟩,
    ⟨(some 79), none, false, .pick (.tmp 76) (.tmp 78) (.const (.bool false))⟩,
    ⟨(some 80), none, false, .mov (.tmp 79)⟩,
    ⟨(some 81), (some (80, true)), false, .mov (.tmp 9)⟩,
    ⟨(some 82), (some (80, true)), false, .call counter_Counts_Tell [(.tmp 81)]⟩,
    ⟨(some 83), (some (80, true)), false, .mov (.tmp 1)⟩,
    ⟨(some 84), (some (80, true)), false, .call counter_Counts_Tell [(.tmp 83)]⟩,
    ⟨(some 85), (some (80, true)), false, .call chantryref19_Same [(.tmp 82), (.tmp 84)]⟩,
    ⟨(some 86), none, false, .pick (.tmp 80) (.tmp 85) (.const (.bool false))⟩,
    ⟨(some 87), none, false, .mov (.tmp 86)⟩,
    ⟨(some 88), (some (87, true)), false, .mov (.tmp 12)⟩,
    ⟨(some 89), (some (87, true)), false, .bin .eql (.tmp 88) (.const (.int .i64 5))⟩,
    ⟨(some 90), none, false, .pick (.tmp 87) (.tmp 89) (.const (.bool false))⟩,
    ⟨(some 0), none, false, .mov (.tmp 90)⟩]) .ret)))))))))
theorem fits_chantrylaw19_awake : Fits Try.prog 0 chantrylaw19_awake ic_chantrylaw19_awake [.tmp 0] 0 :=
  ⟨Try.f8, Try.func8, by decide, by kernel_rfl, by kernel_rfl⟩

/-- chantry/chantryref19.Add -/
noncomputable def ic_chantryref19_Add : IC :=
  (.seq (.ops [
    ⟨(some 3), none, false, .box (.tmp 0)⟩,
    ⟨(some 6), none, false, .new [.slice none 0 0]⟩,
    ⟨(some 7), none, false, .mov (.const (.int .i64 0))⟩]) (.seq (.seq (.ops [
    ⟨(some 10), none, false, .mov (.tmp 1)⟩,
    ⟨(some 11), none, false, .call chantryref14_Name [(.tmp 10)]⟩,
    ⟨(some 12), none, false, .un .not (.tmp 11)⟩,
    ⟨(some 13), none, false, .mov (.tmp 12)⟩,
    ⟨(some 14), (some (13, false)), false, .mov (.tmp 2)⟩,
    ⟨(some 15), (some (13, false)), false, .bin .lss (.tmp 14) (.const (.int .i64 (-2147483647)))⟩,
    ⟨(some 16), none, false, .pick (.tmp 13) (.const (.bool true)) (.tmp 15)⟩,
    ⟨(some 17), none, false, .mov (.tmp 16)⟩,
    ⟨(some 18), (some (17, false)), false, .mov (.tmp 2)⟩,
    ⟨(some 19), (some (17, false)), false, .bin .gtr (.tmp 18) (.const (.int .i64 2147483647))⟩,
    ⟨(some 20), none, false, .pick (.tmp 17) (.const (.bool true)) (.tmp 19)⟩]) (.cond (.tmp 20) (.seq (.ops [
    ⟨(some 21), none, false, .loadn (.tmp 3) 1⟩,
    ⟨none, none, false, .store (.tmp 6) (.tmp 21) 1⟩,
    ⟨(some 7), none, false, .mov (.const (.int .i64 1))⟩]) .ret) .skip)) (.seq (.ops [
    ⟨(some 8), none, false, .mov (.const (.int .i64 0))⟩]) (.seq (.block 0 (.loop (.seq (.seq (.ops [
    ⟨(some 22), none, false, .mov (.tmp 8)⟩,
    ⟨(some 23), none, false, .faddr (.tmp 3) 0⟩,
    ⟨(some 24), none, false, .load1 (.tmp 23)⟩,
    ⟨(some 25), none, false, .lens false (.tmp 24)⟩,
    ⟨(some 26), none, false, .bin .lss (.tmp 22) (.tmp 25)⟩,
    ⟨(some 27), none, false, .mov (.tmp 26)⟩,
    ⟨(some 28), (some (27, true)), false, .faddr (.tmp 3) 0⟩,
    ⟨(some 29), (some (27, true)), false, .load1 (.tmp 28)⟩,
    ⟨(some 30), (some (27, true)), false, .mov (.tmp 8)⟩,
    ⟨(some 31), (some (27, true)), false, .iaddr (.tmp 29) (.tmp 30) 2⟩,
    ⟨(some 32), (some (27, true)), false, .faddr (.tmp 31) 0⟩,
    ⟨(some 33), (some (27, true)), false, .load1 (.tmp 32)⟩,
    ⟨(some 34), (some (27, true)), false, .mov (.tmp 1)⟩,
    ⟨(some 35), (some (27, true)), false, .bin .lss (.tmp 33) (.tmp 34)⟩,
    ⟨(some 36), none, false, .pick (.tmp 27) (.tmp 35) (.const (.bool false))⟩]) (.cond (.tmp 36) .skip (.exit 0))) (.block 1 (.ops [
    ⟨(some 37), none, false, .mov (.tmp 8)⟩,
    ⟨(some 38), none, false, .bin .add (.tmp 37) (.const (.int .i64 1))⟩,
    ⟨(some 8), none, false, .mov (.tmp 38)⟩]))))) (.seq (.ops [
    ⟨(some 39), none, false, .lit [.string ⟨#[]⟩, .int .i64 0] 2 0 []⟩,
    ⟨(some 40), none, false, .faddr (.tmp 3) 0⟩,
    ⟨(some 41), none, false, .load1 (.tmp 40)⟩,
    ⟨(some 42), none, false, .mov (.tmp 8)⟩,
    ⟨(some 43), none, false, .sll (.tmp 41) none (some (.tmp 42)) none 2⟩,
    ⟨(some 44), none, false, .app (.tmp 39) (.tmp 43) 2 24⟩,
    ⟨(some 9), none, false, .mov (.tmp 44)⟩]) (.seq (.seq (.ops [
    ⟨(some 45), none, false, .mov (.tmp 8)⟩,
    ⟨(some 46), none, false, .faddr (.tmp 3) 0⟩,
    ⟨(some 47), none, false, .load1 (.tmp 46)⟩,
    ⟨(some 48), none, false, .lens false (.tmp 47)⟩,
    ⟨(some 49), none, false, .bin .lss (.tmp 45) (.tmp 48)⟩,
    ⟨(some 50), none, false, .mov (.tmp 49)⟩,
    ⟨(some 51), (some (50, true)), false, .faddr (.tmp 3) 0⟩,
    ⟨(some 52), (some (50, true)), false, .load1 (.tmp 51)⟩,
    ⟨(some 53), (some (50, true)), false, .mov (.tmp 8)⟩,
    ⟨(some 54), (some (50, true)), false, .iaddr (.tmp 52) (.tmp 53) 2⟩,
    ⟨(some 55), (some (50, true)), false, .faddr (.tmp 54) 0⟩,
    ⟨(some 56), (some (50, true)), false, .load1 (.tmp 55)⟩,
    ⟨(some 57), (some (50, true)), false, .mov (.tmp 1)⟩,
    ⟨(some 58), (some (50, true)), false, .bin .eql (.tmp 56) (.tmp 57)⟩,
    ⟨(some 59), none, false, .pick (.tmp 50) (.tmp 58) (.const (.bool false))⟩]) (.cond (.tmp 59) (.seq (.ops [
    ⟨(some 60), none, false, .mov (.tmp 9)⟩,
    ⟨(some 61), none, false, .mov (.tmp 1)⟩,
    ⟨(some 62), none, false, .faddr (.tmp 3) 0⟩,
    ⟨(some 63), none, false, .load1 (.tmp 62)⟩,
    ⟨(some 64), none, false, .mov (.tmp 8)⟩,
    ⟨(some 65), none, false, .iaddr (.tmp 63) (.tmp 64) 2⟩,
    ⟨(some 66), none, false, .faddr (.tmp 65) 1⟩,
    ⟨(some 67), none, false, .load1 (.tmp 66)⟩,
    ⟨(some 68), none, false, .mov (.tmp 2)⟩,
    ⟨(some 69), none, false, .bin .add (.tmp 67) (.tmp 68)⟩,
    ⟨(some 70), none, false, .build [.string ⟨#[]⟩, .int .i64 0] [(0, 1, (.tmp 61)), (1, 1, (.tmp 69))]⟩,
    ⟨(some 71), none, false, .lit [.string ⟨#[]⟩, .int .i64 0] 2 1 [(0, 2, (.tmp 70))]⟩,
    ⟨(some 72), none, false, .app (.tmp 60) (.tmp 71) 2 24⟩,
    ⟨(some 9), none, false, .mov (.tmp 72)⟩]) (.seq (.ops [
    ⟨(some 73), none, false, .mov (.tmp 9)⟩,
    ⟨(some 74), none, false, .faddr (.tmp 3) 0⟩,
    ⟨(some 75), none, false, .load1 (.tmp 74)⟩,
    ⟨(some 76), none, false, .mov (.tmp 8)⟩,
    ⟨(some 77), none, false, .bin .add (.tmp 76) (.const (.int .i64 1))⟩,
    ⟨(some 78), none, false, .sll (.tmp 75) (some (.tmp 77)) none none 2⟩,
    ⟨(some 79), none, false, .app (.tmp 73) (.tmp 78) 2 24⟩,
    ⟨(some 80), none, false, .build [.slice none 0 0] [(0, 1, (.tmp 79))]⟩,
    ⟨none, none, false, .store (.tmp 6) (.tmp 80) 1⟩,
    ⟨(some 7), none, false, .mov (.const (.int .i64 0))⟩]) .ret)) .skip)) (.seq (.ops [
    ⟨(some 81), none, false, .mov (.tmp 9)⟩,
    ⟨(some 82), none, false, .mov (.tmp 1)⟩,
    ⟨(some 83), none, false, .mov (.tmp 2)⟩,
    ⟨(some 84), none, false, .build [.string ⟨#[]⟩, .int .i64 0] [(0, 1, (.tmp 82)), (1, 1, (.tmp 83))]⟩,
    ⟨(some 85), none, false, .lit [.string ⟨#[]⟩, .int .i64 0] 2 1 [(0, 2, (.tmp 84))]⟩,
    ⟨(some 86), none, false, .app (.tmp 81) (.tmp 85) 2 24⟩,
    ⟨(some 9), none, false, .mov (.tmp 86)⟩]) (.seq (.ops [
    ⟨(some 87), none, false, .mov (.tmp 9)⟩,
    ⟨(some 88), none, false, .faddr (.tmp 3) 0⟩,
    ⟨(some 89), none, false, .load1 (.tmp 88)⟩,
    ⟨(some 90), none, false, .mov (.tmp 8)⟩,
    ⟨(some 91), none, false, .sll (.tmp 89) (some (.tmp 90)) none none 2⟩,
    ⟨(some 92), none, false, .app (.tmp 87) (.tmp 91) 2 24⟩,
    ⟨(some 93), none, false, .build [.slice none 0 0] [(0, 1, (.tmp 92))]⟩,
    ⟨none, none, false, .store (.tmp 6) (.tmp 93) 1⟩,
    ⟨(some 7), none, false, .mov (.const (.int .i64 0))⟩]) .ret))))))))
theorem fits_chantryref19_Add : Fits Try.prog 0 chantryref19_Add ic_chantryref19_Add [.many 6 1, .tmp 7] 3 :=
  ⟨Try.f9, Try.func9, by decide, by kernel_rfl, by kernel_rfl⟩

/-- (*chantry/counter.Counts).Add -/
noncomputable def ic_counter_Counts_Add : IC :=
  (.seq (.ops [
    ⟨(some 6), none, false, .mov (.const (.int .i64 0))⟩]) (.seq (.block 0 (.seq (.ops [
    ⟨(some 8), none, false, .mov (.tmp 0)⟩,
    ⟨(some 9), none, false, .isnil (.pointer 54) (.tmp 8) false⟩,
    ⟨(some 7), none, false, .mov (.tmp 9)⟩]) (.cond (.tmp 7) (.seq (.ops [
    ⟨(some 6), none, false, .mov (.const (.int .i64 8))⟩]) .ret) (.seq (.ops [
    ⟨(some 11), none, false, .mov (.tmp 1)⟩,
    ⟨(some 12), none, false, .call op_Name [(.tmp 11)]⟩,
    ⟨(some 13), none, false, .un .not (.tmp 12)⟩,
    ⟨(some 14), none, false, .mov (.tmp 13)⟩,
    ⟨(some 15), (some (14, false)), false, .mov (.tmp 2)⟩,
    ⟨(some 16), (some (14, false)), false, .bin .lss (.tmp 15) (.const (.int .i64 (-2147483647)))⟩,
    ⟨(some 17), none, false, .pick (.tmp 14) (.const (.bool true)) (.tmp 16)⟩,
    ⟨(some 18), none, false, .mov (.tmp 17)⟩,
    ⟨(some 19), (some (18, false)), false, .mov (.tmp 2)⟩,
    ⟨(some 20), (some (18, false)), false, .bin .gtr (.tmp 19) (.const (.int .i64 2147483647))⟩,
    ⟨(some 21), none, false, .pick (.tmp 18) (.const (.bool true)) (.tmp 20)⟩,
    ⟨(some 10), none, false, .mov (.tmp 21)⟩]) (.cond (.tmp 10) (.seq (.ops [
    ⟨(some 6), none, false, .mov (.const (.int .i64 1))⟩]) .ret) .skip))))) (.seq (.ops [
    ⟨(some 22), none, false, .mov (.tmp 0)⟩,
    ⟨(some 23), none, false, .nilc (.tmp 22)⟩,
    ⟨(some 24), none, false, .faddr (.tmp 23) 0⟩,
    ⟨(some 25), none, false, .load1 (.tmp 24)⟩,
    ⟨(some 26), none, false, .mov (.tmp 1)⟩,
    ⟨(some 27), none, false, .mlook .str (.int .i64 0) false (.tmp 25) (.tmp 26)⟩,
    ⟨(some 28), none, false, .mov (.tmp 2)⟩,
    ⟨(some 29), none, false, .bin .add (.tmp 27) (.tmp 28)⟩,
    ⟨none, none, false, .mupd .str (.tmp 25) (.tmp 26) (.tmp 29)⟩]) (.seq (.ops [
    ⟨(some 6), none, false, .mov (.const (.int .i64 0))⟩]) .ret))))
theorem fits_counter_Counts_Add : Fits Try.prog 0 counter_Counts_Add ic_counter_Counts_Add [.tmp 6] 3 :=
  ⟨Try.f10, Try.func10, by decide, by kernel_rfl, by kernel_rfl⟩

/-- chantry/chantryref19.Same -/
noncomputable def ic_chantryref19_Same : IC :=
  (.seq (.ops [
    ⟨(some 4), none, false, .mov (.const (.bool false))⟩]) (.seq (.seq (.ops [
    ⟨(some 6), none, false, .mov (.tmp 0)⟩,
    ⟨(some 7), none, false, .lens false (.tmp 6)⟩,
    ⟨(some 8), none, false, .mov (.tmp 1)⟩,
    ⟨(some 9), none, false, .lens false (.tmp 8)⟩,
    ⟨(some 10), none, false, .bin .neq (.tmp 7) (.tmp 9)⟩]) (.cond (.tmp 10) (.seq (.ops [
    ⟨(some 4), none, false, .mov (.const (.bool false))⟩]) .ret) .skip)) (.seq (.seq (.ops [
    ⟨(some 5), none, false, .mov (.const (.int .i64 0))⟩]) (.block 0 (.loop (.seq (.seq (.ops [
    ⟨(some 11), none, false, .mov (.tmp 5)⟩,
    ⟨(some 12), none, false, .mov (.tmp 0)⟩,
    ⟨(some 13), none, false, .lens false (.tmp 12)⟩,
    ⟨(some 14), none, false, .bin .lss (.tmp 11) (.tmp 13)⟩]) (.cond (.tmp 14) .skip (.exit 0))) (.seq (.block 1 (.seq (.draw [
    ⟨(some 17), none, false, .mov (.tmp 0)⟩,
    ⟨(some 18), none, false, .mov (.tmp 5)⟩,
    ⟨(some 19), none, false, .iaddr (.tmp 17) (.tmp 18) 2⟩,
    ⟨(some 20), none, false, .loadn (.tmp 19) 2⟩,
    ⟨(some 21), none, false, .mov (.tmp 1)⟩,
    ⟨(some 22), none, false, .mov (.tmp 5)⟩,
    ⟨(some 23), none, false, .iaddr (.tmp 21) (.tmp 22) 2⟩,
    ⟨(some 24), none, false, .loadn (.tmp 23) 2⟩,
    ⟨(some 25), none, false, .eqagg true (Try.prog.keyLits 8 33) (.tmp 20) (.tmp 24)⟩]) (.cond (.tmp 25) (.seq (.ops [
    ⟨(some 4), none, false, .mov (.const (.bool false))⟩]) .ret) .skip))) (.ops [
    ⟨(some 15), none, false, .mov (.tmp 5)⟩,
    ⟨(some 16), none, false, .bin .add (.tmp 15) (.const (.int .i64 1))⟩,
    ⟨(some 5), none, false, .mov (.tmp 16)⟩])))))) (.seq (.ops [
    ⟨(some 4), none, false, .mov (.const (.bool true))⟩]) .ret))))
theorem fits_chantryref19_Same : Fits Try.prog 0 chantryref19_Same ic_chantryref19_Same [.tmp 4] 2 :=
  ⟨Try.f11, Try.func11, by decide, by kernel_rfl, by kernel_rfl⟩

/-- (*chantry/counter.Counts).Tell -/
noncomputable def ic_counter_Counts_Tell : IC :=
  (.seq (.ops [
    ⟨(some 2), none, false, .mov (.const (.slice none 0 0))⟩]) (.seq (.ops [
    ⟨(some 3), none, false, .mov (.const (.slice none 0 0))⟩]) (.seq (.seq (.ops [
    ⟨(some 6), none, false, .mov (.tmp 0)⟩,
    ⟨(some 7), none, false, .isnil (.pointer 54) (.tmp 6) false⟩]) (.cond (.tmp 7) (.seq (.ops [
    ⟨(some 8), none, false, .mov (.tmp 3)⟩,
    ⟨(some 2), none, false, .mov (.tmp 8)⟩]) .ret) .skip)) (.seq (.seq (.ops [
    ⟨(some 9), none, false, .mov (.tmp 0)⟩,
    ⟨(some 10), none, false, .nilc (.tmp 9)⟩,
    ⟨(some 11), none, false, .faddr (.tmp 10) 0⟩,
    ⟨(some 12), none, false, .load1 (.tmp 11)⟩,
    ⟨(some 13), none, false, .call maps_Keys_map_string_int_string_int [(.tmp 12)]⟩,
    ⟨(some 14), none, false, .call slices_Sorted_string [(.tmp 13)]⟩,
    ⟨(some 15), none, false, .lens false (.tmp 14)⟩,
    ⟨(some 16), none, false, .mov (.const (.int .i64 0))⟩]) (.block 0 (.loop (.seq (.ops [
    ⟨(some 17), none, false, .bin .lss (.tmp 16) (.tmp 15)⟩]) (.seq (.cond (.tmp 17) .skip (.exit 0)) (.seq (.block 1 (.seq (.ops [
    ⟨(some 18), none, false, .iaddr (.tmp 14) (.tmp 16) 1⟩,
    ⟨(some 19), none, false, .load1 (.tmp 18)⟩,
    ⟨(some 5), none, false, .mov (.tmp 19)⟩]) (.ops [
    ⟨(some 20), none, false, .mov (.tmp 3)⟩,
    ⟨(some 21), none, false, .mov (.tmp 5)⟩,
    ⟨(some 22), none, false, .mov (.tmp 0)⟩,
    ⟨(some 23), none, false, .nilc (.tmp 22)⟩,
    ⟨(some 24), none, false, .faddr (.tmp 23) 0⟩,
    ⟨(some 25), none, false, .load1 (.tmp 24)⟩,
    ⟨(some 26), none, false, .mov (.tmp 5)⟩,
    ⟨(some 27), none, false, .mlook .str (.int .i64 0) false (.tmp 25) (.tmp 26)⟩,
    ⟨(some 28), none, false, .build [.string ⟨#[]⟩, .int .i64 0] [(0, 1, (.tmp 21)), (1, 1, (.tmp 27))]⟩,
    ⟨(some 29), none, false, .lit [.string ⟨#[]⟩, .int .i64 0] 2 1 [(0, 2, (.tmp 28))]⟩,
    ⟨(some 30), none, false, .app (.tmp 20) (.tmp 29) 2 24⟩,
    ⟨(some 3), none, false, .mov (.tmp 30)⟩]))) (.ops [
    ⟨(some 31), none, false, .bin .add (.tmp 16) (.const (.int .i64 1))⟩,
    ⟨(some 16), none, false, .mov (.tmp 31)⟩]))))))) (.seq (.ops [
    ⟨(some 32), none, false, .mov (.tmp 3)⟩,
    ⟨(some 2), none, false, .mov (.tmp 32)⟩]) .ret)))))
theorem fits_counter_Counts_Tell : Fits Try.prog 0 counter_Counts_Tell ic_counter_Counts_Tell [.tmp 2] 1 :=
  ⟨Try.f12, Try.func12, by decide, by kernel_rfl, by kernel_rfl⟩

/-- (*chantry/counter.Counts).Rows -/
noncomputable def ic_counter_Counts_Rows : IC :=
  (.seq (.ops [
    ⟨(some 2), none, false, .mov (.const (.slice none 0 0))⟩]) (.seq (.ops [
    ⟨(some 3), none, false, .mov (.const (.slice none 0 0))⟩]) (.seq (.seq (.ops [
    ⟨(some 6), none, false, .mov (.tmp 0)⟩,
    ⟨(some 7), none, false, .call counter_Counts_Tell [(.tmp 6)]⟩,
    ⟨(some 8), none, false, .lens false (.tmp 7)⟩,
    ⟨(some 9), none, false, .mov (.const (.int .i64 0))⟩]) (.block 0 (.loop (.seq (.ops [
    ⟨(some 10), none, false, .bin .lss (.tmp 9) (.tmp 8)⟩]) (.seq (.cond (.tmp 10) .skip (.exit 0)) (.seq (.block 1 (.seq (.ops [
    ⟨(some 11), none, false, .iaddr (.tmp 7) (.tmp 9) 2⟩,
    ⟨(some 12), none, false, .loadn (.tmp 11) 2⟩,
    ⟨(some 5), none, false, .new [.string ⟨#[]⟩, .int .i64 0]⟩,
    ⟨none, none, false, .store (.tmp 5) (.tmp 12) 2⟩]) (.ops [
    ⟨(some 13), none, false, .mov (.tmp 3)⟩,
    ⟨(some 14), none, false, .faddr (.tmp 5) 0⟩,
    ⟨(some 15), none, false, .load1 (.tmp 14)⟩,
    ⟨(some 16), none, false, .faddr (.tmp 5) 1⟩,
    ⟨(some 17), none, false, .load1 (.tmp 16)⟩,
    ⟨(some 18), none, false, .build [.int .i64 0, .string ⟨#[]⟩, .string ⟨#[]⟩, .int .i64 0, .string ⟨#[]⟩, .string ⟨#[]⟩, .bool false] [(0, 1, (.const (.int .i64 1))), (1, 1, (.tmp 15)), (3, 1, (.tmp 17))]⟩,
    ⟨(some 19), none, false, .lit [.int .i64 0, .string ⟨#[]⟩, .string ⟨#[]⟩, .int .i64 0, .string ⟨#[]⟩, .string ⟨#[]⟩, .bool false] 7 1 [(0, 7, (.tmp 18))]⟩,
    ⟨(some 20), none, false, .app (.tmp 13) (.tmp 19) 7 88⟩,
    ⟨(some 3), none, false, .mov (.tmp 20)⟩]))) (.ops [
    ⟨(some 21), none, false, .bin .add (.tmp 9) (.const (.int .i64 1))⟩,
    ⟨(some 9), none, false, .mov (.tmp 21)⟩]))))))) (.seq (.ops [
    ⟨(some 22), none, false, .mov (.tmp 3)⟩,
    ⟨(some 2), none, false, .mov (.tmp 22)⟩]) .ret))))
theorem fits_counter_Counts_Rows : Fits Try.prog 0 counter_Counts_Rows ic_counter_Counts_Rows [.tmp 2] 1 :=
  ⟨Try.f14, Try.func14, by decide, by kernel_rfl, by kernel_rfl⟩

/-- (*chantry/counter.Counts).Of -/
noncomputable def ic_counter_Counts_Of : IC :=
  (.seq (.ops [
    ⟨(some 4), none, false, .mov (.const (.int .i64 0))⟩,
    ⟨(some 5), none, false, .mov (.const (.bool false))⟩]) (.seq (.seq (.ops [
    ⟨(some 8), none, false, .mov (.tmp 0)⟩,
    ⟨(some 9), none, false, .isnil (.pointer 54) (.tmp 8) false⟩]) (.cond (.tmp 9) (.seq (.ops [
    ⟨(some 4), none, false, .mov (.const (.int .i64 0))⟩,
    ⟨(some 5), none, false, .mov (.const (.bool false))⟩]) .ret) .skip)) (.seq (.ops [
    ⟨(some 11), none, false, .mov (.tmp 0)⟩,
    ⟨(some 12), none, false, .nilc (.tmp 11)⟩,
    ⟨(some 13), none, false, .faddr (.tmp 12) 0⟩,
    ⟨(some 14), none, false, .load1 (.tmp 13)⟩,
    ⟨(some 15), none, false, .mov (.tmp 1)⟩,
    ⟨(some 16), none, false, .mlook .str (.int .i64 0) true (.tmp 14) (.tmp 15)⟩,
    ⟨(some 10), none, false, .mov (.tmp 16)⟩,
    ⟨(some 17), none, false, .ext (.tmp 10) 0⟩,
    ⟨(some 18), none, false, .ext (.tmp 10) 1⟩,
    ⟨(some 6), none, false, .mov (.tmp 17)⟩,
    ⟨(some 7), none, false, .mov (.tmp 18)⟩]) (.seq (.ops [
    ⟨(some 19), none, false, .mov (.tmp 6)⟩,
    ⟨(some 20), none, false, .mov (.tmp 7)⟩,
    ⟨(some 4), none, false, .mov (.tmp 19)⟩,
    ⟨(some 5), none, false, .mov (.tmp 20)⟩]) .ret))))
theorem fits_counter_Counts_Of : Fits Try.prog 0 counter_Counts_Of ic_counter_Counts_Of [.tmp 4, .tmp 5] 2 :=
  ⟨Try.f16, Try.func16, by decide, by kernel_rfl, by kernel_rfl⟩

/-- chantry/counter.Load -/
noncomputable def ic_counter_Load : IC :=
  (.seq (.ops [
    ⟨(some 2), none, false, .mov (.const (.pointer none))⟩,
    ⟨(some 3), none, false, .mov (.const (.int .i64 0))⟩]) (.seq (.ops [
    ⟨(some 7), none, false, .call counter_Empty []⟩,
    ⟨(some 4), none, false, .mov (.tmp 7)⟩]) (.seq (.seq (.ops [
    ⟨(some 8), none, false, .mov (.tmp 0)⟩,
    ⟨(some 9), none, false, .lens false (.tmp 8)⟩,
    ⟨(some 10), none, false, .mov (.const (.int .i64 0))⟩]) (.block 0 (.loop (.seq (.ops [
    ⟨(some 11), none, false, .bin .lss (.tmp 10) (.tmp 9)⟩]) (.seq (.cond (.tmp 11) .skip (.exit 0)) (.seq (.block 1 (.seq (.ops [
    ⟨(some 12), none, false, .mov (.tmp 10)⟩,
    ⟨(some 13), none, false, .iaddr (.tmp 8) (.tmp 10) 7⟩,
    ⟨(some 14), none, false, .loadn (.tmp 13) 7⟩,
    ⟨(some 6), none, false, .new [.int .i64 0, .string ⟨#[]⟩, .string ⟨#[]⟩, .int .i64 0, .string ⟨#[]⟩, .string ⟨#[]⟩, .bool false]⟩,
    ⟨(some 5), none, false, .mov (.tmp 12)⟩,
    ⟨none, none, false, .store (.tmp 6) (.tmp 14) 7⟩]) (.seq (.seq (.draw [
    ⟨(some 15), none, false, .loadn (.tmp 6) 7⟩,
    ⟨(some 16), none, false, .call counter_odd [(.tmp 15)]⟩,
    ⟨(some 17), none, false, .mov (.tmp 16)⟩,
    ⟨(some 18), (some (17, false)), false, .mov (.tmp 5)⟩,
    ⟨(some 19), (some (17, false)), false, .bin .gtr (.tmp 18) (.const (.int .i64 0))⟩,
    ⟨(some 20), (some (17, false)), false, .mov (.tmp 19)⟩,
    ⟨(some 21), (some (20, true)), false, .mov (.tmp 0)⟩,
    ⟨(some 22), (some (20, true)), false, .mov (.tmp 5)⟩,
    ⟨(some 23), (some (20, true)), false, .bin .sub (.tmp 22) (.const (.int .i64 1))⟩,
    ⟨(some 24), (some (20, true)), false, .iaddr (.tmp 21) (.tmp 23) 7⟩,
    ⟨(some 25), (some (20, true)), false, .faddr (.tmp 24) 1⟩,
    ⟨(some 26), (some (20, true)), false, .load1 (.tmp 25)⟩,
    ⟨(some 27), (some (20, true)), false, .faddr (.tmp 6) 1⟩,
    ⟨(some 28), (some (20, true)), false, .load1 (.tmp 27)⟩,
    ⟨(some 29), (some (20, true)), false, .bin .geq (.tmp 26) (.tmp 28)⟩,
    ⟨(some 30), (some (17, false)), false, .pick (.tmp 20) (.tmp 29) (.const (.bool false))⟩,
    ⟨(some 31), none, false, .pick (.tmp 17) (.const (.bool true)) (.tmp 30)⟩]) (.cond (.tmp 31) (.seq (.ops [
    ⟨(some 2), none, false, .mov (.const (.pointer none))⟩,
    ⟨(some 3), none, false, .mov (.const (.int .i64 5))⟩]) .ret) .skip)) (.draw [
    ⟨(some 32), none, false, .mov (.tmp 4)⟩,
    ⟨(some 33), none, false, .nilc (.tmp 32)⟩,
    ⟨(some 34), none, false, .faddr (.tmp 33) 0⟩,
    ⟨(some 35), none, false, .load1 (.tmp 34)⟩,
    ⟨(some 36), none, false, .faddr (.tmp 6) 1⟩,
    ⟨(some 37), none, false, .load1 (.tmp 36)⟩,
    ⟨(some 38), none, false, .faddr (.tmp 6) 3⟩,
    ⟨(some 39), none, false, .load1 (.tmp 38)⟩,
    ⟨none, none, false, .mupd .str (.tmp 35) (.tmp 37) (.tmp 39)⟩])))) (.ops [
    ⟨(some 40), none, false, .bin .add (.tmp 10) (.const (.int .i64 1))⟩,
    ⟨(some 10), none, false, .mov (.tmp 40)⟩]))))))) (.seq (.ops [
    ⟨(some 41), none, false, .mov (.tmp 4)⟩,
    ⟨(some 2), none, false, .mov (.tmp 41)⟩,
    ⟨(some 3), none, false, .mov (.const (.int .i64 0))⟩]) .ret))))
theorem fits_counter_Load : Fits Try.prog 0 counter_Load ic_counter_Load [.tmp 2, .tmp 3] 1 :=
  ⟨Try.f18, Try.func18, by decide, by kernel_rfl, by kernel_rfl⟩

/-- chantry/chantryref19.Load -/
noncomputable def ic_chantryref19_Load : IC :=
  (.seq (.ops [
    ⟨(some 2), none, false, .new [.slice none 0 0]⟩,
    ⟨(some 3), none, false, .mov (.const (.int .i64 0))⟩]) (.seq (.ops [
    ⟨(some 7), none, false, .build [.slice none 0 0] []⟩,
    ⟨(some 4), none, false, .new [.slice none 0 0]⟩,
    ⟨none, none, false, .store (.tmp 4) (.tmp 7) 1⟩]) (.seq (.seq (.ops [
    ⟨(some 5), none, false, .mov (.const (.int .i64 0))⟩]) (.block 0 (.loop (.seq (.seq (.ops [
    ⟨(some 8), none, false, .mov (.tmp 5)⟩,
    ⟨(some 9), none, false, .mov (.tmp 0)⟩,
    ⟨(some 10), none, false, .lens false (.tmp 9)⟩,
    ⟨(some 11), none, false, .bin .lss (.tmp 8) (.tmp 10)⟩]) (.cond (.tmp 11) .skip (.exit 0))) (.seq (.block 1 (.seq (.ops [
    ⟨(some 14), none, false, .mov (.tmp 0)⟩,
    ⟨(some 15), none, false, .mov (.tmp 5)⟩,
    ⟨(some 16), none, false, .iaddr (.tmp 14) (.tmp 15) 7⟩,
    ⟨(some 17), none, false, .loadn (.tmp 16) 7⟩,
    ⟨(some 6), none, false, .new [.int .i64 0, .string ⟨#[]⟩, .string ⟨#[]⟩, .int .i64 0, .string ⟨#[]⟩, .string ⟨#[]⟩, .bool false]⟩,
    ⟨none, none, false, .store (.tmp 6) (.tmp 17) 7⟩]) (.seq (.seq (.draw [
    ⟨(some 18), none, false, .loadn (.tmp 6) 7⟩,
    ⟨(some 19), none, false, .faddr (.tmp 6) 1⟩,
    ⟨(some 20), none, false, .load1 (.tmp 19)⟩,
    ⟨(some 21), none, false, .faddr (.tmp 6) 3⟩,
    ⟨(some 22), none, false, .load1 (.tmp 21)⟩,
    ⟨(some 23), none, false, .build [.int .i64 0, .string ⟨#[]⟩, .string ⟨#[]⟩, .int .i64 0, .string ⟨#[]⟩, .string ⟨#[]⟩, .bool false] [(0, 1, (.const (.int .i64 1))), (1, 1, (.tmp 20)), (3, 1, (.tmp 22))]⟩,
    ⟨(some 24), none, false, .eqagg true (Try.prog.keyLits 8 48) (.tmp 18) (.tmp 23)⟩,
    ⟨(some 25), none, false, .mov (.tmp 24)⟩,
    ⟨(some 26), (some (25, false)), false, .faddr (.tmp 6) 1⟩,
    ⟨(some 27), (some (25, false)), false, .load1 (.tmp 26)⟩,
    ⟨(some 28), (some (25, false)), false, .call chantryref14_Name [(.tmp 27)]⟩,
    ⟨(some 29), (some (25, false)), false, .un .not (.tmp 28)⟩,
    ⟨(some 30), none, false, .pick (.tmp 25) (.const (.bool true)) (.tmp 29)⟩,
    ⟨(some 31), none, false, .mov (.tmp 30)⟩,
    ⟨(some 32), (some (31, false)), false, .mov (.tmp 5)⟩,
    ⟨(some 33), (some (31, false)), false, .bin .gtr (.tmp 32) (.const (.int .i64 0))⟩,
    ⟨(some 34), (some (31, false)), false, .mov (.tmp 33)⟩,
    ⟨(some 35), (some (34, true)), false, .mov (.tmp 0)⟩,
    ⟨(some 36), (some (34, true)), false, .mov (.tmp 5)⟩,
    ⟨(some 37), (some (34, true)), false, .bin .sub (.tmp 36) (.const (.int .i64 1))⟩,
    ⟨(some 38), (some (34, true)), false, .iaddr (.tmp 35) (.tmp 37) 7⟩,
    ⟨(some 39), (some (34, true)), false, .faddr (.tmp 38) 1⟩,
    ⟨(some 40), (some (34, true)), false, .load1 (.tmp 39)⟩,
    ⟨(some 41), (some (34, true)), false, .faddr (.tmp 6) 1⟩,
    ⟨(some 42), (some (34, true)), false, .load1 (.tmp 41)⟩,
    ⟨(some 43), (some (34, true)), false, .bin .geq (.tmp 40) (.tmp 42)⟩,
    ⟨(some 44), (some (31, false)), false, .pick (.tmp 34) (.tmp 43) (.const (.bool false))⟩,
    ⟨(some 45), none, false, .pick (.tmp 31) (.const (.bool true)) (.tmp 44)⟩,
    ⟨(some 46), none, false, .mov (.tmp 45)⟩,
    ⟨(some 47), (some (46, false)), false, .faddr (.tmp 6) 3⟩,
    ⟨(some 48), (some (46, false)), false, .load1 (.tmp 47)⟩,
    ⟨(some 49), (some (46, false)), false, .bin .lss (.tmp 48) (.const (.int .i64 (-9007199254740992)))⟩,
    ⟨(some 50), none, false, .pick (.tmp 46) (.const (.bool true)) (.tmp 49)⟩,
    ⟨(some 51), none, false, .mov (.tmp 50)⟩,
    ⟨(some 52), (some (51, false)), false, .faddr (.tmp 6) 3⟩,
    ⟨(some 53), (some (51, false)), false, .load1 (.tmp 52)⟩,
    ⟨(some 54), (some (51, false)), false, .bin .gtr (.tmp 53) (.const (.int .i64 9007199254740992))⟩,
    ⟨(some 55), none, false, .pick (.tmp 51) (.const (.bool true)) (.tmp 54)⟩]) (.cond (.tmp 55) (.seq (.ops [
    ⟨(some 56), none, false, .build [.slice none 0 0] []⟩,
    ⟨none, none, false, .store (.tmp 2) (.tmp 56) 1⟩,
    ⟨(some 3), none, false, .mov (.const (.int .i64 5))⟩]) .ret) .skip)) (.ops [
    ⟨(some 57), none, false, .faddr (.tmp 4) 0⟩,
    ⟨(some 58), none, false, .load1 (.tmp 57)⟩,
    ⟨(some 59), none, false, .faddr (.tmp 6) 1⟩,
    ⟨(some 60), none, false, .load1 (.tmp 59)⟩,
    ⟨(some 61), none, false, .faddr (.tmp 6) 3⟩,
    ⟨(some 62), none, false, .load1 (.tmp 61)⟩,
    ⟨(some 63), none, false, .build [.string ⟨#[]⟩, .int .i64 0] [(0, 1, (.tmp 60)), (1, 1, (.tmp 62))]⟩,
    ⟨(some 64), none, false, .lit [.string ⟨#[]⟩, .int .i64 0] 2 1 [(0, 2, (.tmp 63))]⟩,
    ⟨(some 65), none, false, .app (.tmp 58) (.tmp 64) 2 24⟩,
    ⟨(some 66), none, false, .faddr (.tmp 4) 0⟩,
    ⟨none, none, false, .store (.tmp 66) (.tmp 65) 1⟩])))) (.ops [
    ⟨(some 12), none, false, .mov (.tmp 5)⟩,
    ⟨(some 13), none, false, .bin .add (.tmp 12) (.const (.int .i64 1))⟩,
    ⟨(some 5), none, false, .mov (.tmp 13)⟩])))))) (.seq (.ops [
    ⟨(some 67), none, false, .loadn (.tmp 4) 1⟩,
    ⟨none, none, false, .store (.tmp 2) (.tmp 67) 1⟩,
    ⟨(some 3), none, false, .mov (.const (.int .i64 0))⟩]) .ret))))
theorem fits_chantryref19_Load : Fits Try.prog 0 chantryref19_Load ic_chantryref19_Load [.many 2 1, .tmp 3] 1 :=
  ⟨Try.f19, Try.func19, by decide, by kernel_rfl, by kernel_rfl⟩

/-- chantry/chantryref14.Name -/
noncomputable def ic_chantryref14_Name : IC :=
  (.seq (.ops [
    ⟨(some 2), none, false, .mov (.const (.bool false))⟩]) (.seq (.seq (.ops [
    ⟨(some 3), none, false, .mov (.const (.int .i64 0))⟩]) (.block 0 (.loop (.seq (.seq (.ops [
    ⟨(some 5), none, false, .mov (.tmp 3)⟩,
    ⟨(some 6), none, false, .mov (.tmp 0)⟩,
    ⟨(some 7), none, false, .lens true (.tmp 6)⟩,
    ⟨(some 8), none, false, .bin .lss (.tmp 5) (.tmp 7)⟩]) (.cond (.tmp 8) .skip (.exit 0))) (.seq (.block 1 (.seq (.ops [
    ⟨(some 11), none, false, .mov (.tmp 0)⟩,
    ⟨(some 12), none, false, .mov (.tmp 3)⟩,
    ⟨(some 13), none, false, .idxs (.tmp 11) (.tmp 12)⟩,
    ⟨(some 4), none, false, .mov (.tmp 13)⟩]) (.seq (.ops [
    ⟨(some 14), none, false, .mov (.tmp 4)⟩,
    ⟨(some 15), none, false, .bin .geq (.tmp 14) (.const (.int .u8 97))⟩,
    ⟨(some 16), none, false, .mov (.tmp 15)⟩,
    ⟨(some 17), (some (16, true)), false, .mov (.tmp 4)⟩,
    ⟨(some 18), (some (16, true)), false, .bin .leq (.tmp 17) (.const (.int .u8 122))⟩,
    ⟨(some 19), none, false, .pick (.tmp 16) (.tmp 18) (.const (.bool false))⟩,
    ⟨(some 20), none, false, .mov (.tmp 19)⟩,
    ⟨(some 21), (some (20, false)), false, .mov (.tmp 4)⟩,
    ⟨(some 22), (some (20, false)), false, .bin .geq (.tmp 21) (.const (.int .u8 48))⟩,
    ⟨(some 23), (some (20, false)), false, .mov (.tmp 22)⟩,
    ⟨(some 24), (some (23, true)), false, .mov (.tmp 4)⟩,
    ⟨(some 25), (some (23, true)), false, .bin .leq (.tmp 24) (.const (.int .u8 57))⟩,
    ⟨(some 26), (some (20, false)), false, .pick (.tmp 23) (.tmp 25) (.const (.bool false))⟩,
    ⟨(some 27), none, false, .pick (.tmp 20) (.const (.bool true)) (.tmp 26)⟩,
    ⟨(some 28), none, false, .mov (.tmp 27)⟩,
    ⟨(some 29), (some (28, false)), false, .mov (.tmp 4)⟩,
    ⟨(some 30), (some (28, false)), false, .bin .eql (.tmp 29) (.const (.int .u8 45))⟩,
    ⟨(some 31), none, false, .pick (.tmp 28) (.const (.bool true)) (.tmp 30)⟩,
    ⟨(some 32), none, false, .un .not (.tmp 31)⟩]) (.cond (.tmp 32) (.seq (.ops [
    ⟨(some 2), none, false, .mov (.const (.bool false))⟩]) .ret) .skip)))) (.ops [
    ⟨(some 9), none, false, .mov (.tmp 3)⟩,
    ⟨(some 10), none, false, .bin .add (.tmp 9) (.const (.int .i64 1))⟩,
    ⟨(some 3), none, false, .mov (.tmp 10)⟩])))))) (.seq (.ops [
    ⟨(some 33), none, false, .mov (.tmp 0)⟩,
    ⟨(some 34), none, false, .lens true (.tmp 33)⟩,
    ⟨(some 35), none, false, .bin .geq (.tmp 34) (.const (.int .i64 1))⟩,
    ⟨(some 36), none, false, .mov (.tmp 35)⟩,
    ⟨(some 37), (some (36, true)), false, .mov (.tmp 0)⟩,
    ⟨(some 38), (some (36, true)), false, .lens true (.tmp 37)⟩,
    ⟨(some 39), (some (36, true)), false, .bin .leq (.tmp 38) (.const (.int .i64 12))⟩,
    ⟨(some 40), none, false, .pick (.tmp 36) (.tmp 39) (.const (.bool false))⟩,
    ⟨(some 2), none, false, .mov (.tmp 40)⟩]) .ret)))
theorem fits_chantryref14_Name : Fits Try.prog 0 chantryref14_Name ic_chantryref14_Name [.tmp 2] 1 :=
  ⟨Try.f20, Try.func20, by decide, by kernel_rfl, by kernel_rfl⟩

/-- chantry/op.Name -/
noncomputable def ic_op_Name : IC :=
  (.seq (.ops [
    ⟨(some 2), none, false, .mov (.const (.bool false))⟩]) (.seq (.ops [
    ⟨(some 4), none, false, .mov (.tmp 0)⟩,
    ⟨(some 5), none, false, .call strings_IndexFunc [(.tmp 4), (.func 26)]⟩,
    ⟨(some 3), none, false, .mov (.tmp 5)⟩]) (.seq (.ops [
    ⟨(some 6), none, false, .mov (.tmp 3)⟩,
    ⟨(some 7), none, false, .bin .lss (.tmp 6) (.const (.int .i64 0))⟩,
    ⟨(some 8), none, false, .mov (.tmp 7)⟩,
    ⟨(some 9), (some (8, true)), false, .mov (.tmp 0)⟩,
    ⟨(some 10), (some (8, true)), false, .lens true (.tmp 9)⟩,
    ⟨(some 11), (some (8, true)), false, .bin .geq (.tmp 10) (.const (.int .i64 1))⟩,
    ⟨(some 12), none, false, .pick (.tmp 8) (.tmp 11) (.const (.bool false))⟩,
    ⟨(some 13), none, false, .mov (.tmp 12)⟩,
    ⟨(some 14), (some (13, true)), false, .mov (.tmp 0)⟩,
    ⟨(some 15), (some (13, true)), false, .lens true (.tmp 14)⟩,
    ⟨(some 16), (some (13, true)), false, .bin .leq (.tmp 15) (.const (.int .i64 12))⟩,
    ⟨(some 17), none, false, .pick (.tmp 13) (.tmp 16) (.const (.bool false))⟩,
    ⟨(some 2), none, false, .mov (.tmp 17)⟩]) .ret)))
theorem fits_op_Name : Fits Try.prog 0 op_Name ic_op_Name [.tmp 2] 1 :=
  ⟨Try.f21, Try.func21, by decide, by kernel_rfl, by kernel_rfl⟩

/-- maps.Keys[map[string]int,string,int] -/
noncomputable def ic_maps_Keys_map_string_int_string_int : IC :=
  (.seq (.ops [
    ⟨(some 1), none, false, .box (.tmp 0)⟩,
    ⟨(some 2), none, false, .mov (.const (.nilFunc))⟩]) (.seq (.ops [
    ⟨(some 3), none, false, .fn (.func maps_Keys_map_string_int_string_int_1) [] [(.tmp 1)]⟩,
    ⟨(some 2), none, false, .mov (.tmp 3)⟩]) .ret))
theorem fits_maps_Keys_map_string_int_string_int : Fits Try.prog 0 maps_Keys_map_string_int_string_int ic_maps_Keys_map_string_int_string_int [.tmp 2] 1 :=
  ⟨Try.f23, Try.func23, by decide, by kernel_rfl, by kernel_rfl⟩

/-- chantry/counter.odd -/
noncomputable def ic_counter_odd : IC :=
  (.seq (.ops [
    ⟨(some 1), none, false, .box (.tmp 0)⟩,
    ⟨(some 2), none, false, .mov (.const (.bool false))⟩]) (.seq (.ops [
    ⟨(some 4), none, false, .faddr (.tmp 1) 1⟩,
    ⟨(some 5), none, false, .load1 (.tmp 4)⟩,
    ⟨(some 6), none, false, .faddr (.tmp 1) 3⟩,
    ⟨(some 7), none, false, .load1 (.tmp 6)⟩,
    ⟨(some 8), none, false, .build [.int .i64 0, .string ⟨#[]⟩, .string ⟨#[]⟩, .int .i64 0, .string ⟨#[]⟩, .string ⟨#[]⟩, .bool false] [(0, 1, (.const (.int .i64 1))), (1, 1, (.tmp 5)), (3, 1, (.tmp 7))]⟩,
    ⟨(some 3), none, false, .new [.int .i64 0, .string ⟨#[]⟩, .string ⟨#[]⟩, .int .i64 0, .string ⟨#[]⟩, .string ⟨#[]⟩, .bool false]⟩,
    ⟨none, none, false, .store (.tmp 3) (.tmp 8) 7⟩]) (.seq (.ops [
    ⟨(some 9), none, false, .loadn (.tmp 1) 7⟩,
    ⟨(some 10), none, false, .loadn (.tmp 3) 7⟩,
    ⟨(some 11), none, false, .eqagg true (Try.prog.keyLits 8 48) (.tmp 9) (.tmp 10)⟩,
    ⟨(some 12), none, false, .mov (.tmp 11)⟩,
    ⟨(some 13), (some (12, false)), false, .faddr (.tmp 1) 1⟩,
    ⟨(some 14), (some (12, false)), false, .load1 (.tmp 13)⟩,
    ⟨(some 15), (some (12, false)), false, .call op_Name [(.tmp 14)]⟩,
    ⟨(some 16), (some (12, false)), false, .un .not (.tmp 15)⟩,
    ⟨(some 17), none, false, .pick (.tmp 12) (.const (.bool true)) (.tmp 16)⟩,
    ⟨(some 18), none, false, .mov (.tmp 17)⟩,
    ⟨(some 19), (some (18, false)), false, .faddr (.tmp 1) 3⟩,
    ⟨(some 20), (some (18, false)), false, .load1 (.tmp 19)⟩,
    ⟨(some 21), (some (18, false)), false, .bin .lss (.tmp 20) (.const (.int .i64 (-9007199254740992)))⟩,
    ⟨(some 22), none, false, .pick (.tmp 18) (.const (.bool true)) (.tmp 21)⟩,
    ⟨(some 23), none, false, .mov (.tmp 22)⟩,
    ⟨(some 24), (some (23, false)), false, .faddr (.tmp 1) 3⟩,
    ⟨(some 25), (some (23, false)), false, .load1 (.tmp 24)⟩,
    ⟨(some 26), (some (23, false)), false, .bin .gtr (.tmp 25) (.const (.int .i64 9007199254740992))⟩,
    ⟨(some 27), none, false, .pick (.tmp 23) (.const (.bool true)) (.tmp 26)⟩,
    ⟨(some 2), none, false, .mov (.tmp 27)⟩]) .ret)))
theorem fits_counter_odd : Fits Try.prog 0 counter_odd ic_counter_odd [.tmp 2] 1 :=
  ⟨Try.f24, Try.func24, by decide, by kernel_rfl, by kernel_rfl⟩

/-- chantry/op.Name$1 -/
noncomputable def ic_op_Name_1 : IC :=
  (.seq (.ops [
    ⟨(some 2), none, false, .mov (.const (.bool false))⟩]) (.seq (.ops [
    ⟨(some 3), none, false, .mov (.tmp 0)⟩,
    ⟨(some 4), none, false, .bin .geq (.tmp 3) (.const (.int .i32 97))⟩,
    ⟨(some 5), none, false, .mov (.tmp 4)⟩,
    ⟨(some 6), (some (5, true)), false, .mov (.tmp 0)⟩,
    ⟨(some 7), (some (5, true)), false, .bin .leq (.tmp 6) (.const (.int .i32 122))⟩,
    ⟨(some 8), none, false, .pick (.tmp 5) (.tmp 7) (.const (.bool false))⟩,
    ⟨(some 9), none, false, .mov (.tmp 8)⟩,
    ⟨(some 10), (some (9, false)), false, .mov (.tmp 0)⟩,
    ⟨(some 11), (some (9, false)), false, .bin .geq (.tmp 10) (.const (.int .i32 48))⟩,
    ⟨(some 12), (some (9, false)), false, .mov (.tmp 11)⟩,
    ⟨(some 13), (some (12, true)), false, .mov (.tmp 0)⟩,
    ⟨(some 14), (some (12, true)), false, .bin .leq (.tmp 13) (.const (.int .i32 57))⟩,
    ⟨(some 15), (some (9, false)), false, .pick (.tmp 12) (.tmp 14) (.const (.bool false))⟩,
    ⟨(some 16), none, false, .pick (.tmp 9) (.const (.bool true)) (.tmp 15)⟩,
    ⟨(some 17), none, false, .mov (.tmp 16)⟩,
    ⟨(some 18), (some (17, false)), false, .mov (.tmp 0)⟩,
    ⟨(some 19), (some (17, false)), false, .bin .eql (.tmp 18) (.const (.int .i32 45))⟩,
    ⟨(some 20), none, false, .pick (.tmp 17) (.const (.bool true)) (.tmp 19)⟩,
    ⟨(some 21), none, false, .un .not (.tmp 20)⟩,
    ⟨(some 2), none, false, .mov (.tmp 21)⟩]) .ret))
theorem fits_op_Name_1 : Fits Try.prog 0 op_Name_1 ic_op_Name_1 [.tmp 2] 1 :=
  ⟨Try.f26, Try.func26, by decide, by kernel_rfl, by kernel_rfl⟩

-- NOT SERVED 52 (runtime.boundsError).Error: no body

-- NOT SERVED 53 (runtime.boundsError).RuntimeError: no body

-- NOT SERVED 54 (runtime.errorString).Error: no body

-- NOT SERVED 55 (runtime.errorString).RuntimeError: no body

-- NOT SERVED 56 (runtime.plainError).Error: no body

-- NOT SERVED 57 (runtime.plainError).RuntimeError: no body

-- NOT SERVED 58 (runtime.errorAddressString).Error: no body

-- NOT SERVED 59 (runtime.errorAddressString).RuntimeError: no body

-- NOT SERVED 60 (*runtime.TypeAssertionError).Error: no body

-- NOT SERVED 61 (*runtime.TypeAssertionError).RuntimeError: no body

-- NOT SERVED 62 (*runtime.PanicNilError).Error: no body

-- NOT SERVED 63 (*runtime.PanicNilError).RuntimeError: no body

-- NOT SERVED 64 (*internal/abi.Type).Align: no body

-- NOT SERVED 65 (internal/runtime/maps.unhashableTypeError).Error: no body

-- NOT SERVED 66 (internal/runtime/maps.unhashableTypeError).RuntimeError: no body

-- NOT SERVED 67 (internal/abi.Kind).String: no body

end Go.AS.C


namespace Go.AS.C
open Go Go.Proofs
set_option linter.unusedVariables false
set_option linter.unusedSimpArgs false
set_option maxRecDepth 10000

theorem mixed : Try.prog.follows .mixedOrders = true := by kernel_rfl

end Go.AS.C


namespace Go.AS.C
open Go Go.Proofs
set_option linter.unusedVariables false
set_option linter.unusedSimpArgs false
set_option maxRecDepth 10000

/-! Sums by their names: as a rising list, and as a map. -/
abbrev ptr (i : Nat) : Value := .pointer (some ⟨i, 0, none⟩)
structure CountV where
  name : ByteArray
  n : Int
def countE (w : CountV) : List Value := [.string w.name, ii w.n]
def I64 (n : Int) : Prop := -9223372036854775808 ≤ n ∧ n < 9223372036854775808
def key (c : CountV) : List UInt8 := bl c.name
/-- A list of counts that rises. -/
def RiseC (L : List CountV) : Prop := L.Pairwise fun a b => key a < key b
def lookC : List CountV → ByteArray → Option Int
  | [], _ => none
  | c :: r, s => if c.name = s then some c.n else lookC r s
/-- A name's sum, added to. -/
def addC : List CountV → ByteArray → Int → List CountV
  | [], s, n => [⟨s, n⟩]
  | c :: r, s, n => if bl c.name < bl s then c :: addC r s n else if c.name = s then ⟨s, c.n + n⟩ :: r else ⟨s, n⟩ :: c :: r
theorem lookC_mem : ∀ {L : List CountV} {s : ByteArray}, (lookC L s).isSome = true ↔ s ∈ L.map (·.name)
  | [], s => by simp [lookC]
  | c :: r, s => by
    simp only [lookC, List.map_cons, List.mem_cons]
    by_cases h : c.name = s
    · rw [if_pos h]; simp [h]
    · rw [if_neg h, lookC_mem (L := r)]
      exact ⟨.inr, fun h' => h'.resolve_left (fun e => h e.symm)⟩
theorem lookC_at : ∀ {L : List CountV} {c : CountV}, RiseC L → c ∈ L → lookC L c.name = some c.n
  | d :: r, c, h, hc => by
    simp only [lookC]
    rcases List.mem_cons.1 hc with rfl | hc
    · rw [if_pos rfl]
    · have h1 := (List.pairwise_cons.1 h).1 c hc
      rw [if_neg, lookC_at (List.pairwise_cons.1 h).2 hc]
      intro e
      unfold key at h1
      rw [e] at h1
      exact kl_irr _ h1
theorem lookC_lt : ∀ {L : List CountV} {s : ByteArray}, (∀ c ∈ L, bl s < key c) → lookC L s = none
  | [], s, _ => rfl
  | d :: r, s, h => by
    simp only [lookC]
    rw [if_neg, lookC_lt (fun c hc => h c (by simp [hc]))]
    intro e
    have := h d (by simp)
    unfold key at this
    rw [e] at this
    exact kl_irr _ this
theorem look_add : ∀ {L : List CountV} (s : ByteArray) (n : Int) (t : ByteArray), RiseC L → lookC (addC L s n) t = if t = s then some ((lookC L s).getD 0 + n) else lookC L t
  | [], s, n, t, _ => by
    simp only [addC, lookC]
    by_cases h : s = t
    · rw [if_pos h, if_pos h.symm]; simp
    · rw [if_neg h, if_neg (fun e => h e.symm)]
  | c :: r, s, n, t, h => by
    obtain ⟨h1, h2⟩ := List.pairwise_cons.1 h
    simp only [addC]
    by_cases hl : bl c.name < bl s
    · have hne : ¬ c.name = s := fun e => by rw [e] at hl; exact kl_irr _ hl
      rw [if_pos hl]
      simp only [lookC]
      rw [look_add s n t h2, if_neg hne]
      by_cases hc : c.name = t
      · rw [if_pos hc, if_neg (fun e => hne (hc.trans e)), if_pos hc]
      · rw [if_neg hc, if_neg hc]
    · rw [if_neg hl]
      by_cases he : c.name = s
      · rw [if_pos he]
        simp only [lookC]
        rw [if_pos he]
        by_cases ht : s = t
        · rw [if_pos ht, if_pos ht.symm]; rfl
        · rw [if_neg ht, if_neg (fun e => ht e.symm), if_neg (fun e => ht (he.symm.trans e))]
      · rw [if_neg he]
        simp only [lookC]
        rw [if_neg he]
        have hlt : bl s < bl c.name := by
          rcases kl_tri (bl c.name) (bl s) with h3 | h3 | h3
          · exact absurd h3 hl
          · exact absurd (bl_inj.1 h3) he
          · exact h3
        rw [lookC_lt (L := r) (s := s) (fun d hd => kl_tr hlt (h1 d hd))]
        by_cases ht : s = t
        · rw [if_pos ht, if_pos ht.symm]; simp
        · rw [if_neg ht, if_neg (show ¬ t = s from fun e => ht e.symm)]
theorem add_mem : ∀ {L : List CountV} {s : ByteArray} {n : Int} {c : CountV}, c ∈ addC L s n → c.name = s ∨ c ∈ L
  | [], s, n, c, h => by simp only [addC, List.mem_singleton] at h; rw [h]; exact .inl rfl
  | d :: r, s, n, c, h => by
    simp only [addC] at h
    split at h
    · rcases List.mem_cons.1 h with rfl | h
      · exact .inr (by simp)
      · rcases add_mem h with h | h
        · exact .inl h
        · exact .inr (by simp [h])
    · split at h
      · rcases List.mem_cons.1 h with rfl | h
        · exact .inl rfl
        · exact .inr (by simp [h])
      · rcases List.mem_cons.1 h with rfl | h
        · exact .inl rfl
        · exact .inr h
theorem rise_add : ∀ {L : List CountV} (s : ByteArray) (n : Int), RiseC L → RiseC (addC L s n)
  | [], s, n, _ => by simp [addC, RiseC]
  | c :: r, s, n, h => by
    obtain ⟨h1, h2⟩ := List.pairwise_cons.1 h
    simp only [addC]
    by_cases hl : bl c.name < bl s
    · rw [if_pos hl]
      refine List.pairwise_cons.2 ⟨fun d hd => ?_, rise_add s n h2⟩
      rcases add_mem hd with hd | hd
      · unfold key; rw [hd]; exact hl
      · exact h1 d hd
    · rw [if_neg hl]
      by_cases he : c.name = s
      · rw [if_pos he]
        refine List.pairwise_cons.2 ⟨fun d hd => ?_, h2⟩
        have := h1 d hd
        unfold key at this ⊢
        rw [he] at this; exact this
      · rw [if_neg he]
        have hlt : bl s < bl c.name := by
          rcases kl_tri (bl c.name) (bl s) with h3 | h3 | h3
          · exact absurd h3 hl
          · exact absurd (bl_inj.1 h3) he
          · exact h3
        refine List.pairwise_cons.2 ⟨fun d hd => ?_, h⟩
        rcases List.mem_cons.1 hd with rfl | hd
        · exact hlt
        · exact kl_tr hlt (h1 d hd)
theorem add_len : ∀ (L : List CountV) (s : ByteArray) (n : Int), (addC L s n).length ≤ L.length + 1
  | [], s, n => by simp [addC]
  | c :: r, s, n => by
    have := add_len r s n
    simp only [addC]
    split
    · simp only [List.length_cons]; omega
    · split
      · simp only [List.length_cons]; omega
      · simp only [List.length_cons]; omega
/-- All sums lie between -b and b. -/
def BndC (b : Int) (L : List CountV) : Prop := ∀ c ∈ L, -b ≤ c.n ∧ c.n ≤ b
theorem BndC.look {b : Int} {L : List CountV} (hb : 0 ≤ b) (h : BndC b L) (hr : RiseC L) (s : ByteArray) : -b ≤ (lookC L s).getD 0 ∧ (lookC L s).getD 0 ≤ b := by
  cases he : lookC L s with
  | none => simp; omega
  | some x =>
    have : s ∈ L.map (·.name) := lookC_mem.1 (by rw [he]; rfl)
    rw [List.mem_map] at this
    obtain ⟨c, hc, rfl⟩ := this
    rw [lookC_at hr hc] at he
    injection he with he
    subst he
    exact h c hc
theorem BndC.add {b m : Int} {n : Int} (h0 : -m ≤ n) (h1 : n ≤ m) (hb : 0 ≤ b) (hm : 0 ≤ m) : ∀ {L : List CountV} (s : ByteArray), BndC b L → BndC (b + m) (addC L s n)
  | [], s, _ => by
    intro c hc
    simp only [addC, List.mem_singleton] at hc
    subst hc
    dsimp only
    omega
  | d :: r, s, h => by
    have hd := h d (by simp)
    have hr : BndC b r := fun c hc => h c (by simp [hc])
    have ih := BndC.add h0 h1 hb hm s hr
    intro c hc
    simp only [addC] at hc
    split at hc
    · rcases List.mem_cons.1 hc with rfl | hc
      · omega
      · exact ih c hc
    · split at hc
      · rcases List.mem_cons.1 hc with rfl | hc
        · dsimp only; omega
        · have := hr c hc; omega
      · rcases List.mem_cons.1 hc with rfl | hc
        · dsimp only; omega
        · have := h c hc; omega
theorem BndC.mono {b b' : Int} {L : List CountV} (h : BndC b L) (hb : b ≤ b') : BndC b' L := fun c hc => by have := h c hc; omega
/-- Where the reference puts it. -/
theorem add_lt : ∀ {L : List CountV} {s : ByteArray} {n : Int} {k : Nat}, (∀ c ∈ L.take k, bl c.name < bl s) → addC L s n = L.take k ++ addC (L.drop k) s n
  | L, s, n, 0, _ => by simp
  | [], s, n, k + 1, _ => by simp
  | c :: r, s, n, k + 1, h => by
    have h1 : bl c.name < bl s := h c (by simp)
    simp only [addC, if_pos h1, List.take_succ_cons, List.drop_succ_cons, List.cons_append]
    rw [add_lt (L := r) (k := k) (fun d hd => h d (by simp [hd]))]
theorem add_same {L : List CountV} {s : ByteArray} {n : Int} {k : Nat} {c : CountV} (h : ∀ c ∈ L.take k, bl c.name < bl s) (hc : L[k]? = some c) (he : c.name = s) : addC L s n = (L.take k ++ [⟨s, c.n + n⟩]) ++ L.drop (k + 1) := by
  rw [add_lt h]
  have hk := lt_of_get hc
  rw [List.drop_eq_getElem_cons hk]
  have : L[k] = c := by rw [List.getElem?_eq_getElem hk] at hc; exact Option.some.inj hc
  rw [this]
  simp only [addC]
  rw [if_neg (by rw [he]; exact kl_irr _), if_pos he]
  simp
theorem add_new {L : List CountV} {s : ByteArray} {n : Int} {k : Nat} (h : ∀ c ∈ L.take k, bl c.name < bl s) (hc : ∀ c, L[k]? = some c → ¬ bl c.name < bl s ∧ ¬ c.name = s) : addC L s n = (L.take k ++ [⟨s, n⟩]) ++ L.drop k := by
  rw [add_lt h]
  cases hd : L.drop k with
  | nil => simp [addC]
  | cons c r =>
    have : L[k]? = some c := by
      have := List.getElem?_drop (xs := L) (i := k) (j := 0)
      rw [hd] at this; simpa using this.symm
    obtain ⟨h1, h2⟩ := hc c this
    simp only [addC, if_neg h1, if_neg h2]
    simp
/-- A map of sums. -/
def MapC (es : List (Value × Value)) (L : List CountV) : Prop := mapOk .str es = true ∧ ∀ s, mget (.string s) es = (lookC L s).map ii
def keysOf (es : List (Value × Value)) : List ByteArray := es.map fun e => match e.1 with
  | .string s => s
  | _ => ByteArray.empty
theorem keyOk_str {v : Value} (h : keyOk .str v = true) : ∃ s, v = .string s := by
  cases v <;> simp [keyOk] at h ⊢
theorem keys_eq {es : List (Value × Value)} (h : es.all (fun e => keyOk .str e.1) = true) : es.map (·.1) = (keysOf es).map .string := by
  rw [List.all_eq_true] at h
  unfold keysOf
  rw [List.map_map]
  apply List.map_congr_left
  intro e he
  obtain ⟨s, hs⟩ := keyOk_str (h e he)
  simp only [Function.comp_apply, hs]
theorem mget_keys : ∀ {es : List (Value × Value)} {s : ByteArray}, es.all (fun e => keyOk .str e.1) = true → ((mget (.string s) es).isSome = true ↔ s ∈ keysOf es)
  | [], s, _ => by simp [mget_nil, keysOf]
  | (k, v) :: r, s, h => by
    rw [List.all_cons, Bool.and_eq_true] at h
    obtain ⟨t, ht⟩ := keyOk_str h.1
    dsimp only at ht
    subst ht
    have ih := mget_keys (es := r) (s := s) h.2
    have e1 : keysOf ((.string t, v) :: r) = t :: keysOf r := rfl
    rw [e1, List.mem_cons, ← ih]
    simp only [mget]
    by_cases hts : t = s
    · rw [if_pos (by rw [keq_str]; exact decide_eq_true hts)]
      simp [hts]
    · rw [if_neg (by rw [keq_str]; simpa using hts)]
      exact ⟨.inr, fun h' => h'.resolve_left (fun e => hts e.symm)⟩
theorem mapOk_alls {es : List (Value × Value)} (h : mapOk .str es = true) : es.all (fun e => keyOk .str e.1) = true := by
  unfold mapOk at h
  rw [Bool.and_eq_true] at h
  exact h.1
theorem keys_nodup {es : List (Value × Value)} (hm : mapOk .str es = true) : (keysOf es).Nodup := by
  unfold mapOk at hm
  rw [Bool.and_eq_true] at hm
  obtain ⟨h1, h2⟩ := hm
  induction es with
  | nil => simp [keysOf]
  | cons x r ih =>
    rw [List.all_cons, Bool.and_eq_true] at h1
    simp only [nodupK, Bool.and_eq_true, List.all_eq_true, Bool.not_eq_true'] at h2
    have e1 : keysOf (x :: r) = keysOf [x] ++ keysOf r := rfl
    obtain ⟨k, v⟩ := x
    obtain ⟨t, ht⟩ := keyOk_str h1.1
    dsimp only at ht
    subst ht
    show (t :: keysOf r).Nodup
    rw [List.nodup_cons]
    refine ⟨fun hx => ?_, ih h1.2 h2.2⟩
    have hks := keys_eq h1.2
    have : (Value.string t) ∈ (keysOf r).map Value.string := List.mem_map.2 ⟨t, hx, rfl⟩
    rw [← hks, List.mem_map] at this
    obtain ⟨y, hy, he⟩ := this
    have := h2.1 y hy
    dsimp only at this
    rw [he, keq_str] at this
    simp at this
theorem sortT_mem (l : List ByteArray) (x : ByteArray) : x ∈ sortT l ↔ x ∈ l := by
  unfold sortT
  rw [List.mem_map]
  constructor
  · rintro ⟨b, hb, rfl⟩
    rw [List.mem_mergeSort, List.mem_map] at hb
    obtain ⟨s, hs, rfl⟩ := hb
    exact hs
  · intro h
    exact ⟨bl x, by rw [List.mem_mergeSort]; exact List.mem_map.2 ⟨x, h, rfl⟩, rfl⟩
theorem sortT_sorted (l : List ByteArray) : Srt bl (sortT l) := by
  unfold sortT Srt
  rw [List.pairwise_map]
  have h := List.pairwise_mergeSort (le := fun (x y : List UInt8) => decide (x ≤ y)) (fun a b c h1 h2 => by
    simp only [decide_eq_true_eq] at *
    exact List.le_trans h1 h2) (fun a b => by
    simp only [Bool.or_eq_true, decide_eq_true_eq]
    exact List.le_total a b) (l.map bl)
  exact h.imp (fun {a b} hab => by
    simp only [decide_eq_true_eq] at hab
    simpa [bl] using hab)
theorem sortT_nodup {l : List ByteArray} (h : l.Nodup) : (sortT l).Nodup := by
  unfold sortT
  have h1 : (l.map bl).Nodup := by
    rw [List.Nodup, List.pairwise_map]
    exact h.imp (fun hab e => hab (bl_inj.1 e))
  have h2 : ((l.map bl).mergeSort fun x y => decide (x ≤ y)).Nodup := (List.mergeSort_perm _ _).nodup_iff.2 h1
  rw [List.Nodup, List.pairwise_map]
  exact h2.imp (fun {a b} hab e => hab (by
    have := congrArg bl e
    simpa [bl] using this))
theorem srt_rise {l : List ByteArray} (h : Srt bl l) (hn : l.Nodup) : l.Pairwise (fun a b => bl a < bl b) := by
  unfold Srt at h
  exact (h.and hn).imp (fun {a b} hab => by
    rcases kl_tri (bl a) (bl b) with h1 | h1 | h1
    · exact h1
    · exact absurd (bl_inj.1 h1) hab.2
    · exact absurd h1 hab.1)
theorem MapC.names {es : List (Value × Value)} {L : List CountV} (h : MapC es L) (hL : RiseC L) : sortT (keysOf es) = L.map (·.name) := by
  refine rise_ext (key := bl) (srt_rise (sortT_sorted _) (sortT_nodup (keys_nodup h.1))) (List.pairwise_map.2 hL) fun x => ?_
  rw [sortT_mem, ← mget_keys (mapOk_alls h.1), h.2, ← lookC_mem]
  cases lookC L x <;> rfl
theorem MapC.len {es : List (Value × Value)} {L : List CountV} (h : MapC es L) (hL : RiseC L) : (keysOf es).length = L.length := by
  have := congrArg List.length (h.names hL)
  rwa [sortT_len, List.length_map] at this
theorem MapC.nil : MapC [] [] := ⟨rfl, fun s => rfl⟩
theorem MapC.add {es : List (Value × Value)} {L : List CountV} (h : MapC es L) (hL : RiseC L) (s : ByteArray) (n : Int) : MapC (mput (.string s) (ii ((lookC L s).getD 0 + n)) es) (addC L s n) := by
  refine ⟨mapOk_put keyOk_s _ h.1, fun t => ?_⟩
  rw [mget_put keyOk_s keyOk_s _ (mapOk_alls h.1), look_add s n t hL, keq_str, h.2]
  by_cases ht : s = t
  · rw [if_pos (decide_eq_true ht), if_pos ht.symm]; rfl
  · rw [if_neg (by simpa using ht), if_neg (fun e => ht e.symm)]
theorem look_app : ∀ {L : List CountV} {c : CountV} (t : ByteArray), (∀ d ∈ L, key d < key c) → lookC (L ++ [c]) t = if t = c.name then some c.n else lookC L t
  | [], c, t, _ => by
    simp only [List.nil_append, lookC]
    by_cases h : c.name = t
    · rw [if_pos h, if_pos h.symm]
    · rw [if_neg h, if_neg (fun e => h e.symm)]
  | d :: r, c, t, h => by
    simp only [List.cons_append, lookC]
    rw [look_app t (fun e he => h e (by simp [he]))]
    have hd := h d (by simp)
    unfold key at hd
    have hne : d.name ≠ c.name := fun e => by rw [e] at hd; exact kl_irr _ hd
    by_cases ht : d.name = t
    · rw [if_pos ht, if_neg (fun e => hne (ht.trans e)), if_pos ht]
    · rw [if_neg ht, if_neg ht]
theorem MapC.app {es : List (Value × Value)} {L : List CountV} {c : CountV} (h : MapC es L) (hc : ∀ d ∈ L, key d < key c) : MapC (mput (.string c.name) (ii c.n) es) (L ++ [c]) := by
  refine ⟨mapOk_put keyOk_s _ h.1, fun t => ?_⟩
  rw [mget_put keyOk_s keyOk_s _ (mapOk_alls h.1), look_app t hc, keq_str, h.2]
  by_cases ht : c.name = t
  · rw [if_pos (decide_eq_true ht), if_pos ht.symm]; rfl
  · rw [if_neg (by simpa using ht), if_neg (fun e => ht e.symm)]
end Go.AS.C


/-
  DERIVED: THE SHELF's CONTRACTS AT THIS DUMP, IN PLAIN WORDS (tools/lay-plain.mjs out of 'TryShelf.lean', which tools/lay-shelf.mjs wrote): THE SAME DECLARATIONS UNDER THE SAME NAMES: 'import', 'namespace', 'open', 'def', 'theorem' AND NOTHING ELSE: no command of the shelf's: FOR A HAND-IN. Each laying: the table of numbers ('.._ren') and one theorem, a field a fact of the dump's own or the kernel's comparison; each contract: ONE APPLICATION.
-/
namespace Go.Proofs
open Go.Shelf
def Try.keys23_ren : Go.Shelf.Ren := ⟨fun | 7 => 23 | 10 => 29 | n => n, fun | 23 => 52 | 26 => 9 | 3 => 3 | 28 => 59 | 0 => 0 | 27 => 58 | 33 => 55 | 4 => 4 | n => n, fun | n => n⟩
theorem Try.keys23 : Go.Proofs.SlLaysZ.n7 Try.prog Try.keys23_ren := {
  mixed := by kernel_rfl
  f7 := ⟨Try.f23.name, by decide, Try.func23.trans (congrArg some (by kernel_rfl))⟩
  f10 := ⟨Try.f29.name, by decide, Try.func29.trans (congrArg some (by kernel_rfl))⟩
  t0 := Try.underlying0
  a0 := Try.isAgg0
  z0 := Try.sizeOf0
  v0 := Try.zeroValue0
  t4 := Try.underlying4
  a4 := Try.isAgg4
  z4 := Try.sizeOf4
  v4 := Try.zeroValue4
  t23 := Try.underlying52
  a23 := Try.isAgg52
  z23 := Try.sizeOf52
  v23 := Try.zeroValue52
  t26 := Try.underlying9
  a26 := Try.isAgg9
  z26 := Try.sizeOf9
  v26 := Try.zeroValue9
  t27 := Try.underlying58
  a27 := Try.isAgg58
  z27 := Try.sizeOf58
  v27 := Try.zeroValue58
  t28 := Try.underlying59
  a28 := Try.isAgg59
  z28 := Try.sizeOf59
  v28 := Try.zeroValue59
  t33 := Try.underlying55
  a33 := Try.isAgg55
  z33 := Try.sizeOf55
  v33 := Try.zeroValue55 }
def Try.sorted22_ren : Go.Shelf.Ren := ⟨fun | 6 => 22 | 8 => 27 | 9 => 28 | 11 => 31 | 13 => 33 | 12 => 32 | 23 => 43 | 24 => 44 | 14 => 34 | 15 => 35 | 16 => 36 | 17 => 37 | 18 => 38 | 19 => 39 | 20 => 40 | 21 => 41 | 22 => 42 | 25 => 45 | 26 => 46 | 27 => 47 | 28 => 48 | 29 => 49 | 30 => 50 | 31 => 51 | n => n, fun | 26 => 9 | 28 => 59 | 24 => 56 | 0 => 0 | 3 => 3 | 37 => 69 | 48 => 79 | 50 => 81 | 4 => 4 | 40 => 72 | 39 => 71 | 45 => 41 | 5 => 5 | 9 => 9 | 51 => 82 | 55 => 86 | 57 => 88 | 58 => 89 | 33 => 55 | n => n, fun | n => n⟩
theorem Try.sorted22 : Go.Proofs.SlLaysZ.n6 Try.prog Try.sorted22_ren := {
  mixed := by kernel_rfl
  f6 := ⟨Try.f22.name, by decide, Try.func22.trans (congrArg some (by kernel_rfl))⟩
  f8 := ⟨Try.f27.name, by decide, Try.func27.trans (congrArg some (by kernel_rfl))⟩
  f11 := ⟨Try.f31.name, by decide, Try.func31.trans (congrArg some (by kernel_rfl))⟩
  t0 := Try.underlying0
  a0 := Try.isAgg0
  z0 := Try.sizeOf0
  v0 := Try.zeroValue0
  t24 := Try.underlying56
  a24 := Try.isAgg56
  z24 := Try.sizeOf56
  v24 := Try.zeroValue56
  t26 := Try.underlying9
  a26 := Try.isAgg9
  z26 := Try.sizeOf9
  v26 := Try.zeroValue9
  t28 := Try.underlying59
  a28 := Try.isAgg59
  z28 := Try.sizeOf59
  v28 := Try.zeroValue59
  i26 := by kernel_rfl }
def Try.sort28_ren : Go.Shelf.Ren := ⟨fun | 6 => 28 | 8 => 33 | 9 => 32 | 19 => 43 | 20 => 44 | 21 => 34 | 22 => 35 | 23 => 36 | 24 => 37 | 25 => 38 | 26 => 39 | 27 => 40 | 28 => 41 | 29 => 42 | 36 => 45 | 31 => 46 | 32 => 47 | 37 => 48 | 38 => 49 | 39 => 50 | 41 => 51 | n => n, fun | 27 => 56 | 29 => 9 | 3 => 3 | 32 => 69 | 26 => 56 | 0 => 0 | 44 => 79 | 46 => 81 | 4 => 4 | 36 => 72 | 35 => 71 | 41 => 41 | 5 => 5 | 9 => 9 | 53 => 82 | 57 => 86 | 63 => 88 | 64 => 89 | n => n, fun | n => n⟩
theorem Try.sort28 : Go.Proofs.SlLaysM.n6 Try.prog Try.sort28_ren := {
  mixed := by kernel_rfl
  f6 := ⟨Try.f28.name, by decide, Try.func28.trans (congrArg some (by kernel_rfl))⟩
  f8 := Try.func33.trans (congrArg some (by kernel_rfl))
  f9 := ⟨Try.f32.name, by decide, Try.func32.trans (congrArg some (by kernel_rfl))⟩
  f19 := Try.func43.trans (congrArg some (by kernel_rfl))
  f20 := Try.func44.trans (congrArg some (by kernel_rfl))
  f21 := ⟨Try.f34.name, by decide, Try.func34.trans (congrArg some (by kernel_rfl))⟩
  f22 := ⟨Try.f35.name, by decide, Try.func35.trans (congrArg some (by kernel_rfl))⟩
  f23 := ⟨Try.f36.name, by decide, Try.func36.trans (congrArg some (by kernel_rfl))⟩
  f24 := ⟨Try.f37.name, by decide, Try.func37.trans (congrArg some (by kernel_rfl))⟩
  f25 := ⟨Try.f38.name, by decide, Try.func38.trans (congrArg some (by kernel_rfl))⟩
  f26 := ⟨Try.f39.name, by decide, Try.func39.trans (congrArg some (by kernel_rfl))⟩
  f27 := ⟨Try.f40.name, by decide, Try.func40.trans (congrArg some (by kernel_rfl))⟩
  f28 := ⟨Try.f41.name, by decide, Try.func41.trans (congrArg some (by kernel_rfl))⟩
  f29 := ⟨Try.f42.name, by decide, Try.func42.trans (congrArg some (by kernel_rfl))⟩
  f31 := Try.func46.trans (congrArg some (by kernel_rfl))
  f32 := Try.func47.trans (congrArg some (by kernel_rfl))
  f36 := ⟨Try.f45.name, by decide, Try.func45.trans (congrArg some (by kernel_rfl))⟩
  f37 := ⟨Try.f48.name, by decide, Try.func48.trans (congrArg some (by kernel_rfl))⟩
  f38 := ⟨Try.f49.name, by decide, Try.func49.trans (congrArg some (by kernel_rfl))⟩
  f39 := ⟨Try.f50.name, by decide, Try.func50.trans (congrArg some (by kernel_rfl))⟩
  f41 := ⟨Try.f51.name, by decide, Try.func51.trans (congrArg some (by kernel_rfl))⟩
  t0 := Try.underlying0
  a0 := Try.isAgg0
  z0 := Try.sizeOf0
  v0 := Try.zeroValue0
  t3 := Try.underlying3
  a3 := Try.isAgg3
  z3 := Try.sizeOf3
  v3 := Try.zeroValue3
  t4 := Try.underlying4
  a4 := Try.isAgg4
  z4 := Try.sizeOf4
  v4 := Try.zeroValue4
  t5 := Try.underlying5
  a5 := Try.isAgg5
  z5 := Try.sizeOf5
  v5 := Try.zeroValue5
  t9 := Try.underlying9
  a9 := Try.isAgg9
  z9 := Try.sizeOf9
  v9 := Try.zeroValue9
  t26 := Try.underlying56
  a26 := Try.isAgg56
  z26 := Try.sizeOf56
  v26 := Try.zeroValue56
  t27 := Try.underlying56
  a27 := Try.isAgg56
  z27 := Try.sizeOf56
  v27 := Try.zeroValue56
  t29 := Try.underlying9
  a29 := Try.isAgg9
  z29 := Try.sizeOf9
  v29 := Try.zeroValue9
  t32 := Try.underlying69
  a32 := Try.isAgg69
  z32 := Try.sizeOf69
  v32 := Try.zeroValue69
  t35 := Try.underlying71
  a35 := Try.isAgg71
  z35 := Try.sizeOf71
  v35 := Try.zeroValue71
  t36 := Try.underlying72
  a36 := Try.isAgg72
  z36 := Try.sizeOf72
  v36 := Try.zeroValue72
  t41 := Try.underlying41
  a41 := Try.isAgg41
  z41 := Try.sizeOf41
  v41 := Try.zeroValue41
  t44 := Try.underlying79
  a44 := Try.isAgg79
  z44 := Try.sizeOf79
  v44 := Try.zeroValue79
  t46 := Try.underlying81
  a46 := Try.isAgg81
  z46 := Try.sizeOf81
  v46 := Try.zeroValue81
  t53 := Try.underlying82
  a53 := Try.isAgg82
  z53 := Try.sizeOf82
  v53 := Try.zeroValue82
  t57 := Try.underlying86
  a57 := Try.isAgg86
  z57 := Try.sizeOf86
  v57 := Try.zeroValue86
  t63 := Try.underlying88
  a63 := Try.isAgg88
  z63 := Try.sizeOf88
  v63 := Try.zeroValue88
  t64 := Try.underlying89
  a64 := Try.isAgg89
  z64 := Try.sizeOf89
  v64 := Try.zeroValue89 }
end Go.Proofs


namespace Go.AS.C
open Go Go.RowKit Go.Maps Go.Sort Go.Proofs Go.Shelf
/-! The kit's contract of slices.Sorted(maps.Keys(m)), laid at this program. -/
theorem sorts22 (m : Nat) : AnyZ.SortsIn Try.prog Try.sorted22_ren Fence.wide m :=
  ⟨fun blk off cap ss W hH hblk hsz => callsIn_wide.2 (AnyM.slices_Sort_string Try.sort28 blk off cap ss W hH hblk hsz),
   fun p cap W => callsIn_wide.2 (AnyM.slices_Sort_string_none Try.sort28 p cap W)⟩
set_option maxHeartbeats 1000000 in
theorem sortsKeys : SortsKeys Try.prog 22 29 9 := by
  intro Bm b nn D0 w hlt hc hown hs
  have hmx : maxLen = 9223372036854775807 := by decide
  have hseq : SeqGives Fence.wide 2 Try.prog 29 #[.pointer (some ⟨Bm, 0, none⟩)] encStr (fun ss => ss.Perm (strKeys D0)) (Maps.size D0) w :=
    AnyZ.keys_gives (ρ := Try.keys23_ren) { Try.keys23 with } Fence.wide _ trivial rfl (by omega) Bm b nn D0 _ hlt hc hown
  exact (callsIn_wide (n := 5)).1 (AnyZ.sorted_in Try.sorted22 Fence.wide 5 trivial trivial trivial trivial rfl (by omega) (sorts22 _) (enters_of Try.func28 (by kernel_rfl) rfl) 29 #[.pointer (some ⟨Bm, 0, none⟩)] trivial (enters_of Try.func29 (by kernel_rfl) rfl) _ _ (by omega) (by omega) _ hseq)
end Go.AS.C


namespace Go.AS
open Go Go.RowKit Go.Proofs
set_option linter.unusedVariables false
set_option linter.unusedSimpArgs false

/-! The kit's contract of strings.IndexFunc, told of abstract states. -/
section
variable {G : Nat} {P : Program} {A : AH} {w : World}
/-- A function over runes that needs no memory. -/
theorem pred_grows {g : FuncId} {p : Nat → Bool} (h : ∀ x : Nat, x ≤ 1114111 → ACalls 0 P g [.int .i32 x] (fun v _ => v = .bool (p x)) []) (w : World) : PredGrows P g #[] p w := by
  intro W x hx _
  have h1 := (h x hx).apply (μ := []) (w := W) (args' := #[.int .i32 x]) rel_none rfl (fun j v v' hv hv' => by
    match j with
    | 0 =>
      simp at hv hv'
      subst hv hv'
      exact .flat rfl
    | j + 1 => simp at hv)
  refine h1.mono ?_
  rintro e w' ⟨v, v', μ', A', rfl, hv, hr, hs, rfl⟩
  rw [hv.bool]
  exact ⟨rfl, hs.os, hs.tape, hs.output, hs.size, fun k hk => hs.keep k hk (fun i b e hb => by simp at hb)⟩
/-- What a machine's function must do to find a rune. -/
def IdxFuncs (P : Program) (f : FuncId) : Prop :=
  ∀ (g : Nat) (p : Nat → Bool) (s : ByteArray) (w : World), (∀ args w, (callFunc g args).run P w = .ok (.enter g args) w) → PredGrows P g #[] p w →
    Calls P f #[.string s, .func (.func g) #[] #[]] w fun e w' => e = .returned (.int .i64 (Lib.idxFunc p true s)) ∧ Below w.heap.size w w'
theorem idxfunc_spec {f g : FuncId} (hf : IdxFuncs P f) {p : Nat → Bool} (hok : calleeOk P g = true) (h : ∀ x : Nat, x ≤ 1114111 → ACalls 0 P g [.int .i32 x] (fun v _ => v = .bool (p x)) []) {s : ByteArray} {Q : Value → AH → Prop}
    (hq : Q (.int .i64 (Lib.idxFunc p true s)) A) : ACalls G P f [.string s, .func (.func g) #[] #[]] Q A := by
  intro μ args' w hr h1 h2
  obtain ⟨s', v', rfl⟩ : ∃ s' v', args' = #[s', v'] := by
    have : args'.size = 2 := by simpa using h1
    exact ⟨args'[0], args'[1], by apply Array.ext (by simpa using this); intro i hi1 hi2; simp at hi2; match i with | 0 => rfl | 1 => rfl⟩
  have hs := (h2 0 _ s' rfl rfl).string
  have hv := h2 1 _ v' rfl rfl
  subst hs
  have hv' : v' = .func (.func g) #[] #[] := by
    cases hv with
    | flat h => cases h
    | func hpl k1 _ k3 _ =>
      rename_i a' b' _ _
      have e1 : a' = #[] := Array.eq_empty_of_size_eq_zero (by rw [← k1]; rfl)
      have e2 : b' = #[] := Array.eq_empty_of_size_eq_zero (by rw [← k3]; rfl)
      rw [e1, e2]
  subst hv'
  refine (hf g p s w (fun args w => run_callFunc hok args w) (pred_grows h w)).mono ?_
  rintro en w' ⟨rfl, hb⟩
  obtain ⟨hr1, hs1⟩ := hr.below hb
  exact ⟨_, _, μ, A, rfl, .flat rfl, hr1, hs1, hq⟩
end
end Go.AS


/-
  DERIVED: THE SHELF's CONTRACTS AT THIS DUMP, IN PLAIN WORDS (tools/lay-plain.mjs out of 'TryShelf.lean', which tools/lay-shelf.mjs wrote): THE SAME DECLARATIONS UNDER THE SAME NAMES: 'import', 'namespace', 'open', 'def', 'theorem' AND NOTHING ELSE: no command of the shelf's: FOR A HAND-IN. Each laying: the table of numbers ('.._ren') and one theorem, a field a fact of the dump's own or the kernel's comparison; each contract: ONE APPLICATION.
-/
namespace Go.Proofs
open Go.Shelf
def Try.laysGw15_ren : Go.Shelf.Ren := ⟨fun | 15 => 25 | 20 => 30 | n => n, fun | 9 => 9 | 23 => 63 | 3 => 3 | 4 => 4 | 0 => 0 | 21 => 21 | n => n, fun | n => n⟩
theorem Try.laysGw15 : Go.Proofs.LaysGw.n15 Try.prog Try.laysGw15_ren := {
  mixed := by kernel_rfl
  f15 := Try.func25.trans (congrArg some (by kernel_rfl))
  f20 := Try.func30.trans (congrArg some (by kernel_rfl))
  t0 := Try.underlying0
  a0 := Try.isAgg0
  z0 := Try.sizeOf0
  v0 := Try.zeroValue0
  i0 := by kernel_rfl
  t3 := Try.underlying3
  a3 := Try.isAgg3
  z3 := Try.sizeOf3
  v3 := Try.zeroValue3
  i3 := by kernel_rfl
  t4 := Try.underlying4
  a4 := Try.isAgg4
  z4 := Try.sizeOf4
  v4 := Try.zeroValue4
  i4 := by kernel_rfl
  t9 := Try.underlying9
  a9 := Try.isAgg9
  z9 := Try.sizeOf9
  v9 := Try.zeroValue9
  i9 := by kernel_rfl
  t21 := Try.underlying21
  a21 := Try.isAgg21
  z21 := Try.sizeOf21
  v21 := Try.zeroValue21
  i21 := by kernel_rfl
  t23 := Try.underlying63
  a23 := Try.isAgg63
  z23 := Try.sizeOf63
  v23 := Try.zeroValue63
  i23 := by kernel_rfl }
open Go.RowKit Go.Lib in
theorem Try.strings_IndexFunc_grows (g : Nat) (lb : Array Value) (eg : ∀ args w, (callFunc g args).run Try.prog w = .ok (.enter g args) w) (p : Nat → Bool) (s : ByteArray) (w : World) (hp : PredGrows Try.prog g lb p w) :
    Calls Try.prog 25 #[.string s, .func (.func g) #[] lb] w fun e w' => e = .returned (.int .i64 (Lib.idxFunc p true s)) ∧ Below w.heap.size w w' := Any.strings_IndexFunc_grows Try.laysGw15 g lb eg p s w hp
end Go.Proofs


namespace Go.AS.C
open Go Go.Proofs
/-! The kit's contracts, told of abstract states. -/
theorem idxFuncs : IdxFuncs Try.prog strings_IndexFunc :=
  fun g p s w eg hp => Try.strings_IndexFunc_grows g #[] eg p s w hp
end Go.AS.C


namespace Go.AS.C
open Go Go.Proofs
set_option linter.unusedVariables false
set_option linter.unusedSimpArgs false
set_option maxRecDepth 10000

/-! Names: op.Name, and the reference's. -/
theorem bl_size (s : ByteArray) : (bl s).length = s.size := byt_str
def nameB (b : UInt8) : Bool := decide (97 ≤ b.toNat ∧ b.toNat ≤ 122 ∨ 48 ≤ b.toNat ∧ b.toNat ≤ 57 ∨ b.toNat = 45)
def nameOk (s : ByteArray) : Bool := (bl s).all nameB && decide (1 ≤ s.size ∧ s.size ≤ 12)
def oddR (r : Nat) : Bool := !decide (97 ≤ r ∧ r ≤ 122 ∨ 48 ≤ r ∧ r ≤ 57 ∨ r = 45)
theorem geq32 (a b : Int) : binA .geq (.int .i32 a) (.int .i32 b) = some (.bool (decide (a ≥ b))) := by simp [binA]
theorem leq32 (a b : Int) : binA .leq (.int .i32 a) (.int .i32 b) = some (.bool (decide (a ≤ b))) := by simp [binA]
theorem fits0_op_Name_1 : Fits Try.prog (0) op_Name_1 ic_op_Name_1 [.tmp 2] 1 := by
  have h : ((Try.prog.funcs[op_Name_1]?).bind fun fn => fn.body.bind (cCode Try.prog (0) fn.ntmps false)) = some ic_op_Name_1 := by kernel_rfl
  obtain ⟨fn, h1, h2, h3, h4⟩ := fits_op_Name_1
  rw [h1] at h
  exact ⟨fn, h1, h2, h, h4⟩
theorem op_Name_1_spec (r : Nat) : ACalls (0) Try.prog op_Name_1 [.int .i32 r] (fun v _ => v = .bool (oddR r)) [] := by
  refine ACalls.of_fits mixed fits0_op_Name_1 rfl ?_
  unfold ic_op_Name_1
  have i0 : initA [.int .i32 r] 0 = .int .i32 r := rfl
  generalize initA [.int .i32 r] = a at i0
  unfold oddR
  by_cases h1 : 97 ≤ r
  · by_cases h2 : r ≤ 122
    · simp (maxSteps := 1000000) (disch := omega) only [stepS, reduceIte, Nat.reduceBEq, Nat.reduceEqDiff, tupleOf, stepT, i0, geq32, leq32]
      try (simp [*]; done)
      try (simp; omega)
    · simp (maxSteps := 1000000) (disch := omega) only [stepS, reduceIte, Nat.reduceBEq, Nat.reduceEqDiff, tupleOf, stepT, i0, geq32, leq32]
      try (simp [*]; done)
      try (simp; omega)
  · by_cases h3 : 48 ≤ r
    · by_cases h4 : r ≤ 57
      · simp (maxSteps := 1000000) (disch := omega) only [stepS, reduceIte, Nat.reduceBEq, Nat.reduceEqDiff, tupleOf, stepT, i0, geq32, leq32]
        try (simp [*]; done)
        try (simp; omega)
      · simp (maxSteps := 1000000) (disch := omega) only [stepS, reduceIte, Nat.reduceBEq, Nat.reduceEqDiff, tupleOf, stepT, i0, geq32, leq32]
        try (simp [*]; done)
        try (simp; omega)
    · by_cases h5 : r = 45
      · subst h5
        simp (maxSteps := 1000000) (disch := omega) only [stepS, reduceIte, Nat.reduceBEq, Nat.reduceEqDiff, tupleOf, stepT, i0, geq32, leq32]
        try (simp [*]; done)
        try (simp; omega)
      · simp (maxSteps := 1000000) (disch := omega) only [stepS, reduceIte, Nat.reduceBEq, Nat.reduceEqDiff, tupleOf, stepT, i0, geq32, leq32]
        try (simp [*]; done)
        try (simp; omega)
theorem decode_hi {s : ByteArray} {i : Nat} (h : 128 ≤ (s.get! i).toNat) : 128 ≤ (Utf8.decode s i).1 := by
  unfold Utf8.decode
  simp only [Nat.add_zero]
  rw [if_neg (by omega)]
  unfold Utf8.runeError
  repeat' split
  all_goals simp only []
  all_goals first | omega | (rename_i h; simp only [Bool.and_eq_true, decide_eq_true_eq] at h; omega) | skip
theorem decode_lo {s : ByteArray} {i : Nat} (h : (s.get! i).toNat < 128) : Utf8.decode s i = ((s.get! i).toNat, 1) := by
  unfold Utf8.decode
  simp only [Nat.add_zero]
  rw [if_pos (by omega)]
theorem idx_from {s : ByteArray} : ∀ (f pos : Nat), s.size ≤ pos + f → (Lib.idxFuncFrom oddR true s f pos < 0 ↔ ∀ b ∈ (bl s).drop pos, nameB b = true)
  | f, pos, hf => by
    by_cases hp : pos < s.size
    · obtain ⟨f, rfl⟩ : ∃ f', f = f' + 1 := ⟨f - 1, by omega⟩
      unfold Lib.idxFuncFrom
      rw [if_pos hp]
      have hl : pos < (bl s).length := by rw [bl_size]; exact hp
      have hg : s.get! pos = (bl s)[pos] := by
        cases s with
        | mk d =>
          show d[pos]! = _
          simp only [bl] at hl ⊢
          rw [getElem!_pos d pos (by simpa using hl)]
          simp
      rw [List.drop_eq_getElem_cons hl]
      simp only [List.mem_cons, forall_eq_or_imp]
      rcases Nat.lt_or_ge (s.get! pos).toNat 128 with h | h
      · rw [decode_lo h]
        simp only
        have ih := idx_from (s := s) f (pos + 1) (by omega)
        have hn : nameB (bl s)[pos] = !oddR (s.get! pos).toNat := by
          rw [← hg]; unfold nameB oddR; simp
        cases ho : oddR (s.get! pos).toNat with
        | true =>
          rw [ho] at hn
          rw [if_pos rfl, hn]
          simp
        | false =>
          rw [ho] at hn
          rw [if_neg (by simp), hn, ih]
          simp
      · have hr := decode_hi h
        have ho : oddR (Utf8.decode s pos).1 = true := by
          unfold oddR
          all_goals (first | (simp; done) | (simp; omega))
        rw [ho, if_pos rfl]
        have hn : nameB (bl s)[pos] = false := by
          rw [← hg]; unfold nameB; simp; omega
        rw [hn]
        simp
    · rw [Lib.idxFuncFrom_end _ _ _ _ _ hp, List.drop_of_length_le (by rw [bl_size]; omega)]
      simp
theorem idx_name (s : ByteArray) : (Lib.idxFunc oddR true s < 0) ↔ (bl s).all nameB = true := by
  unfold Lib.idxFunc
  rw [idx_from s.size 0 (by omega), List.drop_zero, List.all_eq_true]
theorem op_Name_1_ok : calleeOk Try.prog op_Name_1 = true := by kernel_rfl
theorem op_Name_spec {A : AH} {s : ByteArray} {Q : Value → AH → Prop} (hq : Q (.bool (nameOk s)) A) : ACalls 0 Try.prog op_Name [.string s] Q A := by
  refine ACalls.of_fits mixed fits_op_Name rfl ?_
  unfold ic_op_Name
  have i0 : initA [.string s] 0 = .string s := rfl
  generalize initA [.string s] = a at i0
  simp (maxSteps := 1000000) (disch := omega) only [stepS, reduceIte, Nat.reduceBEq, Nat.reduceEqDiff, tupleOf, stepT, i0]
  refine idxfunc_spec idxFuncs (p := oddR) op_Name_1_ok (fun x _ => ?_) ?_
  · exact op_Name_1_spec x
  have hx := idx_name s
  generalize Lib.idxFunc oddR true s = x at hx
  unfold nameOk at hq
  by_cases h1 : x < 0
  · rw [hx.1 h1, Bool.true_and] at hq
    by_cases h2 : 1 ≤ s.size
    · by_cases h3 : s.size ≤ 12
      · rw [decide_eq_true ⟨h2, h3⟩] at hq
        simp (maxSteps := 1000000) (disch := omega) only [stepS, reduceIte, Nat.reduceBEq, Nat.reduceEqDiff, tupleOf, stepT, i0]
        exact hq
      · rw [decide_eq_false (fun h => h3 h.2)] at hq
        simp (maxSteps := 1000000) (disch := omega) only [stepS, reduceIte, Nat.reduceBEq, Nat.reduceEqDiff, tupleOf, stepT, i0]
        exact hq
    · rw [decide_eq_false (fun h => h2 h.1)] at hq
      simp (maxSteps := 1000000) (disch := omega) only [stepS, reduceIte, Nat.reduceBEq, Nat.reduceEqDiff, tupleOf, stepT, i0]
      exact hq
  · rw [Bool.eq_false_iff.2 (fun h => h1 (hx.2 h)), Bool.false_and] at hq
    simp (maxSteps := 1000000) (disch := omega) only [stepS, reduceIte, Nat.reduceBEq, Nat.reduceEqDiff, tupleOf, stepT, i0]
    exact hq


theorem idx_byte {A : AH} {s : ByteArray} {j : Nat} {b : UInt8} (h : (bl s)[j]? = some b) : sIdxs A (.string s) (.int .i64 (j : Int)) = some (.int .u8 (b.toNat : Int), A) := by
  unfold sIdxs asI
  simp only [Option.bind_some, Int.toNat_natCast]
  rw [if_pos (by omega)]
  have e : s[j]? = some b := by
    cases s with
    | mk d =>
      have h' : d.toList[j]? = some b := h
      rw [Array.getElem?_toList] at h'
      have hj := (Array.getElem?_eq_some_iff.1 h').1
      show (if h : j < d.size then some d[j] else none) = _
      rw [dif_pos hj]
      rw [Array.getElem?_eq_getElem hj] at h'
      exact h'
  rw [e]; rfl
theorem ref14_Name_spec {A : AH} {s : ByteArray} {Q : Value → AH → Prop} (hs : s.size < 2 ^ 50) (hq : Q (.bool (nameOk s)) A) : ACalls 0 Try.prog chantryref14_Name [.string s] Q A := by
  refine ACalls.of_fits mixed fits_chantryref14_Name rfl ?_
  unfold ic_chantryref14_Name
  have i0 : initA [.string s] 0 = .string s := rfl
  generalize initA [.string s] = a at i0
  simp (maxSteps := 1000000) (disch := omega) only [stepS, reduceIte, Nat.reduceBEq, Nat.reduceEqDiff, tupleOf, stepT, i0]
  refine W_loop (fun a' B => B = A ∧ ∃ k : Nat, k ≤ s.size ∧ ((bl s).take k).all nameB = true ∧ a' 0 = .string s ∧ a' 3 = ii k) (fun a' _ => s.size - (iv (a' 3)).toNat) ?_ ?_
  · refine ⟨rfl, 0, by omega, ?_⟩
    simp (maxSteps := 1000000) (disch := omega) only [stepS, reduceIte, Nat.reduceBEq, Nat.reduceEqDiff, tupleOf, stepT, i0]
    simp
  · rintro a2 B ⟨rfl, k, hk, hall, g0, g3⟩
    rcases Nat.lt_or_ge k s.size with hlt | hge
    · obtain ⟨b, hb⟩ : ∃ b, (bl s)[k]? = some b := ⟨_, List.getElem?_eq_getElem (by rw [bl_size]; exact hlt)⟩
      have e1 := idx_byte (A := B) hb
      have htk : (bl s).take (k + 1) = (bl s).take k ++ [b] := by rw [List.take_add_one, hb]; rfl
      have good : nameB b = true → ((bl s).take (k + 1)).all nameB = true := fun h => by rw [htk, List.all_append, hall]; simp [h]
      have bad : nameB b = false → Q (.bool false) B := fun h => by
        have : (bl s).all nameB = false := by
          rw [← Bool.not_eq_true, List.all_eq_true]
          intro h2
          rw [h2 b (List.mem_of_getElem? hb)] at h
          cases h
        unfold nameOk at hq
        rw [this] at hq
        exact hq
      by_cases h1 : 97 ≤ b.toNat
      · by_cases h2 : b.toNat ≤ 122
        · simp (maxSteps := 1000000) (disch := omega) only [stepS, reduceIte, Nat.reduceBEq, Nat.reduceEqDiff, tupleOf, stepT, g0, g3, e1]
          exact ⟨⟨k + 1, by omega, good (by simp [nameB, h1, h2]), rfl⟩, by omega⟩
        · simp (maxSteps := 1000000) (disch := omega) only [stepS, reduceIte, Nat.reduceBEq, Nat.reduceEqDiff, tupleOf, stepT, g0, g3, e1]
          exact bad (by simp [nameB]; omega)
      · by_cases h3 : 48 ≤ b.toNat
        · by_cases h4 : b.toNat ≤ 57
          · simp (maxSteps := 1000000) (disch := omega) only [stepS, reduceIte, Nat.reduceBEq, Nat.reduceEqDiff, tupleOf, stepT, g0, g3, e1]
            exact ⟨⟨k + 1, by omega, good (by simp [nameB]; omega), rfl⟩, by omega⟩
          · simp (maxSteps := 1000000) (disch := omega) only [stepS, reduceIte, Nat.reduceBEq, Nat.reduceEqDiff, tupleOf, stepT, g0, g3, e1]
            exact bad (by simp [nameB]; omega)
        · by_cases h5 : b.toNat = 45
          · simp (maxSteps := 1000000) (disch := omega) only [stepS, reduceIte, Nat.reduceBEq, Nat.reduceEqDiff, tupleOf, stepT, g0, g3, e1]
            exact ⟨⟨k + 1, by omega, good (by simp [nameB, h5]), rfl⟩, by omega⟩
          · simp (maxSteps := 1000000) (disch := omega) only [stepS, reduceIte, Nat.reduceBEq, Nat.reduceEqDiff, tupleOf, stepT, g0, g3, e1]
            exact bad (by simp [nameB]; omega)
    · have hall2 : (bl s).all nameB = true := by rw [List.take_of_length_le (by rw [bl_size]; omega)] at hall; exact hall
      unfold nameOk at hq
      rw [hall2, Bool.true_and] at hq
      by_cases h2 : 1 ≤ s.size
      · by_cases h3 : s.size ≤ 12
        · rw [decide_eq_true ⟨h2, h3⟩] at hq
          simp (maxSteps := 1000000) (disch := omega) only [stepS, reduceIte, Nat.reduceBEq, Nat.reduceEqDiff, tupleOf, stepT, g0, g3]
          exact hq
        · rw [decide_eq_false (fun h => h3 h.2)] at hq
          simp (maxSteps := 1000000) (disch := omega) only [stepS, reduceIte, Nat.reduceBEq, Nat.reduceEqDiff, tupleOf, stepT, g0, g3]
          exact hq
      · rw [decide_eq_false (fun h => h2 h.1)] at hq
        simp (maxSteps := 1000000) (disch := omega) only [stepS, reduceIte, Nat.reduceBEq, Nat.reduceEqDiff, tupleOf, stepT, g0, g3]
        exact hq
end Go.AS.C


namespace Go.AS.C
open Go Go.Proofs
set_option linter.unusedVariables false
set_option linter.unusedSimpArgs false
set_option maxRecDepth 10000

/-! Counts and rows, as they stand in the heap. -/
abbrev noT : ByteArray := ⟨#[]⟩
def CountsA (A : AH) (v : Value) (l : List CountV) : Prop := Sl A 2 v (l.map countE).length (l.map countE).flatten
theorem countE_ok (l : List CountV) : ∀ e ∈ l.map countE, e.length = 2 ∧ ones e = true := by
  intro e he
  rw [List.mem_map] at he
  obtain ⟨w, _, rfl⟩ := he
  exact ⟨rfl, rfl⟩
theorem CountsA.le {A B : AH} {v : Value} {l : List CountV} (h : CountsA A v l) (hl : Le A B) : CountsA B v l := Sl.le h hl
theorem CountsA.len {A : AH} {v : Value} {l : List CountV} (h : CountsA A v l) (B : AH) : sLens B false v = some (ii l.length, B) := by
  have := Sl.lenB h B
  rw [List.length_map] at this
  exact this
theorem CountsA.at {A : AH} {v : Value} {l : List CountV} (h : CountsA A v l) {j : Nat} {w : CountV} (hj : l[j]? = some w) : ∃ p, (∀ (B : AH) (n : Int), n = (j : Int) → sIaddr B v (.int .i64 n) 2 = some (p, B)) ∧ ∀ B, Le A B → sLoadn B p 2 = some (.agg #[.string w.name, ii w.n], B) := by
  obtain ⟨p, _, p1, _, p3⟩ := Sl.el h (countE_ok l) (j := j) (e := countE w) (by rw [List.getElem?_map, hj]; rfl)
  exact ⟨p, p1, fun B hB => p3 B (fun k b hb _ => hB.get hb)⟩
theorem CountsA.fld {A : AH} {v : Value} {l : List CountV} (h : CountsA A v l) {j : Nat} {w : CountV} (hj : l[j]? = some w) : ∃ p q0 q1, (∀ (B : AH) (n : Int), n = (j : Int) → sIaddr B v (.int .i64 n) 2 = some (p, B)) ∧ (∀ B, sFaddr B p 0 = some (q0, B)) ∧ (∀ B, sFaddr B p 1 = some (q1, B)) ∧ (∀ B, Le A B → sLoad1 B q0 = some (.string w.name, B)) ∧ ∀ B, Le A B → sLoad1 B q1 = some (ii w.n, B) := by
  obtain ⟨p, p1, p2⟩ := Sl.elfs h (countE_ok l) (j := j) (e := countE w) (x0 := .string w.name) (by rw [List.getElem?_map, hj]; rfl) rfl
  obtain ⟨q0, a1, a2⟩ := p2 0 (.string w.name) rfl
  obtain ⟨q1, b1, b2⟩ := p2 1 (ii w.n) rfl
  exact ⟨p, q0, q1, p1, a1, b1, a2, b2⟩
structure RowV where
  kind : Int
  name : ByteArray
  text : ByteArray
  n : Int
  id : ByteArray
  at' : ByteArray
  gone : Bool
def rowE (r : RowV) : List Value := [ii r.kind, .string r.name, .string r.text, ii r.n, .string r.id, .string r.at', .bool r.gone]
def cRow (c : CountV) : RowV := ⟨1, c.name, noT, c.n, noT, noT, false⟩
def RowsA (A : AH) (v : Value) (l : List RowV) : Prop := Sl A 7 v (l.map rowE).length (l.map rowE).flatten
theorem rowE_ok (l : List RowV) : ∀ e ∈ l.map rowE, e.length = 7 ∧ ones e = true := by
  intro e he
  rw [List.mem_map] at he
  obtain ⟨w, _, rfl⟩ := he
  exact ⟨rfl, rfl⟩
theorem rowE_inj (x y : RowV) (h : rowE x = rowE y) : x = y := by cases x; cases y; simpa [rowE] using h
theorem RowsA.le {A B : AH} {v : Value} {l : List RowV} (h : RowsA A v l) (hl : Le A B) : RowsA B v l := Sl.le h hl
theorem RowsA.len {A : AH} {v : Value} {l : List RowV} (h : RowsA A v l) (B : AH) : sLens B false v = some (ii l.length, B) := by
  have := Sl.lenB h B
  rw [List.length_map] at this
  exact this
abbrev rowG (w : RowV) : Value := .agg #[ii w.kind, .string w.name, .string w.text, ii w.n, .string w.id, .string w.at', .bool w.gone]
theorem RowsA.at {A : AH} {v : Value} {l : List RowV} (h : RowsA A v l) {j : Nat} {w : RowV} (hj : l[j]? = some w) : ∃ p, (∀ (B : AH) (n : Int), n = (j : Int) → sIaddr B v (.int .i64 n) 7 = some (p, B)) ∧ (∀ B, Le A B → sLoadn B p 7 = some (rowG w, B)) ∧ (∀ o x, (rowE w)[o]? = some x → ∃ q, (∀ B, sFaddr B p o = some (q, B)) ∧ ∀ B, Le A B → sLoad1 B q = some (x, B)) := by
  obtain ⟨p, _, p1, _, p3⟩ := Sl.el h (rowE_ok l) (j := j) (e := rowE w) (by rw [List.getElem?_map, hj]; rfl)
  obtain ⟨p', p1', p2⟩ := Sl.elfs h (rowE_ok l) (j := j) (e := rowE w) (x0 := ii w.kind) (by rw [List.getElem?_map, hj]; rfl) rfl
  have e : p' = p := by
    have h1 := p1 A j rfl
    rw [p1' A j rfl] at h1
    injection h1 with h1
    injection h1 with h1 _
  subst e
  exact ⟨p', p1, fun B hB => p3 B (fun k b hb _ => hB.get hb), p2⟩
/-- Numbers in range, texts not too long. -/
def FinC (w : CountV) : Prop := w.name.size ≤ 200 ∧ I64 w.n
def FinR (w : RowV) : Prop := I64 w.kind ∧ w.name.size ≤ maxLen ∧ w.text.size ≤ maxLen ∧ I64 w.n ∧ w.id.size ≤ maxLen ∧ w.at'.size ≤ maxLen
theorem le_max {n : Nat} (h : n ≤ 200) : n ≤ maxLen := Nat.le_trans h (by decide)
theorem countE_inj (x y : CountV) (h : countE x = countE y) : x = y := by cases x; cases y; simpa [countE] using h
theorem eqC {A : AH} {a b : CountV} (ha : FinC a) (hb : FinC b) : (a = b → sEqagg A true (Try.prog.keyLits 8 33) (.agg #[.string a.name, ii a.n]) (.agg #[.string b.name, ii b.n]) = some (.bool false, A)) ∧ (a ≠ b → sEqagg A true (Try.prog.keyLits 8 33) (.agg #[.string a.name, ii a.n]) (.agg #[.string b.name, ii b.n]) = some (.bool true, A)) :=
  ⟨fun h => eqagg_flat (b := true) (ks := [.str, .int .i64]) (xs := countE a) (ys := countE b) (by kernel_rfl) ⟨le_max ha.1, FK.hasI ha.2, trivial⟩ ⟨le_max hb.1, FK.hasI hb.2, trivial⟩ ⟨fun _ => by rw [h], fun _ => rfl⟩,
   fun h => eqagg_flat (b := false) (ks := [.str, .int .i64]) (xs := countE a) (ys := countE b) (by kernel_rfl) ⟨le_max ha.1, FK.hasI ha.2, trivial⟩ ⟨le_max hb.1, FK.hasI hb.2, trivial⟩ ⟨(fun h => by cases h), fun e => absurd (countE_inj _ _ e) h⟩⟩
theorem has_row {d : RowV} (h : FinR d) : All2 (fun v k => FK.Has k v) (rowE d) [.int .i64, .str, .str, .int .i64, .str, .str, .bool] := ⟨FK.hasI h.1, h.2.1, h.2.2.1, FK.hasI h.2.2.2.1, h.2.2.2.2.1, h.2.2.2.2.2, trivial, trivial⟩
theorem eqR {A : AH} {a b : RowV} (ha : FinR a) (hb : FinR b) : (a = b → sEqagg A true (Try.prog.keyLits 8 48) (rowG a) (rowG b) = some (.bool false, A)) ∧ (a ≠ b → sEqagg A true (Try.prog.keyLits 8 48) (rowG a) (rowG b) = some (.bool true, A)) :=
  ⟨fun h => eqagg_flat (b := true) (ks := [.int .i64, .str, .str, .int .i64, .str, .str, .bool]) (xs := rowE a) (ys := rowE b) (by kernel_rfl) (has_row ha) (has_row hb) ⟨fun _ => by rw [h], fun _ => rfl⟩,
   fun h => eqagg_flat (b := false) (ks := [.int .i64, .str, .str, .int .i64, .str, .str, .bool]) (xs := rowE a) (ys := rowE b) (by kernel_rfl) (has_row ha) (has_row hb) ⟨(fun h => by cases h), fun e => absurd (rowE_inj _ _ e) h⟩⟩
/-- The counters: a box that holds a map. -/
def CtrA (A : AH) (k i : Nat) (L : List CountV) : Prop := rowAt A k = some ([.map (some i)], .own, 0, true) ∧ ∃ es, mapAt A i = some es ∧ MapC es L
theorem CtrA.le {A B : AH} {k i : Nat} {L : List CountV} (h : CtrA A k i L) (hl : Le A B) : CtrA B k i L := by
  obtain ⟨h1, es, h2, h3⟩ := h
  exact ⟨hl.row h1, es, hl.map h2, h3⟩
theorem CtrA.ne {A : AH} {k i : Nat} {L : List CountV} (h : CtrA A k i L) : k ≠ i := by
  obtain ⟨h1, es, h2, h3⟩ := h
  rintro rfl
  have a := rowAt_get h1
  rw [mapAt_get h2] at a
  cases a
theorem CtrA.lt {A : AH} {k i : Nat} {L : List CountV} (h : CtrA A k i L) : k < A.length ∧ i < A.length := by
  obtain ⟨h1, es, h2, h3⟩ := h
  exact ⟨lt_of_get (rowAt_get h1), mapAt_lt h2⟩
/-- Other counters are as they were. -/
theorem CtrA.kp {A B : AH} {k i j : Nat} {L : List CountV} (h : CtrA A k i L) (hk : Keep A j B) (h1 : k ≠ j) (h2 : i ≠ j) : CtrA B k i L := by
  obtain ⟨g1, es, g2, g3⟩ := h
  exact ⟨rowAt_own (hk.2 k _ h1 (rowAt_get g1)), es, mapAt_of (hk.2 i _ h2 (mapAt_get g2)), g3⟩
theorem sl_kpm {A B : AH} {i sz n : Nat} {v : Value} {cs : List Value} {es : List (Value × Value)} (h : Sl A sz v n cs) (hk : Keep A i B) (hi : mapAt A i = some es) : Sl B sz v n cs := by
  obtain ⟨g0, h⟩ := h
  refine ⟨g0, ?_⟩
  rcases h with h | h | ⟨i', o, q, rc', st, ex', e1, e2, e3, e4, e5, e6⟩
  · exact .inl h
  · exact .inr (.inl h)
  · refine .inr (.inr ⟨i', o, q, rc', st, ex', e1, e2, hk.2 i' _ ?_ e3, e4, e5, e6⟩)
    rintro rfl
    rw [mapAt_get hi] at e3
    cases e3
theorem CountsA.kpm {A B : AH} {k i : Nat} {v : Value} {l L : List CountV} (h : CountsA A v l) (hc : CtrA A k i L) (hk : Keep A i B) : CountsA B v l := by
  obtain ⟨_, es, h2, _⟩ := hc
  exact sl_kpm h hk h2
theorem RowsA.kpm {A B : AH} {k i : Nat} {v : Value} {l : List RowV} {L : List CountV} (h : RowsA A v l) (hc : CtrA A k i L) (hk : Keep A i B) : RowsA B v l := by
  obtain ⟨_, es, h2, _⟩ := hc
  exact sl_kpm h hk h2
theorem good_count {A : AH} {F : Nat} (cs : List Value) (h : Good Try.prog A (F + 2) 33 cs) : ∃ w : CountV, cs = countE w ∧ (-9223372036854775808 ≤ w.n ∧ w.n < 9223372036854775808) := by
  obtain ⟨hl, hf⟩ := good_fields Try.underlying33 h
  have hc : Try.prog.cellsOf 33 = 2 := by kernel_rfl
  rw [hc] at hl
  match cs, hl with
  | [c0, c1], _ =>
    have e3 : Try.prog.cellsOf 3 = 1 := by kernel_rfl
    have e9 : Try.prog.cellsOf 9 = 1 := by kernel_rfl
    simp only [List.forall_mem_cons, e3, e9, List.drop_zero, List.drop_succ_cons, List.take_succ_cons, List.take_zero] at hf
    obtain ⟨h0, h1, _⟩ := hf
    obtain ⟨s, r0, b0⟩ := cell_str Try.underlying9 h0
    obtain ⟨n, r1, b1⟩ := cell_int Try.underlying3 h1
    injection r0 with r0 _
    injection r1 with r1 _
    subst r0 r1
    exact ⟨⟨s, n⟩, rfl, b1⟩
theorem law_counts {A : AH} {F : Nat} {v : Value} (h : GoodV Try.prog A (F + 3) 22 v) : ∃ l : List CountV, CountsA A v l ∧ l.length < 2 ^ 50 ∧ ∀ w ∈ l, -9223372036854775808 ≤ w.n ∧ w.n < 9223372036854775808 :=
  law_rows Try.underlying22 (by kernel_rfl) (by decide +kernel) good_count h
end Go.AS.C


namespace Go.AS.C
open Go Go.Proofs
set_option linter.unusedVariables false
set_option linter.unusedSimpArgs false
set_option maxRecDepth 10000

/-! counter.Empty, Add, Of. -/
def okN (s : ByteArray) (n : Int) : Bool := nameOk s && decide (-2147483647 ≤ n ∧ n ≤ 2147483647)
def addR (L : List CountV) (s : ByteArray) (n : Int) : List CountV := if okN s n = true then addC L s n else L
def errR (s : ByteArray) (n : Int) : Int := if okN s n = true then 0 else 1
theorem pnil_t {T : TypeId} {A : AH} : (if kindOf (.pointer T) (.pointer none) = true then sIsnil A (.pointer none) false else none) = some (.bool true, A) := id rfl
theorem pnil_f {T : TypeId} {A : AH} {x : Addr} : (if kindOf (.pointer T) (.pointer (some x)) = true then sIsnil A (.pointer (some x)) false else none) = some (.bool false, A) := id rfl
theorem empty_spec {A : AH} {Q : Value → AH → Prop} (hq : ∀ A', Le A A' → CtrA A' (A.length + 1) A.length [] → A'.length = A.length + 2 → Q (ptr (A.length + 1)) A') : ACalls 0 Try.prog counter_Empty [] Q A := by
  refine ACalls.of_fits mixed fits_counter_Empty rfl ?_
  unfold ic_counter_Empty
  generalize initA [] = a
  have hb : fillA [Value.map none] [(0, 1, Value.map (some A.length))] = some [.map (some A.length)] := rfl
  have hx : sBox (A ++ [.mp []]) (.agg #[.map (some A.length)]) = some (ptr (A.length + 1), (A ++ [.mp []]) ++ [.row [.map (some A.length)] .own 0 true]) := by
    have : (A ++ [Blk.mp []]).length = A.length + 1 := by simp
    rw [← this]; rfl
  simp (maxSteps := 1000000) (disch := omega) only [stepS, reduceIte, Nat.reduceBEq, Nat.reduceEqDiff, tupleOf, stepT, stepX, heapR, lensR, stepM, dsl, Nat.reduceAdd, Nat.reduceLeDiff, hb, hx]
  refine hq _ ((Le.push _ _).trans (.push _ _)) ⟨?_, [], ?_, MapC.nil⟩ (by simp)
  · exact rowAt_own (by rw [List.getElem?_append_right (by simp)]; simp)
  · exact mapAt_of (by rw [List.getElem?_append_left (by simp)]; simp)
theorem add_spec {A : AH} {k i : Nat} {L : List CountV} {s : ByteArray} {n : Int} {Q : Value → AH → Prop} (h : CtrA A k i L) (hr : RiseC L) (hb : BndC 4611686018427387904 L) (hn : I64 n)
    (hq : ∀ A', CtrA A' k i (addR L s n) → Keep A i A' → A'.length = A.length → Q (ii (errR s n)) A') : ACalls 0 Try.prog counter_Counts_Add [ptr k, .string s, ii n] Q A := by
  obtain ⟨h1, es, h2, h3⟩ := h
  refine ACalls.of_fits mixed fits_counter_Counts_Add rfl ?_
  unfold ic_counter_Counts_Add
  have i0 : initA [ptr k, .string s, ii n] 0 = ptr k := rfl
  have i1 : initA [ptr k, .string s, ii n] 1 = .string s := rfl
  have i2 : initA [ptr k, .string s, ii n] 2 = ii n := rfl
  generalize initA [ptr k, .string s, ii n] = a at i0 i1 i2
  unfold I64 at hn
  simp (maxSteps := 1000000) (disch := omega) only [stepS, reduceIte, Nat.reduceBEq, Nat.reduceEqDiff, tupleOf, stepT, stepX, heapR, lensR, stepM, dsl, Nat.reduceAdd, Nat.reduceLeDiff, i0, i1, i2, pnil_f]
  refine op_Name_spec ?_
  by_cases hs : nameOk s = true
  · by_cases hlo : n < -2147483647
    · simp (maxSteps := 1000000) (disch := omega) only [stepS, reduceIte, Nat.reduceBEq, Nat.reduceEqDiff, tupleOf, stepT, stepX, heapR, lensR, stepM, dsl, Nat.reduceAdd, Nat.reduceLeDiff, i0, i1, i2, hs]
      have he : okN s n = false := by unfold okN; simp; omega
      unfold addR errR at hq
      rw [he] at hq
      exact hq A ⟨h1, es, h2, h3⟩ (.refl _ _) rfl
    · by_cases hhi : n > 2147483647
      · simp (maxSteps := 1000000) (disch := omega) only [stepS, reduceIte, Nat.reduceBEq, Nat.reduceEqDiff, tupleOf, stepT, stepX, heapR, lensR, stepM, dsl, Nat.reduceAdd, Nat.reduceLeDiff, i0, i1, i2, hs]
        have he : okN s n = false := by unfold okN; simp; omega
        unfold addR errR at hq
        rw [he] at hq
        exact hq A ⟨h1, es, h2, h3⟩ (.refl _ _) rfl
      · have hlk : lookRes false (ii 0) (mget (.string s) es) = ii ((lookC L s).getD 0) := by
          rw [h3.2]
          cases lookC L s <;> rfl
        have hlq : lookQ (some es) .str (ii 0) false (.string s) A = some (ii ((lookC L s).getD 0), A) := by rw [lookQ_some keyOk_s h3.1, hlk]
        have huq : ∀ v, updQ (some es) i .str (.string s) v A = some (undef, A.set i (.mp (mput (.string s) v es))) := fun v => updQ_some keyOk_s h3.1
        have hbd := hb.look (by omega) hr s
        simp (maxSteps := 1000000) (disch := omega) only [stepS, reduceIte, Nat.reduceBEq, Nat.reduceEqDiff, tupleOf, stepT, stepX, heapR, lensR, stepM, dsl, Nat.reduceAdd, Nat.reduceLeDiff, i0, i1, i2, hs, h1, h2, hlq, huq]
        have he : okN s n = true := by unfold okN; simp [hs]; omega
        unfold addR errR at hq
        rw [he] at hq
        have hne : k ≠ i := CtrA.ne ⟨h1, es, h2, h3⟩
        refine hq _ ⟨rowAt_own ?_, _, mapAt_of ?_, h3.add hr s n⟩ (Keep.set _ _ _) (by simp)
        · rw [List.getElem?_set_ne (by omega)]; exact rowAt_get h1
        · rw [List.getElem?_set_self (mapAt_lt h2)]
  · have hs' : nameOk s = false := by simpa using hs
    simp (maxSteps := 1000000) (disch := omega) only [stepS, reduceIte, Nat.reduceBEq, Nat.reduceEqDiff, tupleOf, stepT, stepX, heapR, lensR, stepM, dsl, Nat.reduceAdd, Nat.reduceLeDiff, i0, i1, i2, hs']
    have he : okN s n = false := by unfold okN; simp [hs']
    unfold addR errR at hq
    rw [he] at hq
    exact hq A ⟨h1, es, h2, h3⟩ (.refl _ _) rfl
theorem add_nil {A : AH} {s : ByteArray} {n : Int} {Q : Value → AH → Prop} (hq : Q (ii 8) A) : ACalls 0 Try.prog counter_Counts_Add [.pointer none, .string s, ii n] Q A := by
  refine ACalls.of_fits mixed fits_counter_Counts_Add rfl ?_
  unfold ic_counter_Counts_Add
  have i0 : initA [.pointer none, .string s, ii n] 0 = .pointer none := rfl
  generalize initA [.pointer none, .string s, ii n] = a at i0
  simp (maxSteps := 1000000) (disch := omega) only [stepS, reduceIte, Nat.reduceBEq, Nat.reduceEqDiff, tupleOf, stepT, stepX, heapR, lensR, stepM, dsl, Nat.reduceAdd, Nat.reduceLeDiff, i0, pnil_t]
  exact hq
theorem of_spec {A : AH} {k i : Nat} {L : List CountV} {s : ByteArray} {Q : Value → AH → Prop} (h : CtrA A k i L) (hq : Q (.tuple #[ii ((lookC L s).getD 0), .bool (lookC L s).isSome]) A) : ACalls 0 Try.prog counter_Counts_Of [ptr k, .string s] Q A := by
  obtain ⟨h1, es, h2, h3⟩ := h
  refine ACalls.of_fits mixed fits_counter_Counts_Of rfl ?_
  unfold ic_counter_Counts_Of
  have i0 : initA [ptr k, .string s] 0 = ptr k := rfl
  have i1 : initA [ptr k, .string s] 1 = .string s := rfl
  generalize initA [ptr k, .string s] = a at i0 i1
  have hlk : lookRes true (ii 0) (mget (.string s) es) = .tuple #[ii ((lookC L s).getD 0), .bool (lookC L s).isSome] := by
    rw [h3.2]
    cases lookC L s <;> rfl
  have hlq : lookQ (some es) .str (ii 0) true (.string s) A = some (.tuple #[ii ((lookC L s).getD 0), .bool (lookC L s).isSome], A) := by rw [lookQ_some keyOk_s h3.1, hlk]
  simp (maxSteps := 1000000) (disch := omega) only [stepS, reduceIte, Nat.reduceBEq, Nat.reduceEqDiff, tupleOf, stepT, stepX, heapR, lensR, stepM, dsl, Nat.reduceAdd, Nat.reduceLeDiff, i0, i1, pnil_f, h1, h2, hlq]
  exact hq
theorem of_nil {A : AH} {s : ByteArray} {Q : Value → AH → Prop} (hq : Q (.tuple #[ii 0, .bool false]) A) : ACalls 0 Try.prog counter_Counts_Of [.pointer none, .string s] Q A := by
  refine ACalls.of_fits mixed fits_counter_Counts_Of rfl ?_
  unfold ic_counter_Counts_Of
  have i0 : initA [.pointer none, .string s] 0 = .pointer none := rfl
  generalize initA [.pointer none, .string s] = a at i0
  simp (maxSteps := 1000000) (disch := omega) only [stepS, reduceIte, Nat.reduceBEq, Nat.reduceEqDiff, tupleOf, stepT, stepX, heapR, lensR, stepM, dsl, Nat.reduceAdd, Nat.reduceLeDiff, i0, pnil_t]
  exact hq
end Go.AS.C


namespace Go.AS.C
open Go Go.Proofs
set_option linter.unusedVariables false
set_option linter.unusedSimpArgs false
set_option maxRecDepth 10000

/-! counter.Tell, Rows. -/
/-- Sums that rise, of names that may be. -/
def OkL (L : List CountV) : Prop := RiseC L ∧ ∀ c ∈ L, nameOk c.name = true
theorem OkL.nil : OkL [] := ⟨List.Pairwise.nil, fun c h => by cases h⟩
theorem nameOk_size {s : ByteArray} (h : nameOk s = true) : s.size ≤ 12 := by
  unfold nameOk at h
  rw [Bool.and_eq_true, decide_eq_true_eq] at h
  omega
theorem OkL.add {L : List CountV} (h : OkL L) (s : ByteArray) (n : Int) : OkL (addR L s n) := by
  unfold addR
  split
  · rename_i he
    unfold okN at he
    rw [Bool.and_eq_true] at he
    refine ⟨rise_add s n h.1, fun c hc => ?_⟩
    rcases add_mem hc with hc | hc
    · rw [hc]; exact he.1
    · exact h.2 c hc
  · exact h
theorem keys_spec {A : AH} {i : Nat} {Q : Value → AH → Prop} (hq : Q (.func (.func maps_Keys_map_string_int_string_int_1) #[] #[ptr A.length]) (A ++ [.row [.map (some i)] .own 0 true])) : ACalls 0 Try.prog maps_Keys_map_string_int_string_int [.map (some i)] Q A := by
  refine ACalls.of_fits mixed fits_maps_Keys_map_string_int_string_int rfl ?_
  unfold ic_maps_Keys_map_string_int_string_int
  have i0 : initA [.map (some i)] 0 = .map (some i) := rfl
  generalize initA [.map (some i)] = a at i0
  have hx : sBox A (.map (some i)) = some (ptr A.length, A ++ [.row [.map (some i)] .own 0 true]) := rfl
  simp (maxSteps := 1000000) (disch := omega) only [stepS, reduceIte, Nat.reduceBEq, Nat.reduceEqDiff, tupleOf, stepT, stepX, heapR, lensR, stepM, dsl, Nat.reduceAdd, Nat.reduceLeDiff, i0, hx]
  exact hq
theorem sorted_spec {A : AH} {k i : Nat} {L : List CountV} {ex : Bool} {Q : Value → AH → Prop} (hk : A[k]? = some (.row [.map (some i)] .own 0 ex)) {es : List (Value × Value)} (hi : mapAt A i = some es) (hm : MapC es L) (hL : OkL L) (hl : L.length ≤ 2 ^ 40)
    (hq : ∀ u B, Le A B → OwnS A.length B 1 u L.length (L.map fun c => .string c.name) → Q u B) : ACalls 0 Try.prog slices_Sorted_string [.func (.func maps_Keys_map_string_int_string_int_1) #[] #[ptr k]] Q A := by
  have hn := hm.names hL.1
  have hlen := hm.len hL.1
  refine skeys_spec (names := keysOf es) sortsKeys Try.underlying9 hk rfl (mapAt_get hi) hm.1 (keys_eq (mapOk_alls hm.1)) (by omega) (fun s hs => ?_) fun u B h1 h2 => ?_
  · have : s ∈ L.map (·.name) := by rw [← hn, sortT_mem]; exact hs
    rw [List.mem_map] at this
    obtain ⟨c, hc, rfl⟩ := this
    have := nameOk_size (hL.2 c hc)
    have hmx : maxLen = 9223372036854775807 := by decide
    omega
  · rw [hn, List.length_map, List.map_map] at h2
    exact hq u B h1 h2
theorem tell_spec {A : AH} {k i : Nat} {L : List CountV} {Q : Value → AH → Prop} (h : CtrA A k i L) (hL : OkL L) (hl : L.length ≤ 2 ^ 20)
    (hq : ∀ u A', Le A A' → OwnE A.length A' 2 u (L.map countE) → Q u A') : ACalls 0 Try.prog counter_Counts_Tell [ptr k] Q A := by
  obtain ⟨h1, es, h2, h3⟩ := h
  refine ACalls.of_fits mixed fits_counter_Counts_Tell rfl ?_
  unfold ic_counter_Counts_Tell
  have i0 : initA [ptr k] 0 = ptr k := rfl
  generalize initA [ptr k] = a at i0
  simp (maxSteps := 1000000) (disch := omega) only [stepS, reduceIte, Nat.reduceBEq, Nat.reduceEqDiff, tupleOf, stepT, stepX, heapR, lensR, stepM, dsl, Nat.reduceAdd, Nat.reduceLeDiff, i0, pnil_f, h1, h2]
  refine keys_spec ?_
  simp (maxSteps := 1000000) (disch := omega) only [stepS, reduceIte, Nat.reduceBEq, Nat.reduceEqDiff, tupleOf, stepT, stepX, heapR, lensR, stepM, dsl, Nat.reduceAdd, Nat.reduceLeDiff, i0, pnil_f, h1, h2]
  have ka : Le A (A ++ [.row [.map (some i)] .own 0 true]) := .push _ _
  refine sorted_spec (get_last _ _) (ka.map h2) h3 hL (by omega) fun w B hB hw => ?_
  have kb := ka.trans hB
  have hw0 := hw.mono (b0 := 0) (Nat.zero_le _)
  have hwl : ∀ C, sLens C false w = some (ii L.length, C) := fun C => Sl.lenB hw.sl C
  simp (maxSteps := 1000000) (disch := omega) only [stepS, reduceIte, Nat.reduceBEq, Nat.reduceEqDiff, tupleOf, stepT, stepX, heapR, lensR, stepM, dsl, Nat.reduceAdd, Nat.reduceLeDiff, i0, pnil_f, h1, h2, hwl]
  obtain ⟨I, hI⟩ : ∃ I : AT → AH → Prop, I = fun a B' => ∃ j : Nat, j ≤ L.length ∧ Le B B' ∧ OwnE B.length B' 2 (a 3) ((L.take j).map countE) ∧ a 0 = ptr k ∧ a 14 = w ∧ a 15 = ii L.length ∧ a 16 = ii j := ⟨_, rfl⟩
  refine W_loop I (fun a _ => L.length - (iv (a 16)).toNat) (by rw [hI]; refine ⟨0, Nat.zero_le _, .refl _, ?_⟩; simp (maxSteps := 1000000) (disch := omega) only [stepS, reduceIte, Nat.reduceBEq, Nat.reduceEqDiff, tupleOf, stepT, stepX, heapR, lensR, stepM, dsl, Nat.reduceAdd, Nat.reduceLeDiff, i0]; exact ⟨OwnE.nil _ _ _, rfl⟩) ?_
  rw [hI]
  rintro a2 B2 ⟨j, hj, k2, hu, g0, g14, g15, g16⟩
  have r1 := (kb.trans k2).row h1
  have r2 := (kb.trans k2).map h2
  rcases Nat.lt_or_ge j L.length with hlt | hge
  · obtain ⟨c, hc⟩ := get_some hlt
    obtain ⟨p, p1, p2⟩ := Sl.at1L hw.sl (j := j) (x := .string c.name) (by rw [List.getElem?_map, hc]; rfl)
    have p3 := p2 B2 k2
    have hlk : lookQ (some es) .str (ii 0) false (.string c.name) B2 = some (ii c.n, B2) := by
      rw [lookQ_some keyOk_s h3.1, h3.2, lookC_at hL.1 (List.mem_of_getElem? hc)]
      rfl
    have hb : fillA [.string noT, ii 0] [(0, 1, .string c.name), (1, 1, ii c.n)] = some [.string c.name, ii c.n] := rfl
    have hlit : sLit B2 [.string noT, ii 0] 2 1 [(0, 2, .agg #[.string c.name, ii c.n])] = some (.slice (some ⟨B2.length, 0, none⟩) 1 1, B2 ++ [.row (countE c) .own 2 true]) := litE B2 (z := [.string noT, ii 0]) (e := countE c) rfl rfl rfl
    obtain ⟨u', B3, e1, e3, e2, _⟩ := OwnE.push (bytes := 24) (e := countE c) k2 hu (by decide) rfl rfl (by rw [List.length_map, List.length_take]; omega) (by decide)
    simp (maxSteps := 1000000) (disch := omega) only [stepS, reduceIte, Nat.reduceBEq, Nat.reduceEqDiff, tupleOf, stepT, stepX, heapR, lensR, stepM, dsl, Nat.reduceAdd, Nat.reduceLeDiff, g0, g14, g15, g16, hwl, pnil_f, r1, r2, p1, p3, hlk, hb, hlit, e1]

    refine ⟨⟨j + 1, by omega, e3, ?_, rfl⟩, by omega⟩
    rw [List.take_add_one, hc, List.map_append]
    exact e2
  · rw [List.take_of_length_le hge] at hu
    simp (maxSteps := 1000000) (disch := omega) only [stepS, reduceIte, Nat.reduceBEq, Nat.reduceEqDiff, tupleOf, stepT, g0, g14, g15, g16, hwl]
    exact hq _ B2 (kb.trans k2) (hu.mono kb.len)
end Go.AS.C


namespace Go.AS.C
open Go Go.Proofs
set_option linter.unusedVariables false
set_option linter.unusedSimpArgs false
set_option maxRecDepth 10000

/-! Rows: the program's, the reference's; the reference's Of and Add. -/
theorem tell_nil {A : AH} {Q : Value → AH → Prop} (hq : Q (.slice none 0 0) A) : ACalls 0 Try.prog counter_Counts_Tell [.pointer none] Q A := by
  refine ACalls.of_fits mixed fits_counter_Counts_Tell rfl ?_
  unfold ic_counter_Counts_Tell
  have i0 : initA [.pointer none] 0 = .pointer none := rfl
  generalize initA [.pointer none] = a at i0
  simp (maxSteps := 1000000) (disch := omega) only [stepS, reduceIte, Nat.reduceBEq, Nat.reduceEqDiff, tupleOf, stepT, stepX, heapR, lensR, stepM, dsl, Nat.reduceAdd, Nat.reduceLeDiff, i0, pnil_t]
  exact hq
theorem boxV {A : AH} {v : Value} (h : one1 v) : sBox A (.agg #[v]) = some (ptr A.length, A ++ [.row [v] .own 0 true]) :=
  box_row (cs := [v]) (by have := h.2; unfold ones; simp [this])
theorem rows_spec {A : AH} {k i : Nat} {L : List CountV} {Q : Value → AH → Prop} (h : CtrA A k i L) (hL : OkL L) (hl : L.length ≤ 2 ^ 20)
    (hq : ∀ u A', Le A A' → OwnE A.length A' 7 u ((L.map cRow).map rowE) → Q u A') : ACalls 0 Try.prog counter_Counts_Rows [ptr k] Q A := by
  refine ACalls.of_fits mixed fits_counter_Counts_Rows rfl ?_
  unfold ic_counter_Counts_Rows
  have i0 : initA [ptr k] 0 = ptr k := rfl
  generalize initA [ptr k] = a at i0
  simp (maxSteps := 1000000) (disch := omega) only [stepS, reduceIte, Nat.reduceBEq, Nat.reduceEqDiff, tupleOf, stepT, stepX, heapR, lensR, stepM, dsl, Nat.reduceAdd, Nat.reduceLeDiff, i0]
  refine tell_spec h hL hl fun w B hB hw => ?_
  have hw1 : CountsA B w L := hw.2.sl
  have hwl := hw1.len
  simp (maxSteps := 1000000) (disch := omega) only [stepS, reduceIte, Nat.reduceBEq, Nat.reduceEqDiff, tupleOf, stepT, stepX, heapR, lensR, stepM, dsl, Nat.reduceAdd, Nat.reduceLeDiff, i0, hwl]
  obtain ⟨I, hI⟩ : ∃ I : AT → AH → Prop, I = fun a B' => ∃ j : Nat, j ≤ L.length ∧ Le B B' ∧ OwnE B.length B' 7 (a 3) (((L.take j).map cRow).map rowE) ∧ a 7 = w ∧ a 8 = ii L.length ∧ a 9 = ii j := ⟨_, rfl⟩
  refine W_loop I (fun a _ => L.length - (iv (a 9)).toNat) (by rw [hI]; refine ⟨0, Nat.zero_le _, .refl _, ?_⟩; simp (maxSteps := 1000000) (disch := omega) only [stepS, reduceIte, Nat.reduceBEq, Nat.reduceEqDiff, tupleOf, stepT, stepX, heapR, lensR, stepM, dsl, Nat.reduceAdd, Nat.reduceLeDiff, i0]; exact ⟨OwnE.nil _ _ _, rfl⟩) ?_
  rw [hI]
  rintro a2 B2 ⟨j, hj, k2, hu, g7, g8, g9⟩
  rcases Nat.lt_or_ge j L.length with hlt | hge
  · obtain ⟨c, hc⟩ := get_some hlt
    obtain ⟨p, p1, p2⟩ := hw1.at hc
    have kB : Le B2 (B2 ++ [.row [.string noT, ii 0] .own 0 true]) := .push _ _
    have p3 := p2 _ k2
    have hst : sStore (B2 ++ [.row [.string noT, ii 0] .own 0 true]) (ptr B2.length) (.agg #[.string c.name, ii c.n]) 2 = some (undef, B2 ++ [.row [.string c.name, ii c.n] .own 0 true]) := copy_el B2 (z := [.string noT, ii 0]) (e := countE c) rfl rfl rfl
    have kC : Le B2 (B2 ++ [.row [.string c.name, ii c.n] .own 0 true]) := .push _ _
    have r5 : rowAt (B2 ++ [.row [.string c.name, ii c.n] .own 0 true]) B2.length = some ([.string c.name, ii c.n], .own, 0, true) := rowAt_own (get_last _ _)
    have hb : fillA [ii 0, .string noT, .string noT, ii 0, .string noT, .string noT, .bool false] [(0, 1, ii 1), (1, 1, .string c.name), (3, 1, ii c.n)] = some (rowE (cRow c)) := rfl
    have hlit : sLit (B2 ++ [.row [.string c.name, ii c.n] .own 0 true]) [ii 0, .string noT, .string noT, ii 0, .string noT, .string noT, .bool false] 7 1 [(0, 7, .agg (rowE (cRow c)).toArray)] = some (.slice (some ⟨(B2 ++ [Blk.row [.string c.name, ii c.n] .own 0 true]).length, 0, none⟩) 1 1, (B2 ++ [.row [.string c.name, ii c.n] .own 0 true]) ++ [.row (rowE (cRow c)) .own 7 true]) := litE _ rfl rfl rfl
    obtain ⟨u', B3, e1, e3, e2, _⟩ := OwnE.push (bytes := 88) (e := rowE (cRow c)) (k2.trans kC) (hu.le kC) (by decide) rfl rfl (by rw [List.length_map, List.length_map, List.length_take]; omega) (by decide)
    generalize hD : (B2 ++ [Blk.row [.string c.name, ii c.n] .own 0 true]) = D at hst r5 hlit e1
    simp (maxSteps := 1000000) (disch := omega) only [stepS, reduceIte, Nat.reduceBEq, Nat.reduceEqDiff, tupleOf, stepT, stepX, heapR, lensR, stepM, dsl, Nat.reduceAdd, Nat.reduceLeDiff, g7, g8, g9, hwl, p1, p3, hst, r5, hb, hlit, e1]
    refine ⟨⟨j + 1, by omega, e3, ?_, rfl⟩, by omega⟩
    rw [List.take_add_one, hc, List.map_append, List.map_append]
    exact e2
  · rw [List.take_of_length_le hge] at hu
    simp (maxSteps := 1000000) (disch := omega) only [stepS, reduceIte, Nat.reduceBEq, Nat.reduceEqDiff, tupleOf, stepT, stepX, heapR, lensR, stepM, dsl, Nat.reduceAdd, Nat.reduceLeDiff, g7, g8, g9, hwl]
    exact hq _ B2 (hB.trans k2) (hu.mono hB.len)
theorem rows_nil {A : AH} {Q : Value → AH → Prop} (hq : Q (.slice none 0 0) A) : ACalls 0 Try.prog counter_Counts_Rows [.pointer none] Q A := by
  refine ACalls.of_fits mixed fits_counter_Counts_Rows rfl ?_
  unfold ic_counter_Counts_Rows
  have i0 : initA [.pointer none] 0 = .pointer none := rfl
  generalize initA [.pointer none] = a at i0
  simp (maxSteps := 1000000) (disch := omega) only [stepS, reduceIte, Nat.reduceBEq, Nat.reduceEqDiff, tupleOf, stepT, stepX, heapR, lensR, stepM, dsl, Nat.reduceAdd, Nat.reduceLeDiff, i0]
  refine tell_nil ?_
  simp (maxSteps := 1000000) (disch := omega) only [stepS, reduceIte, Nat.reduceBEq, Nat.reduceEqDiff, tupleOf, stepT, stepX, heapR, lensR, stepM, dsl, Nat.reduceAdd, Nat.reduceLeDiff, i0]
  refine W_loop (fun a' B => B = A ∧ a' 8 = ii 0 ∧ a' 9 = ii 0 ∧ a' 3 = .slice none 0 0) (fun a' _ => 0) ⟨rfl, by simp (maxSteps := 1000000) (disch := omega) only [stepS, reduceIte, Nat.reduceBEq, Nat.reduceEqDiff, tupleOf, stepT, stepX, heapR, lensR, stepM, dsl, Nat.reduceAdd, Nat.reduceLeDiff, i0]; rfl⟩ ?_
  rintro a2 B ⟨rfl, g8, g9, g3⟩
  simp (maxSteps := 1000000) (disch := omega) only [stepS, reduceIte, Nat.reduceBEq, Nat.reduceEqDiff, tupleOf, stepT, stepX, heapR, lensR, stepM, dsl, Nat.reduceAdd, Nat.reduceLeDiff, g8, g9, g3]
  exact hq
end Go.AS.C


namespace Go.AS.C
open Go Go.Proofs
set_option linter.unusedVariables false
set_option linter.unusedSimpArgs false
set_option maxRecDepth 10000

/-! The reference's Add. -/
theorem counts_hi {A : AH} {v : Value} {l : List CountV} (h : CountsA A v l) {k : Nat} (hk : k ≤ l.length) : ∃ u, sSll A v none (some (ii k)) none 2 = some (u, A) ∧ CountsA A u (l.take k) := by
  obtain ⟨u, h1, h2⟩ := Sl.cut (l := 0) (k := k) h (Nat.zero_le _) (by rw [List.length_map]; exact hk) (fun c hc => bnd_hi (by rw [List.length_map] at hc; omega))
  refine ⟨u, h1, ?_⟩
  have := flatten_cut (sz := 2) (l := 0) (k := k) (countE_ok l) (Nat.zero_le _) (by rw [List.length_map]; exact hk)
  rw [← this, List.drop_zero] at h2
  unfold CountsA
  rw [List.map_take, List.length_take, List.length_map, Nat.min_eq_left hk]
  simpa using h2
theorem counts_lo {A : AH} {v : Value} {l : List CountV} (h : CountsA A v l) {k : Nat} (hk : k ≤ l.length) : ∃ u, sSll A v (some (ii k)) none none 2 = some (u, A) ∧ CountsA A u (l.drop k) := by
  obtain ⟨u, h1, h2⟩ := Sl.cut (l := k) (k := l.length) h hk (by rw [List.length_map]; exact Nat.le_refl _) (fun c hc => by rw [List.length_map] at hc ⊢; exact bnd_lo hk hc)
  refine ⟨u, h1, ?_⟩
  have := flatten_cut (sz := 2) (l := k) (k := l.length) (countE_ok l) hk (by rw [List.length_map]; exact Nat.le_refl _)
  rw [← this, List.take_of_length_le (by rw [List.length_map]; exact Nat.le_refl _)] at h2
  unfold CountsA
  rw [List.map_drop, List.length_drop, List.length_map]
  exact h2
abbrev OwnC (a0 : Nat) (A : AH) (v : Value) (l : List CountV) : Prop := OwnE a0 A 2 v (l.map countE)
theorem OwnC.sl {a0 : Nat} {A : AH} {v : Value} {l : List CountV} (h : OwnC a0 A v l) : CountsA A v l := h.2.sl
theorem app_cs {A0 A : AH} {z x : Value} {l m : List CountV} (hl : Le A0 A) (h : OwnC A0.length A z l) (hx : CountsA A x m) (hn : l.length + m.length ≤ 2 ^ 40) :
    ∃ v' A', sApp A z x 2 24 = some (v', A') ∧ Le A0 A' ∧ OwnC A0.length A' v' (l ++ m) := by
  obtain ⟨v', A3, u1, u2, u3, _⟩ := OwnE.app (bytes := 24) hl h hx (countE_ok m) (by decide) (by rw [List.length_map, List.length_map]; omega) (by decide)
  refine ⟨v', A3, u1, u2, ?_⟩
  show OwnE _ _ 2 _ ((l ++ m).map countE)
  rw [List.map_append]
  exact u3
theorem lit_cs (A : AH) : sLit A [.string ⟨#[]⟩, .int .i64 0] 2 0 [] = some (.slice (some ⟨A.length, 0, none⟩) 0 0, A ++ [.row [] .own 2 true]) ∧ OwnC A.length (A ++ [.row [] .own 2 true]) (.slice (some ⟨A.length, 0, none⟩) 0 0) [] := lit_noneE (A0 := A) A _ 2 (.refl _)
set_option maxHeartbeats 4000000 in
theorem ref_add_spec {A : AH} {v : Value} {L : List CountV} {s : ByteArray} {n : Int} {Q : Value → AH → Prop} (hv : CountsA A v L) (hl : L.length ≤ 2 ^ 20) (hb : BndC 4611686018427387904 L) (hn : I64 n) (hs : s.size < 2 ^ 50)
    (hq : ∀ u A', Le A A' → CountsA A' u (addR L s n) → Q (.tuple #[.agg #[u], ii (errR s n)]) A') : ACalls 0 Try.prog chantryref19_Add [.agg #[v], .string s, ii n] Q A := by
  refine ACalls.of_fits mixed fits_chantryref19_Add rfl ?_
  unfold ic_chantryref19_Add
  have i0 : initA [.agg #[v], .string s, ii n] 0 = .agg #[v] := rfl
  have i1 : initA [.agg #[v], .string s, ii n] 1 = .string s := rfl
  have i2 : initA [.agg #[v], .string s, ii n] 2 = ii n := rfl
  generalize initA [.agg #[v], .string s, ii n] = a at i0 i1 i2
  unfold I64 at hn
  have ho : one1 v := Sl.one1 hv
  have hx : sBox A (.agg #[v]) = some (ptr A.length, A ++ [.row [v] .own 0 true]) := boxV ho
  have hvl := hv.len
  have os : ∀ z, one1 z → ∀ A', stQ (some ([.slice none 0 0], .own, 0, true)) (A.length + 1) 0 1 (.agg #[z]) A' = some (undef, A'.set (A.length + 1) (.row [z] .own 0 true)) := fun z hz A' => by
    have h2 := hz.2
    have : ones [z] = true := by unfold ones; simp [h2]
    unfold stQ
    simp [Value.cells, this, setAll]
  refine W_mid (fun a' B => B = A ++ [.row [v] .own 0 true] ++ [.row [.slice none 0 0] .own 0 true] ∧ a' 1 = .string s ∧ a' 2 = ii n ∧ a' 3 = ptr A.length ∧ a' 6 = ptr (A.length + 1) ∧ a' 7 = ii 0) ?_ ?_
  · simp (maxSteps := 1000000) (disch := omega) only [stepS, reduceIte, Nat.reduceBEq, Nat.reduceEqDiff, tupleOf, stepT, stepX, heapR, lensR, stepM, dsl, Nat.reduceAdd, Nat.reduceLeDiff, i0, i1, i2, hx]
  clear i0 i1 i2
  rintro a D ⟨hD, g1, g2, g3, g6, g7⟩
  have kD : Le A D := by rw [hD]; exact (Le.push _ _).trans (.push _ _)
  have lD : D.length = A.length + 2 := by rw [hD]; simp
  have r3 : rowAt D A.length = some ([v], .own, 0, true) := rowAt_own (by rw [hD, List.getElem?_append_left (by simp)]; simp)
  have r6 : rowAt D (A.length + 1) = some ([.slice none 0 0], .own, 0, true) := rowAt_own (by rw [hD, List.getElem?_append_right (by simp)]; simp)
  clear hD
  have hv1 := hv.le kD
  have hlast : ∀ (C : AH) (z : Value), Le D C → OwnC D.length C z (addC L s n) → okN s n = true → Q (.tuple #[.agg #[z], ii 0]) (C.set (A.length + 1) (.row [z] .own 0 true)) := by
    intro C z hC hz hok
    unfold addR errR at hq
    simp only [hok, if_true] at hq
    have k1 : Keep C (A.length + 1) (C.set (A.length + 1) (.row [z] .own 0 true)) := Keep.set _ _ _
    refine hq z _ (k1.le (kD.trans hC) (by omega)) ?_
    exact OwnC.sl (OwnE.ki hz k1 (rowAt_get (hC.row r6)) (by decide))
  have hrej : okN s n = false → Q (.tuple #[.agg #[v], ii 1]) (D.set (A.length + 1) (.row [v] .own 0 true)) := by
    intro hok
    unfold addR errR at hq
    simp only [hok, Bool.false_eq_true, if_false] at hq
    have k1 : Le A (D.set (A.length + 1) (.row [v] .own 0 true)) := (Keep.set D _ _).le kD (by omega)
    exact hq v _ k1 (hv.le k1)
  have osv := os v ho
  refine W_midR (fun a' B => B = D ∧ okN s n = true ∧ a' 1 = .string s ∧ a' 2 = ii n ∧ a' 3 = ptr A.length ∧ a' 6 = ptr (A.length + 1)) ?_ ?_
  · simp (maxSteps := 1000000) (disch := omega) only [stepS, reduceIte, Nat.reduceBEq, Nat.reduceEqDiff, tupleOf, stepT, stepX, heapR, lensR, stepM, dsl, Nat.reduceAdd, Nat.reduceLeDiff, g1]
    refine ref14_Name_spec hs ?_
    by_cases hnm : nameOk s = true
    · by_cases hlo : n < -2147483647
      · simp (maxSteps := 1000000) (disch := omega) only [stepS, reduceIte, Nat.reduceBEq, Nat.reduceEqDiff, tupleOf, stepT, stepX, heapR, lensR, stepM, dsl, Nat.reduceAdd, Nat.reduceLeDiff, g1, g2, g3, g6, g7, r3, r6, hnm, osv]
        exact .inr (hrej (by unfold okN; simp; omega))
      · by_cases hhi : n > 2147483647
        · simp (maxSteps := 1000000) (disch := omega) only [stepS, reduceIte, Nat.reduceBEq, Nat.reduceEqDiff, tupleOf, stepT, stepX, heapR, lensR, stepM, dsl, Nat.reduceAdd, Nat.reduceLeDiff, g1, g2, g3, g6, g7, r3, r6, hnm, osv]
          exact .inr (hrej (by unfold okN; simp; omega))
        · have hok : okN s n = true := by unfold okN; simp [hnm]; omega
          simp (maxSteps := 1000000) (disch := omega) only [stepS, reduceIte, Nat.reduceBEq, Nat.reduceEqDiff, tupleOf, stepT, stepX, heapR, lensR, stepM, dsl, Nat.reduceAdd, Nat.reduceLeDiff, g1, g2, g3, g6, hnm, hok]
          exact .inl trivial
    · have hnm' : nameOk s = false := by simpa using hnm
      simp (maxSteps := 1000000) (disch := omega) only [stepS, reduceIte, Nat.reduceBEq, Nat.reduceEqDiff, tupleOf, stepT, stepX, heapR, lensR, stepM, dsl, Nat.reduceAdd, Nat.reduceLeDiff, g1, g2, g3, g6, g7, r3, r6, hnm', osv]
      exact .inr (hrej (by unfold okN; simp [hnm']))
  clear g1 g2 g3 g6 g7
  rintro a B ⟨rfl, hok, g1, g2, g3, g6⟩
  refine W_mid (fun a' B' => B' = B ∧ a' 1 = .string s ∧ a' 2 = ii n ∧ a' 3 = ptr A.length ∧ a' 6 = ptr (A.length + 1) ∧ a' 8 = ii ((0 : Nat) : Int)) ?_ ?_
  · simp (maxSteps := 1000000) (disch := omega) only [stepS, reduceIte, Nat.reduceBEq, Nat.reduceEqDiff, tupleOf, stepT, stepX, heapR, lensR, stepM, dsl, Nat.reduceAdd, Nat.reduceLeDiff, g1, g2, g3, g6]
    rfl
  clear g1 g2 g3 g6
  rintro a B' ⟨rfl, g1, g2, g3, g6, g8⟩
  refine W_mid (fun a' B => B = B' ∧ a' 1 = .string s ∧ a' 2 = ii n ∧ a' 3 = ptr A.length ∧ a' 6 = ptr (A.length + 1) ∧ ∃ j : Nat, j ≤ L.length ∧ a' 8 = ii j ∧ (∀ c ∈ L.take j, bl c.name < bl s) ∧ ∀ c, L[j]? = some c → ¬ bl c.name < bl s) ?_ ?_
  · rw [W_block]
    obtain ⟨I, hI⟩ : ∃ I : AT → AH → Prop, I = fun a B => B = B' ∧ a 1 = .string s ∧ a 2 = ii n ∧ a 3 = ptr A.length ∧ a 6 = ptr (A.length + 1) ∧ ∃ j : Nat, j ≤ L.length ∧ a 8 = ii j ∧ ∀ c ∈ L.take j, bl c.name < bl s := ⟨_, rfl⟩
    refine W_loop I (fun a _ => L.length - (iv (a 8)).toNat) (by rw [hI]; exact ⟨rfl, g1, g2, g3, g6, 0, Nat.zero_le _, g8, by simp⟩) ?_
    rw [hI]
    clear g1 g2 g3 g6 g8
    rintro a2 B2 ⟨rfl, g1, g2, g3, g6, j, hj, g8, hlt2⟩
    rcases Nat.lt_or_ge j L.length with hlt | hge
    · obtain ⟨c, hc⟩ := get_some hlt
      obtain ⟨p, q0, q1, p1, p2, p3, p4, p5⟩ := hv1.fld hc
      have p6 := p4 B2 (.refl _)
      by_cases hcl : bl c.name < bl s
      · have hd : decide (bl c.name < bl s) = true := decide_eq_true hcl
        simp (maxSteps := 1000000) (disch := omega) only [stepS, reduceIte, Nat.reduceBEq, Nat.reduceEqDiff, tupleOf, stepT, stepX, heapR, lensR, stepM, dsl, Nat.reduceAdd, Nat.reduceLeDiff, g1, g2, g3, g6, g8, r3, hvl, p1, p2, p6, ltS, hd]
        refine ⟨⟨j + 1, by omega, rfl, ?_⟩, by omega⟩
        rw [List.take_add_one, hc]
        intro d hd
        rcases List.mem_append.1 hd with hd | hd
        · exact hlt2 d hd
        · simp only [Option.toList_some, List.mem_singleton] at hd
          rw [hd]; exact hcl
      · have hd : decide (bl c.name < bl s) = false := decide_eq_false hcl
        simp (maxSteps := 1000000) (disch := omega) only [stepS, reduceIte, Nat.reduceBEq, Nat.reduceEqDiff, tupleOf, stepT, stepX, heapR, lensR, stepM, dsl, Nat.reduceAdd, Nat.reduceLeDiff, g1, g2, g3, g6, g8, r3, hvl, p1, p2, p6, ltS, hd]
        refine ⟨j, hj, rfl, hlt2, fun d hd => ?_⟩
        rw [hc] at hd; injection hd with hd; rw [← hd]; exact hcl
    · simp (maxSteps := 1000000) (disch := omega) only [stepS, reduceIte, Nat.reduceBEq, Nat.reduceEqDiff, tupleOf, stepT, stepX, heapR, lensR, stepM, dsl, Nat.reduceAdd, Nat.reduceLeDiff, g1, g2, g3, g6, g8, r3, hvl]
      exact ⟨j, hj, rfl, hlt2, fun d hd => by have := lt_of_get hd; omega⟩
  clear g1 g2 g3 g6 g8
  rintro a B ⟨rfl, g1, g2, g3, g6, j, hj, g8, hlt2, hge2⟩
  obtain ⟨l1, l2⟩ := lit_cs B
  have k1 : Le B (B ++ [.row [] .own 2 true]) := .push _ _
  obtain ⟨x, x1, x2⟩ := counts_hi (hv1.le k1) hj
  obtain ⟨y, B3, y1, y2, y3⟩ := app_cs k1 l2 x2 (by rw [List.length_take]; simp; omega)
  have r3b := y2.row r3
  have r6b := y2.row r6
  have r3a := k1.row r3
  have hv3 := hv1.le y2
  refine W_mid (fun a' B' => B' = B3 ∧ a' 1 = .string s ∧ a' 2 = ii n ∧ a' 3 = ptr A.length ∧ a' 6 = ptr (A.length + 1) ∧ a' 8 = ii j ∧ a' 9 = y) ?_ ?_
  · simp (maxSteps := 1000000) (disch := omega) only [stepS, reduceIte, Nat.reduceBEq, Nat.reduceEqDiff, tupleOf, stepT, stepX, heapR, lensR, stepM, dsl, Nat.reduceAdd, Nat.reduceLeDiff, g1, g2, g3, g6, g8, r3, r3a, l1, x1, y1]
  clear g1 g2 g3 g6 g8
  rintro a B' ⟨rfl, g1, g2, g3, g6, g8, g9⟩
  by_cases hsame : ∃ c, L[j]? = some c ∧ c.name = s
  · obtain ⟨c, hc, hcs⟩ := hsame
    have hlt := lt_of_get hc
    obtain ⟨p, q0, q1, p1, p2, p3, p4, p5⟩ := hv3.fld hc
    have p6 := p4 B' (.refl _)
    have p7 := p5 B' (.refl _)
    have hd : decide (c.name = s) = true := decide_eq_true hcs
    have hcb := hb c (List.mem_of_getElem? hc)
    have hnr : -2147483647 ≤ n ∧ n ≤ 2147483647 := by unfold okN at hok; rw [Bool.and_eq_true, decide_eq_true_eq] at hok; exact hok.2
    have hbd : fillA [.string noT, ii 0] [(0, 1, .string s), (1, 1, ii (c.n + n))] = some [.string s, ii (c.n + n)] := rfl
    have hlit : sLit B' [.string noT, ii 0] 2 1 [(0, 2, .agg #[.string s, ii (c.n + n)])] = some (.slice (some ⟨B'.length, 0, none⟩) 1 1, B' ++ [.row (countE ⟨s, c.n + n⟩) .own 2 true]) := litE B' (z := [.string noT, ii 0]) (e := countE ⟨s, c.n + n⟩) rfl rfl rfl
    obtain ⟨u', B4, e1, e3, e2, _⟩ := OwnE.push (bytes := 24) (e := countE ⟨s, c.n + n⟩) y2 y3 (by decide) rfl rfl (by rw [List.length_map, List.length_append, List.length_take]; simp; omega) (by decide)
    have e2 : OwnC B.length B4 u' (L.take j ++ [⟨s, c.n + n⟩]) := by
      show OwnE _ _ 2 _ ((L.take j ++ [(⟨s, c.n + n⟩ : CountV)]).map countE)
      rw [List.map_append]; exact e2
    obtain ⟨z, z1, z2⟩ := counts_lo (k := j + 1) (hv1.le e3) hlt
    obtain ⟨w, C, w1, w2, w3⟩ := app_cs e3 e2 z2 (by rw [List.length_append, List.length_take, List.length_drop]; simp; omega)
    rw [← add_same (n := n) hlt2 hc hcs] at w3
    have e : ((j : Nat) : Int) + 1 = ((j + 1 : Nat) : Int) := by omega
    have z1 : sSll B4 v (some (ii (((j : Nat) : Int) + 1))) none none 2 = some (z, B4) := by rw [e]; exact z1
    have r3c := e3.row r3
    have r6c := w2.row r6
    have lC := w2.len
    have hbd2 : fillA [.slice none 0 0] [(0, 1, w)] = some [w] := by
      have h1 := (Sl.one1 w3.2.sl).1
      have h2 := (Sl.one1 w3.2.sl).2
      simp [fillA, h1, ones, h2, setAll]
    have osw := os w (Sl.one1 w3.2.sl)
    simp (maxSteps := 1000000) (disch := omega) only [stepS, reduceIte, Nat.reduceBEq, Nat.reduceEqDiff, tupleOf, stepT, stepX, heapR, lensR, stepM, dsl, Nat.reduceAdd, Nat.reduceLeDiff, g1, g2, g3, g6, g8, g9, r3b, hvl, p1, p2, p3, p6, p7, eq_strD, hd, hbd, hlit, e1, r3c, z1, w1, hbd2, r6c, osw]
    exact hlast C w w2 w3 hok
  · have hne : ∀ c, L[j]? = some c → ¬ bl c.name < bl s ∧ ¬ c.name = s := fun c hc => ⟨hge2 c hc, fun e => hsame ⟨c, hc, e⟩⟩
    have hbd : fillA [.string noT, ii 0] [(0, 1, .string s), (1, 1, ii n)] = some [.string s, ii n] := rfl
    have hlit : sLit B' [.string noT, ii 0] 2 1 [(0, 2, .agg #[.string s, ii n])] = some (.slice (some ⟨B'.length, 0, none⟩) 1 1, B' ++ [.row (countE ⟨s, n⟩) .own 2 true]) := litE B' (z := [.string noT, ii 0]) (e := countE ⟨s, n⟩) rfl rfl rfl
    obtain ⟨u', B4, e1, e3, e2, _⟩ := OwnE.push (bytes := 24) (e := countE ⟨s, n⟩) y2 y3 (by decide) rfl rfl (by rw [List.length_map, List.length_append, List.length_take]; simp; omega) (by decide)
    have e2 : OwnC B.length B4 u' (L.take j ++ [⟨s, n⟩]) := by
      show OwnE _ _ 2 _ ((L.take j ++ [(⟨s, n⟩ : CountV)]).map countE)
      rw [List.map_append]; exact e2
    obtain ⟨z, z1, z2⟩ := counts_lo (k := j) (hv1.le e3) hj
    obtain ⟨w, C, w1, w2, w3⟩ := app_cs e3 e2 z2 (by rw [List.length_append, List.length_take, List.length_drop]; simp; omega)
    rw [← add_new hlt2 hne] at w3
    have r3c := e3.row r3
    have r6c := w2.row r6
    have lC := w2.len
    have hbd2 : fillA [.slice none 0 0] [(0, 1, w)] = some [w] := by
      have h1 := (Sl.one1 w3.2.sl).1
      have h2 := (Sl.one1 w3.2.sl).2
      simp [fillA, h1, ones, h2, setAll]
    have osw := os w (Sl.one1 w3.2.sl)
    rcases Nat.lt_or_ge j L.length with hlt | hge
    · obtain ⟨c, hc⟩ := get_some hlt
      obtain ⟨p, q0, q1, p1, p2, p3, p4, p5⟩ := hv3.fld hc
      have p6 := p4 B' (.refl _)
      have hd : decide (c.name = s) = false := decide_eq_false (hne c hc).2
      simp (maxSteps := 1000000) (disch := omega) only [stepS, reduceIte, Nat.reduceBEq, Nat.reduceEqDiff, tupleOf, stepT, stepX, heapR, lensR, stepM, dsl, Nat.reduceAdd, Nat.reduceLeDiff, g1, g2, g3, g6, g8, g9, r3b, hvl, p1, p2, p3, p6, eq_strD, hd, hbd, hlit, e1, r3c, z1, w1, hbd2, r6c, osw]
      exact hlast C w w2 w3 hok
    · simp (maxSteps := 1000000) (disch := omega) only [stepS, reduceIte, Nat.reduceBEq, Nat.reduceEqDiff, tupleOf, stepT, stepX, heapR, lensR, stepM, dsl, Nat.reduceAdd, Nat.reduceLeDiff, g1, g2, g3, g6, g8, g9, r3b, hvl, hbd, hlit, e1, r3c, z1, w1, hbd2, r6c, osw]
      exact hlast C w w2 w3 hok
end Go.AS.C


namespace Go.AS.C
open Go Go.Proofs
set_option linter.unusedVariables false
set_option linter.unusedSimpArgs false
set_option maxRecDepth 10000

/-! Rows that are loaded. -/
def oddC (r : RowV) : Prop := r ≠ cRow ⟨r.name, r.n⟩ ∨ nameOk r.name = false ∨ r.n < -9007199254740992 ∨ r.n > 9007199254740992
def LoadP (rs : List RowV) (L : List CountV) : Prop := rs = L.map cRow ∧ OkL L ∧ BndC 9007199254740992 L
theorem LoadP.nil : LoadP [] [] := ⟨rfl, .nil, fun c h => by cases h⟩
theorem LoadP.len {rs : List RowV} {L : List CountV} (h : LoadP rs L) : L.length = rs.length := by rw [h.1, List.length_map]
theorem rise_snoc {L : List CountV} {c : CountV} (h : RiseC L) (hc : ∀ d, L[L.length - 1]? = some d → key d < key c) : ∀ d ∈ L, key d < key c := by
  intro d hd
  obtain ⟨i, hi⟩ := List.getElem?_of_mem hd
  have hlt := lt_of_get hi
  obtain ⟨z, hz⟩ := get_some (l := L) (k := L.length - 1) (by omega)
  have h2 := hc z hz
  rcases Nat.eq_or_lt_of_le (show i ≤ L.length - 1 by omega) with h1 | h1
  · subst h1
    rw [hz] at hi; injection hi with hi
    rw [← hi]; exact h2
  · have h3 := List.pairwise_iff_getElem.1 h i (L.length - 1) hlt (by omega) h1
    have e1 : L[i] = d := by rw [List.getElem?_eq_getElem hlt] at hi; exact Option.some.inj hi
    have e2 : L[L.length - 1] = z := by rw [List.getElem?_eq_getElem (by omega)] at hz; exact Option.some.inj hz
    rw [e1, e2] at h3
    exact kl_tr h3 h2
theorem LoadP.snoc {rs : List RowV} {L : List CountV} {r : RowV} (h : LoadP rs L) (ho : ¬ oddC r) (hc : ∀ d, rs[rs.length - 1]? = some d → bl d.name < bl r.name) : LoadP (rs ++ [r]) (L ++ [⟨r.name, r.n⟩]) ∧ ∀ d ∈ L, key d < key ⟨r.name, r.n⟩ := by
  unfold oddC at ho
  have h1 : r = cRow ⟨r.name, r.n⟩ := Classical.byContradiction fun e => ho (.inl e)
  have h2 : nameOk r.name = true := by
    cases he : nameOk r.name with
    | true => rfl
    | false => exact absurd (.inr (.inl he)) ho
  have h3 : ¬ r.n < -9007199254740992 := fun e => ho (.inr (.inr (.inl e)))
  have h4 : ¬ r.n > 9007199254740992 := fun e => ho (.inr (.inr (.inr e)))
  have hlast : ∀ d ∈ L, key d < key ⟨r.name, r.n⟩ := rise_snoc h.2.1.1 (fun d hd => by
    refine hc (cRow d) ?_
    rw [h.1, List.length_map, List.getElem?_map, hd]; rfl)
  refine ⟨⟨?_, ⟨?_, ?_⟩, ?_⟩, hlast⟩
  · rw [List.map_append, ← h.1]
    congr 1
    rw [List.map_singleton, ← h1]
  · refine List.pairwise_append.2 ⟨h.2.1.1, List.pairwise_singleton _ _, fun a ha b hb => ?_⟩
    rw [List.mem_singleton.1 hb]; exact hlast a ha
  · intro c hc
    rcases List.mem_append.1 hc with hc | hc
    · exact h.2.1.2 c hc
    · rw [List.mem_singleton.1 hc]; exact h2
  · intro c hc
    rcases List.mem_append.1 hc with hc | hc
    · exact h.2.2 c hc
    · rw [List.mem_singleton.1 hc]; dsimp only; omega
theorem LoadP.good {rs : List RowV} {L : List CountV} {j : Nat} {r : RowV} (h : LoadP rs L) (hr : rs[j]? = some r) : ¬ oddC r ∧ ∀ d, 0 < j → rs[j - 1]? = some d → bl d.name < bl r.name := by
  rw [h.1, List.getElem?_map] at hr
  cases hc : L[j]? with
  | none => rw [hc] at hr; cases hr
  | some c =>
    rw [hc] at hr
    injection hr with hr
    subst hr
    have hm := List.mem_of_getElem? hc
    refine ⟨?_, fun d hj hd => ?_⟩
    · rintro (h1 | h1 | h1 | h1)
      · exact h1 rfl
      · have h2 := h.2.1.2 c hm
        have h1 : nameOk c.name = false := h1
        rw [h1] at h2; cases h2
      · have h2 := h.2.2 c hm
        have h1 : c.n < -9007199254740992 := h1
        omega
      · have h2 := h.2.2 c hm
        have h1 : c.n > 9007199254740992 := h1
        omega
    · rw [h.1, List.getElem?_map] at hd
      cases hc2 : L[j - 1]? with
      | none => rw [hc2] at hd; cases hd
      | some e =>
        rw [hc2] at hd
        injection hd with hd
        subst hd
        have hl := lt_of_get hc
        have h3 := List.pairwise_iff_getElem.1 h.2.1.1 (j - 1) j (by omega) hl (by omega)
        have e1 : L[j - 1] = e := by rw [List.getElem?_eq_getElem (by omega)] at hc2; exact Option.some.inj hc2
        have e2 : L[j] = c := by rw [List.getElem?_eq_getElem hl] at hc; exact Option.some.inj hc
        rw [e1, e2] at h3
        exact h3
theorem fin_cRow {r : RowV} (h : FinR r) : FinR (cRow ⟨r.name, r.n⟩) := ⟨⟨by simp [cRow], by simp [cRow]⟩, h.2.1, Nat.zero_le _, h.2.2.2.1, Nat.zero_le _, Nat.zero_le _⟩
set_option maxHeartbeats 2000000 in
theorem odd_spec {A : AH} {r : RowV} {Q : Value → AH → Prop} (hr : FinR r) (hq : ∀ (b : Bool) A', Le A A' → (b = true ↔ oddC r) → Q (.bool b) A') : ACalls 0 Try.prog counter_odd [rowG r] Q A := by
  refine ACalls.of_fits mixed fits_counter_odd rfl ?_
  unfold ic_counter_odd
  have i0 : initA [rowG r] 0 = rowG r := rfl
  generalize initA [rowG r] = a at i0
  have hx : sBox A (rowG r) = some (ptr A.length, A ++ [.row (rowE r) .own 0 true]) := box_row (cs := rowE r) rfl
  obtain ⟨c, hc⟩ : ∃ c, c = cRow ⟨r.name, r.n⟩ := ⟨_, rfl⟩
  have hb : fillA [ii 0, .string noT, .string noT, ii 0, .string noT, .string noT, .bool false] [(0, 1, ii 1), (1, 1, .string r.name), (3, 1, ii r.n)] = some (rowE c) := by rw [hc]; rfl
  refine W_mid (fun a' B => B = A ++ [.row (rowE r) .own 0 true] ∧ a' 1 = ptr A.length ∧ a' 2 = .bool false) ?_ ?_
  · simp (maxSteps := 1000000) (disch := omega) only [stepS, reduceIte, Nat.reduceBEq, Nat.reduceEqDiff, tupleOf, stepT, stepX, heapR, lensR, stepM, dsl, Nat.reduceAdd, Nat.reduceLeDiff, i0, hx]
  clear i0
  rintro a B1 ⟨hB1, g1, g2⟩
  have k1 : Le A B1 := by rw [hB1]; exact .push _ _
  have l1 : B1.length = A.length + 1 := by rw [hB1]; simp
  have r1 : rowAt B1 A.length = some (rowE r, .own, 0, true) := by rw [hB1]; exact rowAt_own (get_last _ _)
  have hst : sStore (B1 ++ [.row [ii 0, .string noT, .string noT, ii 0, .string noT, .string noT, .bool false] .own 0 true]) (ptr B1.length) (.agg (rowE c).toArray) 7 = some (undef, B1 ++ [.row (rowE c) .own 0 true]) := copy_el B1 rfl rfl rfl
  clear hB1 hx
  have r1' : rowAt B1 A.length = some ([ii r.kind, .string r.name, .string r.text, ii r.n, .string r.id, .string r.at', .bool r.gone], .own, 0, true) := r1
  refine W_mid (fun a' B => B = B1 ++ [.row (rowE c) .own 0 true] ∧ a' 1 = ptr A.length ∧ a' 3 = ptr B1.length) ?_ ?_
  · simp (maxSteps := 1000000) (disch := omega) only [stepS, reduceIte, Nat.reduceBEq, Nat.reduceEqDiff, tupleOf, stepT, stepX, heapR, lensR, stepM, dsl, Nat.reduceAdd, Nat.reduceLeDiff, g1, g2, r1', hb, hst]
  clear g1 g2
  rintro a B2 ⟨hB2, g1, g3⟩
  have k2 : Le B1 B2 := by rw [hB2]; exact .push _ _
  have r2 : rowAt B2 A.length = some ([ii r.kind, .string r.name, .string r.text, ii r.n, .string r.id, .string r.at', .bool r.gone], .own, 0, true) := k2.row r1'
  have r3 : rowAt B2 B1.length = some ([ii c.kind, .string c.name, .string c.text, ii c.n, .string c.id, .string c.at', .bool c.gone], .own, 0, true) := by rw [hB2]; exact rowAt_own (get_last _ _)
  clear hB2 hst
  have kk := k1.trans k2
  have hfc : FinR c := by rw [hc]; exact fin_cRow hr
  by_cases he : r = c
  · have hd := (eqR (A := B2) hr hfc).1 he
    simp (maxSteps := 1000000) (disch := omega) only [stepS, reduceIte, Nat.reduceBEq, Nat.reduceEqDiff, tupleOf, stepT, stepX, heapR, lensR, stepM, dsl, Nat.reduceAdd, Nat.reduceLeDiff, g1, g3, r2, r3, hd]
    refine op_Name_spec ?_
    by_cases hnm : nameOk r.name = true
    · by_cases hlo : r.n < -9007199254740992
      · simp (maxSteps := 1000000) (disch := omega) only [stepS, reduceIte, Nat.reduceBEq, Nat.reduceEqDiff, tupleOf, stepT, stepX, heapR, lensR, stepM, dsl, Nat.reduceAdd, Nat.reduceLeDiff, g1, g3, r2, r3, hnm]
        exact hq _ _ kk ⟨fun _ => .inr (.inr (.inl hlo)), fun _ => rfl⟩
      · by_cases hhi : r.n > 9007199254740992
        · simp (maxSteps := 1000000) (disch := omega) only [stepS, reduceIte, Nat.reduceBEq, Nat.reduceEqDiff, tupleOf, stepT, stepX, heapR, lensR, stepM, dsl, Nat.reduceAdd, Nat.reduceLeDiff, g1, g3, r2, r3, hnm]
          exact hq _ _ kk ⟨fun _ => .inr (.inr (.inr hhi)), fun _ => rfl⟩
        · simp (maxSteps := 1000000) (disch := omega) only [stepS, reduceIte, Nat.reduceBEq, Nat.reduceEqDiff, tupleOf, stepT, stepX, heapR, lensR, stepM, dsl, Nat.reduceAdd, Nat.reduceLeDiff, g1, g3, r2, r3, hnm]
          refine hq _ _ kk ⟨(fun h => by cases h), fun h => ?_⟩
          rcases h with h | h | h | h
          · exact absurd (he.trans hc) h
          · rw [hnm] at h; cases h
          · exact absurd h hlo
          · exact absurd h hhi
    · have hnm' : nameOk r.name = false := by simpa using hnm
      simp (maxSteps := 1000000) (disch := omega) only [stepS, reduceIte, Nat.reduceBEq, Nat.reduceEqDiff, tupleOf, stepT, stepX, heapR, lensR, stepM, dsl, Nat.reduceAdd, Nat.reduceLeDiff, g1, g3, r2, r3, hnm']
      exact hq _ _ kk ⟨fun _ => .inr (.inl hnm'), fun _ => rfl⟩
  · have hd := (eqR (A := B2) hr hfc).2 he
    simp (maxSteps := 1000000) (disch := omega) only [stepS, reduceIte, Nat.reduceBEq, Nat.reduceEqDiff, tupleOf, stepT, stepX, heapR, lensR, stepM, dsl, Nat.reduceAdd, Nat.reduceLeDiff, g1, g3, r2, r3, hd]
    exact hq _ _ kk ⟨fun _ => .inl (fun e => he (e.trans hc.symm)), fun _ => rfl⟩
set_option maxHeartbeats 4000000 in
theorem load_spec {A : AH} {v : Value} {rs : List RowV} {Q : Value → AH → Prop} (hv : RowsA A v rs) (hf : ∀ r ∈ rs, FinR r) (hl : rs.length ≤ 2 ^ 20)
    (hq1 : ∀ L A', LoadP rs L → Le A A' → CtrA A' (A.length + 1) A.length L → Q (.tuple #[ptr (A.length + 1), ii 0]) A') (hq2 : (¬ ∃ L, LoadP rs L) → ∀ A', Le A A' → Q (.tuple #[.pointer none, ii 5]) A') : ACalls 0 Try.prog counter_Load [v] Q A := by
  refine ACalls.of_fits mixed fits_counter_Load rfl ?_
  unfold ic_counter_Load
  have i0 : initA [v] 0 = v := rfl
  generalize initA [v] = a at i0
  have hvl := hv.len
  refine W_mid (fun a' B => B = A ∧ a' 0 = v ∧ a' 2 = .pointer none ∧ a' 3 = ii 0) ?_ ?_
  · simp (maxSteps := 1000000) (disch := omega) only [stepS, reduceIte, Nat.reduceBEq, Nat.reduceEqDiff, tupleOf, stepT, stepX, heapR, lensR, stepM, dsl, Nat.reduceAdd, Nat.reduceLeDiff, i0]
  clear i0
  rintro a B ⟨rfl, g0, g2, g3⟩
  refine W_mid (fun a' D => Le B D ∧ CtrA D (B.length + 1) B.length [] ∧ a' 0 = v ∧ a' 4 = ptr (B.length + 1)) ?_ ?_
  · simp (maxSteps := 1000000) (disch := omega) only [stepS, reduceIte, Nat.reduceBEq, Nat.reduceEqDiff, tupleOf, stepT, stepX, heapR, lensR, stepM, dsl, Nat.reduceAdd, Nat.reduceLeDiff, g0]
    refine empty_spec fun D h1 h2 _ => ?_
    simp (maxSteps := 1000000) (disch := omega) only [stepS, reduceIte, Nat.reduceBEq, Nat.reduceEqDiff, tupleOf, stepT, stepX, heapR, lensR, stepM, dsl, Nat.reduceAdd, Nat.reduceLeDiff, g0]
    exact ⟨h1, h2⟩
  clear g0 g2 g3
  rintro a D ⟨kD, cD, g0, g4⟩
  have hv1 := hv.le kD
  refine W_midR (fun a' E => ∃ L, LoadP rs L ∧ Le B E ∧ CtrA E (B.length + 1) B.length L ∧ a' 4 = ptr (B.length + 1)) ?_ ?_
  · simp (maxSteps := 1000000) (disch := omega) only [stepS, reduceIte, Nat.reduceBEq, Nat.reduceEqDiff, tupleOf, stepT, stepX, heapR, lensR, stepM, dsl, Nat.reduceAdd, Nat.reduceLeDiff, g0, hvl]
    obtain ⟨I, hI⟩ : ∃ I : AT → AH → Prop, I = fun a E => ∃ j : Nat, ∃ L, j ≤ rs.length ∧ LoadP (rs.take j) L ∧ Le B E ∧ CtrA E (B.length + 1) B.length L ∧ a 0 = v ∧ a 4 = ptr (B.length + 1) ∧ a 8 = v ∧ a 9 = ii rs.length ∧ a 10 = ii j := ⟨_, rfl⟩
    refine W_loop I (fun a _ => rs.length - (iv (a 10)).toNat) (by rw [hI]; simp (maxSteps := 1000000) (disch := omega) only [stepS, reduceIte, Nat.reduceBEq, Nat.reduceEqDiff, tupleOf, stepT, stepX, heapR, lensR, stepM, dsl, Nat.reduceAdd, Nat.reduceLeDiff, g0, g4]; exact ⟨0, [], Nat.zero_le _, LoadP.nil, kD, cD, rfl⟩) ?_
    rw [hI]
    clear g0 g4
    rintro a2 E ⟨j, L, hj, hL, kE, cE, g0, g4, g8, g9, g10⟩
    rcases Nat.lt_or_ge j rs.length with hlt | hge
    · obtain ⟨r, hr⟩ := get_some hlt
      have hvE := hv.le kE
      obtain ⟨p, p1, p2, _⟩ := hvE.at hr
      have p3 := p2 E (.refl _)
      have hfr := hf r (List.mem_of_getElem? hr)
      have hst : sStore (E ++ [.row [ii 0, .string noT, .string noT, ii 0, .string noT, .string noT, .bool false] .own 0 true]) (ptr E.length) (rowG r) 7 = some (undef, E ++ [.row (rowE r) .own 0 true]) := copy_el E (e := rowE r) rfl rfl rfl
      have kF : Le E (E ++ [.row (rowE r) .own 0 true]) := .push _ _
      have r6 : rowAt (E ++ [.row (rowE r) .own 0 true]) E.length = some ([ii r.kind, .string r.name, .string r.text, ii r.n, .string r.id, .string r.at', .bool r.gone], .own, 0, true) := rowAt_own (get_last _ _)
      generalize hF : E ++ [Blk.row (rowE r) .own 0 true] = F at hst kF r6
      simp (maxSteps := 1000000) (disch := omega) only [stepS, reduceIte, Nat.reduceBEq, Nat.reduceEqDiff, tupleOf, stepT, stepX, heapR, lensR, stepM, dsl, Nat.reduceAdd, Nat.reduceLeDiff, g0, g4, g8, g9, g10, p1, p3, hst, r6]
      refine odd_spec hfr fun b G kG hb => ?_
      have r6g := kG.row r6
      have htk : rs.take (j + 1) = rs.take j ++ [r] := by rw [List.take_add_one, hr]; rfl
      have kG2 := (kE.trans kF).trans kG
      cases b with
      | true =>
        simp (maxSteps := 1000000) (disch := omega) only [stepS, reduceIte, Nat.reduceBEq, Nat.reduceEqDiff, tupleOf, stepT, stepX, heapR, lensR, stepM, dsl, Nat.reduceAdd, Nat.reduceLeDiff, g0, g4, g8, g9, g10]
        refine .inr (hq2 (fun ⟨L', hL'⟩ => (hL'.good hr).1 (hb.1 rfl)) _ kG2)
      | false =>
        have hno : ¬ oddC r := fun h => by have := hb.2 h; cases this
        obtain ⟨c1, es, c2, c3⟩ := (cE.le kF).le kG
        have huq : ∀ x, updQ (some es) B.length .str (.string r.name) x G = some (undef, G.set B.length (.mp (mput (.string r.name) x es))) := fun x => updQ_some keyOk_s c3.1
        have hfin : (∀ d, (rs.take j)[(rs.take j).length - 1]? = some d → bl d.name < bl r.name) → ∃ L', LoadP (rs.take (j + 1)) L' ∧ Le B (G.set B.length (.mp (mput (.string r.name) (ii r.n) es))) ∧ CtrA (G.set B.length (.mp (mput (.string r.name) (ii r.n) es))) (B.length + 1) B.length L' := by
          intro h
          obtain ⟨s1, s2⟩ := hL.snoc hno h
          refine ⟨_, by rw [htk]; exact s1, (Keep.set G _ _).le kG2 (Nat.le_refl _), rowAt_own ?_, _, mapAt_of ?_, c3.app s2⟩
          · rw [List.getElem?_set_ne (by omega)]; exact rowAt_get c1
          · rw [List.getElem?_set_self (mapAt_lt c2)]
        by_cases hj0 : j = 0
        · subst hj0
          obtain ⟨L', f1, f2, f3⟩ := hfin (by simp)
          simp (maxSteps := 1000000) (disch := omega) only [stepS, reduceIte, Nat.reduceBEq, Nat.reduceEqDiff, tupleOf, stepT, stepX, heapR, lensR, stepM, dsl, Nat.reduceAdd, Nat.reduceLeDiff, g0, g4, g8, g9, g10, r6g, c1, c2, huq]
          exact ⟨⟨1, L', by omega, f1, f2, f3, rfl⟩, by omega⟩
        · obtain ⟨d, hd⟩ := get_some (l := rs) (k := j - 1) (by omega)
          obtain ⟨q, q1, _, q2⟩ := (hv.le kG2).at hd
          obtain ⟨q3, q4, q5⟩ := q2 1 (.string d.name) rfl
          have q6 := q5 G (.refl _)
          have q1' : ∀ C : AH, sIaddr C v (ii ((j : Int) - 1)) 7 = some (q, C) := fun C => q1 C _ (by omega)
          by_cases hlt2 : bl d.name < bl r.name
          · have hd2 : decide (¬ bl d.name < bl r.name) = false := decide_eq_false (fun h => h hlt2)
            obtain ⟨L', f1, f2, f3⟩ := hfin (by
              intro d' hd'
              rw [List.length_take, Nat.min_eq_left hj, List.getElem?_take_of_lt (by omega), hd] at hd'
              injection hd' with hd'; rw [← hd']; exact hlt2)
            simp (maxSteps := 1000000) (disch := omega) only [stepS, reduceIte, Nat.reduceBEq, Nat.reduceEqDiff, tupleOf, stepT, stepX, heapR, lensR, stepM, dsl, Nat.reduceAdd, Nat.reduceLeDiff, g0, g4, g8, g9, g10, r6g, q1', q4, q6, geS, hd2, c1, c2, huq]
            exact ⟨⟨j + 1, L', by omega, f1, f2, f3, rfl⟩, by omega⟩
          · have hd2 : decide (¬ bl d.name < bl r.name) = true := decide_eq_true hlt2
            simp (maxSteps := 1000000) (disch := omega) only [stepS, reduceIte, Nat.reduceBEq, Nat.reduceEqDiff, tupleOf, stepT, stepX, heapR, lensR, stepM, dsl, Nat.reduceAdd, Nat.reduceLeDiff, g0, g4, g8, g9, g10, r6g, q1', q4, q6, geS, hd2, c1, c2]
            exact .inr (hq2 (fun ⟨L', hL'⟩ => hlt2 ((hL'.good hr).2 d (by omega) hd)) _ kG2)
    · rw [List.take_of_length_le hge] at hL
      simp (maxSteps := 1000000) (disch := omega) only [stepS, reduceIte, Nat.reduceBEq, Nat.reduceEqDiff, tupleOf, stepT, stepX, heapR, lensR, stepM, dsl, Nat.reduceAdd, Nat.reduceLeDiff, g0, g4, g8, g9, g10]
      exact .inl ⟨L, hL, kE, cE⟩
  clear g0 g4
  rintro a E ⟨L, hL, kE, cE, g4⟩
  simp (maxSteps := 1000000) (disch := omega) only [stepS, reduceIte, Nat.reduceBEq, Nat.reduceEqDiff, tupleOf, stepT, stepX, heapR, lensR, stepM, dsl, Nat.reduceAdd, Nat.reduceLeDiff, g4]
  exact hq1 L E hL kE cE
end Go.AS.C


namespace Go.AS.C
open Go Go.Proofs
set_option linter.unusedVariables false
set_option linter.unusedSimpArgs false
set_option maxRecDepth 10000

/-! The reference's Load. -/
set_option maxHeartbeats 8000000 in
theorem ref_load_spec {A : AH} {v : Value} {rs : List RowV} {Q : Value → AH → Prop} (hv : RowsA A v rs) (hf : ∀ r ∈ rs, FinR r) (hsz : ∀ r ∈ rs, r.name.size < 2 ^ 50) (hl : rs.length ≤ 2 ^ 20)
    (hq1 : ∀ L u A', LoadP rs L → Le A A' → CountsA A' u L → Q (.tuple #[.agg #[u], ii 0]) A') (hq2 : (¬ ∃ L, LoadP rs L) → ∀ A', Le A A' → Q (.tuple #[.agg #[.slice none 0 0], ii 5]) A') : ACalls 0 Try.prog chantryref19_Load [v] Q A := by
  refine ACalls.of_fits mixed fits_chantryref19_Load rfl ?_
  unfold ic_chantryref19_Load
  have i0 : initA [v] 0 = v := rfl
  generalize initA [v] = a at i0
  have hvl := hv.len
  have ob : ∀ A' : AH, sBuild A' [.slice none 0 0] [] = some (.agg #[.slice none 0 0], A') := fun A' => rfl
  have os : ∀ (i : Nat) c z, one1 z → ∀ A', stQ (some ([c], .own, 0, true)) i 0 1 (.agg #[z]) A' = some (undef, A'.set i (.row [z] .own 0 true)) := fun i c z hz A' => by
    have h2 := hz.2
    have : ones [z] = true := by unfold ones; simp [h2]
    unfold stQ
    simp [Value.cells, this, setAll]
  have on := fun i c => os i c (.slice none 0 0) ⟨rfl, rfl⟩
  refine W_mid (fun a' B => B = A ++ [.row [.slice none 0 0] .own 0 true] ∧ a' 0 = v ∧ a' 2 = ptr A.length ∧ a' 3 = ii 0) ?_ ?_
  · simp (maxSteps := 1000000) (disch := omega) only [stepS, reduceIte, Nat.reduceBEq, Nat.reduceEqDiff, tupleOf, stepT, stepX, heapR, lensR, stepM, dsl, Nat.reduceAdd, Nat.reduceLeDiff, i0]
  clear i0
  rintro a B ⟨hB, g0, g2, g3⟩
  have kB : Le A B := by rw [hB]; exact .push _ _
  have lB : B.length = A.length + 1 := by rw [hB]; simp
  have r2 : rowAt B A.length = some ([.slice none 0 0], .own, 0, true) := by rw [hB]; exact rowAt_own (get_last _ _)
  have hst0 : sStore (B ++ [.row [.slice none 0 0] .own 0 true]) (ptr B.length) (.agg #[.slice none 0 0]) 1 = some (undef, B ++ [.row [.slice none 0 0] .own 0 true]) := copy_el B (z := [.slice none 0 0]) (e := [.slice none 0 0]) rfl rfl rfl
  clear hB
  refine W_mid (fun a' C => C = B ++ [.row [.slice none 0 0] .own 0 true] ∧ a' 0 = v ∧ a' 2 = ptr A.length ∧ a' 4 = ptr (A.length + 1)) ?_ ?_
  · simp (maxSteps := 1000000) (disch := omega) only [stepS, reduceIte, Nat.reduceBEq, Nat.reduceEqDiff, tupleOf, stepT, stepX, heapR, lensR, stepM, dsl, Nat.reduceAdd, Nat.reduceLeDiff, g0, g2, ob, hst0, lB]
    rw [← lB]; simp
  clear g0 g2 g3
  rintro a C ⟨hC, g0, g2, g4⟩
  have kC : Le B C := by rw [hC]; exact .push _ _
  have lC : C.length = A.length + 2 := by rw [hC]; simp [lB]
  have r2c := kC.row r2
  have r4c : rowAt C (A.length + 1) = some ([.slice none 0 0], .own, 0, true) := by rw [hC, ← lB]; exact rowAt_own (get_last _ _)
  clear hC hst0
  refine W_midR (fun a' E => ∃ L z, LoadP rs L ∧ Le A E ∧ A.length + 2 ≤ E.length ∧ rowAt E A.length = some ([.slice none 0 0], .own, 0, true) ∧ rowAt E (A.length + 1) = some ([z], .own, 0, true) ∧ OwnC A.length E z L ∧ a' 2 = ptr A.length ∧ a' 4 = ptr (A.length + 1)) ?_ ?_
  · simp (maxSteps := 1000000) (disch := omega) only [stepS, reduceIte, Nat.reduceBEq, Nat.reduceEqDiff, tupleOf, stepT, stepX, heapR, lensR, stepM, dsl, Nat.reduceAdd, Nat.reduceLeDiff, g0, hvl]
    obtain ⟨I, hI⟩ : ∃ I : AT → AH → Prop, I = fun a E => ∃ j : Nat, ∃ L z, j ≤ rs.length ∧ LoadP (rs.take j) L ∧ Le A E ∧ A.length + 2 ≤ E.length ∧ rowAt E A.length = some ([.slice none 0 0], .own, 0, true) ∧ rowAt E (A.length + 1) = some ([z], .own, 0, true) ∧ OwnC A.length E z L ∧ a 0 = v ∧ a 2 = ptr A.length ∧ a 4 = ptr (A.length + 1) ∧ a 5 = ii j := ⟨_, rfl⟩
    refine W_loop I (fun a _ => rs.length - (iv (a 5)).toNat) (by rw [hI]; refine ⟨0, [], .slice none 0 0, Nat.zero_le _, LoadP.nil, kB.trans kC, by omega, r2c, r4c, OwnE.nil _ _ _, ?_⟩; simp (maxSteps := 1000000) (disch := omega) only [stepS, reduceIte, Nat.reduceBEq, Nat.reduceEqDiff, tupleOf, stepT, stepX, heapR, lensR, stepM, dsl, Nat.reduceAdd, Nat.reduceLeDiff, g0, g2, g4]; (all_goals (and_intros <;> first | rfl | assumption | (push_cast; rfl) | (congr 1; omega) | omega | (simp; done)))) ?_
    rw [hI]
    clear g0 g2 g4 r2 r2c r4c
    rintro a2 E ⟨j, L, z, hj, hL, kE, lE, r2, r4, hz, g0, g2, g4, g5⟩
    rcases Nat.lt_or_ge j rs.length with hlt | hge
    · obtain ⟨r, hr⟩ := get_some hlt
      have hvE := hv.le kE
      obtain ⟨p, p1, p2, _⟩ := hvE.at hr
      have p3 := p2 E (.refl _)
      have hm := List.mem_of_getElem? hr
      have hfr := hf r hm
      obtain ⟨c, hc⟩ : ∃ c, c = cRow ⟨r.name, r.n⟩ := ⟨_, rfl⟩
      have hfc : FinR c := by rw [hc]; exact fin_cRow hfr
      have hb : fillA [ii 0, .string noT, .string noT, ii 0, .string noT, .string noT, .bool false] [(0, 1, ii 1), (1, 1, .string r.name), (3, 1, ii r.n)] = some (rowE c) := by rw [hc]; rfl
      have hst : sStore (E ++ [.row [ii 0, .string noT, .string noT, ii 0, .string noT, .string noT, .bool false] .own 0 true]) (ptr E.length) (rowG r) 7 = some (undef, E ++ [.row (rowE r) .own 0 true]) := copy_el E (e := rowE r) rfl rfl rfl
      have kF : Le E (E ++ [.row (rowE r) .own 0 true]) := .push _ _
      have r6 : rowAt (E ++ [.row (rowE r) .own 0 true]) E.length = some ([ii r.kind, .string r.name, .string r.text, ii r.n, .string r.id, .string r.at', .bool r.gone], .own, 0, true) := rowAt_own (get_last _ _)
      have lF : (E ++ [Blk.row (rowE r) .own 0 true]).length = E.length + 1 := by simp
      obtain ⟨F, hF⟩ : ∃ F, F = E ++ [Blk.row (rowE r) .own 0 true] := ⟨_, rfl⟩
      rw [← hF] at hst kF r6 lF
      clear hF
      have r2f := kF.row r2
      have r4f := kF.row r4
      have kAF := kE.trans kF
      have hzF := hz.le kF
      have htk : rs.take (j + 1) = rs.take j ++ [r] := by rw [List.take_add_one, hr]; rfl
      have hrej : (¬ ∃ L, LoadP rs L) → Q (.tuple #[.agg #[.slice none 0 0], ii 5]) (F.set A.length (.row [.slice none 0 0] .own 0 true)) := fun h => hq2 h _ ((Keep.set F _ _).le kAF (Nat.le_refl _))
      by_cases he : r = c
      · have hd : sEqagg F true (Try.prog.keyLits 8 48) (rowG r) (.agg (rowE c).toArray) = some (.bool false, F) := (eqR (A := F) hfr hfc).1 he
        simp (maxSteps := 1000000) (disch := omega) only [stepS, reduceIte, Nat.reduceBEq, Nat.reduceEqDiff, tupleOf, stepT, stepX, heapR, lensR, stepM, dsl, Nat.reduceAdd, Nat.reduceLeDiff, g0, g2, g4, g5, hvl, p1, p3, hst, r6, hb, hd]
        refine ref14_Name_spec (hsz r hm) ?_
        by_cases hnm : nameOk r.name = true
        · -- what comes next where the row may be
          have hbd : fillA [.string noT, ii 0] [(0, 1, .string r.name), (1, 1, ii r.n)] = some [.string r.name, ii r.n] := rfl
          have hlit : sLit F [.string noT, ii 0] 2 1 [(0, 2, .agg #[.string r.name, ii r.n])] = some (.slice (some ⟨F.length, 0, none⟩) 1 1, F ++ [.row (countE ⟨r.name, r.n⟩) .own 2 true]) := litE F (z := [.string noT, ii 0]) (e := countE ⟨r.name, r.n⟩) rfl rfl rfl
          have hLl := hL.len
          rw [List.length_take, Nat.min_eq_left hj] at hLl
          obtain ⟨w, G, e1, e3, e2, e4, _⟩ := OwnE.push (bytes := 24) (e := countE ⟨r.name, r.n⟩) kAF hzF (by decide) rfl rfl (by rw [List.length_map]; omega) (by decide)
          have r2g : rowAt G A.length = some ([.slice none 0 0], .own, 0, true) := rowAt_own (e4.get (rowAt_get r2f) (OwnS.row_apart hzF.2 (rowAt_get r2f) (by decide)))
          have r4g : rowAt G (A.length + 1) = some ([z], .own, 0, true) := rowAt_own (e4.get (rowAt_get r4f) (OwnS.row_apart hzF.2 (rowAt_get r4f) (by decide)))
          have r4h : rowAt (F ++ [Blk.row (countE ⟨r.name, r.n⟩) .own 2 true]) (A.length + 1) = some ([z], .own, 0, true) := (Le.push F _).row r4f
          have e2 : OwnC A.length G w (L ++ [⟨r.name, r.n⟩]) := by
            show OwnE _ _ 2 _ ((L ++ [(⟨r.name, r.n⟩ : CountV)]).map countE)
            rw [List.map_append]; exact e2
          have lG := e4.1
          have ow : one1 w := Sl.one1 e2.2.sl
          have ou : ∀ A' : AH, stQ (some ([z], .own, 0, true)) (A.length + 1) 0 1 w A' = some (undef, A'.set (A.length + 1) (.row [w] .own 0 true)) := fun A' => stQ_one ow (by simp)
          have k1 : Keep G (A.length + 1) (G.set (A.length + 1) (.row [w] .own 0 true)) := Keep.set _ _ _
          have f1 : Le A (G.set (A.length + 1) (.row [w] .own 0 true)) := k1.le e3 (by omega)
          have f2 : A.length + 2 ≤ (G.set (A.length + 1) (.row [w] .own 0 true)).length := by rw [List.length_set]; omega
          have f3 : rowAt (G.set (A.length + 1) (.row [w] .own 0 true)) A.length = some ([.slice none 0 0], .own, 0, true) := rowAt_own (k1.2 _ _ (by omega) (rowAt_get r2g))
          have f4 : rowAt (G.set (A.length + 1) (.row [w] .own 0 true)) (A.length + 1) = some ([w], .own, 0, true) := rowAt_own (by rw [List.getElem?_set_self (by omega)])
          have f5 : OwnC A.length (G.set (A.length + 1) (.row [w] .own 0 true)) w (L ++ [⟨r.name, r.n⟩]) := OwnE.ki e2 k1 (rowAt_get r4g) (by decide)
          have hcase : ∀ hlo : ¬ r.n < -9007199254740992, ∀ hhi : ¬ r.n > 9007199254740992, ¬ oddC r := by
            intro hlo hhi h
            rcases h with h | h | h | h
            · exact absurd (he.trans hc) h
            · rw [hnm] at h; cases h
            · exact absurd h hlo
            · exact absurd h hhi
          by_cases hj0 : j = 0
          · subst hj0
            by_cases hlo : r.n < -9007199254740992
            · simp (maxSteps := 1000000) (disch := omega) only [stepS, reduceIte, Nat.reduceBEq, Nat.reduceEqDiff, tupleOf, stepT, stepX, heapR, lensR, stepM, dsl, Nat.reduceAdd, Nat.reduceLeDiff, g0, g2, g4, g5, hvl, hnm, r6, r2f, r4f, ob, on]
              exact .inr (hrej fun ⟨L', hL'⟩ => (hL'.good hr).1 (.inr (.inr (.inl hlo))))
            · by_cases hhi : r.n > 9007199254740992
              · simp (maxSteps := 1000000) (disch := omega) only [stepS, reduceIte, Nat.reduceBEq, Nat.reduceEqDiff, tupleOf, stepT, stepX, heapR, lensR, stepM, dsl, Nat.reduceAdd, Nat.reduceLeDiff, g0, g2, g4, g5, hvl, hnm, r6, r2f, r4f, ob, on]
                exact .inr (hrej fun ⟨L', hL'⟩ => (hL'.good hr).1 (.inr (.inr (.inr hhi))))
              · obtain ⟨s1, s2⟩ := hL.snoc (hcase hlo hhi) (by simp)
                rw [← htk] at s1
                simp (maxSteps := 1000000) (disch := omega) only [stepS, reduceIte, Nat.reduceBEq, Nat.reduceEqDiff, tupleOf, stepT, stepX, heapR, lensR, stepM, dsl, Nat.reduceAdd, Nat.reduceLeDiff, g0, g2, g4, g5, hvl, hnm, r6, r2f, r4f, hbd, hlit, e1, r4g, r4h, ou]
                exact ⟨⟨1, _, w, by omega, s1, f1, r2g, rfl, f5, rfl⟩, by omega⟩
          · obtain ⟨d, hd⟩ := get_some (l := rs) (k := j - 1) (by omega)
            obtain ⟨q, q1, _, q2⟩ := (hv.le kAF).at hd
            obtain ⟨q3, q4, q5⟩ := q2 1 (.string d.name) rfl
            have q6 := q5 F (.refl _)
            have q1' : ∀ C : AH, sIaddr C v (ii ((j : Int) - 1)) 7 = some (q, C) := fun C => q1 C _ (by omega)
            by_cases hlt2 : bl d.name < bl r.name
            · have hd2 : decide (¬ bl d.name < bl r.name) = false := decide_eq_false (fun h => h hlt2)
              by_cases hlo : r.n < -9007199254740992
              · simp (maxSteps := 1000000) (disch := omega) only [stepS, reduceIte, Nat.reduceBEq, Nat.reduceEqDiff, tupleOf, stepT, stepX, heapR, lensR, stepM, dsl, Nat.reduceAdd, Nat.reduceLeDiff, g0, g2, g4, g5, hvl, hnm, r6, r2f, r4f, q1', q4, q6, geS, hd2, ob, on]
                exact .inr (hrej fun ⟨L', hL'⟩ => (hL'.good hr).1 (.inr (.inr (.inl hlo))))
              · by_cases hhi : r.n > 9007199254740992
                · simp (maxSteps := 1000000) (disch := omega) only [stepS, reduceIte, Nat.reduceBEq, Nat.reduceEqDiff, tupleOf, stepT, stepX, heapR, lensR, stepM, dsl, Nat.reduceAdd, Nat.reduceLeDiff, g0, g2, g4, g5, hvl, hnm, r6, r2f, r4f, q1', q4, q6, geS, hd2, ob, on]
                  exact .inr (hrej fun ⟨L', hL'⟩ => (hL'.good hr).1 (.inr (.inr (.inr hhi))))
                · obtain ⟨s1, s2⟩ := hL.snoc (hcase hlo hhi) (by
                    intro d' hd'
                    rw [List.length_take, Nat.min_eq_left hj, List.getElem?_take_of_lt (by omega), hd] at hd'
                    injection hd' with hd'; rw [← hd']; exact hlt2)
                  rw [← htk] at s1
                  simp (maxSteps := 1000000) (disch := omega) only [stepS, reduceIte, Nat.reduceBEq, Nat.reduceEqDiff, tupleOf, stepT, stepX, heapR, lensR, stepM, dsl, Nat.reduceAdd, Nat.reduceLeDiff, g0, g2, g4, g5, hvl, hnm, r6, r2f, r4f, q1', q4, q6, geS, hd2, hbd, hlit, e1, r4g, r4h, ou]
                  exact ⟨⟨j + 1, _, w, by omega, s1, f1, r2g, rfl, f5, rfl⟩, by omega⟩
            · have hd2 : decide (¬ bl d.name < bl r.name) = true := decide_eq_true hlt2
              simp (maxSteps := 1000000) (disch := omega) only [stepS, reduceIte, Nat.reduceBEq, Nat.reduceEqDiff, tupleOf, stepT, stepX, heapR, lensR, stepM, dsl, Nat.reduceAdd, Nat.reduceLeDiff, g0, g2, g4, g5, hvl, hnm, r6, r2f, r4f, q1', q4, q6, geS, hd2, ob, on]
              exact .inr (hrej fun ⟨L', hL'⟩ => hlt2 ((hL'.good hr).2 d (by omega) hd))
        · have hnm' : nameOk r.name = false := by simpa using hnm
          simp (maxSteps := 1000000) (disch := omega) only [stepS, reduceIte, Nat.reduceBEq, Nat.reduceEqDiff, tupleOf, stepT, stepX, heapR, lensR, stepM, dsl, Nat.reduceAdd, Nat.reduceLeDiff, g0, g2, g4, g5, hvl, hnm', r6, r2f, r4f, ob, on]
          exact .inr (hrej fun ⟨L', hL'⟩ => (hL'.good hr).1 (.inr (.inl hnm')))
      · have hd : sEqagg F true (Try.prog.keyLits 8 48) (rowG r) (.agg (rowE c).toArray) = some (.bool true, F) := (eqR (A := F) hfr hfc).2 he
        simp (maxSteps := 1000000) (disch := omega) only [stepS, reduceIte, Nat.reduceBEq, Nat.reduceEqDiff, tupleOf, stepT, stepX, heapR, lensR, stepM, dsl, Nat.reduceAdd, Nat.reduceLeDiff, g0, g2, g4, g5, hvl, p1, p3, hst, r6, hb, hd, r2f, r4f, ob, on]
        exact .inr (hrej fun ⟨L', hL'⟩ => (hL'.good hr).1 (.inl (fun e => he (e.trans hc.symm))))
    · rw [List.take_of_length_le hge] at hL
      simp (maxSteps := 1000000) (disch := omega) only [stepS, reduceIte, Nat.reduceBEq, Nat.reduceEqDiff, tupleOf, stepT, stepX, heapR, lensR, stepM, dsl, Nat.reduceAdd, Nat.reduceLeDiff, g0, g2, g4, g5, hvl]
      exact .inl ⟨L, z, hL, kE, r2, r4, hz⟩
  clear g0 g2 g4
  rintro a E ⟨L, z, hL, kE, lE, r2, r4, hz, g2, g4⟩
  have oz := os A.length (.slice none 0 0) z (Sl.one1 hz.2.sl)
  simp (maxSteps := 1000000) (disch := omega) only [stepS, reduceIte, Nat.reduceBEq, Nat.reduceEqDiff, tupleOf, stepT, stepX, heapR, lensR, stepM, dsl, Nat.reduceAdd, Nat.reduceLeDiff, g2, g4, r2, r4, oz]
  have k1 : Keep E A.length (E.set A.length (.row [z] .own 0 true)) := Keep.set _ _ _
  exact hq1 L z _ hL (k1.le kE (Nat.le_refl _)) (OwnC.sl (OwnE.ki hz k1 (rowAt_get r2) (by decide)))
end Go.AS.C
