/- Lemmas for the proof of a given statement; no conditions. -/
import Derived.Test.YtcgjjhnlhcbceaaDoorM2
import Derived.Sort.Grow
import Derived.Sort.EncStr
import Derived.Test.YtcgjjhnlhcbceaaDoorRows
import Derived.Shelf.Sort.Plain
import Derived.Shelf.Slices.In.SortNone
import Derived.Shelf.Small.Strs
set_option maxHeartbeats 1000000

namespace Go.AS
open Go
set_option linter.unusedVariables false
set_option linter.unusedSimpArgs false

/-! Slices of elements of some cells each, of the call's own: read, written, swapped. -/

/-- All but the row at which v leads is as it was. -/
def KeepV (A : AH) (v : Value) (A' : AH) : Prop := A.length ≤ A'.length ∧ ∀ k b, A[k]? = some b → k ∉ blkOf v → A'[k]? = some b
def OwnE (a0 : Nat) (A : AH) (sz : Nat) (v : Value) (es : List (List Value)) : Prop := (∀ e ∈ es, e.length = sz ∧ ones e = true) ∧ OwnS a0 A sz v es.length es.flatten

section
variable {A B C A0 : AH} {v w : Value} {sz n a0 : Nat} {cs : List Value} {es fs : List (List Value)}
theorem KeepV.refl (A : AH) (v : Value) : KeepV A v A := ⟨Nat.le_refl _, fun _ _ h _ => h⟩
theorem KeepV.trans (h : KeepV A v B) (k : KeepV B v C) : KeepV A v C := ⟨Nat.le_trans h.1 k.1, fun j b hb hj => k.2 j b (h.2 j b hb hj) hj⟩
theorem KeepV.le (h : KeepV A v B) (hl : Le A0 A) (hi : ∀ k ∈ blkOf v, A0.length ≤ k) : Le A0 B := by
  refine Le.of_get (fun k hk => ?_) (Nat.le_trans hl.len h.1)
  have hb : A0[k]? = some A0[k] := List.getElem?_eq_getElem hk
  rw [hb, h.2 k _ (hl.get hb) (fun hm => by have := hi k hm; omega)]
theorem iaddr_any {x i p : Value} {A' : AH} (h : sIaddr A x i sz = some (p, A')) (B : AH) : sIaddr B x i sz = some (p, B) := by
  unfold sIaddr at h ⊢
  split at h
  · rw [Option.bind_eq_some_iff] at h
    obtain ⟨j, h1, h⟩ := h
    split at h
    · rename_i hc
      injection h with h; injection h with h2 h3; subst h2
      simp only [h1, Option.bind_some]
      rw [if_pos hc]
    · cases h
  · cases h
theorem ones_flatten (h : ∀ e ∈ es, e.length = sz ∧ ones e = true) : ones es.flatten = true := by
  unfold ones
  rw [List.all_eq_true]
  intro x hx
  obtain ⟨e, he, hx⟩ := List.mem_flatten.1 hx
  have := (h e he).2
  unfold ones at this
  rw [List.all_eq_true] at this
  exact this x hx
theorem flat_len' (h : ∀ e ∈ es, e.length = sz ∧ ones e = true) : es.flatten.length = es.length * sz := flat_len es sz (fun j c hc => (h c (List.mem_of_getElem? hc)).1)
theorem flat_cut (h : ∀ e ∈ es, e.length = sz ∧ ones e = true) {j : Nat} {e : List Value} (hj : es[j]? = some e) : (es.flatten.drop (j * sz)).take sz = e := by
  have h1 := flat_part es j e hj
  have h2 := flat_len_take es sz (fun j c hc => (h c (List.mem_of_getElem? hc)).1) j (Nat.le_of_lt (lt_of_get hj))
  rw [h2, (h e (List.mem_of_getElem? hj)).1] at h1
  exact h1
theorem flat_at (h : ∀ e ∈ es, e.length = sz ∧ ones e = true) {j o : Nat} {e : List Value} (hj : es[j]? = some e) (ho : o < sz) : es.flatten[j * sz + o]? = e[o]? := by
  have := flat_cut h hj
  rw [← this, List.getElem?_take_of_lt ho, List.getElem?_drop]
/-- An element is read. -/
theorem Sl.el (h : Sl A sz v es.length es.flatten) (he : ∀ e ∈ es, e.length = sz ∧ ones e = true) {j : Nat} {e : List Value} (hj : es[j]? = some e) :
    ∃ p, blkOf p = blkOf v ∧ (∀ (B : AH) (n : Int), n = (j : Int) → sIaddr B v (.int .i64 n) sz = some (p, B)) ∧ sLoadn A p sz = some (.agg e.toArray, A) ∧ ∀ B, (∀ k b, A[k]? = some b → k ∈ blkOf v → B[k]? = some b) → sLoadn B p sz = some (.agg e.toArray, B) := by
  obtain ⟨p, p1, p2⟩ := h.atn (lt_of_get hj)
  rw [flat_cut he hj] at p2
  refine ⟨p, iaddr_blk p1, ?_, p2, fun B hB => ?_⟩
  · rintro B n rfl; exact iaddr_any p1 B
  · have hb := iaddr_blk p1
    unfold sLoadn at p2 ⊢
    split at p2
    · rename_i i o
      rw [Option.bind_eq_some_iff] at p2
      obtain ⟨r, q1, q2⟩ := p2
      rw [Option.map_eq_some_iff] at q2
      obtain ⟨l, q2, q3⟩ := q2
      injection q3 with q3 q4
      obtain ⟨r1, r2, r3, r4⟩ := r
      obtain ⟨g1, g2⟩ := getRow_some q1
      have g3 := hB i _ g1 (by rw [← hb]; simp [blkOf])
      have : getRow B i = some (r1, r2, r3, r4) := by unfold getRow; simp only [g3, if_neg g2]
      simp only [this, Option.bind_some, q2, Option.map_some, q3]
    · cases p2
theorem OwnE.el (h : OwnE a0 A sz v es) {j : Nat} {e : List Value} (hj : es[j]? = some e) :
    ∃ p, blkOf p = blkOf v ∧ (∀ (B : AH) (n : Int), n = (j : Int) → sIaddr B v (.int .i64 n) sz = some (p, B)) ∧ sLoadn A p sz = some (.agg e.toArray, A) ∧ ∀ B, (∀ k b, A[k]? = some b → k ∈ blkOf v → B[k]? = some b) → sLoadn B p sz = some (.agg e.toArray, B) := Sl.el h.2.sl h.1 hj
/-- An element is written. -/
theorem OwnE.put (h : OwnE a0 A sz v es) {j : Nat} {e : List Value} (hj : j < es.length) (h1 : e.length = sz) (h2 : ones e = true) {p : Value} (hp : sIaddr A v (.int .i64 (j : Int)) sz = some (p, A)) :
    ∃ A', sStore A p (.agg e.toArray) sz = some (undef, A') ∧ OwnE a0 A' sz v (es.set j e) ∧ KeepV A v A' := by
  obtain ⟨he, hs⟩ := h
  have hfl := flat_len' he
  have hm : j * sz + sz ≤ es.length * sz := by
    have := Nat.mul_le_mul_right sz (show j + 1 ≤ es.length by omega)
    rw [Nat.add_mul, Nat.one_mul] at this
    exact this
  obtain ⟨h0, hs⟩ := hs
  rcases hs with ⟨rfl, hz⟩ | ⟨rfl, hz⟩ | ⟨i, o, c, rc, ex, rfl, k2, k3, k4, k5, k6⟩
  · omega
  · omega
  · have e1 : sIaddr A (.slice (some ⟨i, o, none⟩) es.length c) (.int .i64 (j : Int)) sz = some (.pointer (some ⟨i, o + j * sz, none⟩), A) := by
      unfold sIaddr
      simp only [asI, Option.bind_some]
      rw [if_pos ⟨by omega, by omega⟩]
      simp
    rw [e1] at hp
    injection hp with hp; injection hp with hp _; subst hp
    have ec : (Value.agg e.toArray).cells = e.toArray := rfl
    refine ⟨A.set i (.row (setAll rc (o + j * sz) e) .own sz ex), ?_, ⟨?_, ?_⟩, ?_⟩
    · unfold sStore
      rw [ec]
      simp only [List.size_toArray]
      rw [if_pos h1]
      unfold wr
      simp only [k4]
      rw [if_pos ⟨by omega, h2⟩]
      rfl
    · intro x hx
      rcases List.mem_or_eq_of_mem_set hx with hx | rfl
      · exact he x hx
      · exact ⟨h1, h2⟩
    · have he' : ∀ x ∈ es.set j e, x.length = sz ∧ ones x = true := by
        intro x hx
        rcases List.mem_or_eq_of_mem_set hx with hx | rfl
        · exact he x hx
        · exact ⟨h1, h2⟩
      have hl2 : (es.set j e).length = es.length := List.length_set ..
      refine ⟨by rw [flat_len' he'], .inr (.inr ⟨i, o, c, setAll rc (o + j * sz) e, ex, by rw [hl2], by rw [hl2]; exact k2, k3, by rw [List.getElem?_set_self (lt_of_get k4)], ?_, ?_⟩)⟩
      · rw [setAll_length _ _ _ (by omega), hl2]; exact k5
      · intro m hm2
        rw [hl2] at hm2
        have hsz : 0 < sz := by
          rcases Nat.eq_zero_or_pos sz with h | h
          · subst h; omega
          · exact h
        rw [setAll_get _ _ _ (by omega)]
        obtain ⟨q, r, rfl, hr⟩ : ∃ q r, m = q * sz + r ∧ r < sz := ⟨m / sz, m % sz, by rw [Nat.mul_comm]; exact (Nat.div_add_mod m sz).symm, Nat.mod_lt _ hsz⟩
        have hq : q < es.length := by
          rcases Nat.lt_or_ge q es.length with h | h
          · exact h
          · have := Nat.mul_le_mul_right sz h; omega
        by_cases hqj : q = j
        · subst hqj
          rw [if_pos ⟨by omega, by omega⟩, flat_at he' (j := q) (o := r) (e := e) (List.getElem?_set_self hq) hr]
          congr 1; omega
        · obtain ⟨x, hx⟩ : ∃ x, es[q]? = some x := ⟨_, List.getElem?_eq_getElem hq⟩
          have hne : ¬ (o + j * sz ≤ o + (q * sz + r) ∧ o + (q * sz + r) < o + j * sz + e.length) := by
            rintro ⟨u1, u2⟩
            rcases Nat.lt_or_gt_of_ne hqj with hlt | hgt
            · have := Nat.mul_le_mul_right sz (show q + 1 ≤ j by omega)
              rw [Nat.add_mul, Nat.one_mul] at this; omega
            · have := Nat.mul_le_mul_right sz (show j + 1 ≤ q by omega)
              rw [Nat.add_mul, Nat.one_mul] at this; omega
          rw [if_neg hne, k6 _ hm2, flat_at he hx hr, flat_at he' (e := x) (by rw [List.getElem?_set_ne (by omega)]; exact hx) hr]
    · refine ⟨by rw [List.length_set]; exact Nat.le_refl _, fun k b hb hk => ?_⟩
      rw [List.getElem?_set_ne (fun h => hk (by subst h; simp [blkOf]))]
      exact hb
theorem OwnE.le (h : OwnE a0 A sz v es) (hl : Le A B) : OwnE a0 B sz v es := ⟨h.1, h.2.le hl⟩
theorem OwnE.ge (h : OwnE a0 A sz v es) : ∀ k ∈ blkOf v, a0 ≤ k ∧ k < A.length := h.2.ge
theorem OwnE.len (h : OwnE a0 A sz v es) : sLens A false v = some (.int .i64 es.length, A) := h.2.sl.len
theorem get_lo {α : Type} (X Y : List α) (x : α) : (X ++ x :: Y)[X.length]? = some x := by simp
end
end Go.AS


namespace Go.AS
open Go
set_option linter.unusedVariables false
set_option linter.unusedSimpArgs false

/-! Lists in order by a key; rearrangements that keep what has one key in its order. -/

theorem bytesLess_lt : ∀ (x y : List UInt8), Op.bytesLess x y = decide (x < y)
  | [], [] => by simp [Op.bytesLess]
  | _ :: _, [] => by simp [Op.bytesLess]
  | [], _ :: _ => by simp [Op.bytesLess]
  | a :: x, b :: y => by
    rw [Op.bytesLess, bytesLess_lt x y]
    simp only [List.cons_lt_cons_iff]
    by_cases h1 : a < b <;> by_cases h2 : a = b <;> by_cases h3 : x < y <;> simp [h1, h2, h3]

theorem kl_irr (a : List UInt8) : ¬ a < a := List.lt_irrefl a
theorem kl_tr {a b c : List UInt8} (h : a < b) (k : b < c) : a < c := List.lt_trans h k
theorem kl_asym {a b : List UInt8} (h : a < b) : ¬ b < a := fun k => kl_irr a (kl_tr h k)
theorem kl_tri (a b : List UInt8) : a < b ∨ a = b ∨ b < a := by
  by_cases h : a < b
  · exact .inl h
  · by_cases k : b < a
    · exact .inr (.inr k)
    · exact .inr (.inl (List.le_antisymm (List.not_lt.1 k) (List.not_lt.1 h)))
section
variable {α : Type} {key : α → List UInt8}
/-- A stable rearrangement. -/
def Rk (key : α → List UInt8) (l l' : List α) : Prop := l'.length = l.length ∧ ∀ k, l'.filter (fun e => decide (key e = k)) = l.filter (fun e => decide (key e = k))
/-- In order. -/
def Srt (key : α → List UInt8) (l : List α) : Prop := l.Pairwise fun a b => ¬ key b < key a

theorem Rk.refl (l : List α) : Rk key l l := ⟨rfl, fun _ => rfl⟩
theorem Rk.trans {a b c : List α} (h : Rk key a b) (k : Rk key b c) : Rk key a c := ⟨k.1.trans h.1, fun x => (k.2 x).trans (h.2 x)⟩
theorem Rk.app {a b c d : List α} (h : Rk key a b) (k : Rk key c d) : Rk key (a ++ c) (b ++ d) :=
  ⟨by simp [h.1, k.1], fun x => by simp [List.filter_append, h.2 x, k.2 x]⟩
theorem Rk.mem {a b : List α} (h : Rk key a b) {x : α} : x ∈ b ↔ x ∈ a := by
  have := h.2 (key x)
  have e : ∀ l : List α, x ∈ l.filter (fun e => decide (key e = key x)) ↔ x ∈ l := fun l => by simp
  rw [← e b, this, e a]
theorem Srt.app {a b : List α} (ha : Srt key a) (hb : Srt key b) (h : ∀ x ∈ a, ∀ y ∈ b, ¬ key y < key x) : Srt key (a ++ b) :=
  List.pairwise_append.2 ⟨ha, hb, h⟩
theorem Srt.left {a b : List α} (h : Srt key (a ++ b)) : Srt key a := (List.pairwise_append.1 h).1
theorem Srt.right {a b : List α} (h : Srt key (a ++ b)) : Srt key b := (List.pairwise_append.1 h).2.1
theorem Srt.get {l : List α} (h : Srt key l) {i j : Nat} {x y : α} (hi : l[i]? = some x) (hj : l[j]? = some y) (hij : i ≤ j) : ¬ key y < key x := by
  rcases Nat.lt_or_ge i j with hlt | hge
  · obtain ⟨h1, h2⟩ := List.getElem?_eq_some_iff.1 hi
    obtain ⟨h3, h4⟩ := List.getElem?_eq_some_iff.1 hj
    have := List.pairwise_iff_getElem.1 h i j h1 h3 hlt
    rw [h2, h4] at this
    exact this
  · have : i = j := by omega
    subst this
    rw [hi] at hj
    obtain rfl := Option.some.inj hj
    exact kl_irr _
theorem Srt.one (x : α) : Srt key [x] := by simp [Srt]
theorem Srt.nil : Srt key ([] : List α) := by simp [Srt]
end
end Go.AS


namespace Go.AS
open Go
set_option maxRecDepth 100000
/-! Codes of library functions that are alike in many chapters (printed by geni.py). -/
end Go.AS


namespace Go.AS
open Go
set_option linter.unusedVariables false
set_option linter.unusedSimpArgs false
set_option maxRecDepth 10000

section
variable {G : Nat} {P : Program} (hm : P.follows .mixedOrders = true) {sz a0 : Nat} {A : AH} {v fv : Value} {Q : Value → AH → Prop}
include hm
end
end Go.AS


namespace Go.AS
open Go
set_option linter.unusedVariables false
set_option linter.unusedSimpArgs false
set_option maxRecDepth 10000

theorem last_of {α : Type} {L : List α} (h : L ≠ []) : ∃ X x, L = X ++ [x] := ⟨L.dropLast, L.getLast h, (List.dropLast_concat_getLast h).symm⟩

section
variable {G : Nat} {P : Program} (hm : P.follows .mixedOrders = true) {sz a0 : Nat} {A : AH} {v fv : Value} {Q : Value → AH → Prop} {dom : List Value → Prop} {key : List Value → List UInt8}
include hm
end
end Go.AS


namespace Go.AS
open Go
set_option linter.unusedVariables false
set_option linter.unusedSimpArgs false

section
variable {α : Type} {key : α → List UInt8}
theorem get_some {l : List α} {k : Nat} (h : k < l.length) : ∃ x, l[k]? = some x := ⟨_, List.getElem?_eq_getElem h⟩
end
end Go.AS


namespace Go.AS
open Go
set_option linter.unusedVariables false
set_option linter.unusedSimpArgs false
set_option maxRecDepth 10000

section
variable {G : Nat} {P : Program} (hm : P.follows .mixedOrders = true) {sz : Nat} {fv : Value} {dom : List Value → Prop} {key : List Value → List UInt8}

section
variable {A : AH} {v : Value} {a0 : Nat} {X Y : List (List Value)} {r : AT} {R : Exit → AT → AH → Prop}
include hm in
end
end
end Go.AS


namespace Go.AS
open Go
set_option linter.unusedVariables false
set_option linter.unusedSimpArgs false
set_option maxRecDepth 10000

section
variable {G : Nat} {P : Program} (hm : P.follows .mixedOrders = true) {sz : Nat} {fv : Value} {dom : List Value → Prop} {key : List Value → List UInt8}
include hm in
end
end Go.AS


namespace Go.AS
open Go
set_option linter.unusedVariables false
set_option linter.unusedSimpArgs false
set_option maxRecDepth 10000

section
variable {α : Type} {key : α → List UInt8}
/-- In order in parts of so many. -/
def ChS (key : α → List UInt8) (bs : Nat) (l : List α) : Prop := ∀ i, Srt key ((l.drop (i * bs)).take bs)
theorem ChS.nil {bs : Nat} : ChS key bs ([] : List α) := fun i => by simp [Srt]
theorem ChS.push {bs i : Nat} {D S : List α} (h : ChS key bs D) (hD : D.length = i * bs) (hS : S.length ≤ bs) (hs : Srt key S) : ChS key bs (D ++ S) := by
  intro j
  rcases Nat.lt_trichotomy j i with hj | hj | hj
  · have : j * bs + bs ≤ D.length := by
      rw [hD]
      have := Nat.mul_le_mul_right bs (show j + 1 ≤ i by omega)
      rw [Nat.add_mul, Nat.one_mul] at this; exact this
    rw [List.drop_append_of_le_length (by omega), List.take_append_of_le_length (by rw [List.length_drop]; omega)]
    exact h j
  · subst hj
    rw [← hD, List.drop_left, List.take_of_length_le hS]
    exact hs
  · have : (D ++ S).length ≤ j * bs := by
      rw [List.length_append, hD]
      have := Nat.mul_le_mul_right bs (show i + 1 ≤ j by omega)
      rw [Nat.add_mul, Nat.one_mul] at this; omega
    rw [List.drop_of_length_le this]
    simp [Srt]
theorem ChS.all {bs : Nat} {l : List α} (h : ChS key bs l) (hl : l.length ≤ bs) : Srt key l := by
  have := h 0
  rw [Nat.zero_mul, List.drop_zero, List.take_of_length_le hl] at this
  exact this
end

section
variable {G : Nat} {P : Program} (hm : P.follows .mixedOrders = true) {sz a0 : Nat} {A : AH} {v fv : Value} {Q : Value → AH → Prop} {dom : List Value → Prop} {key : List Value → List UInt8}
include hm
end
end Go.AS


namespace Go.AS
open Go
set_option linter.unusedVariables false
set_option linter.unusedSimpArgs false

/-! Slices of elements: cut, cleared, appended to. -/
section
variable {A B C A0 : AH} {v w u : Value} {sz n a0 l k : Nat} {cs e z : List Value} {es fs : List (List Value)} {lo hi : Option Value}

theorem flatten_cut (h : ∀ e ∈ es, e.length = sz ∧ ones e = true) (hlk : l ≤ k) (hk : k ≤ es.length) : ((es.take k).drop l).flatten = (es.flatten.drop (l * sz)).take ((k - l) * sz) := by
  have ht : ∀ j, j ≤ es.length → (es.take j).flatten.length = j * sz := fun j hj => flat_len_take es sz (fun j c hc => (h c (List.mem_of_getElem? hc)).1) j hj
  have e1 : es.flatten = ((es.take k).take l).flatten ++ (((es.take k).drop l).flatten ++ (es.drop k).flatten) := by
    rw [← List.append_assoc, ← List.flatten_append, List.take_append_drop, ← List.flatten_append, List.take_append_drop]
  have l1 : ((es.take k).take l).flatten.length = l * sz := by
    rw [List.take_take, Nat.min_eq_left hlk]; exact ht l (by omega)
  have l2 : ((es.take k).drop l).flatten.length = (k - l) * sz := by
    have := ht k hk
    rw [← List.take_append_drop l (es.take k), List.flatten_append, List.length_append, l1] at this
    rw [Nat.sub_mul]; omega
  rw [e1, ← l1, List.drop_left, ← l2, List.take_left]
/-- A part of a slice. -/
theorem OwnE.cut (h : OwnE a0 A sz v es) (hlk : l ≤ k) (hk : k ≤ es.length) (hb : ∀ c, es.length ≤ c → boundsA es.length c lo hi none = some (l, k, c)) :
    ∃ u, (∀ j ∈ blkOf u, j ∈ blkOf v) ∧ (∃ p c, u = .slice p (k - l) c) ∧ ∀ B fs, OwnE a0 B sz v fs → fs.length = es.length → sSll B v lo hi none sz = some (u, B) ∧ OwnE a0 B sz u ((fs.take k).drop l) := by
  obtain ⟨he, h0, h⟩ := h
  have mem : ∀ fs : List (List Value), (∀ e ∈ fs, e.length = sz ∧ ones e = true) → ∀ e ∈ (fs.take k).drop l, e.length = sz ∧ ones e = true := fun fs hf e hx => hf e (List.mem_of_mem_take (List.mem_of_mem_drop hx))
  rcases h with ⟨rfl, hz⟩ | ⟨rfl, hz⟩ | ⟨i, o, c, rc, ex, rfl, h2, h3, h4, h5, h6⟩
  · have : l = 0 := by omega
    have : k = 0 := by omega
    subst l k
    refine ⟨.slice none 0 0, fun j hj => hj, ⟨_, _, rfl⟩, fun B fs hf hl => ⟨?_, ?_⟩⟩
    · rw [hz] at hb
      unfold sSll
      simp only [hb 0 (Nat.le_refl _)]
      rfl
    · exact ⟨fun e hx => by simp at hx, OwnS.nil _ _ _⟩
  · have : l = 0 := by omega
    have : k = 0 := by omega
    subst l k
    refine ⟨.slice (some zmk) 0 0, fun j hj => hj, ⟨_, _, rfl⟩, fun B fs hf hl => ⟨?_, ?_⟩⟩
    · rw [hz] at hb
      unfold sSll zmk
      simp only [hb 0 (Nat.le_refl _)]
      rfl
    · exact ⟨fun e hx => by simp at hx, by simp, .inr (.inl ⟨rfl, rfl⟩)⟩
  · refine ⟨.slice (some ⟨i, o + l * sz, none⟩) (k - l) (c - l), fun j hj => hj, ⟨_, _, rfl⟩, fun B fs hf hl => ?_⟩
    obtain ⟨hf1, hf0, hf⟩ := hf
    have hlen : ((fs.take k).drop l).length = k - l := by rw [List.length_drop, List.length_take]; omega
    have hmul : l * sz + (k - l) * sz ≤ es.length * sz := by rw [← Nat.add_mul]; exact Nat.mul_le_mul_right _ (by omega)
    rcases hf with ⟨q, _⟩ | ⟨q, _⟩ | ⟨i', o', c', rc', ex', q, q2, q3, q4, q5, q6⟩
    · cases q
    · cases q
    · injection q with q q7 q8
      injection q with q
      injection q with q9 q10
      subst q9 q10 q8
      constructor
      · unfold sSll
        simp only [hb c h2, Option.bind_some]
        unfold rowSz
        rw [q4]
        simp
      · refine ⟨mem fs hf1, by rw [flat_len' (mem fs hf1)], .inr (.inr ⟨i, o + l * sz, c - l, rc', ex', by rw [hlen], by rw [hlen]; omega, q3, q4, by rw [hlen]; rw [hl] at q5; omega, ?_⟩)⟩
        intro j hj
        rw [hlen] at hj
        rw [flatten_cut hf1 hlk (by omega), List.getElem?_take_of_lt hj, List.getElem?_drop, Nat.add_assoc, q6 _ (by rw [hl]; omega)]
theorem ones_rep (hz : ones z = true) (m : Nat) : ones ((List.replicate m z).flatten) = true := by
  unfold ones at *
  rw [List.all_eq_true] at *
  intro x hx
  obtain ⟨l, h1, h2⟩ := List.mem_flatten.1 hx
  rw [List.mem_replicate] at h1
  rw [h1.2] at h2
  exact hz x h2
/-- What stands from l on is cleared. -/
theorem OwnE.clr (h : OwnE a0 A sz v es) (hl : l ≤ es.length) (hz : z.length = sz) (hz1 : ones z = true) (hu : sSll A v (some (.int .i64 (l : Int))) none none sz = some (u, A)) :
    ∃ A', sClr A u z = some (undef, A') ∧ OwnE a0 A' sz v (es.take l ++ List.replicate (es.length - l) z) ∧ KeepV A v A' := by
  have hE := h
  obtain ⟨he, h0, h⟩ := h
  have hb : ∀ c, es.length ≤ c → boundsA es.length c (some (ii l)) none none = some (l, es.length, c) := fun c hc => bnd_lo hl hc
  rcases h with ⟨rfl, hzz⟩ | ⟨rfl, hzz⟩ | ⟨i, o, c, rc, ex, rfl, h2, h3, h4, h5, h6⟩
  · have : l = 0 := by omega
    subst l
    have hes : es = [] := List.length_eq_zero_iff.1 hzz
    subst hes
    have : sSll A (.slice none 0 0) (some (ii (0 : Nat))) none none sz = some (.slice none 0 0, A) := rfl
    rw [show (Value.int .i64 ((0 : Nat) : Int)) = ii (0 : Nat) from rfl, this] at hu
    injection hu with hu; injection hu with hu; subst hu
    exact ⟨A, rfl, hE, .refl _ _⟩
  · have : l = 0 := by omega
    subst l
    have hes : es = [] := List.length_eq_zero_iff.1 hzz
    subst hes
    have : sSll A (.slice (some zmk) 0 0) (some (ii (0 : Nat))) none none sz = some (.slice (some zmk) 0 0, A) := rfl
    rw [show (Value.int .i64 ((0 : Nat) : Int)) = ii (0 : Nat) from rfl, this] at hu
    injection hu with hu; injection hu with hu; subst hu
    exact ⟨A, rfl, hE, .refl _ _⟩
  · have e : sSll A (.slice (some ⟨i, o, none⟩) es.length c) (some (.int .i64 (l : Int))) none none sz = some (.slice (some ⟨i, o + l * sz, none⟩) (es.length - l) (c - l), A) := by
      unfold sSll
      have := hb c h2
      unfold ii at this
      simp only [this, Option.bind_some]
      unfold rowSz
      rw [h4]
      simp
    rw [e] at hu
    injection hu with hu; injection hu with hu _; subst hu
    by_cases hm : es.length - l = 0
    · rw [hm]
      have : l = es.length := by omega
      subst this
      refine ⟨A, rfl, ?_, .refl _ _⟩
      rw [List.take_length]
      simpa using hE
    · obtain ⟨m, hm'⟩ : ∃ m, es.length - l = m + 1 := ⟨es.length - l - 1, by omega⟩
      have hmul : l * sz + (es.length - l) * sz = es.length * sz := by rw [← Nat.add_mul]; congr 1; omega
      have hrl : ((List.replicate (m + 1) z).flatten).length = (m + 1) * sz := by rw [rep_length, hz]
      rw [hm'] at hmul ⊢
      refine ⟨A.set i (.row (setAll rc (o + l * sz) ((List.replicate (m + 1) z).flatten)) .own sz ex), ?_, ⟨?_, ?_⟩, ?_⟩
      · show (wr A i (o + l * sz) _).map _ = _
        unfold wr
        simp only [h4]
        rw [if_pos ⟨by rw [hrl]; omega, ones_rep hz1 _⟩]
        rfl
      · intro x hx
        rcases List.mem_append.1 hx with hx | hx
        · exact he x (List.mem_of_mem_take hx)
        · rw [(List.mem_replicate.1 hx).2]; exact ⟨hz, hz1⟩
      · have hll : (es.take l ++ List.replicate (m + 1) z).length = es.length := by simp; omega
        have hfl : (es.take l).flatten.length = l * sz := flat_len_take es sz (fun j c hc => (he c (List.mem_of_getElem? hc)).1) l hl
        refine ⟨by rw [hll, List.flatten_append, List.length_append, hfl, hrl]; omega, .inr (.inr ⟨i, o, c, _, ex, by rw [hll], by rw [hll]; exact h2, h3, by rw [List.getElem?_set_self (lt_of_get h4)], ?_, ?_⟩)⟩
        · rw [setAll_length _ _ _ (by rw [hrl]; omega), hll]; exact h5
        · intro j hj
          rw [hll] at hj
          rw [setAll_get _ _ _ (by rw [hrl]; omega), List.flatten_append, hrl]
          rcases Nat.lt_or_ge j (l * sz) with hlt | hge
          · rw [if_neg (by omega), h6 _ hj, List.getElem?_append_left (by omega)]
            conv => lhs; rw [← List.take_append_drop l es, List.flatten_append]
            rw [List.getElem?_append_left (by omega)]
          · rw [if_pos (by omega), List.getElem?_append_right (by omega), hfl]
            congr 1; omega
      · refine ⟨by rw [List.length_set]; exact Nat.le_refl _, fun k b hb' hk => ?_⟩
        rw [List.getElem?_set_ne (fun h => hk (by subst h; simp [blkOf]))]
        exact hb'
theorem OwnE.nil (a0 : Nat) (A : AH) (sz : Nat) : OwnE a0 A sz (.slice none 0 0) [] := ⟨(fun e h => by cases h), OwnS.nil _ _ _⟩
/-- One more element. -/
theorem OwnE.push {bytes : Nat} (hl : Le A0 A) (h : OwnE A0.length A sz v es) (hsz : 0 < sz) (he : e.length = sz) (ho : ones e = true) (hb : 2 * ((es.length + 1) * bytes) ≤ 2 ^ 48) (hb0 : 0 < bytes) :
    ∃ v' A', sApp (A ++ [.row e .own sz true]) v (.slice (some ⟨A.length, 0, none⟩) 1 1) sz bytes = some (v', A') ∧ Le A0 A' ∧ OwnE A0.length A' sz v' (es ++ [e]) ∧ KeepV A v A' ∧ (blkOf v' = [A.length + 1] ∨ blkOf v' = blkOf v) := by
  have k1 : Le A (A ++ [.row e .own sz true]) := .push _ _
  have hs : Sl (A ++ [.row e .own sz true]) sz (.slice (some ⟨A.length, 0, none⟩) 1 1) 1 e :=
    ⟨by simp [he], .inr (.inr ⟨A.length, 0, 1, e, .own, true, rfl, by omega, by simp, by simp, by simp [he], fun j _ => by rw [Nat.zero_add]⟩)⟩
  obtain ⟨v', A', e1, e2, e3, e4⟩ := app_cells (bytes := bytes) (hl.trans k1) (h.2.le k1) hs ho hsz hb hb0
  have hf := app_fresh rfl (by simp) e1
  have hle := k1.len
  refine ⟨v', A', e1, e2, ⟨?_, ?_⟩, ⟨?_, fun i b hb hi => e4 i b (k1.get hb) (fun o c q => hi (by rw [q]; simp [blkOf]))⟩, by simpa using hf⟩
  · intro x hx
    rcases List.mem_append.1 hx with hx | hx
    · exact h.1 x hx
    · rw [List.mem_singleton.1 hx]; exact ⟨he, ho⟩
  · simpa using e3
  · refine Nat.le_trans hle ?_
    have : ∀ i, i < (A ++ [Blk.row e .own sz true]).length → i ∉ blkOf v → i < A'.length := by
      intro i hi hv
      exact lt_of_get (e4 i _ (List.getElem?_eq_getElem hi) (fun o c q => hv (by rw [q]; simp [blkOf])))
    have hlast := this A.length (by simp) (fun hv => by have := (h.2.ge A.length hv).2; omega)
    simp
    omega
end
end Go.AS


namespace Go.AS
open Go
set_option maxRecDepth 100000
/-! Codes of library functions that are alike in many chapters (printed by geni.py). -/
end Go.AS


namespace Go.AS
open Go
set_option linter.unusedVariables false
set_option linter.unusedSimpArgs false
set_option maxRecDepth 10000

section
variable {α : Type} {key : α → List UInt8}
/-- What is left behind k, where what has the key of the one ahead goes. -/
def dedA (key : α → List UInt8) : List UInt8 → List α → List α
  | _, [] => []
  | k, y :: l => if key y = k then dedA key k l else y :: dedA key (key y) l
def dedup (key : α → List UInt8) : List α → List α
  | [] => []
  | x :: l => x :: dedA key (key x) l
theorem dedA_same {k : List UInt8} {y : α} {l : List α} (h : key y = k) : dedA key k (y :: l) = dedA key k l := by simp [dedA, h]
theorem dedA_other {k : List UInt8} {y : α} {l : List α} (h : key y ≠ k) : dedA key k (y :: l) = y :: dedA key (key y) l := by simp [dedA, h]
theorem dedup_small {l : List α} (h : l.length < 2) : dedup key l = l := by
  match l, h with
  | [], _ => rfl
  | [x], _ => rfl
/-- Of what is in order: what is left rises, and each is the first with its key. -/
theorem dedA_rise : ∀ (l : List α) (k : List UInt8), Srt key l → (∀ x ∈ l, ¬ key x < k) → (dedA key k l).Pairwise (fun a b => key a < key b) ∧ (∀ x ∈ dedA key k l, k < key x) ∧
    ∀ x, x ∈ dedA key k l ↔ k < key x ∧ l.find? (fun e => decide (key e = key x)) = some x
  | [], k, _, _ => by simp [dedA]
  | y :: l, k, hs, hk => by
    have hs' : Srt key l := (List.pairwise_cons.1 hs).2
    have hy := (List.pairwise_cons.1 hs).1
    by_cases h : key y = k
    · obtain ⟨h1, h2, h3⟩ := dedA_rise l k hs' (fun x hx => hk x (List.mem_cons_of_mem _ hx))
      rw [dedA_same h]
      refine ⟨h1, h2, fun x => ?_⟩
      rw [h3 x, List.find?_cons]
      constructor
      · rintro ⟨a, b⟩
        have : decide (key y = key x) = false := decide_eq_false (fun e => by rw [← e, h] at a; exact kl_irr _ a)
        rw [this]; exact ⟨a, b⟩
      · rintro ⟨a, b⟩
        have : decide (key y = key x) = false := decide_eq_false (fun e => by rw [← e, h] at a; exact kl_irr _ a)
        rw [this] at b; exact ⟨a, b⟩
    · have hky : k < key y := by
        rcases kl_tri k (key y) with h1 | h1 | h1
        · exact h1
        · exact absurd h1.symm h
        · exact absurd h1 (hk y (List.mem_cons_self ..))
      obtain ⟨h1, h2, h3⟩ := dedA_rise l (key y) hs' (fun x hx => hy x hx)
      rw [dedA_other h]
      refine ⟨List.pairwise_cons.2 ⟨h2, h1⟩, fun x hx => ?_, fun x => ?_⟩
      · rcases List.mem_cons.1 hx with rfl | hx
        · exact hky
        · exact kl_tr hky (h2 x hx)
      · rw [List.mem_cons, h3 x, List.find?_cons]
        constructor
        · rintro (rfl | ⟨a, b⟩)
          · simp [hky]
          · have : decide (key y = key x) = false := decide_eq_false (fun e => by rw [← e] at a; exact kl_irr _ a)
            rw [this]; exact ⟨kl_tr hky a, b⟩
        · rintro ⟨a, b⟩
          by_cases e : key y = key x
          · rw [decide_eq_true e] at b
            left; injection b with b; exact b.symm
          · rw [decide_eq_false e] at b
            right
            refine ⟨?_, b⟩
            have hm := List.mem_of_find?_eq_some b
            rcases kl_tri (key y) (key x) with h1 | h1 | h1
            · exact h1
            · exact absurd h1 e
            · exact absurd h1 (hy x hm)
theorem dedup_rise {l : List α} (hs : Srt key l) : (dedup key l).Pairwise (fun a b => key a < key b) ∧ ∀ x, x ∈ dedup key l ↔ l.find? (fun e => decide (key e = key x)) = some x := by
  cases l with
  | nil => simp [dedup]
  | cons y l =>
    have hs' : Srt key l := (List.pairwise_cons.1 hs).2
    have hy := (List.pairwise_cons.1 hs).1
    obtain ⟨h1, h2, h3⟩ := dedA_rise l (key y) hs' (fun x hx => hy x hx)
    refine ⟨List.pairwise_cons.2 ⟨h2, h1⟩, fun x => ?_⟩
    show x ∈ y :: dedA key (key y) l ↔ _
    rw [List.mem_cons, h3 x, List.find?_cons]
    constructor
    · rintro (rfl | ⟨a, b⟩)
      · simp
      · have : decide (key y = key x) = false := decide_eq_false (fun e => by rw [← e] at a; exact kl_irr _ a)
        rw [this]; exact b
    · intro b
      by_cases e : key y = key x
      · rw [decide_eq_true e] at b
        left; injection b with b; exact b.symm
      · rw [decide_eq_false e] at b
        right
        refine ⟨?_, b⟩
        have hm := List.mem_of_find?_eq_some b
        rcases kl_tri (key y) (key x) with h1 | h1 | h1
        · exact h1
        · exact absurd h1 e
        · exact absurd h1 (hy x hm)
/-- Two lists that rise and have the same are the same. -/
theorem rise_ext : ∀ {a b : List α}, a.Pairwise (fun x y => key x < key y) → b.Pairwise (fun x y => key x < key y) → (∀ x, x ∈ a ↔ x ∈ b) → a = b
  | [], [], _, _, _ => rfl
  | [], y :: b, _, _, h => by have := (h y).2 (List.mem_cons_self ..); cases this
  | x :: a, [], _, _, h => by have := (h x).1 (List.mem_cons_self ..); cases this
  | x :: a, y :: b, ha, hb, h => by
    obtain ⟨ha1, ha2⟩ := List.pairwise_cons.1 ha
    obtain ⟨hb1, hb2⟩ := List.pairwise_cons.1 hb
    have hxy : x = y := by
      rcases List.mem_cons.1 ((h x).1 (List.mem_cons_self ..)) with e | e
      · exact e
      · rcases List.mem_cons.1 ((h y).2 (List.mem_cons_self ..)) with e' | e'
        · exact e'.symm
        · exact absurd (ha1 y e') (kl_asym (hb1 x e))
    subst hxy
    rw [rise_ext ha2 hb2 fun z => ?_]
    have hz := h z
    constructor
    · intro hm
      rcases List.mem_cons.1 (hz.1 (List.mem_cons_of_mem _ hm)) with e | e
      · subst e; exact absurd (ha1 z hm) (kl_irr _)
      · exact e
    · intro hm
      rcases List.mem_cons.1 (hz.2 (List.mem_cons_of_mem _ hm)) with e | e
      · subst e; exact absurd (hb1 z hm) (kl_irr _)
      · exact e
end

section
variable {G : Nat} {P : Program} (hm : P.follows .mixedOrders = true) {sz a0 : Nat} {A : AH} {v fv : Value} {Q : Value → AH → Prop} {dom : List Value → Prop} {key : List Value → List UInt8}
include hm
end
end Go.AS


namespace Go.AS
open Go
set_option linter.unusedVariables false
set_option linter.unusedSimpArgs false

/-! One by one into a list that rises; what has the key of one that is there goes. -/
section
variable {α β : Type} {key : α → List UInt8}
def ltW (key : α → List UInt8) (k : List UInt8) (e : α) : Bool := decide (key e < k)
def insT (key : α → List UInt8) (l : List α) (t : α) : List α :=
  match l.dropWhile (ltW key (key t)) with
  | r :: R => if key r = key t then l else l.takeWhile (ltW key (key t)) ++ t :: r :: R
  | [] => l ++ [t]
def srtT (key : α → List UInt8) (l : List α) : List α := l.foldl (insT key) []
theorem srtT_nil : srtT key ([] : List α) = [] := rfl
theorem srtT_push (l : List α) (t : α) : srtT key (l ++ [t]) = insT key (srtT key l) t := by simp [srtT]
theorem insT_spec {l : List α} (h : l.Pairwise (fun a b => key a < key b)) (t : α) : (insT key l t).Pairwise (fun a b => key a < key b) ∧ ∀ x, x ∈ insT key l t ↔ x ∈ l ∨ (x = t ∧ ∀ y ∈ l, key y ≠ key t) := by
  have hsplit := List.takeWhile_append_dropWhile (p := ltW key (key t)) (l := l)
  have hL : ∀ x ∈ l.takeWhile (ltW key (key t)), key x < key t := fun x hx => by
    have := List.all_takeWhile (p := ltW key (key t)) (l := l)
    rw [List.all_eq_true] at this
    have := this x hx
    simpa [ltW] using this
  cases hR : l.dropWhile (ltW key (key t)) with
  | nil =>
    have he : insT key l t = l ++ [t] := by unfold insT; rw [hR]
    rw [hR, List.append_nil] at hsplit
    rw [he]
    rw [hsplit] at hL
    refine ⟨List.pairwise_append.2 ⟨h, by simp, fun a ha b hb => by rw [List.mem_singleton.1 hb]; exact hL a ha⟩, fun x => ?_⟩
    rw [List.mem_append, List.mem_singleton]
    constructor
    · rintro (h1 | h1)
      · exact .inl h1
      · exact .inr ⟨h1, fun y hy e => by have := hL y hy; rw [e] at this; exact kl_irr _ this⟩
    · rintro (h1 | ⟨h1, _⟩)
      · exact .inl h1
      · exact .inr h1
  | cons r R =>
    have hr : ¬ key r < key t := by
      have := List.head?_dropWhile_not (ltW key (key t)) l
      rw [hR] at this
      simpa [ltW] using this
    rw [hR] at hsplit
    by_cases he : key r = key t
    · have hi : insT key l t = l := by unfold insT; rw [hR]; simp [he]
      rw [hi]
      refine ⟨h, fun x => ⟨fun hx => .inl hx, ?_⟩⟩
      rintro (h1 | ⟨_, h1⟩)
      · exact h1
      · exact absurd he (h1 r (by rw [← hsplit]; simp))
    · have hi : insT key l t = l.takeWhile (ltW key (key t)) ++ t :: r :: R := by unfold insT; rw [hR]; simp [he]
      have htr : key t < key r := by
        rcases kl_tri (key t) (key r) with h1 | h1 | h1
        · exact h1
        · exact absurd h1.symm he
        · exact absurd h1 hr
      have hpw := h
      rw [← hsplit] at hpw
      obtain ⟨p1, p2, p3⟩ := List.pairwise_append.1 hpw
      obtain ⟨p4, p5⟩ := List.pairwise_cons.1 p2
      have htR : ∀ b ∈ r :: R, key t < key b := fun b hb => by
        rcases List.mem_cons.1 hb with rfl | hb
        · exact htr
        · exact kl_tr htr (p4 b hb)
      rw [hi]
      refine ⟨List.pairwise_append.2 ⟨p1, List.pairwise_cons.2 ⟨htR, p2⟩, fun a ha b hb => ?_⟩, fun x => ?_⟩
      · rcases List.mem_cons.1 hb with rfl | hb
        · exact hL a ha
        · exact p3 a ha b hb
      · have hmem : x ∈ l ↔ x ∈ l.takeWhile (ltW key (key t)) ∨ x ∈ r :: R := by rw [← List.mem_append, hsplit]
        rw [hmem, List.mem_append, List.mem_cons]
        constructor
        · rintro (h1 | h1 | h1)
          · exact .inl (.inl h1)
          · refine .inr ⟨h1, fun y hy e => ?_⟩
            rw [← hsplit] at hy
            rcases List.mem_append.1 hy with hy | hy
            · have := hL y hy; rw [e] at this; exact kl_irr _ this
            · have := htR y hy; rw [e] at this; exact kl_irr _ this
          · exact .inl (.inr h1)
        · rintro ((h1 | h1) | ⟨h1, _⟩)
          · exact .inl h1
          · exact .inr (.inr h1)
          · exact .inr (.inl h1)
theorem rec_snoc {motive : List α → Prop} (nil : motive []) (snoc : ∀ l t, motive l → motive (l ++ [t])) (l : List α) : motive l := by
  have : ∀ n (l : List α), l.length = n → motive l := by
    intro n
    induction n with
    | zero => intro l hl; rw [List.length_eq_zero_iff.1 hl]; exact nil
    | succ n ih =>
      intro l hl
      obtain ⟨X, x, rfl⟩ := last_of (L := l) (by rintro rfl; simp at hl)
      exact snoc X x (ih X (by simpa using hl))
  exact this _ l rfl
theorem srtT_spec : ∀ (l : List α), (srtT key l).Pairwise (fun a b => key a < key b) ∧ ∀ x, x ∈ srtT key l ↔ l.find? (fun e => decide (key e = key x)) = some x := by
  intro l
  induction l using rec_snoc with
  | nil => simp [srtT_nil]
  | snoc l t ih =>
    obtain ⟨h1, h2⟩ := ih
    obtain ⟨g1, g2⟩ := insT_spec h1 t
    rw [srtT_push]
    refine ⟨g1, fun x => ?_⟩
    rw [g2 x, h2 x, List.find?_append]
    constructor
    · rintro (h | ⟨rfl, h⟩)
      · rw [h]; rfl
      · have hn : l.find? (fun e => decide (key e = key x)) = none := by
          rw [List.find?_eq_none]
          intro y hy hk
          simp only [decide_eq_true_eq] at hk
          have hsome : (l.find? (fun e => decide (key e = key x))).isSome := by rw [List.find?_isSome]; exact ⟨y, hy, by simpa using hk⟩
          obtain ⟨z, hz⟩ := Option.isSome_iff_exists.1 hsome
          have hkz : key z = key x := by have := List.find?_some hz; simpa using this
          refine h z ((h2 z).2 ?_) hkz
          rw [hkz]; exact hz
        rw [hn]; simp
    · intro h
      cases hf : l.find? (fun e => decide (key e = key x)) with
      | some z => rw [hf] at h; simp at h; subst h; exact .inl rfl
      | none =>
        rw [hf] at h
        simp only [Option.none_or, List.find?_cons] at h
        split at h
        · injection h with h
          subst h
          refine .inr ⟨rfl, fun y hy e => ?_⟩
          have := (h2 y).1 hy
          rw [e] at this; rw [this] at hf; cases hf
        · cases h
theorem Rk.map {f : β → α} {kb : β → List UInt8} {a b : List β} (h : Rk kb a b) (hk : ∀ x ∈ a, kb x = key (f x)) : Rk key (a.map f) (b.map f) := by
  refine ⟨by simp [h.1], fun k => ?_⟩
  have aux : ∀ l : List β, (∀ x ∈ l, kb x = key (f x)) → (l.map f).filter (fun e => decide (key e = k)) = (l.filter (fun e => decide (kb e = k))).map f := by
    intro l hl
    rw [List.filter_map]
    congr 1
    apply List.filter_congr
    intro x hx
    simp [hl x hx]
  rw [aux b (fun x hx => hk x (h.mem.1 hx)), aux a hk, h.2 k]
theorem Srt.map {f : β → α} {kb : β → List UInt8} {a : List β} (h : Srt kb a) (hk : ∀ x ∈ a, kb x = key (f x)) : Srt key (a.map f) := by
  unfold Srt at *
  rw [List.pairwise_map]
  exact h.imp_of_mem (fun {x y} hx hy hxy => by rw [← hk x hx, ← hk y hy]; exact hxy)
end
end Go.AS


namespace Go.AS
open Go
set_option linter.unusedVariables false
set_option linter.unusedSimpArgs false

/-! Texts: their order. -/
abbrev bl (s : ByteArray) : List UInt8 := s.data.toList
theorem bl_inj {a b : ByteArray} : bl a = bl b ↔ a = b := by
  constructor
  · intro h; cases a; cases b; congr; exact Array.toList_inj.1 h
  · rintro rfl; rfl
theorem leS (a b : ByteArray) : binA .leq (.string a) (.string b) = some (.bool (decide (¬ bl b < bl a))) := by
  simp only [binA, toList_data, bytesLess_lt]
  congr 2
  rw [Bool.eq_iff_iff]
  simp only [Bool.or_eq_true, decide_eq_true_eq, beq_iff_eq]
  constructor
  · rintro (h | h)
    · exact kl_asym h
    · rw [show bl a = bl b from h]; exact kl_irr _
  · intro h
    rcases kl_tri (bl a) (bl b) with h1 | h1 | h1
    · exact .inl h1
    · exact .inr h1
    · exact absurd h1 h
theorem geS (a b : ByteArray) : binA .geq (.string a) (.string b) = some (.bool (decide (¬ bl a < bl b))) := by
  simp only [binA, toList_data, bytesLess_lt]
  congr 2
  by_cases h : bl a < bl b <;> simp [h]
theorem decS {a b : ByteArray} : decide (a = b) = decide (bl a = bl b) := by
  rw [Bool.eq_iff_iff]; simp only [decide_eq_true_eq]; exact bl_inj.symm

section
variable {A B : AH} {sz n : Nat} {v x : Value} {cs : List Value}
end
end Go.AS


namespace Go.AS
open Go
set_option linter.unusedVariables false
set_option linter.unusedSimpArgs false

/-! Slices of one's own that stand apart; structs that are copied. -/
section
variable {A B C A0 : AH} {v w u x : Value} {sz s2 n m a0 b0 i : Nat} {cs ds e z : List Value} {es fs : List (List Value)}
theorem OwnS.apart (h : OwnS a0 A sz v n cs) (k : OwnS b0 A s2 w m ds) (hs : sz ≠ s2) : ∀ j ∈ blkOf w, j ∉ blkOf v := by
  obtain ⟨_, h⟩ := h
  obtain ⟨_, k⟩ := k
  intro j hj hv
  rcases k with ⟨rfl, _⟩ | ⟨rfl, _⟩ | ⟨i, o, c, rc, ex, rfl, k2, k3, k4, _⟩
  · cases hj
  · cases hj
  · simp only [blkOf, List.mem_singleton] at hj
    subst hj
    rcases h with ⟨rfl, _⟩ | ⟨rfl, _⟩ | ⟨i', o', c', rc', ex', rfl, h2, h3, h4, _⟩
    · cases hv
    · cases hv
    · simp only [blkOf, List.mem_singleton] at hv
      subst hv
      rw [h4] at k4
      injection k4 with k4
      injection k4 with _ _ k4 _
      exact hs k4
theorem OwnE.mono (h : OwnE a0 A sz v es) (hb : b0 ≤ a0) : OwnE b0 A sz v es := ⟨h.1, h.2.mono hb⟩
theorem OwnB.le {bs : List UInt8} (h : OwnB a0 A v bs) (hl : Le A B) : OwnB a0 B v bs := OwnS.le h hl
theorem OwnB.mono {bs : List UInt8} (h : OwnB a0 A v bs) (hb : b0 ≤ a0) : OwnB b0 A v bs := OwnS.mono h hb
theorem Sl.lenB (h : Sl A sz v n cs) (B : AH) : sLens B false v = some (.int .i64 n, B) := by
  obtain ⟨_, h⟩ := h
  rcases h with ⟨rfl, rfl⟩ | ⟨rfl, rfl⟩ | ⟨_, _, _, _, _, _, rfl, _⟩ <;> rfl
theorem KeepV.of_own (h : OwnS a0 A sz v n cs) (hl : A.length ≤ B.length) (hk : ∀ i b, A[i]? = some b → (∀ o c, v ≠ .slice (some ⟨i, o, none⟩) n c) → B[i]? = some b) : KeepV A v B :=
  ⟨hl, fun i b hb hi => hk i b hb (fun o c q => hi (by rw [q]; simp [blkOf]))⟩
theorem appI_len {s : Value} {new : List Value} {k bytes : Nat} {r : Value × AH} (h : appA A s new k sz bytes = some r) : A.length ≤ r.2.length := by
  unfold appA at h
  cases hi : appI A s new k sz bytes with
  | some q =>
    rw [hi] at h
    obtain rfl := Option.some.inj h
    unfold appI at hi
    split at hi
    · split at hi
      · split at hi
        · injection hi with hi; subst hi; simp
        · cases hi
      · cases hi
    · cases hi
  | none =>
  rw [hi, Option.none_or] at h
  unfold appA1 at h
  cases hf : appF A s new k sz bytes with
  | some q =>
    rw [hf] at h
    obtain rfl := Option.some.inj h
    unfold appF at hf
    split at hf
    · split at hf
      · split at hf
        · injection hf with hf; subst hf; simp
        · cases hf
      · cases hf
    · cases hf
  | none =>
  rw [hf, Option.none_or] at h
  unfold appA0 at h
  split at h
  · split at h
    · injection h with h; subst h; exact Nat.le_refl _
    · injection h with h; subst h; exact Nat.le_refl _
    · cases h
  · rw [Option.bind_eq_some_iff] at h
    obtain ⟨q, h1, h⟩ := h
    split at h
    · injection h with h; subst h
      simp only [List.length_append]
      rw [appBase_len h1]; omega
    · cases h
theorem sApp_len {s x : Value} {bytes : Nat} {v' : Value} {A' : AH} (h : sApp A s x sz bytes = some (v', A')) : A.length ≤ A'.length := by
  unfold sApp at h
  split at h
  · rw [Option.bind_eq_some_iff] at h
    obtain ⟨new, _, h⟩ := h
    exact appI_len h
  · cases h
/-- append(v, x...): bytes. -/
theorem OwnB.app {bs xs : List UInt8} (hl : Le A0 A) (h : OwnB A0.length A v bs) (hx : Byt A x xs) (hb : bs.length + xs.length ≤ 2 ^ 47) :
    ∃ v' A', sApp A v x 1 1 = some (v', A') ∧ Le A0 A' ∧ OwnB A0.length A' v' (bs ++ xs) ∧ KeepV A v A' := by
  obtain ⟨v', A', h1, h2, h3, h4⟩ := app_bytes hl h hx hb
  exact ⟨v', A', h1, h2, h3, KeepV.of_own h (sApp_len h1) h4⟩
/-- append(v, s...): a text's bytes. -/
theorem OwnB.apps {bs : List UInt8} {s : ByteArray} (hl : Le A0 A) (h : OwnB A0.length A v bs) (hb : bs.length + s.size ≤ 2 ^ 47) :
    ∃ v' A', sApps A v (.string s) 1 = some (v', A') ∧ Le A0 A' ∧ OwnB A0.length A' v' (bs ++ bl s) ∧ KeepV A v A' := by
  have he : u8s s = (bl s).map by8 := rfl
  have hls : (bl s).length = s.size := by simp
  obtain ⟨v', A', h1, h2, h3, h4⟩ := app_own (new := u8s s) (k := s.size) (bytes := 1) hl h (by omega) (by omega) (by omega) (by rw [he, List.length_map, hls, Nat.mul_one]) (by rw [he]; exact Byt.ones8 _)
  refine ⟨v', A', h1, h2, ?_, KeepV.of_own h (appI_len h1) h4⟩
  unfold OwnB
  rw [List.length_append, List.map_append, hls, ← he]
  exact h3
/-- One more text. -/
theorem app_str {l : List ByteArray} (s : ByteArray) (hl : Le A0 A) (h : OwnS A0.length A 1 w l.length (l.map .string)) (hb : l.length ≤ 2 ^ 40) :
    sLit A [.string ⟨#[]⟩] 1 1 [(0, 1, .string s)] = some (.slice (some ⟨A.length, 0, none⟩) 1 1, A ++ [.row [.string s] .own 1 true]) ∧
    ∃ w' A', sApp (A ++ [.row [.string s] .own 1 true]) w (.slice (some ⟨A.length, 0, none⟩) 1 1) 1 16 = some (w', A') ∧ Le A0 A' ∧ OwnS A0.length A' 1 w' (l ++ [s]).length ((l ++ [s]).map .string) ∧ KeepV A w A' := by
  have l1 := lit1 (A := A) (z := .string ⟨#[]⟩) (len := 1) (ps := [(0, 1, .string s)]) [.string s] rfl rfl (by
    intro y hy
    rw [List.mem_singleton] at hy
    subst hy; exact one1_str _)
  have k1 : Le A (A ++ [.row [.string s] .own 1 true]) := .push _ _
  obtain ⟨v2, A2, p1, p2, p3, p4⟩ := app_cells (bytes := 16) (hl.trans k1) (OwnS.le h k1) (sl_last A (cs := [.string s]) (st := .own) (ex := true) (c := 1) (by simp) (by simp)) rfl (by omega) (by simp; omega) (by omega)
  rw [List.length_singleton] at l1 p1
  refine ⟨l1, v2, A2, p1, p2, by simpa using p3, ⟨Nat.le_trans k1.len (sApp_len p1), fun i b hb hi => p4 i b (k1.get hb) (fun o c q => hi (by rw [q]; simp [blkOf]))⟩⟩
theorem KeepV.get (h : KeepV A v B) {j : Nat} {b : Blk} (hb : A[j]? = some b) (hj : j ∉ blkOf v) : B[j]? = some b := h.2 j b hb hj
theorem KeepV.rd (h : KeepV A v B) {R : List Nat} (hR : ∀ k ∈ R, k ∉ blkOf v) : RdOk R A B := fun k hk b hb => h.2 k b hb (hR k hk)
theorem Byt.one1 {bs : List UInt8} (h : Byt A v bs) : AS.one1 v := by
  obtain ⟨p, c, hs, _⟩ := h.shape
  rw [hs]; exact one1_sl _ _ _
theorem Sl.one1 (h : Sl A sz v n cs) : AS.one1 v := by
  obtain ⟨_, h⟩ := h
  rcases h with ⟨rfl, _⟩ | ⟨rfl, _⟩ | ⟨_, _, _, _, _, _, rfl, _⟩ <;> exact one1_sl _ _ _
end
end Go.AS


namespace Go.AS
open Go
set_option linter.unusedVariables false
set_option linter.unusedSimpArgs false

section
variable {A B C A0 : AH} {v w u x : Value} {sz s2 n m a0 b0 i k : Nat} {cs ds e z : List Value} {es fs : List (List Value)}
theorem load1_keep {p x : Value} (h : sLoad1 A p = some (x, A)) (hB : ∀ k b, A[k]? = some b → k ∈ blkOf p → B[k]? = some b) : sLoad1 B p = some (x, B) := by
  unfold sLoad1 at h ⊢
  split at h
  · rename_i i o
    rw [Option.bind_eq_some_iff] at h
    obtain ⟨r, q1, q2⟩ := h
    rw [Option.map_eq_some_iff] at q2
    obtain ⟨l, q2, q3⟩ := q2
    injection q3 with q3 q4
    obtain ⟨r1, r2, r3, r4⟩ := r
    obtain ⟨g1, g2⟩ := getRow_some q1
    have g3 := hB i _ g1 (by simp [blkOf])
    have : getRow B i = some (r1, r2, r3, r4) := by unfold getRow; simp only [g3, if_neg g2]
    simp only [this, Option.bind_some, q2, Option.map_some, q3]
  · cases h
/-- An element of one cell is read. -/
theorem Sl.at1L (h : Sl A 1 v n cs) {j : Nat} {x : Value} (hj : cs[j]? = some x) : ∃ p, (∀ (B : AH) (n : Int), n = (j : Int) → sIaddr B v (.int .i64 n) 1 = some (p, B)) ∧ ∀ B, Le A B → sLoad1 B p = some (x, B) := by
  obtain ⟨p, p1, p2⟩ := h.at1 hj
  exact ⟨p, by rintro B n rfl; exact iaddr_any p1 B, fun B hB => load1_keep p2 (fun k b hb _ => hB.get hb)⟩
/-- Two values lead to blocks apart. -/
def Ap (v w : Value) : Prop := ∀ j ∈ blkOf v, j ∉ blkOf w
theorem Ap.symm (h : Ap v w) : Ap w v := fun j hj hk => h j hk hj
theorem Ap.grow {v' : Value} {n : Nat} (h : Ap v w) (hb : ∀ j ∈ blkOf v', j ∈ blkOf v ∨ n ≤ j) (hw : ∀ j ∈ blkOf w, j < n) : Ap v' w := fun j hj hk => by
  rcases hb j hj with h1 | h1
  · exact h j h1 hk
  · have := hw j hk; omega
theorem Ap.nil {n c : Nat} : Ap (.slice none n c) w := fun j hj => by cases hj
theorem OwnS.lt {sz n : Nat} {cs : List Value} (h : OwnS a0 A sz v n cs) : ∀ j ∈ blkOf v, j < A.length := fun j hj => (h.ge j hj).2
theorem sApp_blk {s x : Value} {bytes : Nat} {v' : Value} {A' : AH} (h : sApp A s x sz bytes = some (v', A')) : ∀ j ∈ blkOf v', j ∈ blkOf s ∨ A.length ≤ j := by
  intro j hj
  have hx : ∃ p k c, x = .slice p k c := by
    unfold sApp at h
    split at h
    · exact ⟨_, _, _, rfl⟩
    · cases h
  obtain ⟨p, k, c, rfl⟩ := hx
  by_cases hk : k = 0
  · subst hk
    unfold sApp at h
    simp only [Option.bind_eq_some_iff] at h
    obtain ⟨new, _, h⟩ := h
    unfold appA at h
    rw [appI_zero, Option.none_or] at h
    unfold appA1 at h
    rw [appF_zero, Option.none_or] at h
    unfold appA0 at h
    rw [if_pos rfl] at h
    split at h
    · injection h with h; injection h with h _; subst h; exact .inl hj
    · injection h with h; injection h with h _; subst h; exact .inl hj
    · cases h
  · rcases app_fresh rfl hk h with e | e
    · rw [e, List.mem_singleton] at hj; exact .inr (by omega)
    · rw [e] at hj; exact .inl hj
/-- Elements of another slice are appended. -/
theorem OwnE.app {bytes : Nat} (hl : Le A0 A) (h : OwnE A0.length A sz v es) (hx : Sl A sz x fs.length fs.flatten) (hf : ∀ e ∈ fs, e.length = sz ∧ ones e = true) (hsz : 0 < sz) (hb : 2 * ((es.length + fs.length) * bytes) ≤ 2 ^ 48) (hb0 : 0 < bytes) :
    ∃ v' A', sApp A v x sz bytes = some (v', A') ∧ Le A0 A' ∧ OwnE A0.length A' sz v' (es ++ fs) ∧ KeepV A v A' := by
  obtain ⟨v', A', e1, e2, e3, e4⟩ := app_cells (bytes := bytes) hl h.2 hx (ones_flatten hf) hsz hb hb0
  refine ⟨v', A', e1, e2, ⟨?_, by simpa using e3⟩, KeepV.of_own h.2 (sApp_len e1) e4⟩
  intro y hy
  rcases List.mem_append.1 hy with hy | hy
  · exact h.1 y hy
  · exact hf y hy
end
section
variable {α : Type} {key : α → List UInt8}
end
end Go.AS


namespace Go.AS
open Go
set_option maxRecDepth 100000
/-! Codes of library functions that are alike in many chapters (printed by geni.py). -/
noncomputable def icG_compactS (z : List Value) : IC :=
  (.seq (.ops [
    ⟨(some 2), none, false, .mov (.const (.slice none 0 0))⟩]) (.seq (.seq (.ops [
    ⟨(some 6), none, false, .mov (.tmp 0)⟩,
    ⟨(some 7), none, false, .lens false (.tmp 6)⟩,
    ⟨(some 8), none, false, .bin .lss (.tmp 7) (.const (.int .i64 2))⟩]) (.cond (.tmp 8) (.seq (.ops [
    ⟨(some 9), none, false, .mov (.tmp 0)⟩,
    ⟨(some 2), none, false, .mov (.tmp 9)⟩]) .ret) .skip)) (.seq (.seq (.ops [
    ⟨(some 3), none, false, .mov (.const (.int .i64 1))⟩]) (.block 0 (.loop (.seq (.seq (.ops [
    ⟨(some 10), none, false, .mov (.tmp 3)⟩,
    ⟨(some 11), none, false, .mov (.tmp 0)⟩,
    ⟨(some 12), none, false, .lens false (.tmp 11)⟩,
    ⟨(some 13), none, false, .bin .lss (.tmp 10) (.tmp 12)⟩]) (.cond (.tmp 13) .skip (.exit 0))) (.seq (.block 1 (.seq (.draw [
    ⟨(some 16), none, false, .mov (.tmp 0)⟩,
    ⟨(some 17), none, false, .mov (.tmp 3)⟩,
    ⟨(some 18), none, false, .iaddr (.tmp 16) (.tmp 17) 1⟩,
    ⟨(some 19), none, false, .load1 (.tmp 18)⟩,
    ⟨(some 20), none, false, .mov (.tmp 0)⟩,
    ⟨(some 21), none, false, .mov (.tmp 3)⟩,
    ⟨(some 22), none, false, .bin .sub (.tmp 21) (.const (.int .i64 1))⟩,
    ⟨(some 23), none, false, .iaddr (.tmp 20) (.tmp 22) 1⟩,
    ⟨(some 24), none, false, .load1 (.tmp 23)⟩,
    ⟨(some 25), none, false, .bin .eql (.tmp 19) (.tmp 24)⟩]) (.cond (.tmp 25) (.seq (.ops [
    ⟨(some 26), none, false, .mov (.tmp 0)⟩,
    ⟨(some 27), none, false, .mov (.tmp 3)⟩,
    ⟨(some 28), none, false, .sll (.tmp 26) (some (.tmp 27)) none none 1⟩,
    ⟨(some 4), none, false, .mov (.tmp 28)⟩]) (.seq (.seq (.ops [
    ⟨(some 5), none, false, .mov (.const (.int .i64 1))⟩]) (.block 2 (.loop (.seq (.seq (.ops [
    ⟨(some 29), none, false, .mov (.tmp 5)⟩,
    ⟨(some 30), none, false, .mov (.tmp 4)⟩,
    ⟨(some 31), none, false, .lens false (.tmp 30)⟩,
    ⟨(some 32), none, false, .bin .lss (.tmp 29) (.tmp 31)⟩]) (.cond (.tmp 32) .skip (.exit 2))) (.seq (.block 3 (.seq (.draw [
    ⟨(some 35), none, false, .mov (.tmp 4)⟩,
    ⟨(some 36), none, false, .mov (.tmp 5)⟩,
    ⟨(some 37), none, false, .iaddr (.tmp 35) (.tmp 36) 1⟩,
    ⟨(some 38), none, false, .load1 (.tmp 37)⟩,
    ⟨(some 39), none, false, .mov (.tmp 4)⟩,
    ⟨(some 40), none, false, .mov (.tmp 5)⟩,
    ⟨(some 41), none, false, .bin .sub (.tmp 40) (.const (.int .i64 1))⟩,
    ⟨(some 42), none, false, .iaddr (.tmp 39) (.tmp 41) 1⟩,
    ⟨(some 43), none, false, .load1 (.tmp 42)⟩,
    ⟨(some 44), none, false, .bin .neq (.tmp 38) (.tmp 43)⟩]) (.cond (.tmp 44) (.seq (.ops [
    ⟨(some 45), none, false, .mov (.tmp 0)⟩,
    ⟨(some 46), none, false, .mov (.tmp 3)⟩,
    ⟨(some 47), none, false, .mov (.tmp 4)⟩,
    ⟨(some 48), none, false, .mov (.tmp 5)⟩,
    ⟨(some 49), none, false, .iaddr (.tmp 47) (.tmp 48) 1⟩,
    ⟨(some 50), none, false, .load1 (.tmp 49)⟩,
    ⟨(some 51), none, false, .iaddr (.tmp 45) (.tmp 46) 1⟩,
    ⟨none, none, false, .store (.tmp 51) (.tmp 50) 1⟩]) (.ops [
    ⟨(some 52), none, false, .mov (.tmp 3)⟩,
    ⟨(some 53), none, false, .bin .add (.tmp 52) (.const (.int .i64 1))⟩,
    ⟨(some 3), none, false, .mov (.tmp 53)⟩])) .skip))) (.ops [
    ⟨(some 33), none, false, .mov (.tmp 5)⟩,
    ⟨(some 34), none, false, .bin .add (.tmp 33) (.const (.int .i64 1))⟩,
    ⟨(some 5), none, false, .mov (.tmp 34)⟩])))))) (.seq (.ops [
    ⟨(some 54), none, false, .mov (.tmp 0)⟩,
    ⟨(some 55), none, false, .mov (.tmp 3)⟩,
    ⟨(some 56), none, false, .sll (.tmp 54) (some (.tmp 55)) none none 1⟩,
    ⟨none, none, false, .clr (.tmp 56) z⟩]) (.seq (.ops [
    ⟨(some 57), none, false, .mov (.tmp 0)⟩,
    ⟨(some 58), none, false, .mov (.tmp 3)⟩,
    ⟨(some 59), none, false, .sll (.tmp 57) none (some (.tmp 58)) none 1⟩,
    ⟨(some 2), none, false, .mov (.tmp 59)⟩]) .ret)))) .skip))) (.ops [
    ⟨(some 14), none, false, .mov (.tmp 3)⟩,
    ⟨(some 15), none, false, .bin .add (.tmp 14) (.const (.int .i64 1))⟩,
    ⟨(some 3), none, false, .mov (.tmp 15)⟩])))))) (.seq (.ops [
    ⟨(some 60), none, false, .mov (.tmp 0)⟩,
    ⟨(some 2), none, false, .mov (.tmp 60)⟩]) .ret))))
noncomputable def icG_indexS : IC :=
  (.seq (.ops [
    ⟨(some 4), none, false, .mov (.const (.int .i64 0))⟩]) (.seq (.seq (.ops [
    ⟨(some 6), none, false, .mov (.tmp 0)⟩,
    ⟨(some 7), none, false, .lens false (.tmp 6)⟩,
    ⟨(some 8), none, false, .mov (.const (.int .i64 0))⟩]) (.block 0 (.loop (.seq (.ops [
    ⟨(some 9), none, false, .bin .lss (.tmp 8) (.tmp 7)⟩]) (.seq (.cond (.tmp 9) .skip (.exit 0)) (.seq (.block 1 (.seq (.ops [
    ⟨(some 10), none, false, .mov (.tmp 8)⟩,
    ⟨(some 5), none, false, .mov (.tmp 10)⟩]) (.seq (.ops [
    ⟨(some 11), none, false, .mov (.tmp 1)⟩,
    ⟨(some 12), none, false, .mov (.tmp 0)⟩,
    ⟨(some 13), none, false, .mov (.tmp 5)⟩,
    ⟨(some 14), none, false, .iaddr (.tmp 12) (.tmp 13) 1⟩,
    ⟨(some 15), none, false, .load1 (.tmp 14)⟩,
    ⟨(some 16), none, false, .bin .eql (.tmp 11) (.tmp 15)⟩]) (.cond (.tmp 16) (.seq (.ops [
    ⟨(some 17), none, false, .mov (.tmp 5)⟩,
    ⟨(some 4), none, false, .mov (.tmp 17)⟩]) .ret) .skip)))) (.ops [
    ⟨(some 18), none, false, .bin .add (.tmp 8) (.const (.int .i64 1))⟩,
    ⟨(some 8), none, false, .mov (.tmp 18)⟩]))))))) (.seq (.ops [
    ⟨(some 4), none, false, .mov (.const (.int .i64 (-1)))⟩]) .ret)))
noncomputable def icG_containsS (indexf : FuncId) : IC :=
  (.seq (.ops [
    ⟨(some 4), none, false, .mov (.const (.bool false))⟩]) (.seq (.ops [
    ⟨(some 5), none, false, .mov (.tmp 0)⟩,
    ⟨(some 6), none, false, .mov (.tmp 1)⟩,
    ⟨(some 7), none, false, .call indexf [(.tmp 5), (.tmp 6)]⟩,
    ⟨(some 8), none, false, .bin .geq (.tmp 7) (.const (.int .i64 0))⟩,
    ⟨(some 4), none, false, .mov (.tmp 8)⟩]) .ret))
end Go.AS


namespace Go.AS
open Go
set_option linter.unusedVariables false
set_option linter.unusedSimpArgs false
set_option maxRecDepth 10000

/-! Slices of texts of the call's own. -/
def strE (l : List ByteArray) : List (List Value) := l.map fun s => [.string s]
theorem strE_flat (l : List ByteArray) : (strE l).flatten = l.map .string := by
  unfold strE
  induction l with
  | nil => rfl
  | cons s l ih => rw [List.map_cons, List.flatten_cons, ih]; rfl
theorem strE_len (l : List ByteArray) : (strE l).length = l.length := by simp [strE]
theorem strE_ok (l : List ByteArray) : ∀ e ∈ strE l, e.length = 1 ∧ ones e = true := by
  intro e he
  obtain ⟨s, _, rfl⟩ := List.mem_map.1 he
  exact ⟨rfl, rfl⟩
/-- A slice of texts, of the call's own. -/
def OwnT (a0 : Nat) (A : AH) (v : Value) (l : List ByteArray) : Prop := OwnS a0 A 1 v l.length (l.map .string)
def SlT (A : AH) (v : Value) (l : List ByteArray) : Prop := Sl A 1 v l.length (l.map .string)
section
variable {A B A0 : AH} {v : Value} {a0 b0 : Nat} {l m : List ByteArray} {lo hi : Option Value}
theorem OwnT.e (h : OwnT a0 A v l) : OwnE a0 A 1 v (strE l) := ⟨strE_ok l, by rw [strE_flat, strE_len]; exact h⟩
theorem OwnE.t (h : OwnE a0 A 1 v (strE l)) : OwnT a0 A v l := by
  have := h.2
  rw [strE_flat, strE_len] at this
  exact this
theorem OwnT.sl (h : OwnT a0 A v l) : SlT A v l := OwnS.sl h
theorem OwnT.le (h : OwnT a0 A v l) (hl : Le A B) : OwnT a0 B v l := OwnS.le h hl
theorem OwnT.mono (h : OwnT a0 A v l) (hb : b0 ≤ a0) : OwnT b0 A v l := OwnS.mono h hb
theorem OwnT.nil (a0 : Nat) (A : AH) : OwnT a0 A (.slice none 0 0) [] := OwnS.nil _ _ _
theorem SlT.le (h : SlT A v l) (hl : Le A B) : SlT B v l := Sl.le h hl
theorem SlT.len (h : SlT A v l) (B : AH) : sLens B false v = some (.int .i64 l.length, B) := Sl.lenB h B
theorem SlT.one (h : SlT A v l) : one1 v := Sl.one1 h
theorem SlT.at (h : SlT A v l) {j : Nat} {s : ByteArray} (hj : l[j]? = some s) : ∃ p, (∀ (B : AH) (n : Int), n = (j : Int) → sIaddr B v (.int .i64 n) 1 = some (p, B)) ∧ ∀ B, Le A B → sLoad1 B p = some (.string s, B) :=
  Sl.at1L h (j := j) (x := .string s) (by rw [List.getElem?_map, hj]; rfl)
theorem OwnT.at (h : OwnT a0 A v l) {j : Nat} {s : ByteArray} (hj : l[j]? = some s) : ∃ p, blkOf p = blkOf v ∧ (∀ (B : AH) (n : Int), n = (j : Int) → sIaddr B v (.int .i64 n) 1 = some (p, B)) ∧ sLoad1 A p = some (.string s, A) := by
  obtain ⟨p, p1, p2⟩ := Sl.at1 (OwnS.sl h) (j := j) (v0 := .string s) (by rw [List.getElem?_map, hj]; rfl)
  exact ⟨p, iaddr_blk p1, by rintro B n rfl; exact iaddr_any p1 B, p2⟩
theorem OwnT.put (h : OwnT a0 A v l) {j : Nat} (s : ByteArray) (hj : j < l.length) {p : Value} (hp : sIaddr A v (.int .i64 (j : Int)) 1 = some (p, A)) : ∃ A', sStore A p (.string s) 1 = some (undef, A') ∧ OwnT a0 A' v (l.set j s) ∧ KeepV A v A' := by
  obtain ⟨A', s1, s2, s3⟩ := h.e.put (e := [.string s]) (by rw [strE_len]; exact hj) rfl rfl hp
  refine ⟨A', s1, ?_, s3⟩
  have e : (strE l).set j [.string s] = strE (l.set j s) := by simp [strE, List.map_set]
  rw [e] at s2
  exact s2.t
theorem OwnT.cut (h : OwnT a0 A v l) {i k : Nat} (hlk : i ≤ k) (hk : k ≤ l.length) (hb : ∀ c, l.length ≤ c → boundsA l.length c lo hi none = some (i, k, c)) :
    ∃ u, (∀ j ∈ blkOf u, j ∈ blkOf v) ∧ (∃ p c, u = .slice p (k - i) c) ∧ ∀ B m, OwnT a0 B v m → m.length = l.length → sSll B v lo hi none 1 = some (u, B) ∧ OwnT a0 B u ((m.take k).drop i) := by
  obtain ⟨u, u1, u2, u3⟩ := h.e.cut (l := i) (k := k) (lo := lo) (hi := hi) hlk (by rw [strE_len]; exact hk) (by rw [strE_len]; exact hb)
  refine ⟨u, u1, u2, fun B m hm hl => ?_⟩
  obtain ⟨e1, e2⟩ := u3 B (strE m) hm.e (by rw [strE_len, strE_len]; exact hl)
  refine ⟨e1, ?_⟩
  have e : ((strE m).take k).drop i = strE ((m.take k).drop i) := by simp [strE, List.map_take, List.map_drop]
  rw [e] at e2
  exact e2.t
theorem OwnT.clr (h : OwnT a0 A v l) {i : Nat} {u : Value} (hl : i ≤ l.length) (hu : sSll A v (some (.int .i64 (i : Int))) none none 1 = some (u, A)) :
    ∃ A', sClr A u [.string ⟨#[]⟩] = some (undef, A') ∧ OwnT a0 A' v (l.take i ++ List.replicate (l.length - i) ⟨#[]⟩) ∧ KeepV A v A' := by
  obtain ⟨A', s1, s2, s3⟩ := h.e.clr (l := i) (z := [.string ⟨#[]⟩]) (by rw [strE_len]; exact hl) rfl rfl hu
  refine ⟨A', s1, ?_, s3⟩
  have e : (strE l).take i ++ List.replicate ((strE l).length - i) [.string ⟨#[]⟩] = strE (l.take i ++ List.replicate (l.length - i) ⟨#[]⟩) := by simp [strE, List.map_take]
  rw [e] at s2
  exact s2.t
theorem OwnT.push (s : ByteArray) (hl : Le A0 A) (h : OwnT A0.length A v l) (hb : l.length ≤ 2 ^ 40) :
    sLit A [.string ⟨#[]⟩] 1 1 [(0, 1, .string s)] = some (.slice (some ⟨A.length, 0, none⟩) 1 1, A ++ [.row [.string s] .own 1 true]) ∧
    ∃ w' A', sApp (A ++ [.row [.string s] .own 1 true]) v (.slice (some ⟨A.length, 0, none⟩) 1 1) 1 16 = some (w', A') ∧ Le A0 A' ∧ OwnT A0.length A' w' (l ++ [s]) ∧ KeepV A v A' ∧ ∀ j ∈ blkOf w', j ∈ blkOf v ∨ A.length ≤ j := by
  obtain ⟨l1, w', A', e1, e2, e3, e4⟩ := app_str s hl h hb
  refine ⟨l1, w', A', e1, e2, e3, e4, fun j hj => ?_⟩
  rcases sApp_blk e1 j hj with h | h
  · exact .inl h
  · simp at h; exact .inr (by omega)
theorem OwnT.app {x : Value} (hl : Le A0 A) (h : OwnT A0.length A v l) (hx : SlT A x m) (hb : l.length + m.length ≤ 2 ^ 40) :
    ∃ w' A', sApp A v x 1 16 = some (w', A') ∧ Le A0 A' ∧ OwnT A0.length A' w' (l ++ m) ∧ KeepV A v A' := by
  obtain ⟨w', A', e1, e2, e3, e4⟩ := h.e.app (x := x) (fs := strE m) (bytes := 16) hl (by rw [strE_flat, strE_len]; exact hx) (strE_ok m) (by omega) (by rw [strE_len, strE_len]; omega) (by omega)
  refine ⟨w', A', e1, e2, ?_, e4⟩
  have e : strE l ++ strE m = strE (l ++ m) := by simp [strE]
  rw [e] at e3
  exact e3.t
end

section
variable {G : Nat} {P : Program} (hm : P.follows .mixedOrders = true) {a0 : Nat} {A : AH} {v : Value} {Q : Value → AH → Prop}
include hm
/-- slices.Compact. -/
theorem compactS_spec {f : FuncId} (hf : Fits P G f (icG_compactS [.string ⟨#[]⟩]) [.tmp 2] 1) {l : List ByteArray} (h : OwnT a0 A v l) (hl : l.length < 1152921504606846976)
    (hq : ∀ A' u, KeepV A v A' → OwnT a0 A' u (dedup bl l) → (∀ j ∈ blkOf u, j ∈ blkOf v) → Q u A') : ACalls G P f [v] Q A := by
  refine ACalls.of_fits hm hf rfl ?_
  unfold icG_compactS
  have i0 : initA [v] 0 = v := rfl
  generalize initA [v] = r at i0
  have hvl := h.sl.len
  by_cases h2 : l.length < 2
  · simp (maxSteps := 1000000) (disch := omega) only [stepS, reduceIte, Nat.reduceBEq, Nat.reduceEqDiff, tupleOf, stepT, i0, hvl]
    refine hq _ _ (.refl _ _) ?_ (fun j hj => hj)
    rw [dedup_small h2]; exact h
  · simp (maxSteps := 1000000) (disch := omega) only [stepS, reduceIte, Nat.reduceBEq, Nat.reduceEqDiff, tupleOf, stepT, i0, hvl]
    refine W_loop (fun r' B => B = A ∧ ∃ (D R : List ByteArray) (p : ByteArray), l = D ++ p :: R ∧ dedup bl l = (D ++ [p]) ++ dedA bl (bl p) R ∧ r' 0 = v ∧ r' 3 = ii ((D.length + 1 : Nat) : Int)) (fun r' _ => l.length - (iv (r' 3)).toNat) ?_ ?_
    · cases l with
      | nil => simp at h2
      | cons p R =>
        refine ⟨rfl, [], R, p, rfl, rfl, ?_⟩
        simp (maxSteps := 1000000) (disch := omega) only [stepS, reduceIte, Nat.reduceBEq, Nat.reduceEqDiff, tupleOf, stepT, i0]
        (all_goals (and_intros <;> first | rfl | assumption | (push_cast; rfl) | (congr 1; omega) | omega | (simp; done)))
    · rintro r B ⟨rfl, D, R, p, hes, hde, g0, g3⟩
      have lD : l.length = D.length + 1 + R.length := by rw [hes]; simp; omega
      cases R with
      | nil =>
        simp only [List.length_nil] at lD
        simp (maxSteps := 1000000) (disch := omega) only [stepS, reduceIte, Nat.reduceBEq, Nat.reduceEqDiff, tupleOf, stepT, g0, g3, hvl]
        refine hq _ _ (.refl _ _) ?_ (fun j hj => hj)
        rw [hde]
        simp only [dedA, List.append_nil]
        rw [← hes]; exact h
      | cons y R =>
        simp only [List.length_cons] at lD
        obtain ⟨p1, _, a1, b1⟩ := h.at (j := D.length) (s := p) (by rw [hes]; exact get_lo _ _ _)
        obtain ⟨p2, _, a2, b2⟩ := h.at (j := D.length + 1) (s := y) (by rw [hes]; simp)
        by_cases hyp : bl y = bl p
        · have hdt : decide (y = p) = true := by rw [decS]; exact decide_eq_true hyp
          obtain ⟨u, ub, ⟨up, uc, us⟩, hu⟩ := h.cut (i := D.length + 1) (k := l.length) (lo := some (ii (D.length + 1 : Nat))) (hi := none) (by omega) (Nat.le_refl _) (fun c hc => bnd_lo (by omega) hc)
          have u1 := (hu B l h rfl).1
          simp (maxSteps := 1000000) (disch := omega) only [stepS, reduceIte, Nat.reduceBEq, Nat.reduceEqDiff, tupleOf, stepT, g0, g3, hvl, a1, b1, a2, b2, hdt, u1]
          refine W_loop (fun r' C => ∃ (K J : List ByteArray) (q : ByteArray) (rest : List ByteArray) (k2 : Nat), 1 ≤ k2 ∧ k2 + rest.length = R.length + 1 ∧ K.length + J.length = D.length + k2 ∧ dedup bl l = K ++ dedA bl (bl q) rest ∧
            KeepV B v C ∧ OwnT a0 C v (K ++ (J ++ (q :: rest))) ∧ r' 0 = v ∧ r' 3 = ii (K.length : Nat) ∧ r' 4 = u ∧ r' 5 = ii (k2 : Nat)) (fun r' _ => l.length + 1 - (iv (r' 5)).toNat) ?_ ?_
          · refine ⟨D ++ [p], [], y, R, 1, by omega, by omega, by simp, ?_, .refl _ _, ?_, ?_⟩
            · rw [hde, dedA_same hyp, hyp]
            · have h3 := h
              rw [hes] at h3; simpa using h3
            · simp (maxSteps := 1000000) (disch := omega) only [stepS, reduceIte, Nat.reduceBEq, Nat.reduceEqDiff, tupleOf, stepT, g0, g3]
              simp only [List.length_append, List.length_singleton]
              (all_goals (and_intros <;> first | rfl | assumption | (push_cast; rfl) | (congr 1; omega) | omega | (simp; done)))
          · rintro r C ⟨K, J, q, rest, k, hk1, hk2, hk3, hded, hkp, hC, g0, g3, g4, g5⟩
            have ln : (K ++ (J ++ (q :: rest))).length = l.length := by simp; omega
            have ul : ∀ H : AH, sLens H false u = some (.int .i64 ((l.length - (D.length + 1) : Nat) : Int), H) := fun H => by rw [us]; rfl
            cases rest with
            | nil =>
              simp only [List.length_nil] at hk2
              simp only [dedA, List.append_nil] at hded
              obtain ⟨u2, _, ⟨_, _, _⟩, hu2⟩ := hC.cut (i := K.length) (k := (K ++ (J ++ (q :: []))).length) (lo := some (ii (K.length : Nat))) (hi := none) (by simp) (Nat.le_refl _) (fun c hc => bnd_lo (by simp) hc)
              have u21 := (hu2 C _ hC rfl).1
              obtain ⟨C2, c1, c2, c3⟩ := hC.clr (i := K.length) (by simp) u21
              obtain ⟨u3, u3b, ⟨_, _, _⟩, hu3⟩ := c2.cut (i := 0) (k := K.length) (lo := none) (hi := some (ii (K.length : Nat))) (by omega) (by simp) (fun c hc => bnd_hi (by simp at hc; omega))
              obtain ⟨u31, u32⟩ := hu3 C2 _ c2 rfl
              simp (maxSteps := 1000000) (disch := omega) only [stepS, reduceIte, Nat.reduceBEq, Nat.reduceEqDiff, tupleOf, stepT, g0, g3, g4, g5, ul, u21, c1, u31]
              refine hq _ _ (hkp.trans c3) ?_ u3b
              rw [hded]
              simpa using u32
            | cons x rest =>
              simp only [List.length_cons] at hk2
              obtain ⟨_, hue⟩ := hu C _ hC ln
              obtain ⟨p1, _, a1, b1⟩ := hue.at (j := k - 1) (s := q) (by
                rw [List.getElem?_drop, List.getElem?_take_of_lt (by omega), List.getElem?_append_right (by omega), List.getElem?_append_right (by omega)]
                rw [show D.length + 1 + (k - 1) - K.length - J.length = 0 by omega]; rfl)
              obtain ⟨p2, _, a2, b2⟩ := hue.at (j := k) (s := x) (by
                rw [List.getElem?_drop, List.getElem?_take_of_lt (by omega), List.getElem?_append_right (by omega), List.getElem?_append_right (by omega)]
                rw [show D.length + 1 + k - K.length - J.length = 1 by omega]; rfl)
              by_cases hxq : bl x = bl q
              · have hdt : decide (x ≠ q) = false := by
                  rw [decide_eq_false_iff_not]; intro h; exact h (bl_inj.1 hxq)
                simp (maxSteps := 1000000) (disch := omega) only [stepS, reduceIte, Nat.reduceBEq, Nat.reduceEqDiff, tupleOf, stepT, g0, g3, g4, g5, ul, a1, b1, a2, b2, hdt]
                refine ⟨⟨K, J ++ [q], x, rest, k + 1, by omega, by omega, by simp; omega, by rw [hded, dedA_same hxq, hxq], hkp, by simpa using hC, ?_⟩, by omega⟩
                (all_goals (and_intros <;> first | rfl | assumption | (push_cast; rfl) | (congr 1; omega) | omega | (simp; done)))
              · have hdt : decide (x ≠ q) = true := decide_eq_true (fun h => hxq (by rw [h]))
                obtain ⟨j, J2, hJ⟩ : ∃ j J2, J ++ [q] = j :: J2 := by
                  cases J with
                  | nil => exact ⟨q, [], rfl⟩
                  | cons j J => exact ⟨j, J ++ [q], rfl⟩
                have lJ := congrArg List.length hJ
                simp at lJ
                have hpl : K.length < (K ++ (J ++ (q :: x :: rest))).length := by simp; omega
                obtain ⟨p3, _, a3, _⟩ := hC.at (j := K.length) (s := j) (by
                  rw [List.getElem?_append_right (Nat.le_refl _), Nat.sub_self]
                  have : J ++ q :: x :: rest = (J ++ [q]) ++ x :: rest := by simp
                  rw [this, hJ]; rfl)
                obtain ⟨C3, s1, s2, s3⟩ := hC.put x hpl (a3 C _ rfl)
                have e3 : (K ++ (J ++ (q :: x :: rest))).set K.length x = (K ++ [x]) ++ (J2 ++ (x :: rest)) := by
                  have : J ++ q :: x :: rest = (J ++ [q]) ++ x :: rest := by simp
                  rw [this, hJ, List.set_append_right _ _ (Nat.le_refl _), Nat.sub_self]
                  simp
                rw [e3] at s2
                simp (maxSteps := 1000000) (disch := omega) only [stepS, reduceIte, Nat.reduceBEq, Nat.reduceEqDiff, tupleOf, stepT, g0, g3, g4, g5, ul, a1, b1, a2, b2, hdt, a3, s1]
                refine ⟨⟨K ++ [x], J2, x, rest, k + 1, by omega, by omega, by simp; omega, by rw [hded, dedA_other hxq]; simp, hkp.trans s3, s2, ?_⟩, by omega⟩
                simp only [List.length_append, List.length_singleton]
                (all_goals (and_intros <;> first | rfl | assumption | (push_cast; rfl) | (congr 1; omega) | omega | (simp; done)))
        · have hdt : decide (y = p) = false := by rw [decS]; exact decide_eq_false hyp
          simp (maxSteps := 1000000) (disch := omega) only [stepS, reduceIte, Nat.reduceBEq, Nat.reduceEqDiff, tupleOf, stepT, g0, g3, hvl, a1, b1, a2, b2, hdt]
          refine ⟨⟨D ++ [p], R, y, by rw [hes]; simp, by rw [hde, dedA_other hyp]; simp, ?_⟩, by omega⟩
          simp only [List.length_append, List.length_singleton]
          (all_goals (and_intros <;> first | rfl | assumption | (push_cast; rfl) | (congr 1; omega) | omega | (simp; done)))
/-- slices.Index, slices.Contains. -/
theorem indexS_spec {f : FuncId} (hf : Fits P G f icG_indexS [.tmp 4] 2) {l : List ByteArray} {s : ByteArray} (h : SlT A v l) (hl : l.length < 1152921504606846976)
    (hq : ∀ n : Int, (0 ≤ n ↔ s ∈ l) → Q (ii n) A) : ACalls G P f [v, .string s] Q A := by
  refine ACalls.of_fits hm hf rfl ?_
  unfold icG_indexS
  have i0 : initA [v, .string s] 0 = v := rfl
  have i1 : initA [v, .string s] 1 = .string s := rfl
  generalize initA [v, .string s] = r at i0 i1
  have hvl := h.len
  simp (maxSteps := 1000000) (disch := omega) only [stepS, reduceIte, Nat.reduceBEq, Nat.reduceEqDiff, tupleOf, stepT, i0, i1, hvl]
  refine W_loop (fun r' B => B = A ∧ ∃ k : Nat, k ≤ l.length ∧ s ∉ l.take k ∧ r' 0 = v ∧ r' 1 = .string s ∧ r' 7 = ii l.length ∧ r' 8 = ii k) (fun r' _ => l.length - (iv (r' 8)).toNat) ?_ ?_
  · refine ⟨rfl, 0, by omega, by simp, ?_⟩
    simp (maxSteps := 1000000) (disch := omega) only [stepS, reduceIte, Nat.reduceBEq, Nat.reduceEqDiff, tupleOf, stepT, i0, i1]
    (all_goals (and_intros <;> first | rfl | assumption | (push_cast; rfl) | (congr 1; omega) | omega | (simp; done)))
  · rintro r B ⟨rfl, k, hk, hn, g0, g1, g7, g8⟩
    rcases Nat.lt_or_ge k l.length with hlt | hge
    · obtain ⟨t, ht⟩ := get_some hlt
      obtain ⟨p, p1, p2⟩ := h.at ht
      have p3 := p2 B (.refl _)
      by_cases hst : s = t
      · have hd : decide (s = t) = true := decide_eq_true hst
        simp (maxSteps := 1000000) (disch := omega) only [stepS, reduceIte, Nat.reduceBEq, Nat.reduceEqDiff, tupleOf, stepT, g0, g1, g7, g8, hvl, p1, p3, hd]
        exact hq _ ⟨fun _ => by rw [hst]; exact List.mem_of_getElem? ht, fun _ => by omega⟩
      · have hd : decide (s = t) = false := decide_eq_false hst
        simp (maxSteps := 1000000) (disch := omega) only [stepS, reduceIte, Nat.reduceBEq, Nat.reduceEqDiff, tupleOf, stepT, g0, g1, g7, g8, hvl, p1, p3, hd]
        refine ⟨⟨k + 1, by omega, ?_, rfl⟩, by omega⟩
        rw [List.take_add_one, ht, Option.toList_some, List.mem_append, List.mem_singleton]
        rintro (h | h)
        · exact hn h
        · exact hst h
    · rw [List.take_of_length_le hge] at hn
      simp (maxSteps := 1000000) (disch := omega) only [stepS, reduceIte, Nat.reduceBEq, Nat.reduceEqDiff, tupleOf, stepT, g0, g1, g7, g8, hvl]
      exact hq (-1) ⟨fun h => absurd h (by decide), fun h => absurd h hn⟩
theorem containsS_spec {f fi : FuncId} (hf : Fits P G f (icG_containsS fi) [.tmp 4] 2) (hi : Fits P G fi icG_indexS [.tmp 4] 2) {l : List ByteArray} {s : ByteArray} (h : SlT A v l) (hl : l.length < 1152921504606846976)
    (hq : ∀ b : Bool, (b = true ↔ s ∈ l) → Q (.bool b) A) : ACalls G P f [v, .string s] Q A := by
  refine ACalls.of_fits hm hf rfl ?_
  unfold icG_containsS
  have i0 : initA [v, .string s] 0 = v := rfl
  have i1 : initA [v, .string s] 1 = .string s := rfl
  generalize initA [v, .string s] = r at i0 i1
  simp (maxSteps := 1000000) (disch := omega) only [stepS, reduceIte, Nat.reduceBEq, Nat.reduceEqDiff, tupleOf, stepT, i0, i1]
  refine indexS_spec hm hi h hl fun n hn => ?_
  by_cases hz : n ≥ 0
  · simp (maxSteps := 1000000) (disch := omega) only [stepS, reduceIte, Nat.reduceBEq, Nat.reduceEqDiff, tupleOf, stepT, i0]
    exact hq true ⟨fun _ => hn.1 hz, fun _ => rfl⟩
  · simp (maxSteps := 1000000) (disch := omega) only [stepS, reduceIte, Nat.reduceBEq, Nat.reduceEqDiff, tupleOf, stepT, i0]
    exact hq false ⟨(fun h => by cases h), fun h => absurd (hn.2 h) hz⟩
end
end Go.AS


namespace Go.AS
open Go Go.Sort Go.RowKit Go.Proofs
set_option linter.unusedVariables false
set_option linter.unusedSimpArgs false

/-! The kit's contract of slices.Sort at texts, told of abstract states. -/
section
variable {G : Nat} {P : Program} {μ : Mu} {A A0 B : AH} {w : World} {v : Value} {a0 : Nat}
theorem grow_old (w : World) (os : Array Obj) {i : Nat} (h : i < w.heap.size) : (grow w os).heap[i]? = w.heap[i]? := by
  show (w.heap ++ os)[i]? = _
  rw [Array.getElem?_append, if_pos h]
/-- New blocks of which nothing is known. -/
theorem Rel.grown (h : Rel G μ A w) (os : Array Obj) : Rel G μ A (grow w os) ∧ Stp μ A w μ A (grow w os) := by
  have hs : (grow w os).heap.size = w.heap.size + os.size := by simp [grow]
  refine ⟨⟨h.len, h.glo, fun i e he => by have := h.lt i e he; omega, ?_, h.szs, ?_, ?_, h.apart⟩, ?_⟩
  · intro i cs st sz ex e hb he hst
    obtain ⟨rc, T, fr, g1, g2⟩ := h.row i cs st sz ex e hb he hst
    exact ⟨rc, T, fr, by rw [grow_old _ _ (h.lt i e he)]; exact g1, g2⟩
  · intro i s p e hb he
    rw [grow_old _ _ (h.lt i e he)]; exact h.sit i s p e hb he
  · intro i es e hb he
    rw [grow_old _ _ (h.lt i e he)]; exact h.mp i es e hb he
  · exact ⟨⟨[], by simp⟩, rfl, rfl, rfl, by omega, fun r hr _ => grow_old _ _ hr, fun i b e h1 h2 h3 _ => ⟨i, b, e, h1, h2, h3, rfl⟩⟩
theorem putCells_get (d : Array (List UInt8)) (off : Nat) (c : Array Value) (j : Nat) (hc : off + d.size ≤ c.size) : (putCells encStr off d c)[j]? = if off ≤ j ∧ j < off + (d.toList.map encStr).length then (d.toList.map encStr)[j - off]? else c[j]? := by
  unfold putCells
  rw [Array.getElem?_mapIdx]
  simp only [List.length_map, Array.length_toList]
  by_cases h : off ≤ j ∧ j < off + d.size
  · rw [if_pos h, Array.getElem?_eq_getElem (by omega), Option.map_some, if_pos h, List.getElem?_map, Array.getElem?_toList, Array.getElem?_eq_getElem (by omega), Option.map_some]
    rw [getElem!_pos d (j - off) (by omega)]
  · rw [if_neg h]
    cases c[j]? with
    | none => rfl
    | some y => simp only [Option.map_some]; rw [if_neg h]
/-- What a machine's function must do to sort texts. -/
def SortsTexts (P : Program) (f : FuncId) : Prop :=
  (∀ (blk off cap : Nat) (ss : List (List UInt8)) (w : World), Holds encStr w blk off ss.toArray → blk < w.heap.size → ss.length < 4611686018427387904 →
    Calls P f #[.slice (some ⟨blk, off, none⟩) ss.length cap] w fun e w' => e = .returned (.tuple #[]) ∧ ∃ n os, w' = grow (putRow encStr (Sort.ahead w n) blk off (ss.mergeSort fun x y => decide (x ≤ y)).toArray) os) ∧
  (∀ (p : Option Addr) (cap : Nat) (w : World), Calls P f #[.slice p 0 cap] w fun e w' => e = .returned (.tuple #[]) ∧ w' = w)
def sortT (l : List ByteArray) : List ByteArray := ((l.map bl).mergeSort fun x y => decide (x ≤ y)).map fun b => ⟨b.toArray⟩
theorem sortT_len (l : List ByteArray) : (sortT l).length = l.length := by simp [sortT]
theorem enc_bl (s : ByteArray) : encStr (bl s) = .string s := by
  show Value.string ⟨(bl s).toArray⟩ = _
  congr 1
theorem sorts_spec {f : FuncId} (hf : SortsTexts P f) {l : List ByteArray} {Q : Value → AH → Prop} (h : OwnS a0 A 1 v l.length (l.map .string)) (hl : l.length < 4611686018427387904)
    (hq : ∀ A', KeepV A v A' → OwnS a0 A' 1 v (sortT l).length ((sortT l).map .string) → Q (.tuple #[]) A') : ACalls G P f [v] Q A := by
  intro μ args' w hr h1 h2
  obtain ⟨v', rfl⟩ : ∃ v', args' = #[v'] := by
    have : args'.size = 1 := by simpa using h1
    exact ⟨args'[0], by apply Array.ext (by simpa using this); intro i hi1 hi2; simp at hi2; subst hi2; rfl⟩
  have hv := h2 0 v v' rfl rfl
  by_cases h0 : l.length = 0
  · have hl0 : l = [] := List.length_eq_zero_iff.1 h0
    subst hl0
    have hn : ∃ p c, v' = .slice p 0 c := by
      obtain ⟨_, h⟩ := h
      rcases h with ⟨rfl, _⟩ | ⟨rfl, _⟩ | ⟨_, _, _, _, _, rfl, _⟩
      · obtain ⟨a', c', e, _⟩ := hv.sl_inv; exact ⟨a', c', e⟩
      · obtain ⟨a', c', e, _⟩ := hv.sl_inv; exact ⟨a', c', e⟩
      · obtain ⟨a', c', e, _⟩ := hv.sl_inv; exact ⟨a', c', e⟩
    obtain ⟨p, c, rfl⟩ := hn
    refine (hf.2 p c w).mono ?_
    rintro e w' ⟨rfl, rfl⟩
    exact ⟨_, _, μ, A, rfl, VR.undef _, hr, Stp.refl _ _ _, hq _ (.refl _ _) (by simpa [sortT] using h)⟩
  · obtain ⟨hc0, h⟩ := h
    rcases h with ⟨_, hz⟩ | ⟨_, hz⟩ | ⟨i, o, c, rc, ex, rfl, k2, k3, k4, k5, k6⟩
    · exact absurd hz h0
    · exact absurd hz h0
    obtain ⟨e, he, c', hcc, rfl⟩ : ∃ (e : Ent), μ[i]? = some e ∧ ∃ c', o + c' * e.sz ≤ e.lim ∧ v' = .slice (some ⟨e.blk, e.off + o, none⟩) l.length c' := by
      generalize l.length = nn at hv h0
      cases hv with
      | flat h => cases h
      | slc h g1 g2 g4 => exact ⟨_, h, _, g4, rfl⟩
      | sle h => exact absurd rfl h0
    obtain ⟨mc, T, fr, g1, g2, g3, g4⟩ := hr.row i rc .own 1 ex e k4 he (by decide)
    obtain ⟨g5, g6, g7⟩ := g4 rfl
    have cell : ∀ j, j < l.length → mc[e.off + o + j]? = some (.string (l.getD j ⟨#[]⟩)) := by
      intro j hj
      have hrc := k6 j (by omega)
      obtain ⟨s, hs⟩ := get_some hj
      rw [List.getElem?_map, hs, Option.map_some] at hrc
      obtain ⟨_, u, u1, u2⟩ := g2 (o + j) _ hrc
      rw [u2.string] at u1
      rw [Nat.add_assoc, u1, List.getD_eq_getElem?_getD, hs]; rfl
    have hsz : e.off + o + l.length ≤ mc.size := by
      have := cell (l.length - 1) (by omega)
      have := (Array.getElem?_eq_some_iff.1 this).1
      omega
    have hH : Holds encStr w e.blk (e.off + o) (l.map bl).toArray := by
      intro j hj
      simp only [List.size_toArray, List.length_map] at hj
      have hd : (l.map bl).toArray[j]! = bl (l.getD j ⟨#[]⟩) := by
        rw [getElem!_pos _ _ (by simpa using hj)]
        simp [List.getD_eq_getElem?_getD, List.getElem?_eq_getElem hj]
      constructor
      · rw [hd, enc_bl]
        simp [World.cell?, g1, cell j hj]
      · obtain ⟨f1, f2⟩ := fr
        simp only [World.frozen?, g1]
        simp only at g6
        rw [Bool.and_eq_false_iff]
        rcases g6 with h | h
        · rcases Nat.lt_or_ge (e.off + o + j) f1 with h' | h'
          · left; rw [decide_eq_false_iff_not]; omega
          · right; rw [decide_eq_false_iff_not]; omega
        · left; rw [decide_eq_false_iff_not]; omega
    have hlen : (l.map bl).length = l.length := List.length_map ..
    have HC := hf.1 e.blk (e.off + o) c' (l.map bl) w hH (hr.lt i e he) (by rw [hlen]; exact hl)
    rw [hlen] at HC
    refine HC.mono ?_
    rintro en w' ⟨rfl, n, os, rfl⟩
    have hr1 := hr.draw (w.drawn + n)
    have hs1 := Stp.draw μ A w (w.drawn + n)
    have hst : ((sortT l).map Value.string) = ((l.map bl).mergeSort fun x y => decide (x ≤ y)).map encStr := by
      unfold sortT
      rw [List.map_map]; rfl
    have hsl : ((sortT l).map Value.string).length = l.length := by rw [List.length_map, sortT_len]
    have hW : Wrote ({ w with drawn := w.drawn + n }) (putRow encStr (Sort.ahead w n) e.blk (e.off + o) ((l.map bl).mergeSort fun x y => decide (x ≤ y)).toArray) e.blk mc (putCells encStr (e.off + o) ((l.map bl).mergeSort fun x y => decide (x ≤ y)).toArray mc) T fr (e.off + o) ((sortT l).map Value.string) := by
      have hb : ∀ r, (putRow encStr (Sort.ahead w n) e.blk (e.off + o) ((l.map bl).mergeSort fun x y => decide (x ≤ y)).toArray).heap[r]? = if e.blk = r then (w.heap[r]?).map (onCells (putCells encStr (e.off + o) ((l.map bl).mergeSort fun x y => decide (x ≤ y)).toArray)) else w.heap[r]? := fun r => by
        show ((Sort.ahead w n).heap.modify _ _)[r]? = _
        rw [Array.getElem?_modify]; rfl
      refine ⟨?_, by simp [putCells], ?_, ?_, by simp, rfl, rfl, rfl⟩
      · rw [hb, if_pos rfl, g1]; rfl
      · intro j
        rw [putCells_get _ _ _ _ (by simp; omega), hst]
      · intro r hr'
        rw [hb, if_neg (fun h => hr' h.symm)]
    have he1 : ones ((sortT l).map Value.string) = true := by
      unfold ones
      rw [List.all_eq_true]
      intro x hx
      obtain ⟨s, _, rfl⟩ := List.mem_map.1 hx
      rfl
    have hr2 := hr1.write (vs := (sortT l).map Value.string) (o := o) k4 he g1 (by rw [hsl]; omega) he1 rfl (fun j x x' hx hx' => by
      rw [hx] at hx'
      obtain rfl := Option.some.inj hx'
      obtain ⟨s, _, rfl⟩ := List.mem_map.1 (List.mem_of_getElem? hx)
      exact .flat rfl) hW
    have hs2 := Stp.write (o := o) (vs := (sortT l).map Value.string) k4 he hW
    obtain ⟨hr3, hs3⟩ := hr2.grown os
    refine ⟨_, _, μ, _, rfl, VR.undef _, hr3, (hs1.trans hs2).trans hs3, hq _ ?_ ?_⟩
    · refine ⟨by rw [List.length_set]; exact Nat.le_refl _, fun k b hb hk => ?_⟩
      rw [List.getElem?_set_ne (fun h => hk (by subst h; simp [blkOf]))]
      exact hb
    · refine ⟨by simp, .inr (.inr ⟨i, o, c, setAll rc o ((sortT l).map Value.string), ex, by rw [sortT_len], by rw [sortT_len]; exact k2, k3, by rw [List.getElem?_set_self (lt_of_get k4)], ?_, ?_⟩)⟩
      · rw [setAll_length _ _ _ (by rw [hsl]; omega), sortT_len]; exact k5
      · intro j hj
        rw [sortT_len] at hj
        rw [setAll_get _ _ _ (by rw [hsl]; omega), if_pos ⟨by omega, by rw [hsl]; omega⟩]
        congr 1; omega
end
end Go.AS


-- ALIAS Tryd G 1
-- Printed by gen.py (wip/tools): the abstract code of each function, and that it fits the program.
namespace Go.AS.C
open Go Go.Proofs
set_option maxRecDepth 100000
abbrev chantrylaw04_IdsSets : FuncId := 6
abbrev chantrylaw04_few : FuncId := 7
abbrev chantrylaw04_awake : FuncId := 8
abbrev ids_Tag : FuncId := 9
abbrev ids_Rising : FuncId := 11
abbrev chantryref01_Texts : FuncId := 13
abbrev ids_Of : FuncId := 14
abbrev ids_Has : FuncId := 16
abbrev ids_Right : FuncId := 18
abbrev ids_Union : FuncId := 20
abbrev ids_Meet : FuncId := 22
abbrev ids_Less : FuncId := 24
abbrev ids_Parse : FuncId := 26
abbrev ids_Hex : FuncId := 28
abbrev chantrylaw04_id : FuncId := 30
abbrev sha_Begin : FuncId := 31
abbrev sha_Hash_Add : FuncId := 32
abbrev sha_Hash_Sum : FuncId := 33
abbrev slices_Sort_string_string : FuncId := 35
abbrev slices_Compact_string_string : FuncId := 36
abbrev slices_Contains_string_string : FuncId := 38
abbrev ids_both_string : FuncId := 39
abbrev ids_Union_1 : FuncId := 40
abbrev ids_Meet_1 : FuncId := 41
abbrev ids_Less_1 : FuncId := 42
abbrev ids_digit : FuncId := 43
abbrev slices_Concat_byte_byte : FuncId := 45
abbrev sha_Hash_mix : FuncId := 46
abbrev slices_Clone_byte_byte : FuncId := 47
abbrev sha_Hash_end : FuncId := 48
abbrev slices_Index_string_string : FuncId := 53
abbrev strings_IndexByte : FuncId := 54
abbrev slices_Grow_byte_byte : FuncId := 55
abbrev sha_schedule : FuncId := 56
abbrev sha_right : FuncId := 57
/-- chantry/chantrylaw04.IdsSets -/
noncomputable def ic_chantrylaw04_IdsSets : IC :=
  (.seq (.ops [
    ⟨(some 4), none, false, .mov (.const (.bool false))⟩]) (.seq (.seq (.ops [
    ⟨(some 8), none, false, .mov (.tmp 0)⟩,
    ⟨(some 9), none, false, .call chantrylaw04_few [(.tmp 8)]⟩,
    ⟨(some 10), none, false, .un .not (.tmp 9)⟩,
    ⟨(some 11), none, false, .mov (.tmp 10)⟩,
    ⟨(some 12), (some (11, false)), false, .mov (.tmp 1)⟩,
    ⟨(some 13), (some (11, false)), false, .call chantrylaw04_few [(.tmp 12)]⟩,
    ⟨(some 14), (some (11, false)), false, .un .not (.tmp 13)⟩,
    ⟨(some 15), none, false, .pick (.tmp 11) (.const (.bool true)) (.tmp 14)⟩]) (.cond (.tmp 15) (.seq (.ops [
    ⟨(some 16), none, false, .call chantrylaw04_awake []⟩,
    ⟨(some 4), none, false, .mov (.tmp 16)⟩]) .ret) .skip)) (.seq (.ops [
    ⟨(some 17), none, false, .mov (.tmp 0)⟩,
    ⟨(some 18), none, false, .mov (.tmp 1)⟩,
    ⟨(some 19), none, false, .call ids_Union [(.tmp 17), (.tmp 18)]⟩,
    ⟨(some 20), none, false, .mov (.tmp 0)⟩,
    ⟨(some 21), none, false, .mov (.tmp 1)⟩,
    ⟨(some 22), none, false, .call ids_Meet [(.tmp 20), (.tmp 21)]⟩,
    ⟨(some 23), none, false, .mov (.tmp 0)⟩,
    ⟨(some 24), none, false, .mov (.tmp 1)⟩,
    ⟨(some 25), none, false, .call ids_Less [(.tmp 23), (.tmp 24)]⟩,
    ⟨(some 5), none, false, .mov (.tmp 19)⟩,
    ⟨(some 6), none, false, .mov (.tmp 22)⟩,
    ⟨(some 7), none, false, .mov (.tmp 25)⟩]) (.seq (.ops [
    ⟨(some 26), none, false, .mov (.tmp 5)⟩,
    ⟨(some 27), none, false, .mov (.tmp 1)⟩,
    ⟨(some 28), none, false, .mov (.tmp 0)⟩,
    ⟨(some 29), none, false, .call ids_Union [(.tmp 27), (.tmp 28)]⟩,
    ⟨(some 30), none, false, .call chantryref01_Texts [(.tmp 26), (.tmp 29)]⟩,
    ⟨(some 31), none, false, .mov (.tmp 30)⟩,
    ⟨(some 32), (some (31, true)), false, .mov (.tmp 6)⟩,
    ⟨(some 33), (some (31, true)), false, .mov (.tmp 1)⟩,
    ⟨(some 34), (some (31, true)), false, .mov (.tmp 0)⟩,
    ⟨(some 35), (some (31, true)), false, .call ids_Meet [(.tmp 33), (.tmp 34)]⟩,
    ⟨(some 36), (some (31, true)), false, .call chantryref01_Texts [(.tmp 32), (.tmp 35)]⟩,
    ⟨(some 37), none, false, .pick (.tmp 31) (.tmp 36) (.const (.bool false))⟩,
    ⟨(some 38), none, false, .mov (.tmp 37)⟩,
    ⟨(some 39), (some (38, true)), false, .mov (.tmp 6)⟩,
    ⟨(some 40), (some (38, true)), false, .mov (.tmp 7)⟩,
    ⟨(some 41), (some (38, true)), false, .call ids_Meet [(.tmp 39), (.tmp 40)]⟩,
    ⟨(some 42), (some (38, true)), false, .lens false (.tmp 41)⟩,
    ⟨(some 43), (some (38, true)), false, .bin .eql (.tmp 42) (.const (.int .i64 0))⟩,
    ⟨(some 44), none, false, .pick (.tmp 38) (.tmp 43) (.const (.bool false))⟩,
    ⟨(some 45), none, false, .mov (.tmp 44)⟩,
    ⟨(some 46), (some (45, true)), false, .mov (.tmp 6)⟩,
    ⟨(some 47), (some (45, true)), false, .mov (.tmp 7)⟩,
    ⟨(some 48), (some (45, true)), false, .call ids_Union [(.tmp 46), (.tmp 47)]⟩,
    ⟨(some 49), (some (45, true)), false, .mov (.tmp 0)⟩,
    ⟨(some 50), (some (45, true)), false, .call ids_Of [(.tmp 49)]⟩,
    ⟨(some 51), (some (45, true)), false, .call chantryref01_Texts [(.tmp 48), (.tmp 50)]⟩,
    ⟨(some 52), none, false, .pick (.tmp 45) (.tmp 51) (.const (.bool false))⟩,
    ⟨(some 53), none, false, .mov (.tmp 52)⟩,
    ⟨(some 54), (some (53, true)), false, .mov (.tmp 5)⟩,
    ⟨(some 55), (some (53, true)), false, .call ids_Rising [(.tmp 54)]⟩,
    ⟨(some 56), none, false, .pick (.tmp 53) (.tmp 55) (.const (.bool false))⟩,
    ⟨(some 57), none, false, .mov (.tmp 56)⟩,
    ⟨(some 58), (some (57, true)), false, .mov (.tmp 6)⟩,
    ⟨(some 59), (some (57, true)), false, .call ids_Rising [(.tmp 58)]⟩,
    ⟨(some 60), none, false, .pick (.tmp 57) (.tmp 59) (.const (.bool false))⟩,
    ⟨(some 61), none, false, .mov (.tmp 60)⟩,
    ⟨(some 62), (some (61, true)), false, .mov (.tmp 7)⟩,
    ⟨(some 63), (some (61, true)), false, .call ids_Rising [(.tmp 62)]⟩,
    ⟨(some 64), none, false, .pick (.tmp 61) (.tmp 63) (.const (.bool false))⟩,
    ⟨(some 65), none, false, .mov (.tmp 64)⟩,
    ⟨(some 66), (some (65, true)), false, .call chantrylaw04_awake []⟩,
    ⟨(some 67), none, false, .pick (.tmp 65) (.tmp 66) (.const (.bool false))⟩,
    ⟨(some 4), none, false, .mov (.tmp 67)⟩]) .ret))))
theorem fits_chantrylaw04_IdsSets : Fits Tryd.prog 1 chantrylaw04_IdsSets ic_chantrylaw04_IdsSets [.tmp 4] 2 :=
  ⟨Tryd.f6, Tryd.func6, by decide, by kernel_rfl, by kernel_rfl⟩

/-- chantry/chantrylaw04.few -/
noncomputable def ic_chantrylaw04_few : IC :=
  (.seq (.ops [
    ⟨(some 2), none, false, .mov (.const (.bool false))⟩]) (.seq (.seq (.ops [
    ⟨(some 4), none, false, .mov (.tmp 0)⟩,
    ⟨(some 5), none, false, .lens false (.tmp 4)⟩,
    ⟨(some 6), none, false, .bin .gtr (.tmp 5) (.const (.int .i64 60))⟩]) (.cond (.tmp 6) (.seq (.ops [
    ⟨(some 2), none, false, .mov (.const (.bool false))⟩]) .ret) .skip)) (.seq (.seq (.ops [
    ⟨(some 3), none, false, .mov (.const (.int .i64 0))⟩]) (.block 0 (.loop (.seq (.seq (.ops [
    ⟨(some 7), none, false, .mov (.tmp 3)⟩,
    ⟨(some 8), none, false, .mov (.tmp 0)⟩,
    ⟨(some 9), none, false, .lens false (.tmp 8)⟩,
    ⟨(some 10), none, false, .bin .lss (.tmp 7) (.tmp 9)⟩]) (.cond (.tmp 10) .skip (.exit 0))) (.seq (.block 1 (.seq (.ops [
    ⟨(some 13), none, false, .mov (.tmp 0)⟩,
    ⟨(some 14), none, false, .mov (.tmp 3)⟩,
    ⟨(some 15), none, false, .iaddr (.tmp 13) (.tmp 14) 1⟩,
    ⟨(some 16), none, false, .load1 (.tmp 15)⟩,
    ⟨(some 17), none, false, .lens true (.tmp 16)⟩,
    ⟨(some 18), none, false, .bin .gtr (.tmp 17) (.const (.int .i64 100))⟩]) (.cond (.tmp 18) (.seq (.ops [
    ⟨(some 2), none, false, .mov (.const (.bool false))⟩]) .ret) .skip))) (.ops [
    ⟨(some 11), none, false, .mov (.tmp 3)⟩,
    ⟨(some 12), none, false, .bin .add (.tmp 11) (.const (.int .i64 1))⟩,
    ⟨(some 3), none, false, .mov (.tmp 12)⟩])))))) (.seq (.ops [
    ⟨(some 2), none, false, .mov (.const (.bool true))⟩]) .ret))))
theorem fits_chantrylaw04_few : Fits Tryd.prog 1 chantrylaw04_few ic_chantrylaw04_few [.tmp 2] 1 :=
  ⟨Tryd.f7, Tryd.func7, by decide, by kernel_rfl, by kernel_rfl⟩

/-- chantry/chantrylaw04.awake -/
noncomputable def ic_chantrylaw04_awake : IC :=
  (.seq (.ops [
    ⟨(some 0), none, false, .mov (.const (.bool false))⟩]) (.seq (.ops [
    ⟨(some 12), none, false, .call chantrylaw04_id [(.const (.int .u8 1))]⟩,
    ⟨(some 13), none, false, .call chantrylaw04_id [(.const (.int .u8 2))]⟩,
    ⟨(some 14), none, false, .call chantrylaw04_id [(.const (.int .u8 10))]⟩,
    ⟨(some 1), none, false, .mov (.tmp 12)⟩,
    ⟨(some 2), none, false, .mov (.tmp 13)⟩,
    ⟨(some 3), none, false, .mov (.tmp 14)⟩]) (.seq (.ops [
    ⟨(some 16), none, false, .mov (.tmp 3)⟩,
    ⟨(some 17), none, false, .call ids_Hex [(.tmp 16)]⟩,
    ⟨(some 18), none, false, .call ids_Parse [(.tmp 17)]⟩,
    ⟨(some 15), none, false, .mov (.tmp 18)⟩,
    ⟨(some 19), none, false, .ext (.tmp 15) 0⟩,
    ⟨(some 20), none, false, .ext (.tmp 15) 1⟩,
    ⟨(some 4), none, false, .mov (.tmp 19)⟩,
    ⟨(some 5), none, false, .mov (.tmp 20)⟩]) (.seq (.ops [
    ⟨(some 22), none, false, .call ids_Parse [(.const (.string ⟨#[48, 97]⟩))]⟩,
    ⟨(some 21), none, false, .mov (.tmp 22)⟩,
    ⟨(some 23), none, false, .ext (.tmp 21) 0⟩,
    ⟨(some 24), none, false, .ext (.tmp 21) 1⟩,
    ⟨(some 6), none, false, .mov (.tmp 23)⟩,
    ⟨(some 7), none, false, .mov (.tmp 24)⟩]) (.seq (.ops [
    ⟨(some 26), none, false, .mov (.tmp 2)⟩,
    ⟨(some 27), none, false, .mov (.tmp 1)⟩,
    ⟨(some 28), none, false, .lit [.string ⟨#[]⟩] 1 2 [(0, 1, (.tmp 26)), (1, 1, (.tmp 27))]⟩,
    ⟨(some 29), none, false, .call ids_Tag [(.tmp 28)]⟩,
    ⟨(some 25), none, false, .mov (.tmp 29)⟩,
    ⟨(some 30), none, false, .ext (.tmp 25) 0⟩,
    ⟨(some 31), none, false, .ext (.tmp 25) 1⟩,
    ⟨(some 8), none, false, .mov (.tmp 30)⟩,
    ⟨(some 9), none, false, .mov (.tmp 31)⟩]) (.seq (.ops [
    ⟨(some 33), none, false, .mov (.tmp 1)⟩,
    ⟨(some 34), none, false, .mov (.tmp 2)⟩,
    ⟨(some 35), none, false, .lit [.string ⟨#[]⟩] 1 2 [(0, 1, (.tmp 33)), (1, 1, (.tmp 34))]⟩,
    ⟨(some 36), none, false, .call ids_Tag [(.tmp 35)]⟩,
    ⟨(some 32), none, false, .mov (.tmp 36)⟩,
    ⟨(some 37), none, false, .ext (.tmp 32) 0⟩,
    ⟨(some 38), none, false, .ext (.tmp 32) 1⟩,
    ⟨(some 10), none, false, .mov (.tmp 37)⟩,
    ⟨(some 11), none, false, .mov (.tmp 38)⟩]) (.seq (.ops [
    ⟨(some 39), none, false, .mov (.tmp 1)⟩,
    ⟨(some 40), none, false, .call ids_Right [(.tmp 39)]⟩,
    ⟨(some 41), none, false, .mov (.tmp 40)⟩,
    ⟨(some 42), (some (41, true)), false, .call ids_Right [(.const (.string ⟨#[97]⟩))]⟩,
    ⟨(some 43), (some (41, true)), false, .un .not (.tmp 42)⟩,
    ⟨(some 44), none, false, .pick (.tmp 41) (.tmp 43) (.const (.bool false))⟩,
    ⟨(some 45), none, false, .mov (.tmp 44)⟩,
    ⟨(some 46), (some (45, true)), false, .mov (.tmp 1)⟩,
    ⟨(some 47), (some (45, true)), false, .mov (.tmp 2)⟩,
    ⟨(some 48), (some (45, true)), false, .lit [.string ⟨#[]⟩] 1 2 [(0, 1, (.tmp 46)), (1, 1, (.tmp 47))]⟩,
    ⟨(some 49), (some (45, true)), false, .call ids_Rising [(.tmp 48)]⟩,
    ⟨(some 50), none, false, .pick (.tmp 45) (.tmp 49) (.const (.bool false))⟩,
    ⟨(some 51), none, false, .mov (.tmp 50)⟩,
    ⟨(some 52), (some (51, true)), false, .mov (.tmp 2)⟩,
    ⟨(some 53), (some (51, true)), false, .mov (.tmp 1)⟩,
    ⟨(some 54), (some (51, true)), false, .lit [.string ⟨#[]⟩] 1 2 [(0, 1, (.tmp 52)), (1, 1, (.tmp 53))]⟩,
    ⟨(some 55), (some (51, true)), false, .call ids_Rising [(.tmp 54)]⟩,
    ⟨(some 56), (some (51, true)), false, .un .not (.tmp 55)⟩,
    ⟨(some 57), none, false, .pick (.tmp 51) (.tmp 56) (.const (.bool false))⟩,
    ⟨(some 58), none, false, .mov (.tmp 57)⟩,
    ⟨(some 59), (some (58, true)), false, .mov (.tmp 2)⟩,
    ⟨(some 60), (some (58, true)), false, .mov (.tmp 1)⟩,
    ⟨(some 61), (some (58, true)), false, .mov (.tmp 2)⟩,
    ⟨(some 62), (some (58, true)), false, .lit [.string ⟨#[]⟩] 1 4 [(0, 1, (.tmp 59)), (1, 1, (.const (.string ⟨#[120]⟩))), (2, 1, (.tmp 60)), (3, 1, (.tmp 61))]⟩,
    ⟨(some 63), (some (58, true)), false, .call ids_Of [(.tmp 62)]⟩,
    ⟨(some 64), (some (58, true)), false, .mov (.tmp 1)⟩,
    ⟨(some 65), (some (58, true)), false, .mov (.tmp 2)⟩,
    ⟨(some 66), (some (58, true)), false, .lit [.string ⟨#[]⟩] 1 2 [(0, 1, (.tmp 64)), (1, 1, (.tmp 65))]⟩,
    ⟨(some 67), (some (58, true)), false, .call chantryref01_Texts [(.tmp 63), (.tmp 66)]⟩,
    ⟨(some 68), none, false, .pick (.tmp 58) (.tmp 67) (.const (.bool false))⟩,
    ⟨(some 69), none, false, .mov (.tmp 68)⟩,
    ⟨(some 70), (some (69, true)), false, .mov (.tmp 1)⟩,
    ⟨(some 71), (some (69, true)), false, .mov (.tmp 2)⟩,
    ⟨(some 72), (some (69, true)), false, .lit [.string ⟨#[]⟩] 1 2 [(0, 1, (.tmp 70)), (1, 1, (.tmp 71))]⟩,
    ⟨(some 73), (some (69, true)), false, .mov (.tmp 2)⟩,
    ⟨(some 74), (some (69, true)), false, .call ids_Has [(.tmp 72), (.tmp 73)]⟩,
    ⟨(some 75), none, false, .pick (.tmp 69) (.tmp 74) (.const (.bool false))⟩,
    ⟨(some 76), none, false, .mov (.tmp 75)⟩,
    ⟨(some 77), (some (76, true)), false, .mov (.tmp 1)⟩,
    ⟨(some 78), (some (76, true)), false, .lit [.string ⟨#[]⟩] 1 1 [(0, 1, (.tmp 77))]⟩,
    ⟨(some 79), (some (76, true)), false, .mov (.tmp 2)⟩,
    ⟨(some 80), (some (76, true)), false, .lit [.string ⟨#[]⟩] 1 1 [(0, 1, (.tmp 79))]⟩,
    ⟨(some 81), (some (76, true)), false, .call ids_Union [(.tmp 78), (.tmp 80)]⟩,
    ⟨(some 82), (some (76, true)), false, .lens false (.tmp 81)⟩,
    ⟨(some 83), (some (76, true)), false, .bin .eql (.tmp 82) (.const (.int .i64 2))⟩,
    ⟨(some 84), none, false, .pick (.tmp 76) (.tmp 83) (.const (.bool false))⟩,
    ⟨(some 85), none, false, .mov (.tmp 84)⟩,
    ⟨(some 86), (some (85, true)), false, .mov (.tmp 1)⟩,
    ⟨(some 87), (some (85, true)), false, .lit [.string ⟨#[]⟩] 1 1 [(0, 1, (.tmp 86))]⟩,
    ⟨(some 88), (some (85, true)), false, .mov (.tmp 2)⟩,
    ⟨(some 89), (some (85, true)), false, .lit [.string ⟨#[]⟩] 1 1 [(0, 1, (.tmp 88))]⟩,
    ⟨(some 90), (some (85, true)), false, .call ids_Meet [(.tmp 87), (.tmp 89)]⟩,
    ⟨(some 91), (some (85, true)), false, .lens false (.tmp 90)⟩,
    ⟨(some 92), (some (85, true)), false, .bin .eql (.tmp 91) (.const (.int .i64 0))⟩,
    ⟨(some 93), none, false, .pick (.tmp 85) (.tmp 92) (.const (.bool false))⟩,
    ⟨(some 94), none, false, .mov (.tmp 93)⟩,
    ⟨(some 95), (some (94, true)), false, .mov (.tmp 1)⟩,
    ⟨(some 96), (some (94, true)), false, .mov (.tmp 2)⟩,
    ⟨(some 97), (some (94, true)), false, .lit [.string ⟨#[]⟩] 1 2 [(0, 1, (.tmp 95)), (1, 1, (.tmp 96))]⟩,
    ⟨(some 98), (some (94, true)), false, .mov (.tmp 2)⟩,
    ⟨(some 99), (some (94, true)), false, .lit [.string ⟨#[]⟩] 1 1 [(0, 1, (.tmp 98))]⟩,
    ⟨(some 100), (some (94, true)), false, .call ids_Less [(.tmp 97), (.tmp 99)]⟩,
    ⟨(some 101), (some (94, true)), false, .lens false (.tmp 100)⟩,
    ⟨(some 102), (some (94, true)), false, .bin .eql (.tmp 101) (.const (.int .i64 1))⟩,
    ⟨(some 103), none, false, .pick (.tmp 94) (.tmp 102) (.const (.bool false))⟩,
    ⟨(some 104), none, false, .mov (.tmp 103)⟩,
    ⟨(some 105), (some (104, true)), false, .mov (.tmp 3)⟩,
    ⟨(some 106), (some (104, true)), false, .call ids_Hex [(.tmp 105)]⟩,
    ⟨(some 107), (some (104, true)), false, .lens true (.tmp 106)⟩,
    ⟨(some 108), (some (104, true)), false, .bin .eql (.tmp 107) (.const (.int .i64 64))⟩,
    ⟨(some 109), none, false, .pick (.tmp 104) (.tmp 108) (.const (.bool false))⟩,
    ⟨(some 110), none, false, .mov (.tmp 109)⟩,
    ⟨(some 111), (some (110, true)), false, .mov (.tmp 3)⟩,
    ⟨(some 112), (some (110, true)), false, .call ids_Hex [(.tmp 111)]⟩,
    ⟨(some 113), (some (110, true)), false, .sls (.tmp 112) none (some (.const (.int .i64 4)))⟩,
    ⟨(some 114), (some (110, true)), false, .bin .eql (.tmp 113) (.const (.string ⟨#[48, 97, 48, 97]⟩))⟩,
    ⟨(some 115), none, false, .pick (.tmp 110) (.tmp 114) (.const (.bool false))⟩,
    ⟨(some 116), none, false, .mov (.tmp 115)⟩,
    ⟨(some 117), (some (116, true)), false, .mov (.tmp 4)⟩,
    ⟨(some 118), (some (116, true)), false, .mov (.tmp 3)⟩,
    ⟨(some 119), (some (116, true)), false, .bin .eql (.tmp 117) (.tmp 118)⟩,
    ⟨(some 120), none, false, .pick (.tmp 116) (.tmp 119) (.const (.bool false))⟩,
    ⟨(some 121), none, false, .mov (.tmp 120)⟩,
    ⟨(some 122), (some (121, true)), false, .mov (.tmp 5)⟩,
    ⟨(some 123), (some (121, true)), false, .bin .eql (.tmp 122) (.const (.int .i64 0))⟩,
    ⟨(some 124), none, false, .pick (.tmp 121) (.tmp 123) (.const (.bool false))⟩,
    ⟨(some 125), none, false, .mov (.tmp 124)⟩,
    ⟨(some 126), (some (125, true)), false, .mov (.tmp 7)⟩,
    ⟨(some 127), (some (125, true)), false, .bin .eql (.tmp 126) (.const (.int .i64 5))⟩,
    ⟨(some 128), none, false, .pick (.tmp 125) (.tmp 127) (.const (.bool false))⟩,
    ⟨(some 129), none, false, .mov (.tmp 128)⟩,
    ⟨(some 130), (some (129, true)), false, .mov (.tmp 9)⟩,
    ⟨(some 131), (some (129, true)), false, .bin .eql (.tmp 130) (.const (.int .i64 5))⟩,
    ⟨(some 132), none, false, .pick (.tmp 129) (.tmp 131) (.const (.bool false))⟩,
    ⟨(some 133), none, false, .mov (.tmp 132)⟩,
    ⟨(some 134), (some (133, true)), false, .mov (.tmp 11)⟩,
    ⟨(some 135), (some (133, true)), false, .bin .eql (.tmp 134) (.const (.int .i64 0))⟩,
    ⟨(some 136), none, false, .pick (.tmp 133) (.tmp 135) (.const (.bool false))⟩,
    ⟨(some 137), none, false, .mov (.tmp 136)⟩,
    ⟨(some 138), (some (137, true)), false, .mov (.tmp 10)⟩,
    ⟨(some 139), (some (137, true)), false, .lens true (.tmp 138)⟩,
    ⟨(some 140), (some (137, true)), false, .bin .eql (.tmp 139) (.const (.int .i64 32))⟩,
    ⟨(some 141), none, false, .pick (.tmp 137) (.tmp 140) (.const (.bool false))⟩,
    ⟨(some 0), none, false, .mov (.tmp 141)⟩]) .ret)))))))
theorem fits_chantrylaw04_awake : Fits Tryd.prog 1 chantrylaw04_awake ic_chantrylaw04_awake [.tmp 0] 0 :=
  ⟨Tryd.f8, Tryd.func8, by decide, by kernel_rfl, by kernel_rfl⟩

/-- chantry/ids.Tag -/
noncomputable def ic_ids_Tag : IC :=
  (.seq (.ops [
    ⟨(some 2), none, false, .mov (.const (.string ⟨#[]⟩))⟩,
    ⟨(some 3), none, false, .mov (.const (.int .i64 0))⟩]) (.seq (.seq (.ops [
    ⟨(some 7), none, false, .mov (.tmp 0)⟩,
    ⟨(some 8), none, false, .call ids_Rising [(.tmp 7)]⟩,
    ⟨(some 9), none, false, .un .not (.tmp 8)⟩]) (.cond (.tmp 9) (.seq (.ops [
    ⟨(some 2), none, false, .mov (.const (.string ⟨#[]⟩))⟩,
    ⟨(some 3), none, false, .mov (.const (.int .i64 5))⟩]) .ret) .skip)) (.seq (.ops [
    ⟨(some 10), none, false, .call sha_Begin []⟩,
    ⟨(some 4), none, false, .mov (.tmp 10)⟩]) (.seq (.seq (.ops [
    ⟨(some 11), none, false, .mov (.tmp 0)⟩,
    ⟨(some 12), none, false, .lens false (.tmp 11)⟩,
    ⟨(some 13), none, false, .mov (.const (.int .i64 0))⟩]) (.block 0 (.loop (.seq (.ops [
    ⟨(some 14), none, false, .bin .lss (.tmp 13) (.tmp 12)⟩]) (.seq (.cond (.tmp 14) .skip (.exit 0)) (.seq (.block 1 (.seq (.ops [
    ⟨(some 15), none, false, .iaddr (.tmp 11) (.tmp 13) 1⟩,
    ⟨(some 16), none, false, .load1 (.tmp 15)⟩,
    ⟨(some 6), none, false, .mov (.tmp 16)⟩]) (.ops [
    ⟨(some 17), none, false, .mov (.tmp 4)⟩,
    ⟨(some 18), none, false, .mov (.tmp 6)⟩,
    ⟨(some 19), none, false, .s2b (.tmp 18)⟩,
    ⟨(some 20), none, false, .call sha_Hash_Add [(.tmp 17), (.tmp 19)]⟩]))) (.ops [
    ⟨(some 21), none, false, .bin .add (.tmp 13) (.const (.int .i64 1))⟩,
    ⟨(some 13), none, false, .mov (.tmp 21)⟩]))))))) (.seq (.ops [
    ⟨(some 22), none, false, .mov (.tmp 4)⟩,
    ⟨(some 23), none, false, .call sha_Hash_Sum [(.tmp 22)]⟩,
    ⟨(some 2), none, false, .mov (.tmp 23)⟩,
    ⟨(some 3), none, false, .mov (.const (.int .i64 0))⟩]) .ret)))))
theorem fits_ids_Tag : Fits Tryd.prog 1 ids_Tag ic_ids_Tag [.tmp 2, .tmp 3] 1 :=
  ⟨Tryd.f9, Tryd.func9, by decide, by kernel_rfl, by kernel_rfl⟩

/-- chantry/ids.Rising -/
noncomputable def ic_ids_Rising : IC :=
  (.seq (.ops [
    ⟨(some 2), none, false, .mov (.const (.bool false))⟩]) (.seq (.seq (.ops [
    ⟨(some 5), none, false, .mov (.tmp 0)⟩,
    ⟨(some 6), none, false, .lens false (.tmp 5)⟩,
    ⟨(some 7), none, false, .mov (.const (.int .i64 0))⟩]) (.block 0 (.loop (.seq (.ops [
    ⟨(some 8), none, false, .bin .lss (.tmp 7) (.tmp 6)⟩]) (.seq (.cond (.tmp 8) .skip (.exit 0)) (.seq (.block 1 (.seq (.ops [
    ⟨(some 9), none, false, .mov (.tmp 7)⟩,
    ⟨(some 10), none, false, .iaddr (.tmp 5) (.tmp 7) 1⟩,
    ⟨(some 11), none, false, .load1 (.tmp 10)⟩,
    ⟨(some 3), none, false, .mov (.tmp 9)⟩,
    ⟨(some 4), none, false, .mov (.tmp 11)⟩]) (.seq (.ops [
    ⟨(some 12), none, false, .mov (.tmp 4)⟩,
    ⟨(some 13), none, false, .call ids_Right [(.tmp 12)]⟩,
    ⟨(some 14), none, false, .un .not (.tmp 13)⟩,
    ⟨(some 15), none, false, .mov (.tmp 14)⟩,
    ⟨(some 16), (some (15, false)), false, .mov (.tmp 3)⟩,
    ⟨(some 17), (some (15, false)), false, .bin .gtr (.tmp 16) (.const (.int .i64 0))⟩,
    ⟨(some 18), (some (15, false)), false, .mov (.tmp 17)⟩,
    ⟨(some 19), (some (18, true)), false, .mov (.tmp 0)⟩,
    ⟨(some 20), (some (18, true)), false, .mov (.tmp 3)⟩,
    ⟨(some 21), (some (18, true)), false, .bin .sub (.tmp 20) (.const (.int .i64 1))⟩,
    ⟨(some 22), (some (18, true)), false, .iaddr (.tmp 19) (.tmp 21) 1⟩,
    ⟨(some 23), (some (18, true)), false, .load1 (.tmp 22)⟩,
    ⟨(some 24), (some (18, true)), false, .mov (.tmp 4)⟩,
    ⟨(some 25), (some (18, true)), false, .bin .geq (.tmp 23) (.tmp 24)⟩,
    ⟨(some 26), (some (15, false)), false, .pick (.tmp 18) (.tmp 25) (.const (.bool false))⟩,
    ⟨(some 27), none, false, .pick (.tmp 15) (.const (.bool true)) (.tmp 26)⟩]) (.cond (.tmp 27) (.seq (.ops [
    ⟨(some 2), none, false, .mov (.const (.bool false))⟩]) .ret) .skip)))) (.ops [
    ⟨(some 28), none, false, .bin .add (.tmp 7) (.const (.int .i64 1))⟩,
    ⟨(some 7), none, false, .mov (.tmp 28)⟩]))))))) (.seq (.ops [
    ⟨(some 2), none, false, .mov (.const (.bool true))⟩]) .ret)))
theorem fits_ids_Rising : Fits Tryd.prog 1 ids_Rising ic_ids_Rising [.tmp 2] 1 :=
  ⟨Tryd.f11, Tryd.func11, by decide, by kernel_rfl, by kernel_rfl⟩

/-- chantry/chantryref01.Texts -/
noncomputable def ic_chantryref01_Texts : IC :=
  (.seq (.ops [
    ⟨(some 4), none, false, .mov (.const (.bool false))⟩]) (.seq (.seq (.ops [
    ⟨(some 6), none, false, .mov (.tmp 0)⟩,
    ⟨(some 7), none, false, .lens false (.tmp 6)⟩,
    ⟨(some 8), none, false, .mov (.tmp 1)⟩,
    ⟨(some 9), none, false, .lens false (.tmp 8)⟩,
    ⟨(some 10), none, false, .bin .neq (.tmp 7) (.tmp 9)⟩]) (.cond (.tmp 10) (.seq (.ops [
    ⟨(some 4), none, false, .mov (.const (.bool false))⟩]) .ret) .skip)) (.seq (.seq (.ops [
    ⟨(some 5), none, false, .mov (.const (.int .i64 0))⟩]) (.block 0 (.loop (.seq (.seq (.ops [
    ⟨(some 11), none, false, .mov (.tmp 5)⟩,
    ⟨(some 12), none, false, .mov (.tmp 0)⟩,
    ⟨(some 13), none, false, .lens false (.tmp 12)⟩,
    ⟨(some 14), none, false, .bin .lss (.tmp 11) (.tmp 13)⟩]) (.cond (.tmp 14) .skip (.exit 0))) (.seq (.block 1 (.seq (.draw [
    ⟨(some 17), none, false, .mov (.tmp 0)⟩,
    ⟨(some 18), none, false, .mov (.tmp 5)⟩,
    ⟨(some 19), none, false, .iaddr (.tmp 17) (.tmp 18) 1⟩,
    ⟨(some 20), none, false, .load1 (.tmp 19)⟩,
    ⟨(some 21), none, false, .mov (.tmp 1)⟩,
    ⟨(some 22), none, false, .mov (.tmp 5)⟩,
    ⟨(some 23), none, false, .iaddr (.tmp 21) (.tmp 22) 1⟩,
    ⟨(some 24), none, false, .load1 (.tmp 23)⟩,
    ⟨(some 25), none, false, .bin .neq (.tmp 20) (.tmp 24)⟩]) (.cond (.tmp 25) (.seq (.ops [
    ⟨(some 4), none, false, .mov (.const (.bool false))⟩]) .ret) .skip))) (.ops [
    ⟨(some 15), none, false, .mov (.tmp 5)⟩,
    ⟨(some 16), none, false, .bin .add (.tmp 15) (.const (.int .i64 1))⟩,
    ⟨(some 5), none, false, .mov (.tmp 16)⟩])))))) (.seq (.ops [
    ⟨(some 4), none, false, .mov (.const (.bool true))⟩]) .ret))))
theorem fits_chantryref01_Texts : Fits Tryd.prog 1 chantryref01_Texts ic_chantryref01_Texts [.tmp 4] 2 :=
  ⟨Tryd.f13, Tryd.func13, by decide, by kernel_rfl, by kernel_rfl⟩

/-- chantry/ids.Of -/
noncomputable def ic_ids_Of : IC :=
  (.seq (.ops [
    ⟨(some 2), none, false, .mov (.const (.slice none 0 0))⟩]) (.seq (.ops [
    ⟨(some 3), none, false, .mov (.const (.slice none 0 0))⟩]) (.seq (.seq (.ops [
    ⟨(some 6), none, false, .mov (.tmp 0)⟩,
    ⟨(some 7), none, false, .lens false (.tmp 6)⟩,
    ⟨(some 8), none, false, .mov (.const (.int .i64 0))⟩]) (.block 0 (.loop (.seq (.ops [
    ⟨(some 9), none, false, .bin .lss (.tmp 8) (.tmp 7)⟩]) (.seq (.cond (.tmp 9) .skip (.exit 0)) (.seq (.block 1 (.seq (.ops [
    ⟨(some 10), none, false, .iaddr (.tmp 6) (.tmp 8) 1⟩,
    ⟨(some 11), none, false, .load1 (.tmp 10)⟩,
    ⟨(some 5), none, false, .mov (.tmp 11)⟩]) (.seq (.ops [
    ⟨(some 12), none, false, .mov (.tmp 5)⟩,
    ⟨(some 13), none, false, .call ids_Right [(.tmp 12)]⟩]) (.cond (.tmp 13) (.ops [
    ⟨(some 14), none, false, .mov (.tmp 3)⟩,
    ⟨(some 15), none, false, .mov (.tmp 5)⟩,
    ⟨(some 16), none, false, .lit [.string ⟨#[]⟩] 1 1 [(0, 1, (.tmp 15))]⟩,
    ⟨(some 17), none, false, .app (.tmp 14) (.tmp 16) 1 16⟩,
    ⟨(some 3), none, false, .mov (.tmp 17)⟩]) .skip)))) (.ops [
    ⟨(some 18), none, false, .bin .add (.tmp 8) (.const (.int .i64 1))⟩,
    ⟨(some 8), none, false, .mov (.tmp 18)⟩]))))))) (.seq (.ops [
    ⟨(some 19), none, false, .mov (.tmp 3)⟩,
    ⟨(some 20), none, false, .call slices_Sort_string_string [(.tmp 19)]⟩]) (.seq (.ops [
    ⟨(some 21), none, false, .mov (.tmp 3)⟩,
    ⟨(some 22), none, false, .call slices_Compact_string_string [(.tmp 21)]⟩,
    ⟨(some 2), none, false, .mov (.tmp 22)⟩]) .ret)))))
theorem fits_ids_Of : Fits Tryd.prog 1 ids_Of ic_ids_Of [.tmp 2] 1 :=
  ⟨Tryd.f14, Tryd.func14, by decide, by kernel_rfl, by kernel_rfl⟩

/-- chantry/ids.Has -/
noncomputable def ic_ids_Has : IC :=
  (.seq (.ops [
    ⟨(some 4), none, false, .mov (.const (.bool false))⟩]) (.seq (.ops [
    ⟨(some 5), none, false, .mov (.tmp 0)⟩,
    ⟨(some 6), none, false, .mov (.tmp 1)⟩,
    ⟨(some 7), none, false, .call slices_Contains_string_string [(.tmp 5), (.tmp 6)]⟩,
    ⟨(some 4), none, false, .mov (.tmp 7)⟩]) .ret))
theorem fits_ids_Has : Fits Tryd.prog 1 ids_Has ic_ids_Has [.tmp 4] 2 :=
  ⟨Tryd.f16, Tryd.func16, by decide, by kernel_rfl, by kernel_rfl⟩

/-- chantry/ids.Right -/
noncomputable def ic_ids_Right : IC :=
  (.seq (.ops [
    ⟨(some 2), none, false, .mov (.const (.bool false))⟩]) (.seq (.ops [
    ⟨(some 3), none, false, .mov (.tmp 0)⟩,
    ⟨(some 4), none, false, .lens true (.tmp 3)⟩,
    ⟨(some 5), none, false, .bin .eql (.tmp 4) (.const (.int .i64 32))⟩,
    ⟨(some 2), none, false, .mov (.tmp 5)⟩]) .ret))
theorem fits_ids_Right : Fits Tryd.prog 1 ids_Right ic_ids_Right [.tmp 2] 1 :=
  ⟨Tryd.f18, Tryd.func18, by decide, by kernel_rfl, by kernel_rfl⟩

/-- chantry/ids.Union -/
noncomputable def ic_ids_Union : IC :=
  (.seq (.ops [
    ⟨(some 4), none, false, .mov (.const (.slice none 0 0))⟩]) (.seq (.ops [
    ⟨(some 5), none, false, .mov (.tmp 0)⟩,
    ⟨(some 6), none, false, .call ids_Of [(.tmp 5)]⟩,
    ⟨(some 7), none, false, .mov (.tmp 1)⟩,
    ⟨(some 8), none, false, .call ids_Of [(.tmp 7)]⟩,
    ⟨(some 9), none, false, .call ids_both_string [(.tmp 6), (.tmp 8), (.func 40)]⟩,
    ⟨(some 4), none, false, .mov (.tmp 9)⟩]) .ret))
theorem fits_ids_Union : Fits Tryd.prog 1 ids_Union ic_ids_Union [.tmp 4] 2 :=
  ⟨Tryd.f20, Tryd.func20, by decide, by kernel_rfl, by kernel_rfl⟩

/-- chantry/ids.Meet -/
noncomputable def ic_ids_Meet : IC :=
  (.seq (.ops [
    ⟨(some 4), none, false, .mov (.const (.slice none 0 0))⟩]) (.seq (.ops [
    ⟨(some 5), none, false, .mov (.tmp 0)⟩,
    ⟨(some 6), none, false, .call ids_Of [(.tmp 5)]⟩,
    ⟨(some 7), none, false, .mov (.tmp 1)⟩,
    ⟨(some 8), none, false, .call ids_Of [(.tmp 7)]⟩,
    ⟨(some 9), none, false, .call ids_both_string [(.tmp 6), (.tmp 8), (.func 41)]⟩,
    ⟨(some 4), none, false, .mov (.tmp 9)⟩]) .ret))
theorem fits_ids_Meet : Fits Tryd.prog 1 ids_Meet ic_ids_Meet [.tmp 4] 2 :=
  ⟨Tryd.f22, Tryd.func22, by decide, by kernel_rfl, by kernel_rfl⟩

/-- chantry/ids.Less -/
noncomputable def ic_ids_Less : IC :=
  (.seq (.ops [
    ⟨(some 4), none, false, .mov (.const (.slice none 0 0))⟩]) (.seq (.ops [
    ⟨(some 5), none, false, .mov (.tmp 0)⟩,
    ⟨(some 6), none, false, .call ids_Of [(.tmp 5)]⟩,
    ⟨(some 7), none, false, .mov (.tmp 1)⟩,
    ⟨(some 8), none, false, .call ids_Of [(.tmp 7)]⟩,
    ⟨(some 9), none, false, .call ids_both_string [(.tmp 6), (.tmp 8), (.func 42)]⟩,
    ⟨(some 4), none, false, .mov (.tmp 9)⟩]) .ret))
theorem fits_ids_Less : Fits Tryd.prog 1 ids_Less ic_ids_Less [.tmp 4] 2 :=
  ⟨Tryd.f24, Tryd.func24, by decide, by kernel_rfl, by kernel_rfl⟩

/-- chantry/ids.Parse -/
noncomputable def ic_ids_Parse : IC :=
  (.seq (.ops [
    ⟨(some 2), none, false, .mov (.const (.string ⟨#[]⟩))⟩,
    ⟨(some 3), none, false, .mov (.const (.int .i64 0))⟩]) (.seq (.seq (.ops [
    ⟨(some 7), none, false, .mov (.tmp 0)⟩,
    ⟨(some 8), none, false, .lens true (.tmp 7)⟩,
    ⟨(some 9), none, false, .bin .neq (.tmp 8) (.const (.int .i64 64))⟩]) (.cond (.tmp 9) (.seq (.ops [
    ⟨(some 2), none, false, .mov (.const (.string ⟨#[]⟩))⟩,
    ⟨(some 3), none, false, .mov (.const (.int .i64 5))⟩]) .ret) .skip)) (.seq (.ops [
    ⟨(some 4), none, false, .mov (.const (.slice none 0 0))⟩]) (.seq (.block 0 (.loop (.seq (.seq (.ops [
    ⟨(some 10), none, false, .mov (.tmp 0)⟩,
    ⟨(some 11), none, false, .bin .neq (.tmp 10) (.const (.string ⟨#[]⟩))⟩]) (.cond (.tmp 11) .skip (.exit 0))) (.seq (.block 1 (.seq (.draw [
    ⟨(some 14), none, false, .mov (.tmp 0)⟩,
    ⟨(some 15), none, false, .idxs (.tmp 14) (.const (.int .i64 0))⟩,
    ⟨(some 17), none, false, .mov (.tmp 0)⟩,
    ⟨(some 18), none, false, .idxs (.tmp 17) (.const (.int .i64 1))⟩,
    ⟨(some 16), none, false, .call ids_digit [(.tmp 15)]⟩,
    ⟨(some 19), none, false, .call ids_digit [(.tmp 18)]⟩,
    ⟨(some 5), none, false, .mov (.tmp 16)⟩,
    ⟨(some 6), none, false, .mov (.tmp 19)⟩]) (.seq (.seq (.ops [
    ⟨(some 20), none, false, .mov (.tmp 5)⟩,
    ⟨(some 21), none, false, .bin .lss (.tmp 20) (.const (.int .i64 0))⟩,
    ⟨(some 22), none, false, .mov (.tmp 21)⟩,
    ⟨(some 23), (some (22, false)), false, .mov (.tmp 6)⟩,
    ⟨(some 24), (some (22, false)), false, .bin .lss (.tmp 23) (.const (.int .i64 0))⟩,
    ⟨(some 25), none, false, .pick (.tmp 22) (.const (.bool true)) (.tmp 24)⟩]) (.cond (.tmp 25) (.seq (.ops [
    ⟨(some 2), none, false, .mov (.const (.string ⟨#[]⟩))⟩,
    ⟨(some 3), none, false, .mov (.const (.int .i64 5))⟩]) .ret) .skip)) (.ops [
    ⟨(some 26), none, false, .mov (.tmp 4)⟩,
    ⟨(some 27), none, false, .mov (.tmp 5)⟩,
    ⟨(some 28), none, false, .bin .shl (.tmp 27) (.const (.int .u64 4))⟩,
    ⟨(some 29), none, false, .mov (.tmp 6)⟩,
    ⟨(some 30), none, false, .bin .or (.tmp 28) (.tmp 29)⟩,
    ⟨(some 31), none, false, .conv .u8 (.tmp 30)⟩,
    ⟨(some 32), none, false, .lit [.int .u8 0] 1 1 [(0, 1, (.tmp 31))]⟩,
    ⟨(some 33), none, false, .app (.tmp 26) (.tmp 32) 1 1⟩,
    ⟨(some 4), none, false, .mov (.tmp 33)⟩])))) (.ops [
    ⟨(some 12), none, false, .mov (.tmp 0)⟩,
    ⟨(some 13), none, false, .sls (.tmp 12) (some (.const (.int .i64 2))) none⟩,
    ⟨(some 0), none, false, .mov (.tmp 13)⟩]))))) (.seq (.ops [
    ⟨(some 34), none, false, .mov (.tmp 4)⟩,
    ⟨(some 35), none, false, .b2s (.tmp 34)⟩,
    ⟨(some 2), none, false, .mov (.tmp 35)⟩,
    ⟨(some 3), none, false, .mov (.const (.int .i64 0))⟩]) .ret)))))
theorem fits_ids_Parse : Fits Tryd.prog 1 ids_Parse ic_ids_Parse [.tmp 2, .tmp 3] 1 :=
  ⟨Tryd.f26, Tryd.func26, by decide, by kernel_rfl, by kernel_rfl⟩

/-- chantry/ids.Hex -/
noncomputable def ic_ids_Hex : IC :=
  (.seq (.ops [
    ⟨(some 2), none, false, .mov (.const (.string ⟨#[]⟩))⟩]) (.seq (.ops [
    ⟨(some 3), none, false, .mov (.const (.slice none 0 0))⟩]) (.seq (.seq (.ops [
    ⟨(some 6), none, false, .mov (.tmp 0)⟩,
    ⟨(some 7), none, false, .s2b (.tmp 6)⟩,
    ⟨(some 8), none, false, .lens false (.tmp 7)⟩,
    ⟨(some 9), none, false, .mov (.const (.int .i64 0))⟩]) (.block 0 (.loop (.seq (.ops [
    ⟨(some 10), none, false, .bin .lss (.tmp 9) (.tmp 8)⟩]) (.seq (.cond (.tmp 10) .skip (.exit 0)) (.seq (.block 1 (.seq (.ops [
    ⟨(some 11), none, false, .iaddr (.tmp 7) (.tmp 9) 1⟩,
    ⟨(some 12), none, false, .load1 (.tmp 11)⟩,
    ⟨(some 5), none, false, .mov (.tmp 12)⟩]) (.draw [
    ⟨(some 13), none, false, .mov (.tmp 3)⟩,
    ⟨(some 14), none, false, .mov (.tmp 5)⟩,
    ⟨(some 15), none, false, .bin .shr (.tmp 14) (.const (.int .u64 4))⟩,
    ⟨(some 16), none, false, .idxs (.const (.string ⟨#[48, 49, 50, 51, 52, 53, 54, 55, 56, 57, 97, 98, 99, 100, 101, 102]⟩)) (.tmp 15)⟩,
    ⟨(some 17), none, false, .mov (.tmp 5)⟩,
    ⟨(some 18), none, false, .bin .and (.tmp 17) (.const (.int .u8 15))⟩,
    ⟨(some 19), none, false, .idxs (.const (.string ⟨#[48, 49, 50, 51, 52, 53, 54, 55, 56, 57, 97, 98, 99, 100, 101, 102]⟩)) (.tmp 18)⟩,
    ⟨(some 20), none, false, .lit [.int .u8 0] 1 2 [(0, 1, (.tmp 16)), (1, 1, (.tmp 19))]⟩,
    ⟨(some 21), none, false, .app (.tmp 13) (.tmp 20) 1 1⟩,
    ⟨(some 3), none, false, .mov (.tmp 21)⟩]))) (.ops [
    ⟨(some 22), none, false, .bin .add (.tmp 9) (.const (.int .i64 1))⟩,
    ⟨(some 9), none, false, .mov (.tmp 22)⟩]))))))) (.seq (.ops [
    ⟨(some 23), none, false, .mov (.tmp 3)⟩,
    ⟨(some 24), none, false, .b2s (.tmp 23)⟩,
    ⟨(some 2), none, false, .mov (.tmp 24)⟩]) .ret))))
theorem fits_ids_Hex : Fits Tryd.prog 1 ids_Hex ic_ids_Hex [.tmp 2] 1 :=
  ⟨Tryd.f28, Tryd.func28, by decide, by kernel_rfl, by kernel_rfl⟩

/-- chantry/chantrylaw04.id -/
noncomputable def ic_chantrylaw04_id : IC :=
  (.seq (.ops [
    ⟨(some 2), none, false, .mov (.const (.string ⟨#[]⟩))⟩]) (.seq (.ops [
    ⟨(some 3), none, false, .mov (.const (.slice none 0 0))⟩]) (.seq (.seq (.ops [
    ⟨(some 4), none, false, .mov (.const (.int .i64 0))⟩]) (.block 0 (.loop (.seq (.seq (.ops [
    ⟨(some 5), none, false, .mov (.tmp 4)⟩,
    ⟨(some 6), none, false, .bin .lss (.tmp 5) (.const (.int .i64 32))⟩]) (.cond (.tmp 6) .skip (.exit 0))) (.seq (.block 1 (.ops [
    ⟨(some 9), none, false, .mov (.tmp 3)⟩,
    ⟨(some 10), none, false, .mov (.tmp 0)⟩,
    ⟨(some 11), none, false, .lit [.int .u8 0] 1 1 [(0, 1, (.tmp 10))]⟩,
    ⟨(some 12), none, false, .app (.tmp 9) (.tmp 11) 1 1⟩,
    ⟨(some 3), none, false, .mov (.tmp 12)⟩])) (.ops [
    ⟨(some 7), none, false, .mov (.tmp 4)⟩,
    ⟨(some 8), none, false, .bin .add (.tmp 7) (.const (.int .i64 1))⟩,
    ⟨(some 4), none, false, .mov (.tmp 8)⟩])))))) (.seq (.ops [
    ⟨(some 13), none, false, .mov (.tmp 3)⟩,
    ⟨(some 14), none, false, .b2s (.tmp 13)⟩,
    ⟨(some 2), none, false, .mov (.tmp 14)⟩]) .ret))))
theorem fits_chantrylaw04_id : Fits Tryd.prog 1 chantrylaw04_id ic_chantrylaw04_id [.tmp 2] 1 :=
  ⟨Tryd.f30, Tryd.func30, by decide, by kernel_rfl, by kernel_rfl⟩

/-- chantry/sha.Begin -/
noncomputable def ic_sha_Begin : IC :=
  (.seq (.ops [
    ⟨(some 0), none, false, .mov (.const (.pointer none))⟩]) (.seq (.ops [
    ⟨(some 1), none, false, .build [.int .u32 0, .int .u32 0, .int .u32 0, .int .u32 0, .int .u32 0, .int .u32 0, .int .u32 0, .int .u32 0] [(0, 1, (.const (.int .u32 1779033703))), (1, 1, (.const (.int .u32 3144134277))), (2, 1, (.const (.int .u32 1013904242))), (3, 1, (.const (.int .u32 2773480762))), (4, 1, (.const (.int .u32 1359893119))), (5, 1, (.const (.int .u32 2600822924))), (6, 1, (.const (.int .u32 528734635))), (7, 1, (.const (.int .u32 1541459225)))]⟩,
    ⟨(some 2), none, false, .build [.int .u32 0, .int .u32 0, .int .u32 0, .int .u32 0, .int .u32 0, .int .u32 0, .int .u32 0, .int .u32 0, .slice none 0 0, .int .i64 0] [(0, 8, (.tmp 1))]⟩,
    ⟨(some 3), none, false, .box (.tmp 2)⟩,
    ⟨(some 0), none, false, .mov (.tmp 3)⟩]) .ret))
theorem fits_sha_Begin : Fits Tryd.prog 1 sha_Begin ic_sha_Begin [.tmp 0] 0 :=
  ⟨Tryd.f31, Tryd.func31, by decide, by kernel_rfl, by kernel_rfl⟩

/-- (*chantry/sha.Hash).Add -/
noncomputable def ic_sha_Hash_Add : IC :=
  (.seq (.seq (.ops [
    ⟨(some 5), none, false, .mov (.tmp 0)⟩,
    ⟨(some 6), none, false, .isnil (.pointer 51) (.tmp 5) false⟩]) (.cond (.tmp 6) .ret .skip)) (.seq (.ops [
    ⟨(some 7), none, false, .mov (.tmp 0)⟩,
    ⟨(some 8), none, false, .nilc (.tmp 7)⟩,
    ⟨(some 9), none, false, .faddr (.tmp 8) 9⟩,
    ⟨(some 10), none, false, .load1 (.tmp 9)⟩,
    ⟨(some 11), none, false, .mov (.tmp 1)⟩,
    ⟨(some 12), none, false, .lens false (.tmp 11)⟩,
    ⟨(some 13), none, false, .bin .add (.tmp 10) (.tmp 12)⟩,
    ⟨(some 14), none, false, .nilc (.tmp 7)⟩,
    ⟨(some 15), none, false, .faddr (.tmp 14) 9⟩,
    ⟨none, none, false, .store (.tmp 15) (.tmp 13) 1⟩]) (.seq (.ops [
    ⟨(some 16), none, false, .mov (.tmp 0)⟩,
    ⟨(some 17), none, false, .nilc (.tmp 16)⟩,
    ⟨(some 18), none, false, .faddr (.tmp 17) 8⟩,
    ⟨(some 19), none, false, .load1 (.tmp 18)⟩,
    ⟨(some 20), none, false, .mov (.tmp 1)⟩,
    ⟨(some 21), none, false, .lit [.slice none 0 0] 1 2 [(0, 1, (.tmp 19)), (1, 1, (.tmp 20))]⟩,
    ⟨(some 22), none, false, .call slices_Concat_byte_byte [(.tmp 21)]⟩,
    ⟨(some 4), none, false, .mov (.tmp 22)⟩]) (.seq (.block 0 (.loop (.seq (.seq (.ops [
    ⟨(some 23), none, false, .mov (.tmp 4)⟩,
    ⟨(some 24), none, false, .lens false (.tmp 23)⟩,
    ⟨(some 25), none, false, .bin .geq (.tmp 24) (.const (.int .i64 64))⟩]) (.cond (.tmp 25) .skip (.exit 0))) (.block 1 (.seq (.ops [
    ⟨(some 26), none, false, .mov (.tmp 0)⟩,
    ⟨(some 27), none, false, .mov (.tmp 4)⟩,
    ⟨(some 28), none, false, .sll (.tmp 27) none (some (.const (.int .i64 64))) none 1⟩,
    ⟨(some 29), none, false, .call sha_Hash_mix [(.tmp 26), (.tmp 28)]⟩]) (.ops [
    ⟨(some 30), none, false, .mov (.tmp 4)⟩,
    ⟨(some 31), none, false, .sll (.tmp 30) (some (.const (.int .i64 64))) none none 1⟩,
    ⟨(some 4), none, false, .mov (.tmp 31)⟩])))))) (.ops [
    ⟨(some 32), none, false, .mov (.tmp 0)⟩,
    ⟨(some 33), none, false, .mov (.tmp 4)⟩,
    ⟨(some 34), none, false, .call slices_Clone_byte_byte [(.tmp 33)]⟩,
    ⟨(some 35), none, false, .nilc (.tmp 32)⟩,
    ⟨(some 36), none, false, .faddr (.tmp 35) 8⟩,
    ⟨none, none, false, .store (.tmp 36) (.tmp 34) 1⟩])))))
theorem fits_sha_Hash_Add : Fits Tryd.prog 1 sha_Hash_Add ic_sha_Hash_Add [] 2 :=
  ⟨Tryd.f32, Tryd.func32, by decide, by kernel_rfl, by kernel_rfl⟩

/-- (*chantry/sha.Hash).Sum -/
noncomputable def ic_sha_Hash_Sum : IC :=
  (.seq (.ops [
    ⟨(some 2), none, false, .mov (.const (.string ⟨#[]⟩))⟩]) (.seq (.seq (.ops [
    ⟨(some 7), none, false, .mov (.tmp 0)⟩,
    ⟨(some 8), none, false, .isnil (.pointer 51) (.tmp 7) false⟩]) (.cond (.tmp 8) (.seq (.ops [
    ⟨(some 2), none, false, .mov (.const (.string ⟨#[]⟩))⟩]) .ret) .skip)) (.seq (.ops [
    ⟨(some 9), none, false, .mov (.tmp 0)⟩,
    ⟨(some 10), none, false, .nilc (.tmp 9)⟩,
    ⟨(some 11), none, false, .loadn (.tmp 10) 10⟩,
    ⟨(some 3), none, false, .new [.int .u32 0, .int .u32 0, .int .u32 0, .int .u32 0, .int .u32 0, .int .u32 0, .int .u32 0, .int .u32 0, .slice none 0 0, .int .i64 0]⟩,
    ⟨none, none, false, .store (.tmp 3) (.tmp 11) 10⟩]) (.seq (.ops [
    ⟨(some 12), none, false, .mov (.tmp 0)⟩,
    ⟨(some 13), none, false, .call sha_Hash_end [(.tmp 12)]⟩,
    ⟨(some 14), none, false, .call sha_Hash_Add [(.tmp 3), (.tmp 13)]⟩]) (.seq (.ops [
    ⟨(some 4), none, false, .mov (.const (.slice none 0 0))⟩]) (.seq (.seq (.ops [
    ⟨(some 15), none, false, .faddr (.tmp 3) 0⟩,
    ⟨(some 16), none, false, .loadn (.tmp 15) 8⟩,
    ⟨(some 17), none, false, .mov (.const (.int .i64 0))⟩]) (.block 0 (.loop (.seq (.ops [
    ⟨(some 18), none, false, .bin .lss (.tmp 17) (.const (.int .i64 8))⟩]) (.seq (.cond (.tmp 18) .skip (.exit 0)) (.seq (.block 1 (.seq (.ops [
    ⟨(some 19), none, false, .idxa1 (.tmp 16) (.tmp 17) 8⟩,
    ⟨(some 6), none, false, .mov (.tmp 19)⟩]) (.ops [
    ⟨(some 20), none, false, .mov (.tmp 4)⟩,
    ⟨(some 21), none, false, .mov (.tmp 6)⟩,
    ⟨(some 22), none, false, .bin .shr (.tmp 21) (.const (.int .u64 24))⟩,
    ⟨(some 23), none, false, .conv .u8 (.tmp 22)⟩,
    ⟨(some 24), none, false, .mov (.tmp 6)⟩,
    ⟨(some 25), none, false, .bin .shr (.tmp 24) (.const (.int .u64 16))⟩,
    ⟨(some 26), none, false, .conv .u8 (.tmp 25)⟩,
    ⟨(some 27), none, false, .mov (.tmp 6)⟩,
    ⟨(some 28), none, false, .bin .shr (.tmp 27) (.const (.int .u64 8))⟩,
    ⟨(some 29), none, false, .conv .u8 (.tmp 28)⟩,
    ⟨(some 30), none, false, .mov (.tmp 6)⟩,
    ⟨(some 31), none, false, .conv .u8 (.tmp 30)⟩,
    ⟨(some 32), none, false, .lit [.int .u8 0] 1 4 [(0, 1, (.tmp 23)), (1, 1, (.tmp 26)), (2, 1, (.tmp 29)), (3, 1, (.tmp 31))]⟩,
    ⟨(some 33), none, false, .app (.tmp 20) (.tmp 32) 1 1⟩,
    ⟨(some 4), none, false, .mov (.tmp 33)⟩]))) (.ops [
    ⟨(some 34), none, false, .bin .add (.tmp 17) (.const (.int .i64 1))⟩,
    ⟨(some 17), none, false, .mov (.tmp 34)⟩]))))))) (.seq (.ops [
    ⟨(some 35), none, false, .mov (.tmp 4)⟩,
    ⟨(some 36), none, false, .b2s (.tmp 35)⟩,
    ⟨(some 2), none, false, .mov (.tmp 36)⟩]) .ret)))))))
theorem fits_sha_Hash_Sum : Fits Tryd.prog 1 sha_Hash_Sum ic_sha_Hash_Sum [.tmp 2] 1 :=
  ⟨Tryd.f33, Tryd.func33, by decide, by kernel_rfl, by kernel_rfl⟩

/-- slices.Compact[[]string,string] -/
noncomputable def ic_slices_Compact_string_string : IC :=
  (.seq (.ops [
    ⟨(some 2), none, false, .mov (.const (.slice none 0 0))⟩]) (.seq (.seq (.ops [
    ⟨(some 6), none, false, .mov (.tmp 0)⟩,
    ⟨(some 7), none, false, .lens false (.tmp 6)⟩,
    ⟨(some 8), none, false, .bin .lss (.tmp 7) (.const (.int .i64 2))⟩]) (.cond (.tmp 8) (.seq (.ops [
    ⟨(some 9), none, false, .mov (.tmp 0)⟩,
    ⟨(some 2), none, false, .mov (.tmp 9)⟩]) .ret) .skip)) (.seq (.seq (.ops [
    ⟨(some 3), none, false, .mov (.const (.int .i64 1))⟩]) (.block 0 (.loop (.seq (.seq (.ops [
    ⟨(some 10), none, false, .mov (.tmp 3)⟩,
    ⟨(some 11), none, false, .mov (.tmp 0)⟩,
    ⟨(some 12), none, false, .lens false (.tmp 11)⟩,
    ⟨(some 13), none, false, .bin .lss (.tmp 10) (.tmp 12)⟩]) (.cond (.tmp 13) .skip (.exit 0))) (.seq (.block 1 (.seq (.draw [
    ⟨(some 16), none, false, .mov (.tmp 0)⟩,
    ⟨(some 17), none, false, .mov (.tmp 3)⟩,
    ⟨(some 18), none, false, .iaddr (.tmp 16) (.tmp 17) 1⟩,
    ⟨(some 19), none, false, .load1 (.tmp 18)⟩,
    ⟨(some 20), none, false, .mov (.tmp 0)⟩,
    ⟨(some 21), none, false, .mov (.tmp 3)⟩,
    ⟨(some 22), none, false, .bin .sub (.tmp 21) (.const (.int .i64 1))⟩,
    ⟨(some 23), none, false, .iaddr (.tmp 20) (.tmp 22) 1⟩,
    ⟨(some 24), none, false, .load1 (.tmp 23)⟩,
    ⟨(some 25), none, false, .bin .eql (.tmp 19) (.tmp 24)⟩]) (.cond (.tmp 25) (.seq (.ops [
    ⟨(some 26), none, false, .mov (.tmp 0)⟩,
    ⟨(some 27), none, false, .mov (.tmp 3)⟩,
    ⟨(some 28), none, false, .sll (.tmp 26) (some (.tmp 27)) none none 1⟩,
    ⟨(some 4), none, false, .mov (.tmp 28)⟩]) (.seq (.seq (.ops [
    ⟨(some 5), none, false, .mov (.const (.int .i64 1))⟩]) (.block 2 (.loop (.seq (.seq (.ops [
    ⟨(some 29), none, false, .mov (.tmp 5)⟩,
    ⟨(some 30), none, false, .mov (.tmp 4)⟩,
    ⟨(some 31), none, false, .lens false (.tmp 30)⟩,
    ⟨(some 32), none, false, .bin .lss (.tmp 29) (.tmp 31)⟩]) (.cond (.tmp 32) .skip (.exit 2))) (.seq (.block 3 (.seq (.draw [
    ⟨(some 35), none, false, .mov (.tmp 4)⟩,
    ⟨(some 36), none, false, .mov (.tmp 5)⟩,
    ⟨(some 37), none, false, .iaddr (.tmp 35) (.tmp 36) 1⟩,
    ⟨(some 38), none, false, .load1 (.tmp 37)⟩,
    ⟨(some 39), none, false, .mov (.tmp 4)⟩,
    ⟨(some 40), none, false, .mov (.tmp 5)⟩,
    ⟨(some 41), none, false, .bin .sub (.tmp 40) (.const (.int .i64 1))⟩,
    ⟨(some 42), none, false, .iaddr (.tmp 39) (.tmp 41) 1⟩,
    ⟨(some 43), none, false, .load1 (.tmp 42)⟩,
    ⟨(some 44), none, false, .bin .neq (.tmp 38) (.tmp 43)⟩]) (.cond (.tmp 44) (.seq (.ops [
    ⟨(some 45), none, false, .mov (.tmp 0)⟩,
    ⟨(some 46), none, false, .mov (.tmp 3)⟩,
    ⟨(some 47), none, false, .mov (.tmp 4)⟩,
    ⟨(some 48), none, false, .mov (.tmp 5)⟩,
    ⟨(some 49), none, false, .iaddr (.tmp 47) (.tmp 48) 1⟩,
    ⟨(some 50), none, false, .load1 (.tmp 49)⟩,
    ⟨(some 51), none, false, .iaddr (.tmp 45) (.tmp 46) 1⟩,
    ⟨none, none, false, .store (.tmp 51) (.tmp 50) 1⟩]) (.ops [
    ⟨(some 52), none, false, .mov (.tmp 3)⟩,
    ⟨(some 53), none, false, .bin .add (.tmp 52) (.const (.int .i64 1))⟩,
    ⟨(some 3), none, false, .mov (.tmp 53)⟩])) .skip))) (.ops [
    ⟨(some 33), none, false, .mov (.tmp 5)⟩,
    ⟨(some 34), none, false, .bin .add (.tmp 33) (.const (.int .i64 1))⟩,
    ⟨(some 5), none, false, .mov (.tmp 34)⟩])))))) (.seq (.ops [
    ⟨(some 54), none, false, .mov (.tmp 0)⟩,
    ⟨(some 55), none, false, .mov (.tmp 3)⟩,
    ⟨(some 56), none, false, .sll (.tmp 54) (some (.tmp 55)) none none 1⟩,
    ⟨none, none, false, .clr (.tmp 56) [.string ⟨#[]⟩]⟩]) (.seq (.ops [
    ⟨(some 57), none, false, .mov (.tmp 0)⟩,
    ⟨(some 58), none, false, .mov (.tmp 3)⟩,
    ⟨(some 59), none, false, .sll (.tmp 57) none (some (.tmp 58)) none 1⟩,
    ⟨(some 2), none, false, .mov (.tmp 59)⟩]) .ret)))) .skip))) (.ops [
    ⟨(some 14), none, false, .mov (.tmp 3)⟩,
    ⟨(some 15), none, false, .bin .add (.tmp 14) (.const (.int .i64 1))⟩,
    ⟨(some 3), none, false, .mov (.tmp 15)⟩])))))) (.seq (.ops [
    ⟨(some 60), none, false, .mov (.tmp 0)⟩,
    ⟨(some 2), none, false, .mov (.tmp 60)⟩]) .ret))))
theorem fits_slices_Compact_string_string : Fits Tryd.prog 1 slices_Compact_string_string ic_slices_Compact_string_string [.tmp 2] 1 :=
  ⟨Tryd.f36, Tryd.func36, by decide, by kernel_rfl, by kernel_rfl⟩

/-- slices.Contains[[]string,string] -/
noncomputable def ic_slices_Contains_string_string : IC :=
  (.seq (.ops [
    ⟨(some 4), none, false, .mov (.const (.bool false))⟩]) (.seq (.ops [
    ⟨(some 5), none, false, .mov (.tmp 0)⟩,
    ⟨(some 6), none, false, .mov (.tmp 1)⟩,
    ⟨(some 7), none, false, .call slices_Index_string_string [(.tmp 5), (.tmp 6)]⟩,
    ⟨(some 8), none, false, .bin .geq (.tmp 7) (.const (.int .i64 0))⟩,
    ⟨(some 4), none, false, .mov (.tmp 8)⟩]) .ret))
theorem fits_slices_Contains_string_string : Fits Tryd.prog 1 slices_Contains_string_string ic_slices_Contains_string_string [.tmp 4] 2 :=
  ⟨Tryd.f38, Tryd.func38, by decide, by kernel_rfl, by kernel_rfl⟩

/-- chantry/ids.both[string] -/
noncomputable def ic_ids_both_string : IC :=
  (.seq (.ops [
    ⟨(some 6), none, false, .mov (.const (.slice none 0 0))⟩]) (.seq (.ops [
    ⟨(some 7), none, false, .mov (.const (.slice none 0 0))⟩]) (.seq (.block 0 (.loop (.seq (.seq (.ops [
    ⟨(some 11), none, false, .mov (.tmp 0)⟩,
    ⟨(some 12), none, false, .lens false (.tmp 11)⟩,
    ⟨(some 13), none, false, .bin .gtr (.tmp 12) (.const (.int .i64 0))⟩,
    ⟨(some 14), none, false, .mov (.tmp 13)⟩,
    ⟨(some 15), (some (14, false)), false, .mov (.tmp 1)⟩,
    ⟨(some 16), (some (14, false)), false, .lens false (.tmp 15)⟩,
    ⟨(some 17), (some (14, false)), false, .bin .gtr (.tmp 16) (.const (.int .i64 0))⟩,
    ⟨(some 18), none, false, .pick (.tmp 14) (.const (.bool true)) (.tmp 17)⟩]) (.cond (.tmp 18) .skip (.exit 0))) (.block 1 (.seq (.draw [
    ⟨(some 19), none, false, .mov (.tmp 1)⟩,
    ⟨(some 20), none, false, .lens false (.tmp 19)⟩,
    ⟨(some 21), none, false, .bin .eql (.tmp 20) (.const (.int .i64 0))⟩,
    ⟨(some 22), none, false, .mov (.tmp 21)⟩,
    ⟨(some 23), (some (22, false)), false, .mov (.tmp 0)⟩,
    ⟨(some 24), (some (22, false)), false, .lens false (.tmp 23)⟩,
    ⟨(some 25), (some (22, false)), false, .bin .gtr (.tmp 24) (.const (.int .i64 0))⟩,
    ⟨(some 26), (some (22, false)), false, .mov (.tmp 25)⟩,
    ⟨(some 27), (some (26, true)), false, .mov (.tmp 0)⟩,
    ⟨(some 28), (some (26, true)), false, .iaddr (.tmp 27) (.const (.int .i64 0)) 1⟩,
    ⟨(some 29), (some (26, true)), false, .load1 (.tmp 28)⟩,
    ⟨(some 30), (some (26, true)), false, .mov (.tmp 1)⟩,
    ⟨(some 31), (some (26, true)), false, .iaddr (.tmp 30) (.const (.int .i64 0)) 1⟩,
    ⟨(some 32), (some (26, true)), false, .load1 (.tmp 31)⟩,
    ⟨(some 33), (some (26, true)), false, .bin .leq (.tmp 29) (.tmp 32)⟩,
    ⟨(some 34), (some (22, false)), false, .pick (.tmp 26) (.tmp 33) (.const (.bool false))⟩,
    ⟨(some 35), none, false, .pick (.tmp 22) (.const (.bool true)) (.tmp 34)⟩,
    ⟨(some 8), none, false, .mov (.tmp 35)⟩]) (.seq (.draw [
    ⟨(some 36), none, false, .mov (.tmp 0)⟩,
    ⟨(some 37), none, false, .lens false (.tmp 36)⟩,
    ⟨(some 38), none, false, .bin .eql (.tmp 37) (.const (.int .i64 0))⟩,
    ⟨(some 39), none, false, .mov (.tmp 38)⟩,
    ⟨(some 40), (some (39, false)), false, .mov (.tmp 1)⟩,
    ⟨(some 41), (some (39, false)), false, .lens false (.tmp 40)⟩,
    ⟨(some 42), (some (39, false)), false, .bin .gtr (.tmp 41) (.const (.int .i64 0))⟩,
    ⟨(some 43), (some (39, false)), false, .mov (.tmp 42)⟩,
    ⟨(some 44), (some (43, true)), false, .mov (.tmp 1)⟩,
    ⟨(some 45), (some (43, true)), false, .iaddr (.tmp 44) (.const (.int .i64 0)) 1⟩,
    ⟨(some 46), (some (43, true)), false, .load1 (.tmp 45)⟩,
    ⟨(some 47), (some (43, true)), false, .mov (.tmp 0)⟩,
    ⟨(some 48), (some (43, true)), false, .iaddr (.tmp 47) (.const (.int .i64 0)) 1⟩,
    ⟨(some 49), (some (43, true)), false, .load1 (.tmp 48)⟩,
    ⟨(some 50), (some (43, true)), false, .bin .leq (.tmp 46) (.tmp 49)⟩,
    ⟨(some 51), (some (39, false)), false, .pick (.tmp 43) (.tmp 50) (.const (.bool false))⟩,
    ⟨(some 52), none, false, .pick (.tmp 39) (.const (.bool true)) (.tmp 51)⟩,
    ⟨(some 9), none, false, .mov (.tmp 52)⟩]) (.seq (.ops [
    ⟨(some 10), none, false, .mov (.const (.string ⟨#[]⟩))⟩]) (.seq (.seq (.ops [
    ⟨(some 53), none, false, .mov (.tmp 8)⟩]) (.cond (.tmp 53) (.draw [
    ⟨(some 54), none, false, .mov (.tmp 0)⟩,
    ⟨(some 55), none, false, .iaddr (.tmp 54) (.const (.int .i64 0)) 1⟩,
    ⟨(some 56), none, false, .load1 (.tmp 55)⟩,
    ⟨(some 57), none, false, .mov (.tmp 0)⟩,
    ⟨(some 58), none, false, .sll (.tmp 57) (some (.const (.int .i64 1))) none none 1⟩,
    ⟨(some 10), none, false, .mov (.tmp 56)⟩,
    ⟨(some 0), none, false, .mov (.tmp 58)⟩]) .skip)) (.seq (.seq (.ops [
    ⟨(some 59), none, false, .mov (.tmp 9)⟩]) (.cond (.tmp 59) (.draw [
    ⟨(some 60), none, false, .mov (.tmp 1)⟩,
    ⟨(some 61), none, false, .iaddr (.tmp 60) (.const (.int .i64 0)) 1⟩,
    ⟨(some 62), none, false, .load1 (.tmp 61)⟩,
    ⟨(some 63), none, false, .mov (.tmp 1)⟩,
    ⟨(some 64), none, false, .sll (.tmp 63) (some (.const (.int .i64 1))) none none 1⟩,
    ⟨(some 10), none, false, .mov (.tmp 62)⟩,
    ⟨(some 1), none, false, .mov (.tmp 64)⟩]) .skip)) (.seq (.ops [
    ⟨(some 65), none, false, .mov (.tmp 2)⟩,
    ⟨(some 66), none, false, .mov (.tmp 8)⟩,
    ⟨(some 67), none, false, .mov (.tmp 9)⟩,
    ⟨(some 68), none, false, .calld (.tmp 65) [(.tmp 66), (.tmp 67)]⟩]) (.cond (.tmp 68) (.ops [
    ⟨(some 69), none, false, .mov (.tmp 7)⟩,
    ⟨(some 70), none, false, .mov (.tmp 10)⟩,
    ⟨(some 71), none, false, .lit [.string ⟨#[]⟩] 1 1 [(0, 1, (.tmp 70))]⟩,
    ⟨(some 72), none, false, .app (.tmp 69) (.tmp 71) 1 16⟩,
    ⟨(some 7), none, false, .mov (.tmp 72)⟩]) .skip))))))))))) (.seq (.ops [
    ⟨(some 73), none, false, .mov (.tmp 7)⟩,
    ⟨(some 6), none, false, .mov (.tmp 73)⟩]) .ret))))
theorem fits_ids_both_string : Fits Tryd.prog 1 ids_both_string ic_ids_both_string [.tmp 6] 3 :=
  ⟨Tryd.f39, Tryd.func39, by decide, by kernel_rfl, by kernel_rfl⟩

/-- chantry/ids.Union$1 -/
noncomputable def ic_ids_Union_1 : IC :=
  (.seq (.ops [
    ⟨(some 4), none, false, .mov (.const (.bool false))⟩]) (.seq (.ops [
    ⟨(some 5), none, false, .mov (.tmp 0)⟩,
    ⟨(some 6), none, false, .mov (.tmp 5)⟩,
    ⟨(some 7), (some (6, false)), false, .mov (.tmp 1)⟩,
    ⟨(some 8), none, false, .pick (.tmp 6) (.const (.bool true)) (.tmp 7)⟩,
    ⟨(some 4), none, false, .mov (.tmp 8)⟩]) .ret))
theorem fits_ids_Union_1 : Fits Tryd.prog 1 ids_Union_1 ic_ids_Union_1 [.tmp 4] 2 :=
  ⟨Tryd.f40, Tryd.func40, by decide, by kernel_rfl, by kernel_rfl⟩

/-- chantry/ids.Meet$1 -/
noncomputable def ic_ids_Meet_1 : IC :=
  (.seq (.ops [
    ⟨(some 4), none, false, .mov (.const (.bool false))⟩]) (.seq (.ops [
    ⟨(some 5), none, false, .mov (.tmp 0)⟩,
    ⟨(some 6), none, false, .mov (.tmp 5)⟩,
    ⟨(some 7), (some (6, true)), false, .mov (.tmp 1)⟩,
    ⟨(some 8), none, false, .pick (.tmp 6) (.tmp 7) (.const (.bool false))⟩,
    ⟨(some 4), none, false, .mov (.tmp 8)⟩]) .ret))
theorem fits_ids_Meet_1 : Fits Tryd.prog 1 ids_Meet_1 ic_ids_Meet_1 [.tmp 4] 2 :=
  ⟨Tryd.f41, Tryd.func41, by decide, by kernel_rfl, by kernel_rfl⟩

/-- chantry/ids.Less$1 -/
noncomputable def ic_ids_Less_1 : IC :=
  (.seq (.ops [
    ⟨(some 4), none, false, .mov (.const (.bool false))⟩]) (.seq (.ops [
    ⟨(some 5), none, false, .mov (.tmp 0)⟩,
    ⟨(some 6), none, false, .mov (.tmp 5)⟩,
    ⟨(some 7), (some (6, true)), false, .mov (.tmp 1)⟩,
    ⟨(some 8), (some (6, true)), false, .un .not (.tmp 7)⟩,
    ⟨(some 9), none, false, .pick (.tmp 6) (.tmp 8) (.const (.bool false))⟩,
    ⟨(some 4), none, false, .mov (.tmp 9)⟩]) .ret))
theorem fits_ids_Less_1 : Fits Tryd.prog 1 ids_Less_1 ic_ids_Less_1 [.tmp 4] 2 :=
  ⟨Tryd.f42, Tryd.func42, by decide, by kernel_rfl, by kernel_rfl⟩

/-- chantry/ids.digit -/
noncomputable def ic_ids_digit : IC :=
  (.seq (.ops [
    ⟨(some 2), none, false, .mov (.const (.int .i64 0))⟩]) (.seq (.seq (.ops [
    ⟨(some 3), none, false, .mov (.tmp 0)⟩,
    ⟨(some 4), none, false, .bin .geq (.tmp 3) (.const (.int .u8 65))⟩,
    ⟨(some 5), none, false, .mov (.tmp 4)⟩,
    ⟨(some 6), (some (5, true)), false, .mov (.tmp 0)⟩,
    ⟨(some 7), (some (5, true)), false, .bin .leq (.tmp 6) (.const (.int .u8 70))⟩,
    ⟨(some 8), none, false, .pick (.tmp 5) (.tmp 7) (.const (.bool false))⟩]) (.cond (.tmp 8) (.ops [
    ⟨(some 9), none, false, .mov (.tmp 0)⟩,
    ⟨(some 10), none, false, .bin .add (.tmp 9) (.const (.int .u8 32))⟩,
    ⟨(some 0), none, false, .mov (.tmp 10)⟩]) .skip)) (.seq (.ops [
    ⟨(some 11), none, false, .mov (.tmp 0)⟩,
    ⟨(some 12), none, false, .call strings_IndexByte [(.const (.string ⟨#[48, 49, 50, 51, 52, 53, 54, 55, 56, 57, 97, 98, 99, 100, 101, 102]⟩)), (.tmp 11)]⟩,
    ⟨(some 2), none, false, .mov (.tmp 12)⟩]) .ret)))
theorem fits_ids_digit : Fits Tryd.prog 1 ids_digit ic_ids_digit [.tmp 2] 1 :=
  ⟨Tryd.f43, Tryd.func43, by decide, by kernel_rfl, by kernel_rfl⟩

/-- slices.Concat[[]byte,byte] -/
noncomputable def ic_slices_Concat_byte_byte : IC :=
  (.seq (.ops [
    ⟨(some 2), none, false, .mov (.const (.slice none 0 0))⟩]) (.seq (.ops [
    ⟨(some 3), none, false, .mov (.const (.int .i64 0))⟩]) (.seq (.seq (.ops [
    ⟨(some 9), none, false, .mov (.tmp 0)⟩,
    ⟨(some 10), none, false, .lens false (.tmp 9)⟩,
    ⟨(some 11), none, false, .mov (.const (.int .i64 0))⟩]) (.block 0 (.loop (.seq (.ops [
    ⟨(some 12), none, false, .bin .lss (.tmp 11) (.tmp 10)⟩]) (.seq (.cond (.tmp 12) .skip (.exit 0)) (.seq (.block 1 (.seq (.ops [
    ⟨(some 13), none, false, .iaddr (.tmp 9) (.tmp 11) 1⟩,
    ⟨(some 14), none, false, .load1 (.tmp 13)⟩,
    ⟨(some 5), none, false, .mov (.tmp 14)⟩]) (.seq (.ops [
    ⟨(some 15), none, false, .mov (.tmp 3)⟩,
    ⟨(some 16), none, false, .mov (.tmp 5)⟩,
    ⟨(some 17), none, false, .lens false (.tmp 16)⟩,
    ⟨(some 18), none, false, .bin .add (.tmp 15) (.tmp 17)⟩,
    ⟨(some 3), none, false, .mov (.tmp 18)⟩]) (.seq (.ops [
    ⟨(some 19), none, false, .mov (.tmp 3)⟩,
    ⟨(some 20), none, false, .bin .lss (.tmp 19) (.const (.int .i64 0))⟩]) (.cond (.tmp 20) (.ops [
    ⟨(some 21), none, false, .ifc 9 (.const (.string ⟨#[108, 101, 110, 32, 111, 117, 116, 32, 111, 102, 32, 114, 97, 110, 103, 101]⟩))⟩,
    ⟨none, none, false, .fail⟩]) .skip))))) (.ops [
    ⟨(some 22), none, false, .bin .add (.tmp 11) (.const (.int .i64 1))⟩,
    ⟨(some 11), none, false, .mov (.tmp 22)⟩]))))))) (.seq (.ops [
    ⟨(some 23), none, false, .mov (.tmp 3)⟩,
    ⟨(some 24), none, false, .call slices_Grow_byte_byte [(.const (.slice none 0 0)), (.tmp 23)]⟩,
    ⟨(some 6), none, false, .mov (.tmp 24)⟩]) (.seq (.seq (.ops [
    ⟨(some 25), none, false, .mov (.tmp 0)⟩,
    ⟨(some 26), none, false, .lens false (.tmp 25)⟩,
    ⟨(some 27), none, false, .mov (.const (.int .i64 0))⟩]) (.block 2 (.loop (.seq (.ops [
    ⟨(some 28), none, false, .bin .lss (.tmp 27) (.tmp 26)⟩]) (.seq (.cond (.tmp 28) .skip (.exit 2)) (.seq (.block 3 (.seq (.ops [
    ⟨(some 29), none, false, .iaddr (.tmp 25) (.tmp 27) 1⟩,
    ⟨(some 30), none, false, .load1 (.tmp 29)⟩,
    ⟨(some 8), none, false, .mov (.tmp 30)⟩]) (.ops [
    ⟨(some 31), none, false, .mov (.tmp 6)⟩,
    ⟨(some 32), none, false, .mov (.tmp 8)⟩,
    ⟨(some 33), none, false, .app (.tmp 31) (.tmp 32) 1 1⟩,
    ⟨(some 6), none, false, .mov (.tmp 33)⟩]))) (.ops [
    ⟨(some 34), none, false, .bin .add (.tmp 27) (.const (.int .i64 1))⟩,
    ⟨(some 27), none, false, .mov (.tmp 34)⟩]))))))) (.seq (.ops [
    ⟨(some 35), none, false, .mov (.tmp 6)⟩,
    ⟨(some 2), none, false, .mov (.tmp 35)⟩]) .ret))))))
theorem fits_slices_Concat_byte_byte : Fits Tryd.prog 1 slices_Concat_byte_byte ic_slices_Concat_byte_byte [.tmp 2] 1 :=
  ⟨Tryd.f45, Tryd.func45, by decide, by kernel_rfl, by kernel_rfl⟩

/-- (*chantry/sha.Hash).mix -/
noncomputable def ic_sha_Hash_mix : IC :=
  (.seq (.ops [
    ⟨(some 10), none, false, .mov (.tmp 0)⟩,
    ⟨(some 11), none, false, .nilc (.tmp 10)⟩,
    ⟨(some 12), none, false, .faddr (.tmp 11) 0⟩,
    ⟨(some 13), none, false, .loadn (.tmp 12) 8⟩,
    ⟨(some 4), none, false, .new [.int .u32 0, .int .u32 0, .int .u32 0, .int .u32 0, .int .u32 0, .int .u32 0, .int .u32 0, .int .u32 0]⟩,
    ⟨none, none, false, .store (.tmp 4) (.tmp 13) 8⟩]) (.seq (.seq (.ops [
    ⟨(some 14), none, false, .mov (.tmp 1)⟩,
    ⟨(some 15), none, false, .call sha_schedule [(.tmp 14)]⟩,
    ⟨(some 16), none, false, .mov (.const (.int .i64 0))⟩]) (.block 0 (.loop (.seq (.ops [
    ⟨(some 17), none, false, .bin .lss (.tmp 16) (.const (.int .i64 64))⟩]) (.seq (.cond (.tmp 17) .skip (.exit 0)) (.seq (.block 1 (.seq (.ops [
    ⟨(some 18), none, false, .mov (.tmp 16)⟩,
    ⟨(some 19), none, false, .idxa1 (.tmp 15) (.tmp 16) 64⟩,
    ⟨(some 5), none, false, .mov (.tmp 18)⟩,
    ⟨(some 6), none, false, .mov (.tmp 19)⟩]) (.seq (.draw [
    ⟨(some 20), none, false, .iarr (.tmp 4) (.const (.int .i64 7)) 8 1⟩,
    ⟨(some 21), none, true, .load1 (.tmp 20)⟩,
    ⟨(some 22), none, false, .iarr (.tmp 4) (.const (.int .i64 4)) 8 1⟩,
    ⟨(some 23), none, false, .load1 (.tmp 22)⟩,
    ⟨(some 25), none, false, .iarr (.tmp 4) (.const (.int .i64 4)) 8 1⟩,
    ⟨(some 26), none, true, .load1 (.tmp 25)⟩,
    ⟨(some 29), none, false, .iarr (.tmp 4) (.const (.int .i64 4)) 8 1⟩,
    ⟨(some 30), none, true, .load1 (.tmp 29)⟩,
    ⟨(some 34), none, false, .iarr (.tmp 4) (.const (.int .i64 4)) 8 1⟩,
    ⟨(some 35), none, true, .load1 (.tmp 34)⟩,
    ⟨(some 36), none, false, .iarr (.tmp 4) (.const (.int .i64 5)) 8 1⟩,
    ⟨(some 37), none, true, .load1 (.tmp 36)⟩,
    ⟨(some 38), none, false, .bin .and (.tmp 35) (.tmp 37)⟩,
    ⟨(some 39), none, false, .iarr (.tmp 4) (.const (.int .i64 4)) 8 1⟩,
    ⟨(some 40), none, true, .load1 (.tmp 39)⟩,
    ⟨(some 41), none, false, .un .xor (.tmp 40)⟩,
    ⟨(some 42), none, false, .iarr (.tmp 4) (.const (.int .i64 6)) 8 1⟩,
    ⟨(some 43), none, true, .load1 (.tmp 42)⟩,
    ⟨(some 44), none, false, .bin .and (.tmp 41) (.tmp 43)⟩,
    ⟨(some 45), none, false, .bin .xor (.tmp 38) (.tmp 44)⟩,
    ⟨(some 47), none, false, .mov (.tmp 5)⟩,
    ⟨(some 48), none, false, .iarr (.global 0) (.tmp 47) 64 1⟩,
    ⟨(some 49), none, true, .load1 (.tmp 48)⟩,
    ⟨(some 51), none, false, .mov (.tmp 6)⟩,
    ⟨(some 24), none, true, .call sha_right [(.tmp 23), (.const (.int .i64 6))]⟩,
    ⟨(some 27), none, true, .call sha_right [(.tmp 26), (.const (.int .i64 11))]⟩,
    ⟨(some 28), none, false, .bin .xor (.tmp 24) (.tmp 27)⟩,
    ⟨(some 31), none, true, .call sha_right [(.tmp 30), (.const (.int .i64 25))]⟩,
    ⟨(some 32), none, false, .bin .xor (.tmp 28) (.tmp 31)⟩,
    ⟨(some 33), none, false, .bin .add (.tmp 21) (.tmp 32)⟩,
    ⟨(some 46), none, false, .bin .add (.tmp 33) (.tmp 45)⟩,
    ⟨(some 50), none, false, .bin .add (.tmp 46) (.tmp 49)⟩,
    ⟨(some 52), none, false, .bin .add (.tmp 50) (.tmp 51)⟩,
    ⟨(some 7), none, false, .mov (.tmp 52)⟩]) (.seq (.draw [
    ⟨(some 53), none, false, .iarr (.tmp 4) (.const (.int .i64 0)) 8 1⟩,
    ⟨(some 54), none, false, .load1 (.tmp 53)⟩,
    ⟨(some 56), none, false, .iarr (.tmp 4) (.const (.int .i64 0)) 8 1⟩,
    ⟨(some 57), none, true, .load1 (.tmp 56)⟩,
    ⟨(some 60), none, false, .iarr (.tmp 4) (.const (.int .i64 0)) 8 1⟩,
    ⟨(some 61), none, true, .load1 (.tmp 60)⟩,
    ⟨(some 64), none, false, .iarr (.tmp 4) (.const (.int .i64 0)) 8 1⟩,
    ⟨(some 65), none, true, .load1 (.tmp 64)⟩,
    ⟨(some 66), none, false, .iarr (.tmp 4) (.const (.int .i64 1)) 8 1⟩,
    ⟨(some 67), none, true, .load1 (.tmp 66)⟩,
    ⟨(some 68), none, false, .bin .and (.tmp 65) (.tmp 67)⟩,
    ⟨(some 69), none, false, .iarr (.tmp 4) (.const (.int .i64 0)) 8 1⟩,
    ⟨(some 70), none, true, .load1 (.tmp 69)⟩,
    ⟨(some 71), none, false, .iarr (.tmp 4) (.const (.int .i64 2)) 8 1⟩,
    ⟨(some 72), none, true, .load1 (.tmp 71)⟩,
    ⟨(some 73), none, false, .bin .and (.tmp 70) (.tmp 72)⟩,
    ⟨(some 74), none, false, .bin .xor (.tmp 68) (.tmp 73)⟩,
    ⟨(some 75), none, false, .iarr (.tmp 4) (.const (.int .i64 1)) 8 1⟩,
    ⟨(some 76), none, true, .load1 (.tmp 75)⟩,
    ⟨(some 77), none, false, .iarr (.tmp 4) (.const (.int .i64 2)) 8 1⟩,
    ⟨(some 78), none, true, .load1 (.tmp 77)⟩,
    ⟨(some 79), none, false, .bin .and (.tmp 76) (.tmp 78)⟩,
    ⟨(some 80), none, false, .bin .xor (.tmp 74) (.tmp 79)⟩,
    ⟨(some 55), none, true, .call sha_right [(.tmp 54), (.const (.int .i64 2))]⟩,
    ⟨(some 58), none, true, .call sha_right [(.tmp 57), (.const (.int .i64 13))]⟩,
    ⟨(some 59), none, false, .bin .xor (.tmp 55) (.tmp 58)⟩,
    ⟨(some 62), none, true, .call sha_right [(.tmp 61), (.const (.int .i64 22))]⟩,
    ⟨(some 63), none, false, .bin .xor (.tmp 59) (.tmp 62)⟩,
    ⟨(some 81), none, false, .bin .add (.tmp 63) (.tmp 80)⟩,
    ⟨(some 8), none, false, .mov (.tmp 81)⟩]) (.ops [
    ⟨(some 82), none, false, .mov (.tmp 7)⟩,
    ⟨(some 83), none, false, .mov (.tmp 8)⟩,
    ⟨(some 84), none, false, .bin .add (.tmp 82) (.tmp 83)⟩,
    ⟨(some 85), none, false, .iarr (.tmp 4) (.const (.int .i64 0)) 8 1⟩,
    ⟨(some 86), none, false, .load1 (.tmp 85)⟩,
    ⟨(some 87), none, false, .iarr (.tmp 4) (.const (.int .i64 1)) 8 1⟩,
    ⟨(some 88), none, false, .load1 (.tmp 87)⟩,
    ⟨(some 89), none, false, .iarr (.tmp 4) (.const (.int .i64 2)) 8 1⟩,
    ⟨(some 90), none, false, .load1 (.tmp 89)⟩,
    ⟨(some 91), none, false, .iarr (.tmp 4) (.const (.int .i64 3)) 8 1⟩,
    ⟨(some 92), none, false, .load1 (.tmp 91)⟩,
    ⟨(some 93), none, false, .mov (.tmp 7)⟩,
    ⟨(some 94), none, false, .bin .add (.tmp 92) (.tmp 93)⟩,
    ⟨(some 95), none, false, .iarr (.tmp 4) (.const (.int .i64 4)) 8 1⟩,
    ⟨(some 96), none, false, .load1 (.tmp 95)⟩,
    ⟨(some 97), none, false, .iarr (.tmp 4) (.const (.int .i64 5)) 8 1⟩,
    ⟨(some 98), none, false, .load1 (.tmp 97)⟩,
    ⟨(some 99), none, false, .iarr (.tmp 4) (.const (.int .i64 6)) 8 1⟩,
    ⟨(some 100), none, false, .load1 (.tmp 99)⟩,
    ⟨(some 101), none, false, .build [.int .u32 0, .int .u32 0, .int .u32 0, .int .u32 0, .int .u32 0, .int .u32 0, .int .u32 0, .int .u32 0] [(0, 1, (.tmp 84)), (1, 1, (.tmp 86)), (2, 1, (.tmp 88)), (3, 1, (.tmp 90)), (4, 1, (.tmp 94)), (5, 1, (.tmp 96)), (6, 1, (.tmp 98)), (7, 1, (.tmp 100))]⟩,
    ⟨none, none, false, .store (.tmp 4) (.tmp 101) 8⟩]))))) (.ops [
    ⟨(some 102), none, false, .bin .add (.tmp 16) (.const (.int .i64 1))⟩,
    ⟨(some 16), none, false, .mov (.tmp 102)⟩]))))))) (.seq (.ops [
    ⟨(some 103), none, false, .mov (.const (.int .i64 0))⟩]) (.block 2 (.loop (.seq (.ops [
    ⟨(some 104), none, false, .bin .lss (.tmp 103) (.const (.int .i64 8))⟩]) (.seq (.cond (.tmp 104) .skip (.exit 2)) (.seq (.block 3 (.seq (.ops [
    ⟨(some 105), none, false, .mov (.tmp 103)⟩,
    ⟨(some 9), none, false, .mov (.tmp 105)⟩]) (.draw [
    ⟨(some 106), none, false, .mov (.tmp 0)⟩,
    ⟨(some 107), none, false, .mov (.tmp 9)⟩,
    ⟨(some 108), none, false, .nilc (.tmp 106)⟩,
    ⟨(some 109), none, false, .faddr (.tmp 108) 0⟩,
    ⟨(some 110), none, false, .iarr (.tmp 109) (.tmp 107) 8 1⟩,
    ⟨(some 111), none, false, .load1 (.tmp 110)⟩,
    ⟨(some 112), none, false, .mov (.tmp 9)⟩,
    ⟨(some 113), none, false, .iarr (.tmp 4) (.tmp 112) 8 1⟩,
    ⟨(some 114), none, false, .load1 (.tmp 113)⟩,
    ⟨(some 115), none, false, .bin .add (.tmp 111) (.tmp 114)⟩,
    ⟨(some 116), none, false, .nilc (.tmp 106)⟩,
    ⟨(some 117), none, false, .faddr (.tmp 116) 0⟩,
    ⟨(some 118), none, false, .iarr (.tmp 117) (.tmp 107) 8 1⟩,
    ⟨none, none, false, .store (.tmp 118) (.tmp 115) 1⟩]))) (.ops [
    ⟨(some 119), none, false, .bin .add (.tmp 103) (.const (.int .i64 1))⟩,
    ⟨(some 103), none, false, .mov (.tmp 119)⟩])))))))))
theorem fits_sha_Hash_mix : Fits Tryd.prog 1 sha_Hash_mix ic_sha_Hash_mix [] 2 :=
  ⟨Tryd.f46, Tryd.func46, by decide, by kernel_rfl, by kernel_rfl⟩

/-- slices.Clone[[]byte,byte] -/
noncomputable def ic_slices_Clone_byte_byte : IC :=
  (.seq (.ops [
    ⟨(some 2), none, false, .mov (.const (.slice none 0 0))⟩]) (.seq (.seq (.ops [
    ⟨(some 3), none, false, .mov (.tmp 0)⟩,
    ⟨(some 4), none, false, .isnil (.slice 5) (.tmp 3) false⟩]) (.cond (.tmp 4) (.seq (.ops [
    ⟨(some 2), none, false, .mov (.const (.slice none 0 0))⟩]) .ret) .skip)) (.seq (.ops [
    ⟨(some 5), none, false, .lit [.int .u8 0] 1 0 []⟩,
    ⟨(some 6), none, false, .mov (.tmp 0)⟩,
    ⟨(some 7), none, false, .app (.tmp 5) (.tmp 6) 1 1⟩,
    ⟨(some 2), none, false, .mov (.tmp 7)⟩]) .ret)))
theorem fits_slices_Clone_byte_byte : Fits Tryd.prog 1 slices_Clone_byte_byte ic_slices_Clone_byte_byte [.tmp 2] 1 :=
  ⟨Tryd.f47, Tryd.func47, by decide, by kernel_rfl, by kernel_rfl⟩

/-- (*chantry/sha.Hash).end -/
noncomputable def ic_sha_Hash_end : IC :=
  (.seq (.ops [
    ⟨(some 2), none, false, .mov (.const (.slice none 0 0))⟩]) (.seq (.ops [
    ⟨(some 5), none, false, .lit [.int .u8 0] 1 1 [(0, 1, (.const (.int .u8 128)))]⟩,
    ⟨(some 3), none, false, .mov (.tmp 5)⟩]) (.seq (.block 0 (.loop (.seq (.seq (.ops [
    ⟨(some 6), none, false, .mov (.tmp 0)⟩,
    ⟨(some 7), none, false, .nilc (.tmp 6)⟩,
    ⟨(some 8), none, false, .faddr (.tmp 7) 9⟩,
    ⟨(some 9), none, false, .load1 (.tmp 8)⟩,
    ⟨(some 10), none, false, .mov (.tmp 3)⟩,
    ⟨(some 11), none, false, .lens false (.tmp 10)⟩,
    ⟨(some 12), none, false, .bin .add (.tmp 9) (.tmp 11)⟩,
    ⟨(some 13), none, false, .bin .add (.tmp 12) (.const (.int .i64 8))⟩,
    ⟨(some 14), none, false, .bin .rem (.tmp 13) (.const (.int .i64 64))⟩,
    ⟨(some 15), none, false, .bin .neq (.tmp 14) (.const (.int .i64 0))⟩]) (.cond (.tmp 15) .skip (.exit 0))) (.block 1 (.ops [
    ⟨(some 16), none, false, .mov (.tmp 3)⟩,
    ⟨(some 17), none, false, .lit [.int .u8 0] 1 1 [(0, 1, (.const (.int .u8 0)))]⟩,
    ⟨(some 18), none, false, .app (.tmp 16) (.tmp 17) 1 1⟩,
    ⟨(some 3), none, false, .mov (.tmp 18)⟩]))))) (.seq (.seq (.ops [
    ⟨(some 4), none, false, .mov (.const (.int .i64 7))⟩]) (.block 2 (.loop (.seq (.seq (.ops [
    ⟨(some 19), none, false, .mov (.tmp 4)⟩,
    ⟨(some 20), none, false, .bin .geq (.tmp 19) (.const (.int .i64 0))⟩]) (.cond (.tmp 20) .skip (.exit 2))) (.seq (.block 3 (.ops [
    ⟨(some 23), none, false, .mov (.tmp 3)⟩,
    ⟨(some 24), none, false, .mov (.tmp 0)⟩,
    ⟨(some 25), none, false, .nilc (.tmp 24)⟩,
    ⟨(some 26), none, false, .faddr (.tmp 25) 9⟩,
    ⟨(some 27), none, false, .load1 (.tmp 26)⟩,
    ⟨(some 28), none, false, .bin .mul (.tmp 27) (.const (.int .i64 8))⟩,
    ⟨(some 29), none, false, .mov (.tmp 4)⟩,
    ⟨(some 30), none, false, .bin .mul (.const (.int .i64 8)) (.tmp 29)⟩,
    ⟨(some 31), none, false, .bin .shr (.tmp 28) (.tmp 30)⟩,
    ⟨(some 32), none, false, .conv .u8 (.tmp 31)⟩,
    ⟨(some 33), none, false, .lit [.int .u8 0] 1 1 [(0, 1, (.tmp 32))]⟩,
    ⟨(some 34), none, false, .app (.tmp 23) (.tmp 33) 1 1⟩,
    ⟨(some 3), none, false, .mov (.tmp 34)⟩])) (.ops [
    ⟨(some 21), none, false, .mov (.tmp 4)⟩,
    ⟨(some 22), none, false, .bin .sub (.tmp 21) (.const (.int .i64 1))⟩,
    ⟨(some 4), none, false, .mov (.tmp 22)⟩])))))) (.seq (.ops [
    ⟨(some 35), none, false, .mov (.tmp 3)⟩,
    ⟨(some 2), none, false, .mov (.tmp 35)⟩]) .ret)))))
theorem fits_sha_Hash_end : Fits Tryd.prog 1 sha_Hash_end ic_sha_Hash_end [.tmp 2] 1 :=
  ⟨Tryd.f48, Tryd.func48, by decide, by kernel_rfl, by kernel_rfl⟩

/-- slices.Index[[]string,string] -/
noncomputable def ic_slices_Index_string_string : IC :=
  (.seq (.ops [
    ⟨(some 4), none, false, .mov (.const (.int .i64 0))⟩]) (.seq (.seq (.ops [
    ⟨(some 6), none, false, .mov (.tmp 0)⟩,
    ⟨(some 7), none, false, .lens false (.tmp 6)⟩,
    ⟨(some 8), none, false, .mov (.const (.int .i64 0))⟩]) (.block 0 (.loop (.seq (.ops [
    ⟨(some 9), none, false, .bin .lss (.tmp 8) (.tmp 7)⟩]) (.seq (.cond (.tmp 9) .skip (.exit 0)) (.seq (.block 1 (.seq (.ops [
    ⟨(some 10), none, false, .mov (.tmp 8)⟩,
    ⟨(some 5), none, false, .mov (.tmp 10)⟩]) (.seq (.ops [
    ⟨(some 11), none, false, .mov (.tmp 1)⟩,
    ⟨(some 12), none, false, .mov (.tmp 0)⟩,
    ⟨(some 13), none, false, .mov (.tmp 5)⟩,
    ⟨(some 14), none, false, .iaddr (.tmp 12) (.tmp 13) 1⟩,
    ⟨(some 15), none, false, .load1 (.tmp 14)⟩,
    ⟨(some 16), none, false, .bin .eql (.tmp 11) (.tmp 15)⟩]) (.cond (.tmp 16) (.seq (.ops [
    ⟨(some 17), none, false, .mov (.tmp 5)⟩,
    ⟨(some 4), none, false, .mov (.tmp 17)⟩]) .ret) .skip)))) (.ops [
    ⟨(some 18), none, false, .bin .add (.tmp 8) (.const (.int .i64 1))⟩,
    ⟨(some 8), none, false, .mov (.tmp 18)⟩]))))))) (.seq (.ops [
    ⟨(some 4), none, false, .mov (.const (.int .i64 (-1)))⟩]) .ret)))
theorem fits_slices_Index_string_string : Fits Tryd.prog 1 slices_Index_string_string ic_slices_Index_string_string [.tmp 4] 2 :=
  ⟨Tryd.f53, Tryd.func53, by decide, by kernel_rfl, by kernel_rfl⟩

/-- slices.Grow[[]byte,byte] -/
noncomputable def ic_slices_Grow_byte_byte : IC :=
  (.seq (.ops [
    ⟨(some 4), none, false, .mov (.const (.slice none 0 0))⟩]) (.seq (.seq (.ops [
    ⟨(some 5), none, false, .mov (.tmp 1)⟩,
    ⟨(some 6), none, false, .bin .lss (.tmp 5) (.const (.int .i64 0))⟩]) (.cond (.tmp 6) (.ops [
    ⟨(some 7), none, false, .ifc 9 (.const (.string ⟨#[99, 97, 110, 110, 111, 116, 32, 98, 101, 32, 110, 101, 103, 97, 116, 105, 118, 101]⟩))⟩,
    ⟨none, none, false, .fail⟩]) .skip)) (.seq (.seq (.ops [
    ⟨(some 8), none, false, .mov (.tmp 1)⟩,
    ⟨(some 9), none, false, .mov (.tmp 0)⟩,
    ⟨(some 10), none, false, .capn (.tmp 9)⟩,
    ⟨(some 11), none, false, .mov (.tmp 0)⟩,
    ⟨(some 12), none, false, .lens false (.tmp 11)⟩,
    ⟨(some 13), none, false, .bin .sub (.tmp 10) (.tmp 12)⟩,
    ⟨(some 14), none, false, .bin .sub (.tmp 8) (.tmp 13)⟩,
    ⟨(some 1), none, false, .mov (.tmp 14)⟩]) (.seq (.ops [
    ⟨(some 15), none, false, .mov (.tmp 1)⟩,
    ⟨(some 16), none, false, .bin .gtr (.tmp 15) (.const (.int .i64 0))⟩]) (.cond (.tmp 16) (.ops [
    ⟨(some 17), none, false, .mov (.tmp 0)⟩,
    ⟨(some 18), none, false, .mov (.tmp 0)⟩,
    ⟨(some 19), none, false, .capn (.tmp 18)⟩,
    ⟨(some 20), none, false, .sll (.tmp 17) none (some (.tmp 19)) none 1⟩,
    ⟨(some 21), none, false, .mov (.tmp 1)⟩,
    ⟨(some 22), none, false, .appz (.tmp 20) (.tmp 21) [.int .u8 0] 1⟩,
    ⟨(some 23), none, false, .mov (.tmp 0)⟩,
    ⟨(some 24), none, false, .lens false (.tmp 23)⟩,
    ⟨(some 25), none, false, .sll (.tmp 22) none (some (.tmp 24)) none 1⟩,
    ⟨(some 0), none, false, .mov (.tmp 25)⟩]) .skip))) (.seq (.ops [
    ⟨(some 26), none, false, .mov (.tmp 0)⟩,
    ⟨(some 4), none, false, .mov (.tmp 26)⟩]) .ret))))
theorem fits_slices_Grow_byte_byte : Fits Tryd.prog 1 slices_Grow_byte_byte ic_slices_Grow_byte_byte [.tmp 4] 2 :=
  ⟨Tryd.f55, Tryd.func55, by decide, by kernel_rfl, by kernel_rfl⟩

/-- chantry/sha.schedule -/
noncomputable def ic_sha_schedule : IC :=
  (.seq (.ops [
    ⟨(some 2), none, false, .new [.int .u32 0, .int .u32 0, .int .u32 0, .int .u32 0, .int .u32 0, .int .u32 0, .int .u32 0, .int .u32 0, .int .u32 0, .int .u32 0, .int .u32 0, .int .u32 0, .int .u32 0, .int .u32 0, .int .u32 0, .int .u32 0, .int .u32 0, .int .u32 0, .int .u32 0, .int .u32 0, .int .u32 0, .int .u32 0, .int .u32 0, .int .u32 0, .int .u32 0, .int .u32 0, .int .u32 0, .int .u32 0, .int .u32 0, .int .u32 0, .int .u32 0, .int .u32 0, .int .u32 0, .int .u32 0, .int .u32 0, .int .u32 0, .int .u32 0, .int .u32 0, .int .u32 0, .int .u32 0, .int .u32 0, .int .u32 0, .int .u32 0, .int .u32 0, .int .u32 0, .int .u32 0, .int .u32 0, .int .u32 0, .int .u32 0, .int .u32 0, .int .u32 0, .int .u32 0, .int .u32 0, .int .u32 0, .int .u32 0, .int .u32 0, .int .u32 0, .int .u32 0, .int .u32 0, .int .u32 0, .int .u32 0, .int .u32 0, .int .u32 0, .int .u32 0]⟩]) (.seq (.ops [
    ⟨(some 3), none, false, .new [.int .u32 0, .int .u32 0, .int .u32 0, .int .u32 0, .int .u32 0, .int .u32 0, .int .u32 0, .int .u32 0, .int .u32 0, .int .u32 0, .int .u32 0, .int .u32 0, .int .u32 0, .int .u32 0, .int .u32 0, .int .u32 0, .int .u32 0, .int .u32 0, .int .u32 0, .int .u32 0, .int .u32 0, .int .u32 0, .int .u32 0, .int .u32 0, .int .u32 0, .int .u32 0, .int .u32 0, .int .u32 0, .int .u32 0, .int .u32 0, .int .u32 0, .int .u32 0, .int .u32 0, .int .u32 0, .int .u32 0, .int .u32 0, .int .u32 0, .int .u32 0, .int .u32 0, .int .u32 0, .int .u32 0, .int .u32 0, .int .u32 0, .int .u32 0, .int .u32 0, .int .u32 0, .int .u32 0, .int .u32 0, .int .u32 0, .int .u32 0, .int .u32 0, .int .u32 0, .int .u32 0, .int .u32 0, .int .u32 0, .int .u32 0, .int .u32 0, .int .u32 0, .int .u32 0, .int .u32 0, .int .u32 0, .int .u32 0, .int .u32 0, .int .u32 0]⟩]) (.seq (.seq (.ops [
    ⟨(some 7), none, false, .mov (.const (.int .i64 0))⟩]) (.block 0 (.loop (.seq (.ops [
    ⟨(some 8), none, false, .bin .lss (.tmp 7) (.const (.int .i64 64))⟩]) (.seq (.cond (.tmp 8) .skip (.exit 0)) (.seq (.block 1 (.seq (.ops [
    ⟨(some 9), none, false, .mov (.tmp 7)⟩,
    ⟨(some 4), none, false, .mov (.tmp 9)⟩]) (.seq (.seq (.ops [
    ⟨(some 10), none, false, .mov (.tmp 4)⟩,
    ⟨(some 11), none, false, .bin .lss (.tmp 10) (.const (.int .i64 16))⟩]) (.cond (.tmp 11) (.seq (.draw [
    ⟨(some 12), none, false, .mov (.tmp 4)⟩,
    ⟨(some 13), none, false, .mov (.tmp 0)⟩,
    ⟨(some 14), none, false, .mov (.tmp 4)⟩,
    ⟨(some 15), none, false, .bin .mul (.const (.int .i64 4)) (.tmp 14)⟩,
    ⟨(some 16), none, false, .iaddr (.tmp 13) (.tmp 15) 1⟩,
    ⟨(some 17), none, false, .load1 (.tmp 16)⟩,
    ⟨(some 18), none, false, .conv .u32 (.tmp 17)⟩,
    ⟨(some 19), none, false, .bin .shl (.tmp 18) (.const (.int .u64 24))⟩,
    ⟨(some 20), none, false, .mov (.tmp 0)⟩,
    ⟨(some 21), none, false, .mov (.tmp 4)⟩,
    ⟨(some 22), none, false, .bin .mul (.const (.int .i64 4)) (.tmp 21)⟩,
    ⟨(some 23), none, false, .bin .add (.tmp 22) (.const (.int .i64 1))⟩,
    ⟨(some 24), none, false, .iaddr (.tmp 20) (.tmp 23) 1⟩,
    ⟨(some 25), none, false, .load1 (.tmp 24)⟩,
    ⟨(some 26), none, false, .conv .u32 (.tmp 25)⟩,
    ⟨(some 27), none, false, .bin .shl (.tmp 26) (.const (.int .u64 16))⟩,
    ⟨(some 28), none, false, .bin .or (.tmp 19) (.tmp 27)⟩,
    ⟨(some 29), none, false, .mov (.tmp 0)⟩,
    ⟨(some 30), none, false, .mov (.tmp 4)⟩,
    ⟨(some 31), none, false, .bin .mul (.const (.int .i64 4)) (.tmp 30)⟩,
    ⟨(some 32), none, false, .bin .add (.tmp 31) (.const (.int .i64 2))⟩,
    ⟨(some 33), none, false, .iaddr (.tmp 29) (.tmp 32) 1⟩,
    ⟨(some 34), none, false, .load1 (.tmp 33)⟩,
    ⟨(some 35), none, false, .conv .u32 (.tmp 34)⟩,
    ⟨(some 36), none, false, .bin .shl (.tmp 35) (.const (.int .u64 8))⟩,
    ⟨(some 37), none, false, .bin .or (.tmp 28) (.tmp 36)⟩,
    ⟨(some 38), none, false, .mov (.tmp 0)⟩,
    ⟨(some 39), none, false, .mov (.tmp 4)⟩,
    ⟨(some 40), none, false, .bin .mul (.const (.int .i64 4)) (.tmp 39)⟩,
    ⟨(some 41), none, false, .bin .add (.tmp 40) (.const (.int .i64 3))⟩,
    ⟨(some 42), none, false, .iaddr (.tmp 38) (.tmp 41) 1⟩,
    ⟨(some 43), none, false, .load1 (.tmp 42)⟩,
    ⟨(some 44), none, false, .conv .u32 (.tmp 43)⟩,
    ⟨(some 45), none, false, .bin .or (.tmp 37) (.tmp 44)⟩,
    ⟨(some 46), none, false, .iarr (.tmp 3) (.tmp 12) 64 1⟩,
    ⟨none, none, false, .store (.tmp 46) (.tmp 45) 1⟩]) (.exit 1)) .skip)) (.seq (.draw [
    ⟨(some 47), none, false, .mov (.tmp 4)⟩,
    ⟨(some 48), none, false, .bin .sub (.tmp 47) (.const (.int .i64 15))⟩,
    ⟨(some 49), none, false, .iarr (.tmp 3) (.tmp 48) 64 1⟩,
    ⟨(some 50), none, false, .load1 (.tmp 49)⟩,
    ⟨(some 51), none, false, .mov (.tmp 4)⟩,
    ⟨(some 52), none, false, .bin .sub (.tmp 51) (.const (.int .i64 2))⟩,
    ⟨(some 53), none, false, .iarr (.tmp 3) (.tmp 52) 64 1⟩,
    ⟨(some 54), none, false, .load1 (.tmp 53)⟩,
    ⟨(some 5), none, false, .mov (.tmp 50)⟩,
    ⟨(some 6), none, false, .mov (.tmp 54)⟩]) (.draw [
    ⟨(some 55), none, false, .mov (.tmp 4)⟩,
    ⟨(some 56), none, false, .mov (.tmp 4)⟩,
    ⟨(some 57), none, false, .bin .sub (.tmp 56) (.const (.int .i64 16))⟩,
    ⟨(some 58), none, false, .iarr (.tmp 3) (.tmp 57) 64 1⟩,
    ⟨(some 59), none, true, .load1 (.tmp 58)⟩,
    ⟨(some 60), none, false, .mov (.tmp 4)⟩,
    ⟨(some 61), none, false, .bin .sub (.tmp 60) (.const (.int .i64 7))⟩,
    ⟨(some 62), none, false, .iarr (.tmp 3) (.tmp 61) 64 1⟩,
    ⟨(some 63), none, true, .load1 (.tmp 62)⟩,
    ⟨(some 64), none, false, .bin .add (.tmp 59) (.tmp 63)⟩,
    ⟨(some 65), none, false, .mov (.tmp 5)⟩,
    ⟨(some 67), none, false, .mov (.tmp 5)⟩,
    ⟨(some 70), none, false, .mov (.tmp 5)⟩,
    ⟨(some 71), none, false, .bin .shr (.tmp 70) (.const (.int .u64 3))⟩,
    ⟨(some 74), none, false, .mov (.tmp 6)⟩,
    ⟨(some 76), none, false, .mov (.tmp 6)⟩,
    ⟨(some 79), none, false, .mov (.tmp 6)⟩,
    ⟨(some 80), none, false, .bin .shr (.tmp 79) (.const (.int .u64 10))⟩,
    ⟨(some 66), none, true, .call sha_right [(.tmp 65), (.const (.int .i64 7))]⟩,
    ⟨(some 68), none, true, .call sha_right [(.tmp 67), (.const (.int .i64 18))]⟩,
    ⟨(some 69), none, false, .bin .xor (.tmp 66) (.tmp 68)⟩,
    ⟨(some 72), none, false, .bin .xor (.tmp 69) (.tmp 71)⟩,
    ⟨(some 73), none, false, .bin .add (.tmp 64) (.tmp 72)⟩,
    ⟨(some 75), none, true, .call sha_right [(.tmp 74), (.const (.int .i64 17))]⟩,
    ⟨(some 77), none, true, .call sha_right [(.tmp 76), (.const (.int .i64 19))]⟩,
    ⟨(some 78), none, false, .bin .xor (.tmp 75) (.tmp 77)⟩,
    ⟨(some 81), none, false, .bin .xor (.tmp 78) (.tmp 80)⟩,
    ⟨(some 82), none, false, .bin .add (.tmp 73) (.tmp 81)⟩,
    ⟨(some 83), none, false, .iarr (.tmp 3) (.tmp 55) 64 1⟩,
    ⟨none, none, false, .store (.tmp 83) (.tmp 82) 1⟩]))))) (.ops [
    ⟨(some 84), none, false, .bin .add (.tmp 7) (.const (.int .i64 1))⟩,
    ⟨(some 7), none, false, .mov (.tmp 84)⟩]))))))) (.seq (.ops [
    ⟨(some 85), none, false, .loadn (.tmp 3) 64⟩,
    ⟨none, none, false, .store (.tmp 2) (.tmp 85) 64⟩]) .ret))))
theorem fits_sha_schedule : Fits Tryd.prog 1 sha_schedule ic_sha_schedule [.many 2 64] 1 :=
  ⟨Tryd.f56, Tryd.func56, by decide, by kernel_rfl, by kernel_rfl⟩

/-- chantry/sha.right -/
noncomputable def ic_sha_right : IC :=
  (.seq (.ops [
    ⟨(some 4), none, false, .mov (.const (.int .u32 0))⟩]) (.seq (.draw [
    ⟨(some 5), none, false, .mov (.tmp 0)⟩,
    ⟨(some 6), none, false, .mov (.tmp 1)⟩,
    ⟨(some 7), none, false, .bin .shr (.tmp 5) (.tmp 6)⟩,
    ⟨(some 8), none, false, .mov (.tmp 0)⟩,
    ⟨(some 9), none, false, .mov (.tmp 1)⟩,
    ⟨(some 10), none, false, .bin .sub (.const (.int .i64 32)) (.tmp 9)⟩,
    ⟨(some 11), none, false, .bin .shl (.tmp 8) (.tmp 10)⟩,
    ⟨(some 12), none, false, .bin .or (.tmp 7) (.tmp 11)⟩,
    ⟨(some 4), none, false, .mov (.tmp 12)⟩]) .ret))
theorem fits_sha_right : Fits Tryd.prog 1 sha_right ic_sha_right [.tmp 4] 2 :=
  ⟨Tryd.f57, Tryd.func57, by decide, by kernel_rfl, by kernel_rfl⟩

end Go.AS.C


/- The kit's contracts of slices.Sort and strings.IndexByte, laid at the chapter's program (written by the kit's lay-plain.mjs), and told of abstract states. -/
namespace Go.Proofs
open Go.Shelf
def Tryd.lays190_ren : Go.Shelf.Ren := ⟨fun | 190 => 35 | 125 => 52 | 258 => 51 | 128 => 69 | 129 => 70 | 302 => 60 | 303 => 61 | 304 => 62 | 305 => 63 | 306 => 64 | 307 => 65 | 308 => 66 | 309 => 67 | 310 => 68 | 333 => 73 | 329 => 74 | 330 => 75 | 334 => 76 | 335 => 77 | 336 => 78 | 344 => 80 | n => n, fun | 31 => 22 | 9 => 9 | 3 => 3 | 46 => 47 | 0 => 0 | 51 => 48 | 53 => 80 | 4 => 4 | 183 => 71 | 182 => 70 | 131 => 76 | 5 => 5 | 218 => 82 | 222 => 86 | 228 => 88 | 229 => 89 | n => n, fun | n => n⟩
theorem Tryd.lays190 : Go.Proofs.Lays.n190 Tryd.prog Tryd.lays190_ren := {
  mixed := by kernel_rfl
  f125 := Tryd.func52.trans (congrArg some (by kernel_rfl))
  f128 := Tryd.func69.trans (congrArg some (by kernel_rfl))
  f129 := Tryd.func70.trans (congrArg some (by kernel_rfl))
  f190 := Tryd.func35.trans (congrArg some (by kernel_rfl))
  f258 := Tryd.func51.trans (congrArg some (by kernel_rfl))
  f302 := Tryd.func60.trans (congrArg some (by kernel_rfl))
  f303 := Tryd.func61.trans (congrArg some (by kernel_rfl))
  f304 := Tryd.func62.trans (congrArg some (by kernel_rfl))
  f305 := Tryd.func63.trans (congrArg some (by kernel_rfl))
  f306 := Tryd.func64.trans (congrArg some (by kernel_rfl))
  f307 := Tryd.func65.trans (congrArg some (by kernel_rfl))
  f308 := Tryd.func66.trans (congrArg some (by kernel_rfl))
  f309 := Tryd.func67.trans (congrArg some (by kernel_rfl))
  f310 := Tryd.func68.trans (congrArg some (by kernel_rfl))
  f329 := Tryd.func74.trans (congrArg some (by kernel_rfl))
  f330 := Tryd.func75.trans (congrArg some (by kernel_rfl))
  f333 := Tryd.func73.trans (congrArg some (by kernel_rfl))
  f334 := Tryd.func76.trans (congrArg some (by kernel_rfl))
  f335 := Tryd.func77.trans (congrArg some (by kernel_rfl))
  f336 := Tryd.func78.trans (congrArg some (by kernel_rfl))
  f344 := Tryd.func80.trans (congrArg some (by kernel_rfl))
  t0 := Tryd.underlying0
  a0 := Tryd.isAgg0
  z0 := Tryd.sizeOf0
  v0 := Tryd.zeroValue0
  t3 := Tryd.underlying3
  a3 := Tryd.isAgg3
  z3 := Tryd.sizeOf3
  v3 := Tryd.zeroValue3
  t4 := Tryd.underlying4
  a4 := Tryd.isAgg4
  z4 := Tryd.sizeOf4
  v4 := Tryd.zeroValue4
  t5 := Tryd.underlying5
  a5 := Tryd.isAgg5
  z5 := Tryd.sizeOf5
  v5 := Tryd.zeroValue5
  t9 := Tryd.underlying9
  a9 := Tryd.isAgg9
  z9 := Tryd.sizeOf9
  v9 := Tryd.zeroValue9
  t31 := Tryd.underlying22
  a31 := Tryd.isAgg22
  z31 := Tryd.sizeOf22
  v31 := Tryd.zeroValue22
  t46 := Tryd.underlying47
  a46 := Tryd.isAgg47
  z46 := Tryd.sizeOf47
  v46 := Tryd.zeroValue47
  t51 := Tryd.underlying48
  a51 := Tryd.isAgg48
  z51 := Tryd.sizeOf48
  v51 := Tryd.zeroValue48
  t53 := Tryd.underlying80
  a53 := Tryd.isAgg80
  z53 := Tryd.sizeOf80
  v53 := Tryd.zeroValue80
  t131 := Tryd.underlying76
  a131 := Tryd.isAgg76
  z131 := Tryd.sizeOf76
  v131 := Tryd.zeroValue76
  t182 := Tryd.underlying70
  a182 := Tryd.isAgg70
  z182 := Tryd.sizeOf70
  v182 := Tryd.zeroValue70
  t183 := Tryd.underlying71
  a183 := Tryd.isAgg71
  z183 := Tryd.sizeOf71
  v183 := Tryd.zeroValue71
  t218 := Tryd.underlying82
  a218 := Tryd.isAgg82
  z218 := Tryd.sizeOf82
  v218 := Tryd.zeroValue82
  t222 := Tryd.underlying86
  a222 := Tryd.isAgg86
  z222 := Tryd.sizeOf86
  v222 := Tryd.zeroValue86
  t228 := Tryd.underlying88
  a228 := Tryd.isAgg88
  z228 := Tryd.sizeOf88
  v228 := Tryd.zeroValue88
  t229 := Tryd.underlying89
  a229 := Tryd.isAgg89
  z229 := Tryd.sizeOf89
  v229 := Tryd.zeroValue89 }
def Tryd.lays137_ren : Go.Shelf.Ren := ⟨fun | 137 => 54 | 217 => 71 | 266 => 79 | n => n, fun | 9 => 9 | 5 => 5 | 3 => 3 | n => n, fun | n => n⟩
theorem Tryd.lays137 : Go.Proofs.Lays.n137 Tryd.prog Tryd.lays137_ren := {
  mixed := by kernel_rfl
  f137 := Tryd.func54.trans (congrArg some (by kernel_rfl))
  f217 := Tryd.func71.trans (congrArg some (by kernel_rfl))
  f266 := Tryd.func79.trans (congrArg some (by kernel_rfl))
  t3 := Tryd.underlying3
  a3 := Tryd.isAgg3
  z3 := Tryd.sizeOf3
  v3 := Tryd.zeroValue3
  t5 := Tryd.underlying5
  a5 := Tryd.isAgg5
  z5 := Tryd.sizeOf5
  v5 := Tryd.zeroValue5
  t9 := Tryd.underlying9
  a9 := Tryd.isAgg9
  z9 := Tryd.sizeOf9
  v9 := Tryd.zeroValue9 }
end Go.Proofs
namespace Go.AS.C
open Go Go.Proofs
theorem sortsTexts : SortsTexts Tryd.prog slices_Sort_string_string :=
  ⟨fun blk off cap ss w h1 h2 h3 => Any.slices_Sort_string Tryd.lays190 blk off cap ss w h1 h2 h3, fun p cap w => Any.slices_Sort_string_none Tryd.lays190 p cap w⟩
theorem strings_IndexByte_spec {A : AH} {s : ByteArray} {c : UInt8} {Q : Value → AH → Prop} (hq : Q (.int .i64 (Lib.indexByte s.data.toList c)) A) : ACalls 1 Tryd.prog strings_IndexByte [.string s, by8 c] Q A := by
  intro μ args' w hr h1 h2
  obtain ⟨u, v, rfl⟩ : ∃ u v, args' = #[u, v] := by
    have : args'.size = 2 := by simpa using h1
    exact ⟨args'[0], args'[1], by apply Array.ext (by simpa using this); intro i hi1 hi2; simp at hi2; match i with | 0 => rfl | 1 => rfl⟩
  have e1 := (h2 0 _ u rfl rfl).string
  have e2 := (h2 1 _ v rfl rfl).int
  subst e1 e2
  refine (Any.strings_IndexByte Tryd.lays137 s (c.toNat : Int) w).mono ?_
  rintro e w' ⟨rfl, rfl⟩
  have hc : (((c.toNat : Int)).toNat).toUInt8 = c := by simp
  rw [hc]
  exact ⟨_, _, μ, A, rfl, .flat rfl, hr, Stp.refl _ _ _, hq⟩
end Go.AS.C


namespace Go.AS.C
open Go Go.Proofs
set_option linter.unusedVariables false
set_option linter.unusedSimpArgs false
set_option maxRecDepth 10000

theorem mixed : Tryd.prog.follows .mixedOrders = true := by kernel_rfl

end Go.AS.C


namespace Go.AS.C
open Go Go.Proofs
set_option linter.unusedVariables false
set_option linter.unusedSimpArgs false
set_option maxRecDepth 10000

theorem ids_Right_spec {A : AH} {s : ByteArray} {Q : Value → AH → Prop} (hq : Q (.bool (decide (s.size = 32))) A) : ACalls 1 Tryd.prog ids_Right [.string s] Q A := by
  refine ACalls.of_fits mixed fits_ids_Right rfl ?_
  unfold ic_ids_Right
  have i0 : initA [.string s] 0 = .string s := rfl
  generalize initA [.string s] = a at i0
  by_cases h : s.size = 32
  · rw [decide_eq_true h] at hq
    simp (maxSteps := 1000000) (disch := omega) only [stepS, reduceIte, Nat.reduceBEq, Nat.reduceEqDiff, tupleOf, stepT, i0]
    exact hq
  · rw [decide_eq_false h] at hq
    simp (maxSteps := 1000000) (disch := omega) only [stepS, reduceIte, Nat.reduceBEq, Nat.reduceEqDiff, tupleOf, stepT, i0]
    exact hq
end Go.AS.C


namespace Go.AS.C
open Go Go.Proofs
set_option linter.unusedVariables false
set_option linter.unusedSimpArgs false
set_option maxRecDepth 10000

def rightB (s : ByteArray) : Bool := decide (s.size = 32)
/-- A list's right ones, rising. -/
def ofT (l : List ByteArray) : List ByteArray := srtT bl (l.filter rightB)
theorem sortT_perm (l : List ByteArray) (x : ByteArray) : x ∈ sortT l ↔ x ∈ l := by
  unfold sortT
  rw [List.mem_map]
  constructor
  · rintro ⟨b, hb, rfl⟩
    rw [List.mem_mergeSort, List.mem_map] at hb
    obtain ⟨s, hs, rfl⟩ := hb
    exact hs
  · intro h
    exact ⟨bl x, by rw [List.mem_mergeSort]; exact List.mem_map.2 ⟨x, h, rfl⟩, rfl⟩
theorem sortT_srt (l : List ByteArray) : Srt bl (sortT l) := by
  unfold sortT Srt
  rw [List.pairwise_map]
  have h := List.pairwise_mergeSort (le := fun (x y : List UInt8) => decide (x ≤ y)) (fun a b c h1 h2 => by
    simp only [decide_eq_true_eq] at *
    exact List.le_trans h1 h2) (fun a b => by
    simp only [Bool.or_eq_true, decide_eq_true_eq]
    exact List.le_total a b) (l.map bl)
  exact h.imp (fun {a b} hab => by
    simp only [decide_eq_true_eq] at hab
    simpa [bl] using hab)
theorem find_self {l : List ByteArray} {x : ByteArray} : l.find? (fun e => decide (bl e = bl x)) = some x ↔ x ∈ l := by
  constructor
  · exact List.mem_of_find?_eq_some
  · intro h
    cases hf : l.find? (fun e => decide (bl e = bl x)) with
    | none => rw [List.find?_eq_none] at hf; exact absurd (by simp) (hf x h)
    | some y =>
      have := List.find?_some hf
      simp only [decide_eq_true_eq] at this
      rw [bl_inj.1 this]
def Ris (l : List ByteArray) : Prop := l.Pairwise fun a b => bl a < bl b
theorem srtT_mem' {l : List ByteArray} {x : ByteArray} : x ∈ srtT bl l ↔ x ∈ l := by rw [(srtT_spec l).2 x, find_self]
theorem srtT_ris (l : List ByteArray) : Ris (srtT bl l) := (srtT_spec l).1
theorem ofT_mem {l : List ByteArray} {x : ByteArray} : x ∈ ofT l ↔ x ∈ l ∧ x.size = 32 := by
  unfold ofT
  rw [srtT_mem', List.mem_filter]
  simp [rightB]
theorem ofT_ris (l : List ByteArray) : Ris (ofT l) := srtT_ris _
theorem ofT_len (l : List ByteArray) : (ofT l).length ≤ l.length := by
  have : ∀ m : List ByteArray, (srtT bl m).length ≤ m.length := by
    intro m
    induction m using rec_snoc with
    | nil => simp [srtT_nil]
    | snoc m t ih =>
      rw [srtT_push]
      have : (insT bl (srtT bl m) t).length ≤ (srtT bl m).length + 1 := by
        unfold insT
        have hs := congrArg List.length (List.takeWhile_append_dropWhile (p := ltW bl (bl t)) (l := srtT bl m))
        rw [List.length_append] at hs
        split
        · rename_i r R hR
          rw [hR] at hs
          split
          · omega
          · simp at hs ⊢; omega
        · simp
      simp; omega
  have h1 := this (l.filter rightB)
  have h2 := List.length_filter_le rightB l
  unfold ofT
  omega
theorem ris_ext {a b : List ByteArray} (ha : Ris a) (hb : Ris b) (h : ∀ x, x ∈ a ↔ x ∈ b) : a = b := rise_ext ha hb h
theorem dedup_sortT (l : List ByteArray) : dedup bl (sortT l) = srtT bl l := by
  obtain ⟨h1, h2⟩ := dedup_rise (sortT_srt l)
  exact ris_ext h1 (srtT_ris l) fun x => by rw [h2 x, find_self, sortT_perm, srtT_mem']
theorem ids_Of_spec {A : AH} {v : Value} {l : List ByteArray} {Q : Value → AH → Prop} (hv : SlT A v l) (hl : l.length ≤ 2 ^ 30) (hq : ∀ A' u, Le A A' → OwnT A.length A' u (ofT l) → Q u A') : ACalls 1 Tryd.prog ids_Of [v] Q A := by
  refine ACalls.of_fits mixed fits_ids_Of rfl ?_
  unfold ic_ids_Of
  have i0 : initA [v] 0 = v := rfl
  generalize initA [v] = a at i0
  have hvl := hv.len
  simp (maxSteps := 1000000) (disch := omega) only [stepS, reduceIte, Nat.reduceBEq, Nat.reduceEqDiff, tupleOf, stepT, i0, hvl]
  refine W_loop (fun a' B => ∃ k : Nat, k ≤ l.length ∧ Le A B ∧ OwnT A.length B (a' 3) ((l.take k).filter rightB) ∧ a' 6 = v ∧ a' 7 = ii l.length ∧ a' 8 = ii k) (fun a' _ => l.length - (iv (a' 8)).toNat) ?_ ?_
  · refine ⟨0, by omega, .refl _, ?_⟩
    simp (maxSteps := 1000000) (disch := omega) only [stepS, reduceIte, Nat.reduceBEq, Nat.reduceEqDiff, tupleOf, stepT, i0]
    exact ⟨OwnT.nil _ _, rfl⟩
  · rintro a2 B ⟨k, hk, hle, ho, g6, g7, g8⟩
    generalize ex : a2 3 = w at ho
    have hfl := List.length_filter_le rightB (l.take k)
    rw [List.length_take] at hfl
    rcases Nat.lt_or_ge k l.length with hlt | hge
    · obtain ⟨s, hs⟩ := get_some hlt
      obtain ⟨p, p1, p2⟩ := hv.at hs
      have p3 := p2 B hle
      have htk : l.take (k + 1) = l.take k ++ [s] := by rw [List.take_add_one, hs]; rfl
      simp (maxSteps := 1000000) (disch := omega) only [stepS, reduceIte, Nat.reduceBEq, Nat.reduceEqDiff, tupleOf, stepT, g6, g7, g8, ex, p1, p3]
      refine ids_Right_spec ?_
      by_cases hr : s.size = 32
      · have hd : decide (s.size = 32) = true := decide_eq_true hr
        obtain ⟨l1, w', B2, e1, e2, e3, _⟩ := ho.push s hle (by omega)
        simp (maxSteps := 1000000) (disch := omega) only [stepS, reduceIte, Nat.reduceBEq, Nat.reduceEqDiff, tupleOf, stepT, g6, g7, g8, ex, hd, l1, e1]
        refine ⟨⟨k + 1, by omega, e2, ?_, rfl⟩, by omega⟩
        rw [htk, List.filter_append, List.filter_cons_of_pos (by simpa [rightB] using hr)]
        exact e3
      · have hd : decide (s.size = 32) = false := decide_eq_false hr
        simp (maxSteps := 1000000) (disch := omega) only [stepS, reduceIte, Nat.reduceBEq, Nat.reduceEqDiff, tupleOf, stepT, g6, g7, g8, ex, hd]
        refine ⟨⟨k + 1, by omega, hle, ?_, rfl⟩, by omega⟩
        rw [htk, List.filter_append, List.filter_cons_of_neg (by simpa [rightB] using hr), List.filter_nil, List.append_nil]
        exact ho
    · rw [List.take_of_length_le hge] at ho hfl
      simp (maxSteps := 1000000) (disch := omega) only [stepS, reduceIte, Nat.reduceBEq, Nat.reduceEqDiff, tupleOf, stepT, g6, g7, g8, ex]
      refine sorts_spec sortsTexts ho (by omega) fun B2 k2 o2 => ?_
      simp (maxSteps := 1000000) (disch := omega) only [stepS, reduceIte, Nat.reduceBEq, Nat.reduceEqDiff, tupleOf, stepT, ex]
      refine compactS_spec mixed fits_slices_Compact_string_string o2 (by rw [sortT_len]; omega) fun B3 u k3 o3 b3 => ?_
      simp (maxSteps := 1000000) (disch := omega) only [stepS, reduceIte, Nat.reduceBEq, Nat.reduceEqDiff, tupleOf, stepT]
      have hge0 := OwnS.ge ho
      have kk : Le A B3 := (k2.trans k3).le hle (fun j hj => (hge0 j hj).1)
      rw [dedup_sortT] at o3
      exact hq _ _ kk o3
theorem ids_Has_spec {A : AH} {v : Value} {l : List ByteArray} {s : ByteArray} {Q : Value → AH → Prop} (hv : SlT A v l) (hl : l.length < 2 ^ 50) (hq : ∀ b : Bool, (b = true ↔ s ∈ l) → Q (.bool b) A) : ACalls 1 Tryd.prog ids_Has [v, .string s] Q A := by
  refine ACalls.of_fits mixed fits_ids_Has rfl ?_
  unfold ic_ids_Has
  have i0 : initA [v, .string s] 0 = v := rfl
  have i1 : initA [v, .string s] 1 = .string s := rfl
  generalize initA [v, .string s] = a at i0 i1
  simp (maxSteps := 1000000) (disch := omega) only [stepS, reduceIte, Nat.reduceBEq, Nat.reduceEqDiff, tupleOf, stepT, i0, i1]
  refine containsS_spec mixed fits_slices_Contains_string_string fits_slices_Index_string_string hv (by omega) fun b hb => ?_
  simp (maxSteps := 1000000) (disch := omega) only [stepS, reduceIte, Nat.reduceBEq, Nat.reduceEqDiff, tupleOf, stepT]
  exact hq b hb
end Go.AS.C


namespace Go.AS.C
open Go Go.Proofs
set_option linter.unusedVariables false
set_option linter.unusedSimpArgs false
set_option maxRecDepth 10000

def opt (b : Bool) (t : ByteArray) : List ByteArray := bif b then [t] else []
theorem opt_mem {b : Bool} {t x : ByteArray} : x ∈ opt b t ↔ b = true ∧ x = t := by cases b <;> simp [opt]
/-- Whether a list has a text. -/
noncomputable def hasB (l : List ByteArray) (x : ByteArray) : Bool := @decide (x ∈ l) (Classical.propDecidable _)
theorem hasB_iff {l : List ByteArray} {x : ByteArray} : hasB l x = true ↔ x ∈ l := by unfold hasB; exact @decide_eq_true_iff _ (Classical.propDecidable _)
theorem hasB_app {l m : List ByteArray} {x : ByteArray} : hasB (l ++ m) x = (hasB l x || hasB m x) := by
  rw [Bool.eq_iff_iff, Bool.or_eq_true, hasB_iff, hasB_iff, hasB_iff, List.mem_append]
theorem hasB_opt {b : Bool} {t x : ByteArray} : hasB (opt b t) x = (b && decide (x = t)) := by
  rw [Bool.eq_iff_iff, Bool.and_eq_true, hasB_iff, opt_mem, decide_eq_true_iff]
/-- Where two rising lists have been gone through so far. -/
structure BothI (p : Bool → Bool → Bool) (da db ra rb o : List ByteArray) : Prop where
  hra : Ris ra
  hrb : Ris rb
  ho : Ris o
  mem : ∀ x, x ∈ o ↔ (x ∈ da ∨ x ∈ db) ∧ p (hasB da x) (hasB db x) = true
  sep : ∀ y, y ∈ da ∨ y ∈ db → ∀ z, z ∈ ra ∨ z ∈ rb → bl y < bl z
theorem BothI.step {p : Bool → Bool → Bool} {da db ra rb o : List ByteArray} {one two : Bool} {t : ByteArray} (h : BothI p da db (opt one t ++ ra) (opt two t ++ rb) o) (hot : one = true ∨ two = true) (ht : ∀ z, z ∈ ra ∨ z ∈ rb → bl t < bl z) :
    BothI p (da ++ opt one t) (db ++ opt two t) ra rb (if p one two = true then o ++ [t] else o) := by
  have htr : t ∈ opt one t ++ ra ∨ t ∈ opt two t ++ rb := by
    rcases hot with e | e
    · exact .inl (List.mem_append.2 (.inl (opt_mem.2 ⟨e, rfl⟩)))
    · exact .inr (List.mem_append.2 (.inl (opt_mem.2 ⟨e, rfl⟩)))
  have hlt : ∀ y, y ∈ da ∨ y ∈ db → bl y < bl t := fun y hy => h.sep y hy t htr
  have hna : t ∉ da := fun hm => List.lt_irrefl _ (hlt t (.inl hm))
  have hnb : t ∉ db := fun hm => List.lt_irrefl _ (hlt t (.inr hm))
  have hno : t ∉ o := fun hm => by
    rcases ((h.mem t).1 hm).1 with e | e
    · exact hna e
    · exact hnb e
  refine ⟨(List.pairwise_append.1 h.hra).2.1, (List.pairwise_append.1 h.hrb).2.1, ?_, ?_, ?_⟩
  · split
    · refine List.pairwise_append.2 ⟨h.ho, List.pairwise_singleton .., ?_⟩
      intro y hy z hz
      rw [List.mem_singleton.1 hz]
      exact hlt y ((h.mem y).1 hy).1
    · exact h.ho
  · intro x
    by_cases hx : x = t
    · subst hx
      have na : hasB da x = false := by rw [← Bool.not_eq_true, hasB_iff]; exact hna
      have nb : hasB db x = false := by rw [← Bool.not_eq_true, hasB_iff]; exact hnb
      rw [hasB_app, hasB_app, hasB_opt, hasB_opt, na, nb, decide_eq_true rfl, Bool.false_or, Bool.false_or, Bool.and_true, Bool.and_true, List.mem_append, List.mem_append, opt_mem, opt_mem]
      simp only [hna, hnb, false_or, and_true]
      split
      · rename_i hp; simp [hp, hot]
      · rename_i hp; simp [hp, hno]
    · rw [hasB_app, hasB_app, hasB_opt, hasB_opt, decide_eq_false hx, Bool.and_false, Bool.and_false, Bool.or_false, Bool.or_false, List.mem_append, List.mem_append, opt_mem, opt_mem]
      simp only [hx, and_false, or_false]
      rw [← h.mem x]
      split
      · simp [hx]
      · rfl
  · intro y hy z hz
    have hz' : z ∈ opt one t ++ ra ∨ z ∈ opt two t ++ rb := by
      rcases hz with e | e
      · exact .inl (List.mem_append.2 (.inr e))
      · exact .inr (List.mem_append.2 (.inr e))
    rw [List.mem_append, List.mem_append, opt_mem, opt_mem] at hy
    rcases hy with (e | ⟨_, rfl⟩) | e | ⟨_, rfl⟩
    · exact h.sep y (.inl e) z hz'
    · exact ht z hz
    · exact h.sep y (.inr e) z hz'
    · exact ht z hz

theorem _root_.Go.AS.SlT.from1 {A : AH} {v : Value} {x : ByteArray} {l : List ByteArray} (h : SlT A v (x :: l)) : ∃ u, (∀ B, Le A B → sSll B v (some (.int .i64 1)) none none 1 = some (u, B)) ∧ SlT A u l := by
  have bn : ∀ c, (x :: l).length ≤ c → boundsA (x :: l).length c (some (ii (1 : Nat))) none none = some (1, (x :: l).length, c) := fun c hc => bnd_lo (by simp) hc
  have hall : ∀ B, Le A B → ∃ i o c rc st ex, v = .slice (some ⟨i, o, none⟩) (x :: l).length c ∧ (x :: l).length ≤ c ∧ B[i]? = some (.row rc st 1 ex) := fun B hB => by
    rcases (h.le hB : SlT B v (x :: l)) with ⟨_, ⟨_, h⟩ | ⟨_, h⟩ | ⟨i, o, c, rc, st, ex, h1, h2, h3, _⟩⟩
    · simp at h
    · simp at h
    · exact ⟨i, o, c, rc, st, ex, h1, h2, h3⟩
  obtain ⟨i, o, c, _, _, _, rfl, hc, _⟩ := hall A (.refl _)
  have hs : ∀ B, Le A B → sSll B (.slice (some ⟨i, o, none⟩) (x :: l).length c) (some (.int .i64 1)) none none 1 = some (.slice (some ⟨i, o + 1 * 1, none⟩) ((x :: l).length - 1) (c - 1), B) := fun B hB => by
    obtain ⟨i', o', c', rc, st, ex, e, _, hr⟩ := hall B hB
    injection e with e1 e2 e3
    injection e1 with e1
    injection e1 with e1 e4
    subst e1 e4 e3
    unfold sSll
    have b2 := bn _ hc
    rw [show ((1 : Nat) : Int) = 1 from rfl] at b2
    simp only [b2, Option.bind_some]
    unfold rowSz
    rw [hr]
    simp
  obtain ⟨u, h1, h2⟩ := Sl.cut h (l := 1) (k := (x :: l).length) (lo := some (ii (1 : Nat))) (hi := none) (by simp) (Nat.le_refl _) bn
  have h3 := hs A (.refl _)
  rw [show ((1 : Nat) : Int) = 1 from rfl] at h1
  rw [h1] at h3
  injection h3 with h3
  injection h3 with h3
  subst h3
  refine ⟨_, hs, ?_⟩
  unfold SlT
  have e : ((List.map Value.string (x :: l)).drop (1 * 1)).take (((x :: l).length - 1) * 1) = l.map .string := by
    simp [List.take_of_length_le]
  rw [e] at h2
  exact h2
theorem _root_.Go.AS.SlT.lenOf {A : AH} {v : Value} {l : List ByteArray} (h : SlT A v l) : AS.lenOf v = l.length := by
  rcases h with ⟨_, ⟨rfl, h⟩ | ⟨rfl, h⟩ | ⟨i, o, c, rc, st, ex, rfl, _⟩⟩
  · rw [h]; rfl
  · rw [h]; rfl
  · rfl
/-- fv, called with two truths, answers p. -/
def KeepB (fv : Value) (p : Bool → Bool → Bool) : Prop := ∀ (A : AH) (x y : Bool) (Q : Value → AH → Prop), Q (.bool (p x y)) A → callD fv 1 Tryd.prog [.bool x, .bool y] Q A

theorem ids_both_spec {A : AH} {va vb fv : Value} {la lb : List ByteArray} {p : Bool → Bool → Bool} {Q : Value → AH → Prop} (ha : SlT A va la) (hb : SlT A vb lb) (hla : la.length < 2 ^ 30) (hlb : lb.length < 2 ^ 30) (ra : Ris la) (rb : Ris lb) (hk : KeepB fv p)
    (hq : ∀ A' u o, Le A A' → OwnT A.length A' u o → Ris o → (∀ x, x ∈ o ↔ (x ∈ la ∨ x ∈ lb) ∧ p (hasB la x) (hasB lb x) = true) → Q u A') : ACalls 1 Tryd.prog ids_both_string [va, vb, fv] Q A := by
  refine ACalls.of_fits mixed fits_ids_both_string rfl ?_
  unfold ic_ids_both_string
  have i0 : initA [va, vb, fv] 0 = va := rfl
  have i1 : initA [va, vb, fv] 1 = vb := rfl
  have i2 : initA [va, vb, fv] 2 = fv := rfl
  generalize initA [va, vb, fv] = a at i0 i1 i2
  simp (maxSteps := 1000000) (disch := omega) only [stepS, reduceIte, Nat.reduceBEq, Nat.reduceEqDiff, tupleOf, stepT, i0, i1, i2]
  refine W_loop (fun r B => ∃ da db sa sb o, la = da ++ sa ∧ lb = db ++ sb ∧ BothI p da db sa sb o ∧ o.length ≤ da.length + db.length ∧ Le A B ∧ SlT A (r 0) sa ∧ SlT A (r 1) sb ∧ r 2 = fv ∧ OwnT A.length B (r 7) o) (fun r _ => (lenOf (r 0)) + (lenOf (r 1))) ?_ ?_
  · refine ⟨[], [], la, lb, [], rfl, rfl, ⟨ra, rb, .nil, by simp, by simp⟩, by simp, .refl _, ?_⟩
    simp (maxSteps := 1000000) (disch := omega) only [stepS, reduceIte, Nat.reduceBEq, Nat.reduceEqDiff, tupleOf, stepT, i0, i1, i2]
    exact ⟨ha, hb, OwnT.nil _ _⟩
  · rintro r B ⟨da, db, sa, sb, o, ea, eb, hI, hol, hle, h0, h1, g2, ho⟩
    generalize e0 : r 0 = wa at h0
    generalize e1 : r 1 = wb at h1
    generalize e7 : r 7 = wo at ho
    have wl := h0.len
    have wl1 := h1.len
    have l0 : lenOf wa = sa.length := h0.lenOf
    have l1 : lenOf wb = sb.length := h1.lenOf
    have la1 : la.length = da.length + sa.length := by rw [ea, List.length_append]
    have lb1 : lb.length = db.length + sb.length := by rw [eb, List.length_append]
    have la1 : la.length = da.length + sa.length := by rw [ea, List.length_append]
    have lb1 : lb.length = db.length + sb.length := by rw [eb, List.length_append]
    cases sa with
    | nil =>
      cases sb with
      | nil =>
        simp (maxSteps := 1000000) (disch := omega) only [stepS, reduceIte, Nat.reduceBEq, Nat.reduceEqDiff, tupleOf, stepT, e0, e1, e7, wl, wl1, List.length_nil]
        rw [List.append_nil] at ea eb
        subst ea eb
        exact hq _ _ _ hle ho hI.ho hI.mem
      | cons y tb =>
        have n2 : (y :: tb).length = tb.length + 1 := rfl
        obtain ⟨p1, q4, q5⟩ := h1.at (j := 0) (s := y) rfl
        have q6 := q5 B hle
        obtain ⟨u1, v4, v5⟩ := h1.from1
        have v6 := v4 B hle
        have ry := List.pairwise_cons.1 hI.hrb
        have st := BothI.step (one := false) (two := true) (t := y) (ra := []) (rb := tb) hI (by simp) (fun z hz => hz.elim (fun hz => by cases hz) (ry.1 z))
        simp (maxSteps := 1000000) (disch := omega) only [stepS, reduceIte, Nat.reduceBEq, Nat.reduceEqDiff, tupleOf, stepT, e0, e1, e7, g2, wl, wl1, List.length_nil, n2, q4, q6, v6]
        refine hk _ false true _ ?_
        by_cases hp : p false true = true
        · obtain ⟨lit1, w', B2, ap1, k2, o2, _⟩ := ho.push y hle (by omega)
          rw [if_pos hp] at st
          simp (maxSteps := 1000000) (disch := omega) only [stepS, reduceIte, Nat.reduceBEq, Nat.reduceEqDiff, tupleOf, stepT, e0, e1, e7, g2, hp, lit1, ap1]
          refine ⟨⟨_, _, _, _, _, by simp [ea, opt], by simp [eb, opt], st, by simp [opt]; omega, k2, h0, v5, o2⟩, ?_⟩
          · rw [h0.lenOf, v5.lenOf]; omega
        · rw [if_neg hp] at st
          have hp2 : p false true = false := by simpa using hp
          simp (maxSteps := 1000000) (disch := omega) only [stepS, reduceIte, Nat.reduceBEq, Nat.reduceEqDiff, tupleOf, stepT, e0, e1, e7, g2, hp2]
          refine ⟨⟨_, _, _, _, _, by simp [ea, opt], by simp [eb, opt], st, by simp [opt]; omega, hle, h0, v5, ho⟩, ?_⟩
          · rw [h0.lenOf, v5.lenOf]; omega
    | cons x ta =>
      have n1 : (x :: ta).length = ta.length + 1 := rfl
      obtain ⟨p0, q1, q2⟩ := h0.at (j := 0) (s := x) rfl
      have q3 := q2 B hle
      obtain ⟨u0, v1, v2⟩ := h0.from1
      have v3 := v1 B hle
      have rx := List.pairwise_cons.1 hI.hra
      cases sb with
      | nil =>
        have st := BothI.step (one := true) (two := false) (t := x) (ra := ta) (rb := []) hI (by simp) (fun z hz => hz.elim (rx.1 z) (fun hz => by cases hz))
        simp (maxSteps := 1000000) (disch := omega) only [stepS, reduceIte, Nat.reduceBEq, Nat.reduceEqDiff, tupleOf, stepT, e0, e1, e7, g2, wl, wl1, List.length_nil, n1, q1, q3, v3]
        refine hk _ true false _ ?_
        by_cases hp : p true false = true
        · obtain ⟨lit1, w', B2, ap1, k2, o2, _⟩ := ho.push x hle (by omega)
          rw [if_pos hp] at st
          simp (maxSteps := 1000000) (disch := omega) only [stepS, reduceIte, Nat.reduceBEq, Nat.reduceEqDiff, tupleOf, stepT, e0, e1, e7, g2, hp, lit1, ap1]
          refine ⟨⟨_, _, _, _, _, by simp [ea, opt], by simp [eb, opt], st, by simp [opt]; omega, k2, v2, h1, o2⟩, ?_⟩
          · rw [v2.lenOf, h1.lenOf]; omega
        · rw [if_neg hp] at st
          have hp2 : p true false = false := by simpa using hp
          simp (maxSteps := 1000000) (disch := omega) only [stepS, reduceIte, Nat.reduceBEq, Nat.reduceEqDiff, tupleOf, stepT, e0, e1, e7, g2, hp2]
          refine ⟨⟨_, _, _, _, _, by simp [ea, opt], by simp [eb, opt], st, by simp [opt]; omega, hle, v2, h1, ho⟩, ?_⟩
          · rw [v2.lenOf, h1.lenOf]; omega
      | cons y tb =>
        have n2 : (y :: tb).length = tb.length + 1 := rfl
        obtain ⟨p1, q4, q5⟩ := h1.at (j := 0) (s := y) rfl
        have q6 := q5 B hle
        obtain ⟨u1, v4, v5⟩ := h1.from1
        have v6 := v4 B hle
        have ry := List.pairwise_cons.1 hI.hrb
        rcases kl_tri (bl x) (bl y) with hxy | hxy | hxy
        · have d1 : decide (¬ bl y < bl x) = true := decide_eq_true (kl_asym hxy)
          have d2 : decide (¬ bl x < bl y) = false := decide_eq_false (fun h => h hxy)
          have st := BothI.step (one := true) (two := false) (t := x) (ra := ta) (rb := y :: tb) hI (by simp) (fun z hz => hz.elim (rx.1 z) (fun hz => (List.mem_cons.1 hz).elim (fun e => e ▸ hxy) (fun hz => kl_tr hxy (ry.1 z hz))))
          simp (maxSteps := 1000000) (disch := omega) only [stepS, reduceIte, Nat.reduceBEq, Nat.reduceEqDiff, tupleOf, stepT, e0, e1, e7, g2, wl, wl1, n1, n2, q1, q3, v3, q4, q6, v6, leS, d1, d2]
          refine hk _ true false _ ?_
          by_cases hp : p true false = true
          · obtain ⟨lit1, w', B2, ap1, k2, o2, _⟩ := ho.push x hle (by omega)
            rw [if_pos hp] at st
            simp (maxSteps := 1000000) (disch := omega) only [stepS, reduceIte, Nat.reduceBEq, Nat.reduceEqDiff, tupleOf, stepT, e0, e1, e7, g2, hp, lit1, ap1]
            refine ⟨⟨_, _, _, _, _, by simp [ea, opt], by simp [eb, opt], st, by simp [opt]; omega, k2, v2, h1, o2⟩, ?_⟩
            · rw [v2.lenOf, h1.lenOf]; omega
          · rw [if_neg hp] at st
            have hp2 : p true false = false := by simpa using hp
            simp (maxSteps := 1000000) (disch := omega) only [stepS, reduceIte, Nat.reduceBEq, Nat.reduceEqDiff, tupleOf, stepT, e0, e1, e7, g2, hp2]
            refine ⟨⟨_, _, _, _, _, by simp [ea, opt], by simp [eb, opt], st, by simp [opt]; omega, hle, v2, h1, ho⟩, ?_⟩
            · rw [v2.lenOf, h1.lenOf]; omega
        · have hxy2 := bl_inj.1 hxy
          subst hxy2
          have d1 : decide (¬ bl x < bl x) = true := decide_eq_true (kl_irr _)
          have st := BothI.step (one := true) (two := true) (t := x) (ra := ta) (rb := tb) hI (by simp) (fun z hz => hz.elim (rx.1 z) (ry.1 z))
          simp (maxSteps := 1000000) (disch := omega) only [stepS, reduceIte, Nat.reduceBEq, Nat.reduceEqDiff, tupleOf, stepT, e0, e1, e7, g2, wl, wl1, n1, n2, q1, q3, v3, q4, q6, v6, leS, d1]
          refine hk _ true true _ ?_
          by_cases hp : p true true = true
          · obtain ⟨lit1, w', B2, ap1, k2, o2, _⟩ := ho.push x hle (by omega)
            rw [if_pos hp] at st
            simp (maxSteps := 1000000) (disch := omega) only [stepS, reduceIte, Nat.reduceBEq, Nat.reduceEqDiff, tupleOf, stepT, e0, e1, e7, g2, hp, lit1, ap1]
            refine ⟨⟨_, _, _, _, _, by simp [ea, opt], by simp [eb, opt], st, by simp [opt]; omega, k2, v2, v5, o2⟩, ?_⟩
            · rw [v2.lenOf, v5.lenOf]; omega
          · rw [if_neg hp] at st
            have hp2 : p true true = false := by simpa using hp
            simp (maxSteps := 1000000) (disch := omega) only [stepS, reduceIte, Nat.reduceBEq, Nat.reduceEqDiff, tupleOf, stepT, e0, e1, e7, g2, hp2]
            refine ⟨⟨_, _, _, _, _, by simp [ea, opt], by simp [eb, opt], st, by simp [opt]; omega, hle, v2, v5, ho⟩, ?_⟩
            · rw [v2.lenOf, v5.lenOf]; omega
        · have d1 : decide (¬ bl y < bl x) = false := decide_eq_false (fun h => h hxy)
          have d2 : decide (¬ bl x < bl y) = true := decide_eq_true (kl_asym hxy)
          have st := BothI.step (one := false) (two := true) (t := y) (ra := x :: ta) (rb := tb) hI (by simp) (fun z hz => hz.elim (fun hz => (List.mem_cons.1 hz).elim (fun e => e ▸ hxy) (fun hz => kl_tr hxy (rx.1 z hz))) (ry.1 z))
          simp (maxSteps := 1000000) (disch := omega) only [stepS, reduceIte, Nat.reduceBEq, Nat.reduceEqDiff, tupleOf, stepT, e0, e1, e7, g2, wl, wl1, n1, n2, q1, q3, v3, q4, q6, v6, leS, d1, d2]
          refine hk _ false true _ ?_
          by_cases hp : p false true = true
          · obtain ⟨lit1, w', B2, ap1, k2, o2, _⟩ := ho.push y hle (by omega)
            rw [if_pos hp] at st
            simp (maxSteps := 1000000) (disch := omega) only [stepS, reduceIte, Nat.reduceBEq, Nat.reduceEqDiff, tupleOf, stepT, e0, e1, e7, g2, hp, lit1, ap1]
            refine ⟨⟨_, _, _, _, _, by simp [ea, opt], by simp [eb, opt], st, by simp [opt]; omega, k2, h0, v5, o2⟩, ?_⟩
            · rw [h0.lenOf, v5.lenOf]; omega
          · rw [if_neg hp] at st
            have hp2 : p false true = false := by simpa using hp
            simp (maxSteps := 1000000) (disch := omega) only [stepS, reduceIte, Nat.reduceBEq, Nat.reduceEqDiff, tupleOf, stepT, e0, e1, e7, g2, hp2]
            refine ⟨⟨_, _, _, _, _, by simp [ea, opt], by simp [eb, opt], st, by simp [opt]; omega, hle, h0, v5, ho⟩, ?_⟩
            · rw [h0.lenOf, v5.lenOf]; omega
end Go.AS.C


namespace Go.AS.C
open Go Go.Proofs
set_option linter.unusedVariables false
set_option linter.unusedSimpArgs false
set_option maxRecDepth 10000

noncomputable def unionT (a b : List ByteArray) : List ByteArray := ofT (a ++ b)
noncomputable def meetT (a b : List ByteArray) : List ByteArray := ofT (a.filter fun s => hasB b s)
noncomputable def lessT (a b : List ByteArray) : List ByteArray := ofT (a.filter fun s => !hasB b s)
theorem unionT_mem {a b : List ByteArray} {x : ByteArray} : x ∈ unionT a b ↔ (x ∈ a ∨ x ∈ b) ∧ x.size = 32 := by unfold unionT; rw [ofT_mem, List.mem_append]
theorem meetT_mem {a b : List ByteArray} {x : ByteArray} : x ∈ meetT a b ↔ (x ∈ a ∧ x ∈ b) ∧ x.size = 32 := by unfold meetT; rw [ofT_mem, List.mem_filter, hasB_iff]
theorem lessT_mem {a b : List ByteArray} {x : ByteArray} : x ∈ lessT a b ↔ (x ∈ a ∧ x ∉ b) ∧ x.size = 32 := by
  unfold lessT
  rw [ofT_mem, List.mem_filter, Bool.not_eq_true', ← Bool.not_eq_true, hasB_iff]
theorem unionT_len (a b : List ByteArray) : (unionT a b).length ≤ a.length + b.length := by
  unfold unionT
  have := ofT_len (a ++ b)
  rw [List.length_append] at this
  exact this
theorem meetT_len (a b : List ByteArray) : (meetT a b).length ≤ a.length := Nat.le_trans (ofT_len _) (List.length_filter_le ..)
theorem lessT_len (a b : List ByteArray) : (lessT a b).length ≤ a.length := Nat.le_trans (ofT_len _) (List.length_filter_le ..)

theorem union1_ok : calleeOk Tryd.prog ids_Union_1 = true := by kernel_rfl
theorem meet1_ok : calleeOk Tryd.prog ids_Meet_1 = true := by kernel_rfl
theorem less1_ok : calleeOk Tryd.prog ids_Less_1 = true := by kernel_rfl
theorem keep_union : KeepB (.func (.func ids_Union_1) #[] #[]) (fun x y => x || y) := by
  intro A x y Q hq
  rw [callD_func]
  refine ⟨union1_ok, ?_⟩
  simp only [List.nil_append, List.append_nil]
  refine ACalls.of_fits mixed fits_ids_Union_1 rfl ?_
  unfold ic_ids_Union_1
  have i0 : initA [.bool x, .bool y] 0 = .bool x := rfl
  have i1 : initA [.bool x, .bool y] 1 = .bool y := rfl
  generalize initA [.bool x, .bool y] = a at i0 i1
  cases x
  · simp (maxSteps := 1000000) (disch := omega) only [stepS, reduceIte, Nat.reduceBEq, Nat.reduceEqDiff, tupleOf, stepT, i0, i1]
    exact hq
  · simp (maxSteps := 1000000) (disch := omega) only [stepS, reduceIte, Nat.reduceBEq, Nat.reduceEqDiff, tupleOf, stepT, i0, i1]
    exact hq
theorem keep_meet : KeepB (.func (.func ids_Meet_1) #[] #[]) (fun x y => x && y) := by
  intro A x y Q hq
  rw [callD_func]
  refine ⟨meet1_ok, ?_⟩
  simp only [List.nil_append, List.append_nil]
  refine ACalls.of_fits mixed fits_ids_Meet_1 rfl ?_
  unfold ic_ids_Meet_1
  have i0 : initA [.bool x, .bool y] 0 = .bool x := rfl
  have i1 : initA [.bool x, .bool y] 1 = .bool y := rfl
  generalize initA [.bool x, .bool y] = a at i0 i1
  cases x
  · simp (maxSteps := 1000000) (disch := omega) only [stepS, reduceIte, Nat.reduceBEq, Nat.reduceEqDiff, tupleOf, stepT, i0, i1]
    exact hq
  · simp (maxSteps := 1000000) (disch := omega) only [stepS, reduceIte, Nat.reduceBEq, Nat.reduceEqDiff, tupleOf, stepT, i0, i1]
    exact hq
theorem keep_less : KeepB (.func (.func ids_Less_1) #[] #[]) (fun x y => x && !y) := by
  intro A x y Q hq
  rw [callD_func]
  refine ⟨less1_ok, ?_⟩
  simp only [List.nil_append, List.append_nil]
  refine ACalls.of_fits mixed fits_ids_Less_1 rfl ?_
  unfold ic_ids_Less_1
  have i0 : initA [.bool x, .bool y] 0 = .bool x := rfl
  have i1 : initA [.bool x, .bool y] 1 = .bool y := rfl
  generalize initA [.bool x, .bool y] = a at i0 i1
  cases x
  · simp (maxSteps := 1000000) (disch := omega) only [stepS, reduceIte, Nat.reduceBEq, Nat.reduceEqDiff, tupleOf, stepT, i0, i1]
    exact hq
  · cases y
    · simp (maxSteps := 1000000) (disch := omega) only [stepS, reduceIte, Nat.reduceBEq, Nat.reduceEqDiff, tupleOf, stepT, i0, i1]
      exact hq
    · simp (maxSteps := 1000000) (disch := omega) only [stepS, reduceIte, Nat.reduceBEq, Nat.reduceEqDiff, tupleOf, stepT, i0, i1]
      exact hq

section
variable {A : AH} {va vb : Value} {la lb : List ByteArray} {Q : Value → AH → Prop} (ha : SlT A va la) (hb : SlT A vb lb) (hla : la.length < 2 ^ 28) (hlb : lb.length < 2 ^ 28)
include ha hb hla hlb
theorem ids_Union_spec (hq : ∀ A' u, Le A A' → OwnT A.length A' u (unionT la lb) → Q u A') : ACalls 1 Tryd.prog ids_Union [va, vb] Q A := by
  refine ACalls.of_fits mixed fits_ids_Union rfl ?_
  unfold ic_ids_Union
  have i0 : initA [va, vb] 0 = va := rfl
  have i1 : initA [va, vb] 1 = vb := rfl
  generalize initA [va, vb] = a at i0 i1
  simp (maxSteps := 1000000) (disch := omega) only [stepS, reduceIte, Nat.reduceBEq, Nat.reduceEqDiff, tupleOf, stepT, i0, i1]
  refine ids_Of_spec ha (by omega) fun A1 u1 k1 o1 => ?_
  simp (maxSteps := 1000000) (disch := omega) only [stepS, reduceIte, Nat.reduceBEq, Nat.reduceEqDiff, tupleOf, stepT, i0, i1]
  refine ids_Of_spec (hb.le k1) (by omega) fun A2 u2 k2 o2 => ?_
  simp (maxSteps := 1000000) (disch := omega) only [stepS, reduceIte, Nat.reduceBEq, Nat.reduceEqDiff, tupleOf, stepT, i0, i1]
  have := ofT_len la
  have := ofT_len lb
  refine ids_both_spec (o1.le k2).sl o2.sl (by omega) (by omega) (ofT_ris _) (ofT_ris _) keep_union fun A3 u3 o k3 o3 r m => ?_
  simp (maxSteps := 1000000) (disch := omega) only [stepS, reduceIte, Nat.reduceBEq, Nat.reduceEqDiff, tupleOf, stepT]
  have e : o = unionT la lb := ris_ext r (ofT_ris _) fun x => by
    rw [m, unionT_mem, Bool.or_eq_true, hasB_iff, hasB_iff, and_self, ofT_mem, ofT_mem]
    constructor
    · rintro (h | h)
      · exact ⟨.inl h.1, h.2⟩
      · exact ⟨.inr h.1, h.2⟩
    · rintro ⟨h | h, h2⟩
      · exact .inl ⟨h, h2⟩
      · exact .inr ⟨h, h2⟩
  subst e
  exact hq _ _ ((k1.trans k2).trans k3) (o3.mono (k1.trans k2).len)
theorem ids_Meet_spec (hq : ∀ A' u, Le A A' → OwnT A.length A' u (meetT la lb) → Q u A') : ACalls 1 Tryd.prog ids_Meet [va, vb] Q A := by
  refine ACalls.of_fits mixed fits_ids_Meet rfl ?_
  unfold ic_ids_Meet
  have i0 : initA [va, vb] 0 = va := rfl
  have i1 : initA [va, vb] 1 = vb := rfl
  generalize initA [va, vb] = a at i0 i1
  simp (maxSteps := 1000000) (disch := omega) only [stepS, reduceIte, Nat.reduceBEq, Nat.reduceEqDiff, tupleOf, stepT, i0, i1]
  refine ids_Of_spec ha (by omega) fun A1 u1 k1 o1 => ?_
  simp (maxSteps := 1000000) (disch := omega) only [stepS, reduceIte, Nat.reduceBEq, Nat.reduceEqDiff, tupleOf, stepT, i0, i1]
  refine ids_Of_spec (hb.le k1) (by omega) fun A2 u2 k2 o2 => ?_
  simp (maxSteps := 1000000) (disch := omega) only [stepS, reduceIte, Nat.reduceBEq, Nat.reduceEqDiff, tupleOf, stepT, i0, i1]
  have := ofT_len la
  have := ofT_len lb
  refine ids_both_spec (o1.le k2).sl o2.sl (by omega) (by omega) (ofT_ris _) (ofT_ris _) keep_meet fun A3 u3 o k3 o3 r m => ?_
  simp (maxSteps := 1000000) (disch := omega) only [stepS, reduceIte, Nat.reduceBEq, Nat.reduceEqDiff, tupleOf, stepT]
  have e : o = meetT la lb := ris_ext r (ofT_ris _) fun x => by
    rw [m, meetT_mem, Bool.and_eq_true, hasB_iff, hasB_iff, ofT_mem, ofT_mem]
    constructor
    · rintro ⟨_, h1, h2⟩
      exact ⟨⟨h1.1, h2.1⟩, h1.2⟩
    · rintro ⟨⟨h1, h2⟩, h3⟩
      exact ⟨.inl ⟨h1, h3⟩, ⟨h1, h3⟩, ⟨h2, h3⟩⟩
  subst e
  exact hq _ _ ((k1.trans k2).trans k3) (o3.mono (k1.trans k2).len)
theorem ids_Less_spec (hq : ∀ A' u, Le A A' → OwnT A.length A' u (lessT la lb) → Q u A') : ACalls 1 Tryd.prog ids_Less [va, vb] Q A := by
  refine ACalls.of_fits mixed fits_ids_Less rfl ?_
  unfold ic_ids_Less
  have i0 : initA [va, vb] 0 = va := rfl
  have i1 : initA [va, vb] 1 = vb := rfl
  generalize initA [va, vb] = a at i0 i1
  simp (maxSteps := 1000000) (disch := omega) only [stepS, reduceIte, Nat.reduceBEq, Nat.reduceEqDiff, tupleOf, stepT, i0, i1]
  refine ids_Of_spec ha (by omega) fun A1 u1 k1 o1 => ?_
  simp (maxSteps := 1000000) (disch := omega) only [stepS, reduceIte, Nat.reduceBEq, Nat.reduceEqDiff, tupleOf, stepT, i0, i1]
  refine ids_Of_spec (hb.le k1) (by omega) fun A2 u2 k2 o2 => ?_
  simp (maxSteps := 1000000) (disch := omega) only [stepS, reduceIte, Nat.reduceBEq, Nat.reduceEqDiff, tupleOf, stepT, i0, i1]
  have := ofT_len la
  have := ofT_len lb
  refine ids_both_spec (o1.le k2).sl o2.sl (by omega) (by omega) (ofT_ris _) (ofT_ris _) keep_less fun A3 u3 o k3 o3 r m => ?_
  simp (maxSteps := 1000000) (disch := omega) only [stepS, reduceIte, Nat.reduceBEq, Nat.reduceEqDiff, tupleOf, stepT]
  have e : o = lessT la lb := ris_ext r (ofT_ris _) fun x => by
    rw [m, lessT_mem, Bool.and_eq_true, Bool.not_eq_true', ← Bool.not_eq_true, hasB_iff, hasB_iff, ofT_mem, ofT_mem]
    constructor
    · rintro ⟨_, h1, h2⟩
      exact ⟨⟨h1.1, fun h => h2 ⟨h, h1.2⟩⟩, h1.2⟩
    · rintro ⟨⟨h1, h2⟩, h3⟩
      exact ⟨.inl ⟨h1, h3⟩, ⟨h1, h3⟩, fun h => h2 h.1⟩
  subst e
  exact hq _ _ ((k1.trans k2).trans k3) (o3.mono (k1.trans k2).len)
end
end Go.AS.C


namespace Go.AS.C
open Go
set_option linter.unusedVariables false
set_option linter.unusedSimpArgs false
set_option maxRecDepth 10000

/-- One bit's turn. -/
def bit1 (c : BitVec 32) : BitVec 32 := (c >>> 1) ^^^ (2197175160#32 &&& -(c &&& 1#32))

def bitsN : Nat → BitVec 32 → BitVec 32
  | 0, c => c
  | n + 1, c => bit1 (bitsN n c)

def byte1 (c : BitVec 32) (b : UInt8) : BitVec 32 := bitsN 8 (c ^^^ BitVec.ofNat 32 b.toNat)

def more (s : BitVec 32) (bs : List UInt8) : BitVec 32 := ~~~ (bs.foldl byte1 (~~~ s))

theorem flat_take_le {α : Type} (l : List (List α)) (k : Nat) : (l.take k).flatten.length ≤ l.flatten.length := by
  conv => rhs; rw [← List.take_append_drop k l, List.flatten_append, List.length_append]
  omega

theorem flat_take_succ {α : Type} (l : List (List α)) {k : Nat} {x : List α} (h : l[k]? = some x) : (l.take (k + 1)).flatten = (l.take k).flatten ++ x := by
  rw [List.take_add_one, h]
  simp

theorem h256 : (Value.int .u32 256) = u32 256#32 := rfl

end Go.AS.C


namespace Go.AS.C
open Go
set_option linter.unusedVariables false
set_option linter.unusedSimpArgs false

theorem wrap_i64_nat (n : Nat) (h : n < 2 ^ 62) : IntKind.i64.wrap (n : Int) = n := wrap_i64 _ (by omega) (by omega)
theorem toNat_i64 (n : Nat) (h : n < 2 ^ 62) : (BitVec.ofInt 64 (n : Int)).toNat = n := by
  rw [BitVec.ofInt_natCast, BitVec.toNat_ofNat, Nat.mod_eq_of_lt (by omega)]
theorem or_ii (a b : Nat) (ha : a < 2 ^ 62) (hb : b < 2 ^ 62) : binA .or (ii a) (ii b) = some (ii ((a ||| b : Nat) : Int)) := by
  show (if IntKind.i64 = IntKind.i64 then some (Value.int .i64 (IntKind.i64.wrap ((BitVec.ofInt 64 (a : Int) ||| BitVec.ofInt 64 (b : Int)).toNat : Int))) else none) = _
  rw [if_pos rfl, BitVec.toNat_or, toNat_i64 a ha, toNat_i64 b hb, wrap_i64_nat _ (Nat.or_lt_two_pow ha hb)]
theorem shl_ii (a : Nat) (k : IntKind) (m : Nat) (hm : m ≤ 64) (h : a * 2 ^ m < 2 ^ 62) : binA .shl (ii a) (.int k m) = some (ii ((a * 2 ^ m : Nat) : Int)) := by
  simp only [binA]
  have hn : ¬ ((m : Int) < 0) := by omega
  rw [if_neg hn]
  have : min ((m : Int).toNat) IntKind.i64.bits = m := by
    show min ((m : Int).toNat) 64 = m
    simp; omega
  rw [this, show ((2 : Int) ^ m) = ((2 ^ m : Nat) : Int) by simp, ← Int.natCast_mul, wrap_i64_nat _ h]
theorem or_low (a b k : Nat) (h : a < 2 ^ k) : a ||| (b * 2 ^ k) = a + b * 2 ^ k := by
  rw [Nat.mul_comm, Nat.or_comm, ← Nat.two_pow_add_eq_or_of_lt h, Nat.add_comm]
end Go.AS.C


namespace Go.AS.C
open Go
set_option linter.unusedVariables false
set_option linter.unusedSimpArgs false

theorem binA_and8 (a b : UInt8) : binA .and (by8 a) (by8 b) = some (by8 (a &&& b)) := by
  show (if IntKind.u8 = IntKind.u8 then some (Value.int .u8 (IntKind.u8.wrap ((BitVec.ofInt 8 (a.toNat : Int) &&& BitVec.ofInt 8 (b.toNat : Int)).toNat : Int))) else none) = _
  rw [if_pos rfl, ofInt_u8, ofInt_u8]
  have h1 : (a.toBitVec &&& b.toBitVec).toNat = (a &&& b).toNat := by simp
  rw [h1, wrap_u8 _ (a &&& b).toNat_lt]
  rfl
theorem binA_shr8 (a : UInt8) (k : IntKind) (n : Nat) (h : n ≤ 8) : binA .shr (by8 a) (.int k n) = some (by8 (UInt8.ofNat (a.toNat / 2 ^ n))) := by
  simp only [binA, by8]
  have hn : ¬ ((n : Int) < 0) := by omega
  rw [if_neg hn]
  have : min ((n : Int).toNat) IntKind.u8.bits = n := by
    show min ((n : Int).toNat) 8 = n
    simp; omega
  rw [this, show ((2 : Int) ^ n) = ((2 ^ n : Nat) : Int) by simp, Int.fdiv_eq_ediv_of_nonneg _ (Int.natCast_nonneg _)]
  congr 2
  have hlt : a.toNat / 2 ^ n < 256 := Nat.lt_of_le_of_lt (Nat.div_le_self _ _) a.toNat_lt
  rw [UInt8.toNat_ofNat', Nat.mod_eq_of_lt hlt, Int.natCast_ediv]
end Go.AS.C


namespace Go.AS.C
open Go
set_option linter.unusedVariables false
set_option linter.unusedSimpArgs false

theorem ext_bytes (s : ByteArray) (l h : Nat) : (s.extract l h).data.toList = (s.data.toList.drop l).take (h - l) := by
  rw [ByteArray.data_extract, Array.toList_extract, List.extract_eq_take_drop]
theorem size_bytes (s : ByteArray) : s.size = s.data.toList.length := by rw [Array.length_toList]; rfl
theorem s2b_row (A : AH) (s : ByteArray) : sS2b A (.string s) = some (.slice (some ⟨A.length, 0, none⟩) s.size s.size, A ++ [.row (s.data.toList.map by8) .own 1 false]) := id rfl
theorem s2b_byt (A : AH) (s : ByteArray) : OwnB A.length (A ++ [.row (s.data.toList.map by8) .own 1 false]) (.slice (some ⟨A.length, 0, none⟩) s.size s.size) s.data.toList :=
  own_row (get_last _ _) (size_bytes s) (Nat.le_refl _) (Nat.le_refl _)
end Go.AS.C


namespace Go.AS.C
open Go
set_option linter.unusedVariables false
set_option linter.unusedSimpArgs false
set_option maxRecDepth 10000

end Go.AS.C


namespace Go.AS.C
open Go
set_option linter.unusedVariables false
set_option linter.unusedSimpArgs false
set_option maxRecDepth 10000

/-- The numbers of the rounds. -/
def kN : List Nat := [0x428a2f98, 0x71374491, 0xb5c0fbcf, 0xe9b5dba5, 0x3956c25b, 0x59f111f1, 0x923f82a4, 0xab1c5ed5,
  0xd807aa98, 0x12835b01, 0x243185be, 0x550c7dc3, 0x72be5d74, 0x80deb1fe, 0x9bdc06a7, 0xc19bf174,
  0xe49b69c1, 0xefbe4786, 0x0fc19dc6, 0x240ca1cc, 0x2de92c6f, 0x4a7484aa, 0x5cb0a9dc, 0x76f988da,
  0x983e5152, 0xa831c66d, 0xb00327c8, 0xbf597fc7, 0xc6e00bf3, 0xd5a79147, 0x06ca6351, 0x14292967,
  0x27b70a85, 0x2e1b2138, 0x4d2c6dfc, 0x53380d13, 0x650a7354, 0x766a0abb, 0x81c2c92e, 0x92722c85,
  0xa2bfe8a1, 0xa81a664b, 0xc24b8b70, 0xc76c51a3, 0xd192e819, 0xd6990624, 0xf40e3585, 0x106aa070,
  0x19a4c116, 0x1e376c08, 0x2748774c, 0x34b0bcb5, 0x391c0cb3, 0x4ed8aa4a, 0x5b9cca4f, 0x682e6ff3,
  0x748f82ee, 0x78a5636f, 0x84c87814, 0x8cc70208, 0x90befffa, 0xa4506ceb, 0xbef9a3f7, 0xc67178f2]
def kV : List Value := kN.map fun n => .int .u32 (n : Nat)
/-- The same, as the laid variable reads. -/
def kI : List Int := kN.map fun (n : Nat) => (n : Int)
theorem kI_cells : (kI.map fun m => Value.int .u32 m) = kV := id rfl
theorem kI_flat : ∀ v ∈ kV, flatV v = true ∧ v.oneCell' = true := by
  intro v hv
  unfold kV at hv
  rw [List.mem_map] at hv
  obtain ⟨n, _, rfl⟩ := hv
  exact ⟨rfl, rfl⟩
/-- The block of the package variable. -/
def kB : Blk := .row kV .ro 0 false

abbrev W32 := BitVec 32
theorem add32 (a b : W32) : binA .add (u32 a) (u32 b) = some (u32 (a + b)) := by
  simp only [binA, u32, if_true]
  rw [← Int.natCast_add, wrap_u32_of, BitVec.toNat_ofNat, BitVec.toNat_add]
theorem shr32 (a : W32) (k : IntKind) (n : Int) (h0 : 0 ≤ n) (h : n ≤ 32) : binA .shr (u32 a) (.int k n) = some (u32 (a >>> n.toNat)) := by
  obtain ⟨m, rfl⟩ : ∃ m : Nat, n = m := ⟨n.toNat, by omega⟩
  exact binA_shr32 a k m (by omega)
theorem shl32 (a : W32) (k : IntKind) (n : Int) (h0 : 0 ≤ n) (h : n ≤ 32) : binA .shl (u32 a) (.int k n) = some (u32 (a <<< n.toNat)) := by
  obtain ⟨m, rfl⟩ : ∃ m : Nat, n = m := ⟨n.toNat, by omega⟩
  simp only [binA, u32]
  rw [if_neg (by omega)]
  have : min ((m : Int).toNat) IntKind.u32.bits = m := by
    show min ((m : Int).toNat) 32 = m
    simp; omega
  rw [this]
  congr 2
  have e : (a.toNat : Int) * 2 ^ m = ((a.toNat * 2 ^ m : Nat) : Int) := by simp
  rw [e, wrap_u32_of, Int.toNat_natCast, BitVec.toNat_shiftLeft, BitVec.toNat_ofNat, Nat.shiftLeft_eq]

def rotr (x : W32) (n : Nat) : W32 := x >>> n ||| x <<< (32 - n)
def sg0 (x : W32) : W32 := (rotr x 7 ^^^ rotr x 18) ^^^ x >>> 3
def sg1 (y : W32) : W32 := (rotr y 17 ^^^ rotr y 19) ^^^ y >>> 10
def b32 (b : UInt8) : W32 := BitVec.ofNat 32 b.toNat
def wordF (bs : List UInt8) (i : Nat) : W32 := ((b32 (bs.getD (4 * i) 0) <<< 24 ||| b32 (bs.getD (4 * i + 1) 0) <<< 16) ||| b32 (bs.getD (4 * i + 2) 0) <<< 8) ||| b32 (bs.getD (4 * i + 3) 0)
/-- The first n words of a block. -/
def schW (bs : List UInt8) : Nat → List W32
  | 0 => []
  | n + 1 => schW bs n ++ [if n < 16 then wordF bs n else ((schW bs n).getD (n - 16) 0 + (schW bs n).getD (n - 7) 0) + sg0 ((schW bs n).getD (n - 15) 0) + sg1 ((schW bs n).getD (n - 2) 0)]
theorem schW_length (bs : List UInt8) : ∀ n, (schW bs n).length = n
  | 0 => rfl
  | n + 1 => by simp [schW, schW_length bs n]
/-- A state: eight words. -/
structure S8 where
  a : W32
  b : W32
  c : W32
  d : W32
  e : W32
  f : W32
  g : W32
  h : W32
def S8.l (s : S8) : List W32 := [s.a, s.b, s.c, s.d, s.e, s.f, s.g, s.h]
def S8.cells (s : S8) : List Value := [u32 s.a, u32 s.b, u32 s.c, u32 s.d, u32 s.e, u32 s.f, u32 s.g, u32 s.h]
def upF (s : S8) (k w : W32) : W32 := (((s.h + ((rotr s.e 6 ^^^ rotr s.e 11) ^^^ rotr s.e 25)) + ((s.e &&& s.f) ^^^ (~~~ s.e &&& s.g))) + k) + w
def downF (s : S8) : W32 := ((rotr s.a 2 ^^^ rotr s.a 13) ^^^ rotr s.a 22) + (((s.a &&& s.b) ^^^ (s.a &&& s.c)) ^^^ (s.b &&& s.c))
def roundF (s : S8) (k w : W32) : S8 := ⟨upF s k w + downF s, s.a, s.b, s.c, s.d + upF s k w, s.e, s.f, s.g⟩
def kW (i : Nat) : W32 := BitVec.ofNat 32 (kN.getD i 0)
/-- The first n rounds. -/
def rounds (W : List W32) (s : S8) : Nat → S8
  | 0 => s
  | n + 1 => roundF (rounds W s n) (kW n) (W.getD n 0)
def S8.add (s t : S8) : S8 := ⟨s.a + t.a, s.b + t.b, s.c + t.c, s.d + t.d, s.e + t.e, s.f + t.f, s.g + t.g, s.h + t.h⟩
def mixF (s : S8) (bs : List UInt8) : S8 := s.add (rounds (schW bs 64) s 64)
/-- Whole blocks are taken in; what is left. -/
def eat : Nat → S8 → List UInt8 → S8 × List UInt8
  | 0, s, bs => (s, bs)
  | n + 1, s, bs => if 64 ≤ bs.length then eat n (mixF s (bs.take 64)) (bs.drop 64) else (s, bs)
def eatF (s : S8) (bs : List UInt8) : S8 × List UInt8 := eat bs.length s bs
theorem eat_more : ∀ (n : Nat) (s : S8) (bs : List UInt8), bs.length ≤ n → eat n s bs = eatF s bs
  | 0, s, bs, h => by
    have : bs = [] := by simpa using h
    subst this; rfl
  | n + 1, s, bs, h => by
    unfold eatF
    cases hl : bs.length with
    | zero => simp [eat, hl]
    | succ m =>
      simp only [eat, hl]
      split
      · rw [eat_more n _ _ (by simp; omega), eat_more m _ _ (by simp; omega)]
      · rfl
  termination_by n => n
theorem eatF_small {s : S8} {bs : List UInt8} (h : bs.length < 64) : eatF s bs = (s, bs) := by
  unfold eatF
  cases hl : bs.length with
  | zero => rfl
  | succ m => simp only [eat]; rw [if_neg (by omega)]
theorem eatF_big {s : S8} {bs : List UInt8} (h : 64 ≤ bs.length) : eatF s bs = eatF (mixF s (bs.take 64)) (bs.drop 64) := by
  rw [← eat_more (bs.length + 1) s bs (by omega)]
  simp only [eat]
  rw [if_pos h, eat_more _ _ _ (by simp)]
theorem eatF_append : ∀ (n : Nat) (s : S8) (x y : List UInt8), x.length ≤ n → eatF s (x ++ y) = eatF (eatF s x).1 ((eatF s x).2 ++ y)
  | 0, s, x, y, h => by
    have : x = [] := by simpa using h
    subst this
    rw [eatF_small (bs := []) (by simp)]
  | n + 1, s, x, y, h => by
    by_cases h64 : 64 ≤ x.length
    · rw [eatF_big (bs := x) h64, eatF_big (bs := x ++ y) (by simp; omega), List.take_append_of_le_length h64, List.drop_append_of_le_length h64]
      exact eatF_append n _ _ _ (by simp; omega)
    · rw [eatF_small (bs := x) (by omega)]
def init8 : S8 := ⟨0x6a09e667#32, 0xbb67ae85#32, 0x3c6ef372#32, 0xa54ff53a#32, 0x510e527f#32, 0x9b05688c#32, 0x1f83d9ab#32, 0x5be0cd19#32⟩
/-- How many zeros stand behind so many bytes and 128. -/
def zerosN (n : Nat) : Nat := (119 - n % 64) % 64
def bytes8 (n : Nat) : List UInt8 := (List.range 8).map fun j => UInt8.ofNat (n * 8 / 2 ^ (8 * (7 - j)))
def padF (n : Nat) : List UInt8 := 128 :: (List.replicate (zerosN n) 0 ++ bytes8 n)
def word4 (w : W32) : List UInt8 := [UInt8.ofNat (w >>> 24).toNat, UInt8.ofNat (w >>> 16).toNat, UInt8.ofNat (w >>> 8).toNat, UInt8.ofNat w.toNat]
def digest (s : S8) : List UInt8 := s.l.flatMap word4
def shaF (bs : List UInt8) : List UInt8 := digest (eatF init8 (bs ++ padF bs.length)).1
theorem digest_length (s : S8) : (digest s).length = 32 := rfl
theorem shaF_length (bs : List UInt8) : (shaF bs).length = 32 := rfl
end Go.AS.C


namespace Go.AS.C
open Go Go.Proofs
set_option linter.unusedVariables false
set_option linter.unusedSimpArgs false
set_option maxRecDepth 10000

theorem slices_Grow_nil {A : AH} {n : Nat} {Q : Value → AH → Prop} (hn : n ≤ 2 ^ 40) (hq : ∀ v A', Le A A' → OwnB A.length A' v [] → Q v A') : ACalls 1 Tryd.prog slices_Grow_byte_byte [.slice none 0 0, ii n] Q A := by
  refine ACalls.of_fits mixed fits_slices_Grow_byte_byte rfl ?_
  unfold ic_slices_Grow_byte_byte
  have i0 : initA [.slice none 0 0, ii n] 0 = .slice none 0 0 := rfl
  have i1 : initA [.slice none 0 0, ii n] 1 = ii n := rfl
  generalize initA [.slice none 0 0, ii n] = a at i0 i1
  have c1 : ((n : Int) < 0) = False := by simp
  have c2 : sCapn A (.slice none 0 0) = some (ii 0, A) := rfl
  have c3 : binA .sub (ii 0) (ii ((0 : Nat) : Int)) = some (ii 0) := by rw [binA_subi _ _ (by omega) (by omega)]; rfl
  have c4 : binA .sub (ii n) (ii 0) = some (ii n) := by rw [binA_subi _ _ (by omega) (by omega)]; simp
  by_cases h0 : n = 0
  · subst h0
    have c5 : (((0 : Nat) : Int) > 0) = False := by simp
    simp only [stepS, reduceIte, Nat.reduceBEq, Nat.reduceEqDiff, tupleOf, i0, i1, binA_lss, c1, c2, lens_sl, c3, c4, binA_gtr, c5]
    exact hq _ _ (.refl _) (OwnB.nil _ _)
  · have c5 : ((n : Int) > 0) = True := by simp; omega
    have c6 : sSll A (.slice none 0 0) none (some (ii 0)) none 1 = some (.slice none 0 0, A) := rfl
    obtain ⟨v', A', e1, e2, e3, _⟩ := app_own (A0 := A) (A := A) (v := .slice none 0 0) (new := (List.replicate n [Value.int .u8 0]).flatten) (k := n) (bytes := 1) (.refl _) (OwnS.nil A.length A 1) (by omega) (by omega) (by omega) (by simp) (by
      unfold ones
      rw [List.all_eq_true]
      intro x hx
      rw [List.mem_flatten] at hx
      obtain ⟨l, hl, hx⟩ := hx
      obtain rfl := List.eq_of_mem_replicate hl
      rw [List.mem_singleton] at hx
      subst hx; rfl)
    have c7 : sAppz A (.slice none 0 0) (ii n) [.int .u8 0] 1 = some (v', A') := by
      rw [appz_eq (by omega), Int.toNat_natCast]
      exact e1
    have c8 : ∃ u, sSll A' v' none (some (ii ((0 : Nat) : Int))) none 1 = some (u, A') ∧ OwnB A.length A' u [] := by
      obtain ⟨f0, f⟩ := e3
      rcases f with ⟨rfl, f⟩ | ⟨rfl, f⟩ | ⟨i, o, c, rc, ex, rfl, f1, f2, f3, f4, f5⟩
      · omega
      · omega
      · refine ⟨.slice (some ⟨i, o, none⟩) 0 c, ?_, ⟨by simp, .inr (.inr ⟨i, o, c, rc, ex, rfl, by simp, f2, f3, by simp; omega, fun j hj => by simp at hj⟩)⟩⟩
        unfold sSll boundsA rowSz
        simp only [f3]
        simp [asI]
    obtain ⟨u, c8, c9⟩ := c8
    simp only [stepS, reduceIte, Nat.reduceBEq, Nat.reduceEqDiff, tupleOf, i0, i1, binA_lss, c1, c2, lens_sl, c3, c4, binA_gtr, c5, c6, c7, c8]
    exact hq _ _ e2 c9

theorem slices_Concat_spec {A : AH} {v : Value} {vs : List Value} {bss : List (List UInt8)} {Q : Value → AH → Prop} (hv : Sl A 1 v vs.length vs) (hn : vs.length = bss.length)
    (hb : ∀ (j : Nat) x bs, vs[j]? = some x → bss[j]? = some bs → Byt A x bs) (hl : bss.flatten.length ≤ 2 ^ 40) (hc : bss.length ≤ 2 ^ 40) (hq : ∀ v A', Le A A' → OwnB A.length A' v bss.flatten → Q v A') :
    ACalls 1 Tryd.prog slices_Concat_byte_byte [v] Q A := by
  refine ACalls.of_fits mixed fits_slices_Concat_byte_byte rfl ?_
  unfold ic_slices_Concat_byte_byte
  have i0 : initA [v] 0 = v := rfl
  generalize initA [v] = a at i0
  simp only [stepS, reduceIte, Nat.reduceBEq, Nat.reduceEqDiff, tupleOf, i0, hv.len]
  refine W_loop (fun a' A' => A' = A ∧ ∃ k : Nat, k ≤ bss.length ∧ a' 0 = v ∧ a' 9 = v ∧ a' 10 = ii vs.length ∧ a' 11 = ii k ∧ a' 3 = ii (((bss.take k).flatten.length : Nat) : Int)) (fun a' _ => (bss.length - (iv (a' 11)).toNat)) ?_ ?_
  · refine ⟨rfl, 0, by omega, ?_⟩
    simp only [stepS, reduceIte, Nat.reduceBEq, Nat.reduceEqDiff, tupleOf, i0]
    simp
  · rintro a A' ⟨rfl, k, hk, g0, g9, g10, g11, g3⟩
    rcases Nat.lt_or_ge k bss.length with hlt | hge
    · have hc1 : ((k : Int) < (vs.length : Int)) = True := by simp; omega
      obtain ⟨x, hx⟩ : ∃ b, vs[k]? = some b := ⟨_, List.getElem?_eq_getElem (by omega)⟩
      obtain ⟨bs, hbs⟩ : ∃ b, bss[k]? = some b := ⟨_, List.getElem?_eq_getElem hlt⟩
      obtain ⟨p, hp1, hp2⟩ := hv.at1 hx
      have hle := flat_take_le bss (k + 1)
      have hsu := flat_take_succ bss hbs
      rw [hsu, List.length_append] at hle
      have hadd : binA .add (ii (((bss.take k).flatten.length : Nat) : Int)) (ii (bs.length : Nat)) = some (ii (((bss.take (k + 1)).flatten.length : Nat) : Int)) := by
        rw [binA_addi _ _ (by omega) (by omega), hsu, List.length_append]
        simp
      have hc2 : ((((bss.take (k + 1)).flatten.length : Nat) : Int) < 0) = False := by simp
      simp only [stepS, reduceIte, Nat.reduceBEq, Nat.reduceEqDiff, tupleOf, g0, g9, g10, g11, g3, binA_lss, hc1, hp1, hp2, (hb k x bs hx hbs).len, hadd, hc2, binA_add1 k (by omega)]
      exact ⟨⟨k + 1, by omega, rfl, rfl⟩, by omega⟩
    · have hc1 : ((k : Int) < (vs.length : Int)) = False := by simp; omega
      have hk : k = bss.length := by omega
      subst hk
      simp only [stepS, reduceIte, Nat.reduceBEq, Nat.reduceEqDiff, tupleOf, g0, g9, g10, g11, g3, binA_lss, hc1]
      rw [List.take_length]
      refine slices_Grow_nil hl fun u A1 hle1 hown => ?_
      simp only [stepS, reduceIte, Nat.reduceBEq, Nat.reduceEqDiff, tupleOf, g0, (hv.le hle1).len]
      refine W_loop (fun a' B => ∃ k : Nat, k ≤ bss.length ∧ Le A' B ∧ a' 25 = v ∧ a' 26 = ii vs.length ∧ a' 27 = ii k ∧ OwnB A'.length B (a' 6) (bss.take k).flatten) (fun a' _ => (bss.length - (iv (a' 27)).toNat)) ?_ ?_
      · refine ⟨0, by omega, hle1, ?_⟩
        simp only [stepS, reduceIte, Nat.reduceBEq, Nat.reduceEqDiff, tupleOf]
        simpa using hown
      · rintro a2 B ⟨k, hk, hle2, f25, f26, f27, f6⟩
        rcases Nat.lt_or_ge k bss.length with hlt | hge
        · have hc1 : ((k : Int) < (vs.length : Int)) = True := by simp; omega
          obtain ⟨x, hx⟩ : ∃ b, vs[k]? = some b := ⟨_, List.getElem?_eq_getElem (by omega)⟩
          obtain ⟨bs, hbs⟩ : ∃ b, bss[k]? = some b := ⟨_, List.getElem?_eq_getElem hlt⟩
          obtain ⟨p, hp1, hp2⟩ := (hv.le hle2).at1 hx
          have hle := flat_take_le bss (k + 1)
          have hsu := flat_take_succ bss hbs
          rw [hsu, List.length_append] at hle
          obtain ⟨v', B', q1, q2, q3, _⟩ := app_bytes hle2 f6 ((hb k x bs hx hbs).le hle2) (by omega)
          rw [← hsu] at q3
          simp only [stepS, reduceIte, Nat.reduceBEq, Nat.reduceEqDiff, tupleOf, f25, f26, f27, binA_lss, hc1, hp1, hp2, q1, binA_add1 k (by omega)]
          exact ⟨⟨k + 1, by omega, q2, rfl, q3⟩, by omega⟩
        · have hc1 : ((k : Int) < (vs.length : Int)) = False := by simp; omega
          have hk : k = bss.length := by omega
          subst hk
          simp only [stepS, reduceIte, Nat.reduceBEq, Nat.reduceEqDiff, tupleOf, f25, f26, f27, binA_lss, hc1]
          rw [List.take_length] at f6
          exact hq _ _ hle2 f6

end Go.AS.C


namespace Go.AS.C
open Go Go.Proofs
set_option linter.unusedVariables false
set_option linter.unusedSimpArgs false
set_option maxRecDepth 10000

theorem slices_Clone_spec {A : AH} {v : Value} {xs : List UInt8} {Q : Value → AH → Prop} (hv : Byt A v xs) (hl : xs.length ≤ 2 ^ 40) (hq : ∀ u A', Le A A' → OwnB A.length A' u xs → Q u A') :
    ACalls 1 Tryd.prog slices_Clone_byte_byte [v] Q A := by
  refine ACalls.of_fits mixed fits_slices_Clone_byte_byte rfl ?_
  unfold ic_slices_Clone_byte_byte
  have i0 : initA [v] 0 = v := rfl
  generalize initA [v] = a at i0
  obtain ⟨p, c, hs, hp⟩ := hv.shape
  cases p with
  | none =>
    have c1 : (if kindOf (.slice 5) v = true then sIsnil A v false else none) = some (.bool true, A) := by subst hs; rfl
    simp only [stepS, reduceIte, Nat.reduceBEq, Nat.reduceEqDiff, tupleOf, i0, c1]
    rw [hp rfl] at hq
    exact hq _ _ (.refl _) (OwnB.nil _ _)
  | some b =>
    have c1 : (if kindOf (.slice 5) v = true then sIsnil A v false else none) = some (.bool false, A) := by subst hs; rfl
    obtain ⟨v', A', q1, q2, q3, _⟩ := app_bytes (A0 := A) (A := A ++ [.row [] .own 1 true]) (v := .slice (some ⟨A.length, 0, none⟩) 0 0) (bs := []) (.push _ _) (own_lit_none (.refl _)) (hv.le (.push _ _)) (by simp; omega)
    simp only [stepS, reduceIte, Nat.reduceBEq, Nat.reduceEqDiff, tupleOf, i0, c1, lit_none, q1]
    exact hq _ _ q2 q3

end Go.AS.C
