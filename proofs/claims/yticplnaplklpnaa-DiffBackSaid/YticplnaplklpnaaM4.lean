/- Lemmas for the proof of a given statement; no conditions. -/
import Derived.Test.YticplnaplklpnaaM3
import Derived.Test.YticplnaplklpnaaRows
set_option maxHeartbeats 1000000

namespace Go.AS
open Go
set_option linter.unusedVariables false
set_option linter.unusedSimpArgs false

/-! Slices of elements of some cells each, of the call's own: read, written, swapped. -/

/-- All but the row at which v leads is as it was. -/
def KeepV (A : AH) (v : Value) (A' : AH) : Prop := A.length ≤ A'.length ∧ ∀ k b, A[k]? = some b → k ∉ blkOf v → A'[k]? = some b
def OwnE (a0 : Nat) (A : AH) (sz : Nat) (v : Value) (es : List (List Value)) : Prop := (∀ e ∈ es, e.length = sz ∧ ones e = true) ∧ OwnS a0 A sz v es.length es.flatten

section
variable {A B C A0 : AH} {v w : Value} {sz n a0 : Nat} {cs : List Value} {es fs : List (List Value)}
theorem KeepV.refl (A : AH) (v : Value) : KeepV A v A := ⟨Nat.le_refl _, fun _ _ h _ => h⟩
theorem KeepV.trans (h : KeepV A v B) (k : KeepV B v C) : KeepV A v C := ⟨Nat.le_trans h.1 k.1, fun j b hb hj => k.2 j b (h.2 j b hb hj) hj⟩
theorem KeepV.le (h : KeepV A v B) (hl : Le A0 A) (hi : ∀ k ∈ blkOf v, A0.length ≤ k) : Le A0 B := by
  refine Le.of_get (fun k hk => ?_) (Nat.le_trans hl.len h.1)
  have hb : A0[k]? = some A0[k] := List.getElem?_eq_getElem hk
  rw [hb, h.2 k _ (hl.get hb) (fun hm => by have := hi k hm; omega)]
theorem iaddr_any {x i p : Value} {A' : AH} (h : sIaddr A x i sz = some (p, A')) (B : AH) : sIaddr B x i sz = some (p, B) := by
  unfold sIaddr at h ⊢
  split at h
  · rw [Option.bind_eq_some_iff] at h
    obtain ⟨j, h1, h⟩ := h
    split at h
    · rename_i hc
      injection h with h; injection h with h2 h3; subst h2
      simp only [h1, Option.bind_some]
      rw [if_pos hc]
    · cases h
  · cases h
theorem ones_flatten (h : ∀ e ∈ es, e.length = sz ∧ ones e = true) : ones es.flatten = true := by
  unfold ones
  rw [List.all_eq_true]
  intro x hx
  obtain ⟨e, he, hx⟩ := List.mem_flatten.1 hx
  have := (h e he).2
  unfold ones at this
  rw [List.all_eq_true] at this
  exact this x hx
theorem flat_len' (h : ∀ e ∈ es, e.length = sz ∧ ones e = true) : es.flatten.length = es.length * sz := flat_len es sz (fun j c hc => (h c (List.mem_of_getElem? hc)).1)
theorem flat_cut (h : ∀ e ∈ es, e.length = sz ∧ ones e = true) {j : Nat} {e : List Value} (hj : es[j]? = some e) : (es.flatten.drop (j * sz)).take sz = e := by
  have h1 := flat_part es j e hj
  have h2 := flat_len_take es sz (fun j c hc => (h c (List.mem_of_getElem? hc)).1) j (Nat.le_of_lt (lt_of_get hj))
  rw [h2, (h e (List.mem_of_getElem? hj)).1] at h1
  exact h1
theorem flat_at (h : ∀ e ∈ es, e.length = sz ∧ ones e = true) {j o : Nat} {e : List Value} (hj : es[j]? = some e) (ho : o < sz) : es.flatten[j * sz + o]? = e[o]? := by
  have := flat_cut h hj
  rw [← this, List.getElem?_take_of_lt ho, List.getElem?_drop]
/-- An element is read. -/
theorem Sl.el (h : Sl A sz v es.length es.flatten) (he : ∀ e ∈ es, e.length = sz ∧ ones e = true) {j : Nat} {e : List Value} (hj : es[j]? = some e) :
    ∃ p, blkOf p = blkOf v ∧ (∀ (B : AH) (n : Int), n = (j : Int) → sIaddr B v (.int .i64 n) sz = some (p, B)) ∧ sLoadn A p sz = some (.agg e.toArray, A) ∧ ∀ B, (∀ k b, A[k]? = some b → k ∈ blkOf v → B[k]? = some b) → sLoadn B p sz = some (.agg e.toArray, B) := by
  obtain ⟨p, p1, p2⟩ := h.atn (lt_of_get hj)
  rw [flat_cut he hj] at p2
  refine ⟨p, iaddr_blk p1, ?_, p2, fun B hB => ?_⟩
  · rintro B n rfl; exact iaddr_any p1 B
  · have hb := iaddr_blk p1
    unfold sLoadn at p2 ⊢
    split at p2
    · rename_i i o
      rw [Option.bind_eq_some_iff] at p2
      obtain ⟨r, q1, q2⟩ := p2
      rw [Option.map_eq_some_iff] at q2
      obtain ⟨l, q2, q3⟩ := q2
      injection q3 with q3 q4
      obtain ⟨r1, r2, r3, r4⟩ := r
      obtain ⟨g1, g2⟩ := getRow_some q1
      have g3 := hB i _ g1 (by rw [← hb]; simp [blkOf])
      have : getRow B i = some (r1, r2, r3, r4) := by unfold getRow; simp only [g3, if_neg g2]
      simp only [this, Option.bind_some, q2, Option.map_some, q3]
    · cases p2
theorem OwnE.el (h : OwnE a0 A sz v es) {j : Nat} {e : List Value} (hj : es[j]? = some e) :
    ∃ p, blkOf p = blkOf v ∧ (∀ (B : AH) (n : Int), n = (j : Int) → sIaddr B v (.int .i64 n) sz = some (p, B)) ∧ sLoadn A p sz = some (.agg e.toArray, A) ∧ ∀ B, (∀ k b, A[k]? = some b → k ∈ blkOf v → B[k]? = some b) → sLoadn B p sz = some (.agg e.toArray, B) := Sl.el h.2.sl h.1 hj
/-- An element is written. -/
theorem OwnE.put (h : OwnE a0 A sz v es) {j : Nat} {e : List Value} (hj : j < es.length) (h1 : e.length = sz) (h2 : ones e = true) {p : Value} (hp : sIaddr A v (.int .i64 (j : Int)) sz = some (p, A)) :
    ∃ A', sStore A p (.agg e.toArray) sz = some (undef, A') ∧ OwnE a0 A' sz v (es.set j e) ∧ KeepV A v A' := by
  obtain ⟨he, hs⟩ := h
  have hfl := flat_len' he
  have hm : j * sz + sz ≤ es.length * sz := by
    have := Nat.mul_le_mul_right sz (show j + 1 ≤ es.length by omega)
    rw [Nat.add_mul, Nat.one_mul] at this
    exact this
  obtain ⟨h0, hs⟩ := hs
  rcases hs with ⟨rfl, hz⟩ | ⟨rfl, hz⟩ | ⟨i, o, c, rc, ex, rfl, k2, k3, k4, k5, k6⟩
  · omega
  · omega
  · have e1 : sIaddr A (.slice (some ⟨i, o, none⟩) es.length c) (.int .i64 (j : Int)) sz = some (.pointer (some ⟨i, o + j * sz, none⟩), A) := by
      unfold sIaddr
      simp only [asI, Option.bind_some]
      rw [if_pos ⟨by omega, by omega⟩]
      simp
    rw [e1] at hp
    injection hp with hp; injection hp with hp _; subst hp
    have ec : (Value.agg e.toArray).cells = e.toArray := rfl
    refine ⟨A.set i (.row (setAll rc (o + j * sz) e) .own sz ex), ?_, ⟨?_, ?_⟩, ?_⟩
    · unfold sStore
      rw [ec]
      simp only [List.size_toArray]
      rw [if_pos h1]
      unfold wr
      simp only [k4]
      rw [if_pos ⟨by omega, h2⟩]
      rfl
    · intro x hx
      rcases List.mem_or_eq_of_mem_set hx with hx | rfl
      · exact he x hx
      · exact ⟨h1, h2⟩
    · have he' : ∀ x ∈ es.set j e, x.length = sz ∧ ones x = true := by
        intro x hx
        rcases List.mem_or_eq_of_mem_set hx with hx | rfl
        · exact he x hx
        · exact ⟨h1, h2⟩
      have hl2 : (es.set j e).length = es.length := List.length_set ..
      refine ⟨by rw [flat_len' he'], .inr (.inr ⟨i, o, c, setAll rc (o + j * sz) e, ex, by rw [hl2], by rw [hl2]; exact k2, k3, by rw [List.getElem?_set_self (lt_of_get k4)], ?_, ?_⟩)⟩
      · rw [setAll_length _ _ _ (by omega), hl2]; exact k5
      · intro m hm2
        rw [hl2] at hm2
        have hsz : 0 < sz := by
          rcases Nat.eq_zero_or_pos sz with h | h
          · subst h; omega
          · exact h
        rw [setAll_get _ _ _ (by omega)]
        obtain ⟨q, r, rfl, hr⟩ : ∃ q r, m = q * sz + r ∧ r < sz := ⟨m / sz, m % sz, by rw [Nat.mul_comm]; exact (Nat.div_add_mod m sz).symm, Nat.mod_lt _ hsz⟩
        have hq : q < es.length := by
          rcases Nat.lt_or_ge q es.length with h | h
          · exact h
          · have := Nat.mul_le_mul_right sz h; omega
        by_cases hqj : q = j
        · subst hqj
          rw [if_pos ⟨by omega, by omega⟩, flat_at he' (j := q) (o := r) (e := e) (List.getElem?_set_self hq) hr]
          congr 1; omega
        · obtain ⟨x, hx⟩ : ∃ x, es[q]? = some x := ⟨_, List.getElem?_eq_getElem hq⟩
          have hne : ¬ (o + j * sz ≤ o + (q * sz + r) ∧ o + (q * sz + r) < o + j * sz + e.length) := by
            rintro ⟨u1, u2⟩
            rcases Nat.lt_or_gt_of_ne hqj with hlt | hgt
            · have := Nat.mul_le_mul_right sz (show q + 1 ≤ j by omega)
              rw [Nat.add_mul, Nat.one_mul] at this; omega
            · have := Nat.mul_le_mul_right sz (show j + 1 ≤ q by omega)
              rw [Nat.add_mul, Nat.one_mul] at this; omega
          rw [if_neg hne, k6 _ hm2, flat_at he hx hr, flat_at he' (e := x) (by rw [List.getElem?_set_ne (by omega)]; exact hx) hr]
    · refine ⟨by rw [List.length_set]; exact Nat.le_refl _, fun k b hb hk => ?_⟩
      rw [List.getElem?_set_ne (fun h => hk (by subst h; simp [blkOf]))]
      exact hb
theorem OwnE.le (h : OwnE a0 A sz v es) (hl : Le A B) : OwnE a0 B sz v es := ⟨h.1, h.2.le hl⟩
theorem OwnE.ge (h : OwnE a0 A sz v es) : ∀ k ∈ blkOf v, a0 ≤ k ∧ k < A.length := h.2.ge
theorem OwnE.len (h : OwnE a0 A sz v es) : sLens A false v = some (.int .i64 es.length, A) := h.2.sl.len
theorem convU (A : AH) (a : Int) (h0 : 0 ≤ a) (h1 : a < 9223372036854775808) : sConv A .u64 (.int .i64 a) = some (.int .u64 a, A) := by
  simp only [sConv, IntKind.wrap, IntKind.bits, IntKind.signed]
  congr 3
  simp
  omega
theorem convS (A : AH) (a : Int) (h0 : 0 ≤ a) (h1 : a < 9223372036854775808) : sConv A .i64 (.int .u64 a) = some (.int .i64 a, A) := by
  simp only [sConv]
  rw [wrap_i64 _ (by omega) (by omega)]
theorem half (a : Int) (h0 : 0 ≤ a) (k : IntKind) : binA .shr (.int .u64 a) (.int k 1) = some (.int .u64 (a / 2)) := by
  simp only [binA]
  rw [if_neg (by omega)]
  have : min (1 : Int).toNat IntKind.u64.bits = 1 := by decide
  rw [this, Int.fdiv_eq_ediv_of_nonneg _ (by omega)]
  rfl
end
end Go.AS


namespace Go.AS
open Go
set_option linter.unusedVariables false
set_option linter.unusedSimpArgs false

/-! Lists in order by a key; rearrangements that keep what has one key in its order. -/

theorem bytesLess_lt : ∀ (x y : List UInt8), Op.bytesLess x y = decide (x < y)
  | [], [] => by simp [Op.bytesLess]
  | _ :: _, [] => by simp [Op.bytesLess]
  | [], _ :: _ => by simp [Op.bytesLess]
  | a :: x, b :: y => by
    rw [Op.bytesLess, bytesLess_lt x y]
    simp only [List.cons_lt_cons_iff]
    by_cases h1 : a < b <;> by_cases h2 : a = b <;> by_cases h3 : x < y <;> simp [h1, h2, h3]

theorem kl_irr (a : List UInt8) : ¬ a < a := List.lt_irrefl a
theorem kl_tr {a b c : List UInt8} (h : a < b) (k : b < c) : a < c := List.lt_trans h k
theorem kl_asym {a b : List UInt8} (h : a < b) : ¬ b < a := fun k => kl_irr a (kl_tr h k)
theorem kl_tri (a b : List UInt8) : a < b ∨ a = b ∨ b < a := by
  by_cases h : a < b
  · exact .inl h
  · by_cases k : b < a
    · exact .inr (.inr k)
    · exact .inr (.inl (List.le_antisymm (List.not_lt.1 k) (List.not_lt.1 h)))
section
variable {α : Type} {key : α → List UInt8}
/-- A stable rearrangement. -/
def Rk (key : α → List UInt8) (l l' : List α) : Prop := l'.length = l.length ∧ ∀ k, l'.filter (fun e => decide (key e = k)) = l.filter (fun e => decide (key e = k))
/-- In order. -/
def Srt (key : α → List UInt8) (l : List α) : Prop := l.Pairwise fun a b => ¬ key b < key a

theorem Rk.refl (l : List α) : Rk key l l := ⟨rfl, fun _ => rfl⟩
theorem Rk.trans {a b c : List α} (h : Rk key a b) (k : Rk key b c) : Rk key a c := ⟨k.1.trans h.1, fun x => (k.2 x).trans (h.2 x)⟩
theorem Rk.app {a b c d : List α} (h : Rk key a b) (k : Rk key c d) : Rk key (a ++ c) (b ++ d) :=
  ⟨by simp [h.1, k.1], fun x => by simp [List.filter_append, h.2 x, k.2 x]⟩
theorem Rk.mem {a b : List α} (h : Rk key a b) {x : α} : x ∈ b ↔ x ∈ a := by
  have := h.2 (key x)
  have e : ∀ l : List α, x ∈ l.filter (fun e => decide (key e = key x)) ↔ x ∈ l := fun l => by simp
  rw [← e b, this, e a]
theorem Srt.app {a b : List α} (ha : Srt key a) (hb : Srt key b) (h : ∀ x ∈ a, ∀ y ∈ b, ¬ key y < key x) : Srt key (a ++ b) :=
  List.pairwise_append.2 ⟨ha, hb, h⟩
theorem Srt.left {a b : List α} (h : Srt key (a ++ b)) : Srt key a := (List.pairwise_append.1 h).1
theorem Srt.right {a b : List α} (h : Srt key (a ++ b)) : Srt key b := (List.pairwise_append.1 h).2.1
theorem Srt.get {l : List α} (h : Srt key l) {i j : Nat} {x y : α} (hi : l[i]? = some x) (hj : l[j]? = some y) (hij : i ≤ j) : ¬ key y < key x := by
  rcases Nat.lt_or_ge i j with hlt | hge
  · obtain ⟨h1, h2⟩ := List.getElem?_eq_some_iff.1 hi
    obtain ⟨h3, h4⟩ := List.getElem?_eq_some_iff.1 hj
    have := List.pairwise_iff_getElem.1 h i j h1 h3 hlt
    rw [h2, h4] at this
    exact this
  · have : i = j := by omega
    subst this
    rw [hi] at hj
    obtain rfl := Option.some.inj hj
    exact kl_irr _
theorem Srt.one (x : α) : Srt key [x] := by simp [Srt]
theorem Srt.nil : Srt key ([] : List α) := by simp [Srt]
end
end Go.AS


namespace Go.AS
open Go
set_option maxRecDepth 100000
/-! Codes of library functions that are alike in many chapters (printed by geni.py). -/
end Go.AS


namespace Go.AS
open Go
set_option linter.unusedVariables false
set_option linter.unusedSimpArgs false
set_option maxRecDepth 10000

section
variable {G : Nat} {P : Program} (hm : P.follows .mixedOrders = true) {sz a0 : Nat} {A : AH} {v fv : Value} {Q : Value → AH → Prop}
include hm
end
end Go.AS


namespace Go.AS
open Go
set_option linter.unusedVariables false
set_option linter.unusedSimpArgs false
set_option maxRecDepth 10000

section
variable {G : Nat} {P : Program} (hm : P.follows .mixedOrders = true) {sz a0 : Nat} {A : AH} {v fv : Value} {Q : Value → AH → Prop} {dom : List Value → Prop} {key : List Value → List UInt8}
include hm
end
end Go.AS


namespace Go.AS
open Go
set_option linter.unusedVariables false
set_option linter.unusedSimpArgs false

section
variable {α : Type} {key : α → List UInt8}
theorem get_some {l : List α} {k : Nat} (h : k < l.length) : ∃ x, l[k]? = some x := ⟨_, List.getElem?_eq_getElem h⟩
end
end Go.AS


namespace Go.AS
open Go
set_option linter.unusedVariables false
set_option linter.unusedSimpArgs false
set_option maxRecDepth 10000

section
variable {G : Nat} {P : Program} (hm : P.follows .mixedOrders = true) {sz : Nat} {fv : Value} {dom : List Value → Prop} {key : List Value → List UInt8}

section
variable {A : AH} {v : Value} {a0 : Nat} {X Y : List (List Value)} {r : AT} {R : Exit → AT → AH → Prop}
include hm in
end
end
end Go.AS


namespace Go.AS
open Go
set_option linter.unusedVariables false
set_option linter.unusedSimpArgs false
set_option maxRecDepth 10000

section
variable {G : Nat} {P : Program} (hm : P.follows .mixedOrders = true) {sz : Nat} {fv : Value} {dom : List Value → Prop} {key : List Value → List UInt8}
include hm in
end
end Go.AS


namespace Go.AS
open Go
set_option linter.unusedVariables false
set_option linter.unusedSimpArgs false
set_option maxRecDepth 10000

section
variable {α : Type} {key : α → List UInt8}
/-- In order in parts of so many. -/
def ChS (key : α → List UInt8) (bs : Nat) (l : List α) : Prop := ∀ i, Srt key ((l.drop (i * bs)).take bs)
theorem ChS.nil {bs : Nat} : ChS key bs ([] : List α) := fun i => by simp [Srt]
theorem ChS.push {bs i : Nat} {D S : List α} (h : ChS key bs D) (hD : D.length = i * bs) (hS : S.length ≤ bs) (hs : Srt key S) : ChS key bs (D ++ S) := by
  intro j
  rcases Nat.lt_trichotomy j i with hj | hj | hj
  · have : j * bs + bs ≤ D.length := by
      rw [hD]
      have := Nat.mul_le_mul_right bs (show j + 1 ≤ i by omega)
      rw [Nat.add_mul, Nat.one_mul] at this; exact this
    rw [List.drop_append_of_le_length (by omega), List.take_append_of_le_length (by rw [List.length_drop]; omega)]
    exact h j
  · subst hj
    rw [← hD, List.drop_left, List.take_of_length_le hS]
    exact hs
  · have : (D ++ S).length ≤ j * bs := by
      rw [List.length_append, hD]
      have := Nat.mul_le_mul_right bs (show i + 1 ≤ j by omega)
      rw [Nat.add_mul, Nat.one_mul] at this; omega
    rw [List.drop_of_length_le this]
    simp [Srt]
theorem ChS.all {bs : Nat} {l : List α} (h : ChS key bs l) (hl : l.length ≤ bs) : Srt key l := by
  have := h 0
  rw [Nat.zero_mul, List.drop_zero, List.take_of_length_le hl] at this
  exact this
end

section
variable {G : Nat} {P : Program} (hm : P.follows .mixedOrders = true) {sz a0 : Nat} {A : AH} {v fv : Value} {Q : Value → AH → Prop} {dom : List Value → Prop} {key : List Value → List UInt8}
include hm
end
end Go.AS


namespace Go.AS
open Go
set_option linter.unusedVariables false
set_option linter.unusedSimpArgs false

/-! Slices of elements: cut, cleared, appended to. -/
section
variable {A B C A0 : AH} {v w u : Value} {sz n a0 l k : Nat} {cs e z : List Value} {es fs : List (List Value)} {lo hi : Option Value}

theorem flatten_cut (h : ∀ e ∈ es, e.length = sz ∧ ones e = true) (hlk : l ≤ k) (hk : k ≤ es.length) : ((es.take k).drop l).flatten = (es.flatten.drop (l * sz)).take ((k - l) * sz) := by
  have ht : ∀ j, j ≤ es.length → (es.take j).flatten.length = j * sz := fun j hj => flat_len_take es sz (fun j c hc => (h c (List.mem_of_getElem? hc)).1) j hj
  have e1 : es.flatten = ((es.take k).take l).flatten ++ (((es.take k).drop l).flatten ++ (es.drop k).flatten) := by
    rw [← List.append_assoc, ← List.flatten_append, List.take_append_drop, ← List.flatten_append, List.take_append_drop]
  have l1 : ((es.take k).take l).flatten.length = l * sz := by
    rw [List.take_take, Nat.min_eq_left hlk]; exact ht l (by omega)
  have l2 : ((es.take k).drop l).flatten.length = (k - l) * sz := by
    have := ht k hk
    rw [← List.take_append_drop l (es.take k), List.flatten_append, List.length_append, l1] at this
    rw [Nat.sub_mul]; omega
  rw [e1, ← l1, List.drop_left, ← l2, List.take_left]
/-- A part of a slice. -/
theorem OwnE.cut (h : OwnE a0 A sz v es) (hlk : l ≤ k) (hk : k ≤ es.length) (hb : ∀ c, es.length ≤ c → boundsA es.length c lo hi none = some (l, k, c)) :
    ∃ u, (∀ j ∈ blkOf u, j ∈ blkOf v) ∧ (∃ p c, u = .slice p (k - l) c) ∧ ∀ B fs, OwnE a0 B sz v fs → fs.length = es.length → sSll B v lo hi none sz = some (u, B) ∧ OwnE a0 B sz u ((fs.take k).drop l) := by
  obtain ⟨he, h0, h⟩ := h
  have mem : ∀ fs : List (List Value), (∀ e ∈ fs, e.length = sz ∧ ones e = true) → ∀ e ∈ (fs.take k).drop l, e.length = sz ∧ ones e = true := fun fs hf e hx => hf e (List.mem_of_mem_take (List.mem_of_mem_drop hx))
  rcases h with ⟨rfl, hz⟩ | ⟨rfl, hz⟩ | ⟨i, o, c, rc, ex, rfl, h2, h3, h4, h5, h6⟩
  · have : l = 0 := by omega
    have : k = 0 := by omega
    subst l k
    refine ⟨.slice none 0 0, fun j hj => hj, ⟨_, _, rfl⟩, fun B fs hf hl => ⟨?_, ?_⟩⟩
    · rw [hz] at hb
      unfold sSll
      simp only [hb 0 (Nat.le_refl _)]
      rfl
    · exact ⟨fun e hx => by simp at hx, OwnS.nil _ _ _⟩
  · have : l = 0 := by omega
    have : k = 0 := by omega
    subst l k
    refine ⟨.slice (some zmk) 0 0, fun j hj => hj, ⟨_, _, rfl⟩, fun B fs hf hl => ⟨?_, ?_⟩⟩
    · rw [hz] at hb
      unfold sSll zmk
      simp only [hb 0 (Nat.le_refl _)]
      rfl
    · exact ⟨fun e hx => by simp at hx, by simp, .inr (.inl ⟨rfl, rfl⟩)⟩
  · refine ⟨.slice (some ⟨i, o + l * sz, none⟩) (k - l) (c - l), fun j hj => hj, ⟨_, _, rfl⟩, fun B fs hf hl => ?_⟩
    obtain ⟨hf1, hf0, hf⟩ := hf
    have hlen : ((fs.take k).drop l).length = k - l := by rw [List.length_drop, List.length_take]; omega
    have hmul : l * sz + (k - l) * sz ≤ es.length * sz := by rw [← Nat.add_mul]; exact Nat.mul_le_mul_right _ (by omega)
    rcases hf with ⟨q, _⟩ | ⟨q, _⟩ | ⟨i', o', c', rc', ex', q, q2, q3, q4, q5, q6⟩
    · cases q
    · cases q
    · injection q with q q7 q8
      injection q with q
      injection q with q9 q10
      subst q9 q10 q8
      constructor
      · unfold sSll
        simp only [hb c h2, Option.bind_some]
        unfold rowSz
        rw [q4]
        simp
      · refine ⟨mem fs hf1, by rw [flat_len' (mem fs hf1)], .inr (.inr ⟨i, o + l * sz, c - l, rc', ex', by rw [hlen], by rw [hlen]; omega, q3, q4, by rw [hlen]; rw [hl] at q5; omega, ?_⟩)⟩
        intro j hj
        rw [hlen] at hj
        rw [flatten_cut hf1 hlk (by omega), List.getElem?_take_of_lt hj, List.getElem?_drop, Nat.add_assoc, q6 _ (by rw [hl]; omega)]
theorem ones_rep (hz : ones z = true) (m : Nat) : ones ((List.replicate m z).flatten) = true := by
  unfold ones at *
  rw [List.all_eq_true] at *
  intro x hx
  obtain ⟨l, h1, h2⟩ := List.mem_flatten.1 hx
  rw [List.mem_replicate] at h1
  rw [h1.2] at h2
  exact hz x h2
/-- What stands from l on is cleared. -/
theorem OwnE.clr (h : OwnE a0 A sz v es) (hl : l ≤ es.length) (hz : z.length = sz) (hz1 : ones z = true) (hu : sSll A v (some (.int .i64 (l : Int))) none none sz = some (u, A)) :
    ∃ A', sClr A u z = some (undef, A') ∧ OwnE a0 A' sz v (es.take l ++ List.replicate (es.length - l) z) ∧ KeepV A v A' := by
  have hE := h
  obtain ⟨he, h0, h⟩ := h
  have hb : ∀ c, es.length ≤ c → boundsA es.length c (some (ii l)) none none = some (l, es.length, c) := fun c hc => bnd_lo hl hc
  rcases h with ⟨rfl, hzz⟩ | ⟨rfl, hzz⟩ | ⟨i, o, c, rc, ex, rfl, h2, h3, h4, h5, h6⟩
  · have : l = 0 := by omega
    subst l
    have hes : es = [] := List.length_eq_zero_iff.1 hzz
    subst hes
    have : sSll A (.slice none 0 0) (some (ii (0 : Nat))) none none sz = some (.slice none 0 0, A) := rfl
    rw [show (Value.int .i64 ((0 : Nat) : Int)) = ii (0 : Nat) from rfl, this] at hu
    injection hu with hu; injection hu with hu; subst hu
    exact ⟨A, rfl, hE, .refl _ _⟩
  · have : l = 0 := by omega
    subst l
    have hes : es = [] := List.length_eq_zero_iff.1 hzz
    subst hes
    have : sSll A (.slice (some zmk) 0 0) (some (ii (0 : Nat))) none none sz = some (.slice (some zmk) 0 0, A) := rfl
    rw [show (Value.int .i64 ((0 : Nat) : Int)) = ii (0 : Nat) from rfl, this] at hu
    injection hu with hu; injection hu with hu; subst hu
    exact ⟨A, rfl, hE, .refl _ _⟩
  · have e : sSll A (.slice (some ⟨i, o, none⟩) es.length c) (some (.int .i64 (l : Int))) none none sz = some (.slice (some ⟨i, o + l * sz, none⟩) (es.length - l) (c - l), A) := by
      unfold sSll
      have := hb c h2
      unfold ii at this
      simp only [this, Option.bind_some]
      unfold rowSz
      rw [h4]
      simp
    rw [e] at hu
    injection hu with hu; injection hu with hu _; subst hu
    by_cases hm : es.length - l = 0
    · rw [hm]
      have : l = es.length := by omega
      subst this
      refine ⟨A, rfl, ?_, .refl _ _⟩
      rw [List.take_length]
      simpa using hE
    · obtain ⟨m, hm'⟩ : ∃ m, es.length - l = m + 1 := ⟨es.length - l - 1, by omega⟩
      have hmul : l * sz + (es.length - l) * sz = es.length * sz := by rw [← Nat.add_mul]; congr 1; omega
      have hrl : ((List.replicate (m + 1) z).flatten).length = (m + 1) * sz := by rw [rep_length, hz]
      rw [hm'] at hmul ⊢
      refine ⟨A.set i (.row (setAll rc (o + l * sz) ((List.replicate (m + 1) z).flatten)) .own sz ex), ?_, ⟨?_, ?_⟩, ?_⟩
      · show (wr A i (o + l * sz) _).map _ = _
        unfold wr
        simp only [h4]
        rw [if_pos ⟨by rw [hrl]; omega, ones_rep hz1 _⟩]
        rfl
      · intro x hx
        rcases List.mem_append.1 hx with hx | hx
        · exact he x (List.mem_of_mem_take hx)
        · rw [(List.mem_replicate.1 hx).2]; exact ⟨hz, hz1⟩
      · have hll : (es.take l ++ List.replicate (m + 1) z).length = es.length := by simp; omega
        have hfl : (es.take l).flatten.length = l * sz := flat_len_take es sz (fun j c hc => (he c (List.mem_of_getElem? hc)).1) l hl
        refine ⟨by rw [hll, List.flatten_append, List.length_append, hfl, hrl]; omega, .inr (.inr ⟨i, o, c, _, ex, by rw [hll], by rw [hll]; exact h2, h3, by rw [List.getElem?_set_self (lt_of_get h4)], ?_, ?_⟩)⟩
        · rw [setAll_length _ _ _ (by rw [hrl]; omega), hll]; exact h5
        · intro j hj
          rw [hll] at hj
          rw [setAll_get _ _ _ (by rw [hrl]; omega), List.flatten_append, hrl]
          rcases Nat.lt_or_ge j (l * sz) with hlt | hge
          · rw [if_neg (by omega), h6 _ hj, List.getElem?_append_left (by omega)]
            conv => lhs; rw [← List.take_append_drop l es, List.flatten_append]
            rw [List.getElem?_append_left (by omega)]
          · rw [if_pos (by omega), List.getElem?_append_right (by omega), hfl]
            congr 1; omega
      · refine ⟨by rw [List.length_set]; exact Nat.le_refl _, fun k b hb' hk => ?_⟩
        rw [List.getElem?_set_ne (fun h => hk (by subst h; simp [blkOf]))]
        exact hb'
theorem OwnE.nil (a0 : Nat) (A : AH) (sz : Nat) : OwnE a0 A sz (.slice none 0 0) [] := ⟨(fun e h => by cases h), OwnS.nil _ _ _⟩
theorem litE (A : AH) (hz : z.length = sz) (he : e.length = sz) (ho : ones e = true) : sLit A z sz 1 [(0, sz, .agg e.toArray)] = some (.slice (some ⟨A.length, 0, none⟩) 1 1, A ++ [.row e .own sz true]) := by
  unfold sLit
  have ec : (Value.agg e.toArray).cells = e.toArray := rfl
  have e1 : (List.replicate 1 z).flatten = z := by simp
  rw [e1]
  unfold fillA
  rw [ec]
  rw [if_pos ⟨by simpa using he, by omega, by simpa using ho⟩]
  unfold fillA
  simp only [Option.map_some]
  congr 4
  unfold setAll
  simp [he, hz]
/-- One more element. -/
theorem OwnE.push {bytes : Nat} (hl : Le A0 A) (h : OwnE A0.length A sz v es) (hsz : 0 < sz) (he : e.length = sz) (ho : ones e = true) (hb : 2 * ((es.length + 1) * bytes) ≤ 2 ^ 48) (hb0 : 0 < bytes) :
    ∃ v' A', sApp (A ++ [.row e .own sz true]) v (.slice (some ⟨A.length, 0, none⟩) 1 1) sz bytes = some (v', A') ∧ Le A0 A' ∧ OwnE A0.length A' sz v' (es ++ [e]) ∧ KeepV A v A' ∧ (blkOf v' = [A.length + 1] ∨ blkOf v' = blkOf v) := by
  have k1 : Le A (A ++ [.row e .own sz true]) := .push _ _
  have hs : Sl (A ++ [.row e .own sz true]) sz (.slice (some ⟨A.length, 0, none⟩) 1 1) 1 e :=
    ⟨by simp [he], .inr (.inr ⟨A.length, 0, 1, e, .own, true, rfl, by omega, by simp, by simp, by simp [he], fun j _ => by rw [Nat.zero_add]⟩)⟩
  obtain ⟨v', A', e1, e2, e3, e4⟩ := app_cells (bytes := bytes) (hl.trans k1) (h.2.le k1) hs ho hsz hb hb0
  have hf := app_fresh rfl (by simp) e1
  have hle := k1.len
  refine ⟨v', A', e1, e2, ⟨?_, ?_⟩, ⟨?_, fun i b hb hi => e4 i b (k1.get hb) (fun o c q => hi (by rw [q]; simp [blkOf]))⟩, by simpa using hf⟩
  · intro x hx
    rcases List.mem_append.1 hx with hx | hx
    · exact h.1 x hx
    · rw [List.mem_singleton.1 hx]; exact ⟨he, ho⟩
  · simpa using e3
  · refine Nat.le_trans hle ?_
    have : ∀ i, i < (A ++ [Blk.row e .own sz true]).length → i ∉ blkOf v → i < A'.length := by
      intro i hi hv
      exact lt_of_get (e4 i _ (List.getElem?_eq_getElem hi) (fun o c q => hv (by rw [q]; simp [blkOf])))
    have hlast := this A.length (by simp) (fun hv => by have := (h.2.ge A.length hv).2; omega)
    simp
    omega
end
end Go.AS


namespace Go.AS
open Go
set_option maxRecDepth 100000
/-! Codes of library functions that are alike in many chapters (printed by geni.py). -/
end Go.AS


namespace Go.AS
open Go
set_option linter.unusedVariables false
set_option linter.unusedSimpArgs false
set_option maxRecDepth 10000

section
variable {α : Type} {key : α → List UInt8}
/-- What keeps the order of what has one key keeps the first with each. -/
theorem Rk.find {a b : List α} (h : Rk key a b) (k : List UInt8) : b.find? (fun e => decide (key e = k)) = a.find? (fun e => decide (key e = k)) := by
  rw [← List.head?_filter, ← List.head?_filter, h.2 k]
end

section
variable {G : Nat} {P : Program} (hm : P.follows .mixedOrders = true) {sz a0 : Nat} {A : AH} {v fv : Value} {Q : Value → AH → Prop} {dom : List Value → Prop} {key : List Value → List UInt8}
include hm
end
end Go.AS


namespace Go.AS
open Go
set_option linter.unusedVariables false
set_option linter.unusedSimpArgs false

/-! One by one into a list that rises; what has the key of one that is there goes. -/
section
variable {α β : Type} {key : α → List UInt8}
theorem Rk.map {f : β → α} {kb : β → List UInt8} {a b : List β} (h : Rk kb a b) (hk : ∀ x ∈ a, kb x = key (f x)) : Rk key (a.map f) (b.map f) := by
  refine ⟨by simp [h.1], fun k => ?_⟩
  have aux : ∀ l : List β, (∀ x ∈ l, kb x = key (f x)) → (l.map f).filter (fun e => decide (key e = k)) = (l.filter (fun e => decide (kb e = k))).map f := by
    intro l hl
    rw [List.filter_map]
    congr 1
    apply List.filter_congr
    intro x hx
    simp [hl x hx]
  rw [aux b (fun x hx => hk x (h.mem.1 hx)), aux a hk, h.2 k]
theorem Srt.map {f : β → α} {kb : β → List UInt8} {a : List β} (h : Srt kb a) (hk : ∀ x ∈ a, kb x = key (f x)) : Srt key (a.map f) := by
  unfold Srt at *
  rw [List.pairwise_map]
  exact h.imp_of_mem (fun {x y} hx hy hxy => by rw [← hk x hx, ← hk y hy]; exact hxy)
end
end Go.AS


namespace Go.AS
open Go
set_option linter.unusedVariables false
set_option linter.unusedSimpArgs false

/-! Texts: their order. -/
abbrev bl (s : ByteArray) : List UInt8 := s.data.toList
theorem bl_inj {a b : ByteArray} : bl a = bl b ↔ a = b := by
  constructor
  · intro h; cases a; cases b; congr; exact Array.toList_inj.1 h
  · rintro rfl; rfl
theorem ltS (a b : ByteArray) : binA .lss (.string a) (.string b) = some (.bool (decide (bl a < bl b))) := by
  simp only [binA, toList_data, bytesLess_lt]
theorem leS (a b : ByteArray) : binA .leq (.string a) (.string b) = some (.bool (decide (¬ bl b < bl a))) := by
  simp only [binA, toList_data, bytesLess_lt]
  congr 2
  rw [Bool.eq_iff_iff]
  simp only [Bool.or_eq_true, decide_eq_true_eq, beq_iff_eq]
  constructor
  · rintro (h | h)
    · exact kl_asym h
    · rw [show bl a = bl b from h]; exact kl_irr _
  · intro h
    rcases kl_tri (bl a) (bl b) with h1 | h1 | h1
    · exact .inl h1
    · exact .inr h1
    · exact absurd h1 h
theorem gtS (a b : ByteArray) : binA .gtr (.string a) (.string b) = some (.bool (decide (bl b < bl a))) := by
  have := leS a b
  simp only [binA, Option.some.injEq, Value.bool.injEq] at this ⊢
  rw [this]
  by_cases h : bl b < bl a <;> simp [h]
theorem geS (a b : ByteArray) : binA .geq (.string a) (.string b) = some (.bool (decide (¬ bl a < bl b))) := by
  simp only [binA, toList_data, bytesLess_lt]
  congr 2
  by_cases h : bl a < bl b <;> simp [h]
section
variable {A B : AH} {sz n : Nat} {v x : Value} {cs : List Value}
theorem get_snoc {b : Blk} : (A ++ [b])[A.length]? = some b := by simp
end
end Go.AS


namespace Go.AS
open Go
set_option linter.unusedVariables false
set_option linter.unusedSimpArgs false

/-! Slices of one's own that stand apart; structs that are copied. -/
section
variable {A B C A0 : AH} {v w u x : Value} {sz s2 n m a0 b0 i : Nat} {cs ds e z : List Value} {es fs : List (List Value)}
theorem OwnS.apart (h : OwnS a0 A sz v n cs) (k : OwnS b0 A s2 w m ds) (hs : sz ≠ s2) : ∀ j ∈ blkOf w, j ∉ blkOf v := by
  obtain ⟨_, h⟩ := h
  obtain ⟨_, k⟩ := k
  intro j hj hv
  rcases k with ⟨rfl, _⟩ | ⟨rfl, _⟩ | ⟨i, o, c, rc, ex, rfl, k2, k3, k4, _⟩
  · cases hj
  · cases hj
  · simp only [blkOf, List.mem_singleton] at hj
    subst hj
    rcases h with ⟨rfl, _⟩ | ⟨rfl, _⟩ | ⟨i', o', c', rc', ex', rfl, h2, h3, h4, _⟩
    · cases hv
    · cases hv
    · simp only [blkOf, List.mem_singleton] at hv
      subst hv
      rw [h4] at k4
      injection k4 with k4
      injection k4 with _ _ k4 _
      exact hs k4
theorem OwnE.mono (h : OwnE a0 A sz v es) (hb : b0 ≤ a0) : OwnE b0 A sz v es := ⟨h.1, h.2.mono hb⟩
theorem OwnB.le {bs : List UInt8} (h : OwnB a0 A v bs) (hl : Le A B) : OwnB a0 B v bs := OwnS.le h hl
theorem OwnB.mono {bs : List UInt8} (h : OwnB a0 A v bs) (hb : b0 ≤ a0) : OwnB b0 A v bs := OwnS.mono h hb
theorem Sl.lenB (h : Sl A sz v n cs) (B : AH) : sLens B false v = some (.int .i64 n, B) := by
  obtain ⟨_, h⟩ := h
  rcases h with ⟨rfl, rfl⟩ | ⟨rfl, rfl⟩ | ⟨_, _, _, _, _, _, rfl, _⟩ <;> rfl
theorem KeepV.of_own (h : OwnS a0 A sz v n cs) (hl : A.length ≤ B.length) (hk : ∀ i b, A[i]? = some b → (∀ o c, v ≠ .slice (some ⟨i, o, none⟩) n c) → B[i]? = some b) : KeepV A v B :=
  ⟨hl, fun i b hb hi => hk i b hb (fun o c q => hi (by rw [q]; simp [blkOf]))⟩
theorem appI_len {s : Value} {new : List Value} {k bytes : Nat} {r : Value × AH} (h : appA A s new k sz bytes = some r) : A.length ≤ r.2.length := by
  unfold appA at h
  cases hi : appI A s new k sz bytes with
  | some q =>
    rw [hi] at h
    obtain rfl := Option.some.inj h
    unfold appI at hi
    split at hi
    · split at hi
      · split at hi
        · injection hi with hi; subst hi; simp
        · cases hi
      · cases hi
    · cases hi
  | none =>
  rw [hi, Option.none_or] at h
  unfold appA1 at h
  cases hf : appF A s new k sz bytes with
  | some q =>
    rw [hf] at h
    obtain rfl := Option.some.inj h
    unfold appF at hf
    split at hf
    · split at hf
      · split at hf
        · injection hf with hf; subst hf; simp
        · cases hf
      · cases hf
    · cases hf
  | none =>
  rw [hf, Option.none_or] at h
  unfold appA0 at h
  split at h
  · split at h
    · injection h with h; subst h; exact Nat.le_refl _
    · injection h with h; subst h; exact Nat.le_refl _
    · cases h
  · rw [Option.bind_eq_some_iff] at h
    obtain ⟨q, h1, h⟩ := h
    split at h
    · injection h with h; subst h
      simp only [List.length_append]
      rw [appBase_len h1]; omega
    · cases h
theorem sApp_len {s x : Value} {bytes : Nat} {v' : Value} {A' : AH} (h : sApp A s x sz bytes = some (v', A')) : A.length ≤ A'.length := by
  unfold sApp at h
  split at h
  · rw [Option.bind_eq_some_iff] at h
    obtain ⟨new, _, h⟩ := h
    exact appI_len h
  · cases h
/-- append(v, x...): bytes. -/
theorem OwnB.app {bs xs : List UInt8} (hl : Le A0 A) (h : OwnB A0.length A v bs) (hx : Byt A x xs) (hb : bs.length + xs.length ≤ 2 ^ 47) :
    ∃ v' A', sApp A v x 1 1 = some (v', A') ∧ Le A0 A' ∧ OwnB A0.length A' v' (bs ++ xs) ∧ KeepV A v A' := by
  obtain ⟨v', A', h1, h2, h3, h4⟩ := app_bytes hl h hx hb
  exact ⟨v', A', h1, h2, h3, KeepV.of_own h (sApp_len h1) h4⟩
/-- append(v, s...): a text's bytes. -/
theorem OwnB.apps {bs : List UInt8} {s : ByteArray} (hl : Le A0 A) (h : OwnB A0.length A v bs) (hb : bs.length + s.size ≤ 2 ^ 47) :
    ∃ v' A', sApps A v (.string s) 1 = some (v', A') ∧ Le A0 A' ∧ OwnB A0.length A' v' (bs ++ bl s) ∧ KeepV A v A' := by
  have he : u8s s = (bl s).map by8 := rfl
  have hls : (bl s).length = s.size := by simp
  obtain ⟨v', A', h1, h2, h3, h4⟩ := app_own (new := u8s s) (k := s.size) (bytes := 1) hl h (by omega) (by omega) (by omega) (by rw [he, List.length_map, hls, Nat.mul_one]) (by rw [he]; exact Byt.ones8 _)
  refine ⟨v', A', h1, h2, ?_, KeepV.of_own h (appI_len h1) h4⟩
  unfold OwnB
  rw [List.length_append, List.map_append, hls, ← he]
  exact h3
theorem KeepV.get (h : KeepV A v B) {j : Nat} {b : Blk} (hb : A[j]? = some b) (hj : j ∉ blkOf v) : B[j]? = some b := h.2 j b hb hj
theorem KeepV.rd (h : KeepV A v B) {R : List Nat} (hR : ∀ k ∈ R, k ∉ blkOf v) : RdOk R A B := fun k hk b hb => h.2 k b hb (hR k hk)
theorem Byt.one1 {bs : List UInt8} (h : Byt A v bs) : AS.one1 v := by
  obtain ⟨p, c, hs, _⟩ := h.shape
  rw [hs]; exact one1_sl _ _ _
theorem Sl.one1 (h : Sl A sz v n cs) : AS.one1 v := by
  obtain ⟨_, h⟩ := h
  rcases h with ⟨rfl, _⟩ | ⟨rfl, _⟩ | ⟨_, _, _, _, _, _, rfl, _⟩ <;> exact one1_sl _ _ _
end
end Go.AS


namespace Go.AS
open Go
set_option linter.unusedVariables false
set_option linter.unusedSimpArgs false

section
variable {A B C A0 : AH} {v w u x : Value} {sz s2 n m a0 b0 i k : Nat} {cs ds e z : List Value} {es fs : List (List Value)}
theorem faddr_any {p q : Value} {o : Nat} {A' : AH} (h : sFaddr A p o = some (q, A')) (B : AH) : sFaddr B p o = some (q, B) := by
  unfold sFaddr at h ⊢
  split at h
  · injection h with h; injection h with h _; subst h; rfl
  · cases h
theorem faddr_blk {p q : Value} {o : Nat} {A' : AH} (h : sFaddr A p o = some (q, A')) : blkOf q = blkOf p := by
  unfold sFaddr at h
  split at h
  · injection h with h; injection h with h _; subst h; rfl
  · cases h
theorem load1_keep {p x : Value} (h : sLoad1 A p = some (x, A)) (hB : ∀ k b, A[k]? = some b → k ∈ blkOf p → B[k]? = some b) : sLoad1 B p = some (x, B) := by
  unfold sLoad1 at h ⊢
  split at h
  · rename_i i o
    rw [Option.bind_eq_some_iff] at h
    obtain ⟨r, q1, q2⟩ := h
    rw [Option.map_eq_some_iff] at q2
    obtain ⟨l, q2, q3⟩ := q2
    injection q3 with q3 q4
    obtain ⟨r1, r2, r3, r4⟩ := r
    obtain ⟨g1, g2⟩ := getRow_some q1
    have g3 := hB i _ g1 (by simp [blkOf])
    have : getRow B i = some (r1, r2, r3, r4) := by unfold getRow; simp only [g3, if_neg g2]
    simp only [this, Option.bind_some, q2, Option.map_some, q3]
  · cases h
/-- A part of an element is read. -/
theorem Sl.elf (h : Sl A sz v es.length es.flatten) (he : ∀ e ∈ es, e.length = sz ∧ ones e = true) {j o : Nat} {e : List Value} {x : Value} (hj : es[j]? = some e) (ho : e[o]? = some x) :
    ∃ p q, blkOf q = blkOf v ∧ (∀ (B : AH) (n : Int), n = (j : Int) → sIaddr B v (.int .i64 n) sz = some (p, B)) ∧ (∀ B, sFaddr B p o = some (q, B)) ∧ sLoad1 A q = some (x, A) := by
  have hel := (he e (List.mem_of_getElem? hj)).1
  have hlt := lt_of_get ho
  obtain ⟨p, q, p1, p2, p3⟩ := h.field (v0 := x) (lt_of_get hj) (off := o) (by omega) (by rw [flat_at he hj (by omega)]; exact ho)
  refine ⟨p, q, ?_, ?_, faddr_any p2, p3⟩
  · rw [faddr_blk p2, iaddr_blk p1]
  · rintro B n rfl; exact iaddr_any p1 B
theorem Sl.elfL (h : Sl A sz v es.length es.flatten) (he : ∀ e ∈ es, e.length = sz ∧ ones e = true) {j o : Nat} {e : List Value} {x : Value} (hj : es[j]? = some e) (ho : e[o]? = some x) :
    ∃ p q, (∀ (B : AH) (n : Int), n = (j : Int) → sIaddr B v (.int .i64 n) sz = some (p, B)) ∧ (∀ B, sFaddr B p o = some (q, B)) ∧ ∀ B, Le A B → sLoad1 B q = some (x, B) := by
  obtain ⟨p, q, _, p1, p2, p3⟩ := h.elf he hj ho
  exact ⟨p, q, p1, p2, fun B hB => load1_keep p3 (fun k b hb _ => hB.get hb)⟩
/-- An element of one cell is read. -/
theorem Sl.at1L (h : Sl A 1 v n cs) {j : Nat} {x : Value} (hj : cs[j]? = some x) : ∃ p, (∀ (B : AH) (n : Int), n = (j : Int) → sIaddr B v (.int .i64 n) 1 = some (p, B)) ∧ ∀ B, Le A B → sLoad1 B p = some (x, B) := by
  obtain ⟨p, p1, p2⟩ := h.at1 hj
  exact ⟨p, by rintro B n rfl; exact iaddr_any p1 B, fun B hB => load1_keep p2 (fun k b hb _ => hB.get hb)⟩
/-- Two values lead to blocks apart. -/
def Ap (v w : Value) : Prop := ∀ j ∈ blkOf v, j ∉ blkOf w
theorem Ap.symm (h : Ap v w) : Ap w v := fun j hj hk => h j hk hj
theorem Ap.nil {n c : Nat} : Ap (.slice none n c) w := fun j hj => by cases hj
theorem OwnS.lt {sz n : Nat} {cs : List Value} (h : OwnS a0 A sz v n cs) : ∀ j ∈ blkOf v, j < A.length := fun j hj => (h.ge j hj).2
theorem sApp_blk {s x : Value} {bytes : Nat} {v' : Value} {A' : AH} (h : sApp A s x sz bytes = some (v', A')) : ∀ j ∈ blkOf v', j ∈ blkOf s ∨ A.length ≤ j := by
  intro j hj
  have hx : ∃ p k c, x = .slice p k c := by
    unfold sApp at h
    split at h
    · exact ⟨_, _, _, rfl⟩
    · cases h
  obtain ⟨p, k, c, rfl⟩ := hx
  by_cases hk : k = 0
  · subst hk
    unfold sApp at h
    simp only [Option.bind_eq_some_iff] at h
    obtain ⟨new, _, h⟩ := h
    unfold appA at h
    rw [appI_zero, Option.none_or] at h
    unfold appA1 at h
    rw [appF_zero, Option.none_or] at h
    unfold appA0 at h
    rw [if_pos rfl] at h
    split at h
    · injection h with h; injection h with h _; subst h; exact .inl hj
    · injection h with h; injection h with h _; subst h; exact .inl hj
    · cases h
  · rcases app_fresh rfl hk h with e | e
    · rw [e, List.mem_singleton] at hj; exact .inr (by omega)
    · rw [e] at hj; exact .inl hj
/-- Elements of another slice are appended. -/
theorem OwnE.app {bytes : Nat} (hl : Le A0 A) (h : OwnE A0.length A sz v es) (hx : Sl A sz x fs.length fs.flatten) (hf : ∀ e ∈ fs, e.length = sz ∧ ones e = true) (hsz : 0 < sz) (hb : 2 * ((es.length + fs.length) * bytes) ≤ 2 ^ 48) (hb0 : 0 < bytes) :
    ∃ v' A', sApp A v x sz bytes = some (v', A') ∧ Le A0 A' ∧ OwnE A0.length A' sz v' (es ++ fs) ∧ KeepV A v A' := by
  obtain ⟨v', A', e1, e2, e3, e4⟩ := app_cells (bytes := bytes) hl h.2 hx (ones_flatten hf) hsz hb hb0
  refine ⟨v', A', e1, e2, ⟨?_, by simpa using e3⟩, KeepV.of_own h.2 (sApp_len e1) e4⟩
  intro y hy
  rcases List.mem_append.1 hy with hy | hy
  · exact h.1 y hy
  · exact hf y hy
theorem lit_noneE (A : AH) (z : List Value) (sz : Nat) (hl : Le A0 A) : sLit A z sz 0 [] = some (.slice (some ⟨A.length, 0, none⟩) 0 0, A ++ [.row [] .own sz true]) ∧ OwnE A0.length (A ++ [.row [] .own sz true]) sz (.slice (some ⟨A.length, 0, none⟩) 0 0) [] := by
  refine ⟨rfl, (fun e he => by cases he), by simp, .inr (.inr ⟨A.length, 0, 0, [], true, rfl, Nat.le_refl _, hl.len, get_snoc, by simp, by simp⟩)⟩
end
section
variable {α : Type} {key : α → List UInt8}
end
end Go.AS


namespace Go.AS
open Go
set_option linter.unusedVariables false
set_option linter.unusedSimpArgs false
section
variable {A B : AH} {v : Value} {sz : Nat} {es : List (List Value)}
/-- An element's fields, by one address. -/
theorem Sl.elfs (h : Sl A sz v es.length es.flatten) (he : ∀ e ∈ es, e.length = sz ∧ ones e = true) {j : Nat} {e : List Value} {x0 : Value} (hj : es[j]? = some e) (h0 : e[0]? = some x0) :
    ∃ p, (∀ (B : AH) (n : Int), n = (j : Int) → sIaddr B v (.int .i64 n) sz = some (p, B)) ∧ ∀ o x, e[o]? = some x → ∃ q, (∀ B, sFaddr B p o = some (q, B)) ∧ ∀ B, Le A B → sLoad1 B q = some (x, B) := by
  obtain ⟨p, q, p1, p2, p3⟩ := Sl.elfL h he hj h0
  refine ⟨p, p1, fun o x hx => ?_⟩
  obtain ⟨p', q', u1, u2, u3⟩ := Sl.elfL h he hj hx
  have e : p' = p := by
    have h1 := p1 A j rfl
    rw [u1 A j rfl] at h1
    injection h1 with h1
    injection h1 with h1 _
  subst e
  exact ⟨q', u2, u3⟩
theorem SlR.lenB {n : Nat} {cs : List Value} (h : SlR A sz v n cs) (B : AH) : sLens B false v = some (.int .i64 n, B) := by
  obtain ⟨h0, h⟩ := h
  rcases h with ⟨rfl, rfl⟩ | ⟨rfl, rfl⟩ | ⟨i, o, c, rc, st, bsz, ex, rfl, h2, h3, h4, h5, h6⟩ <;> simp [sLens]
theorem SlR.el (h : SlR A sz v es.length es.flatten) (he : ∀ e ∈ es, e.length = sz ∧ ones e = true) {j : Nat} {e : List Value} (hj : es[j]? = some e) :
    ∃ p, blkOf p = blkOf v ∧ (∀ (B : AH) (n : Int), n = (j : Int) → sIaddr B v (.int .i64 n) sz = some (p, B)) ∧ sLoadn A p sz = some (.agg e.toArray, A) ∧ ∀ B, (∀ k b, A[k]? = some b → k ∈ blkOf v → B[k]? = some b) → sLoadn B p sz = some (.agg e.toArray, B) := by
  obtain ⟨p, p1, p2⟩ := h.atn (lt_of_get hj)
  rw [flat_cut he hj] at p2
  refine ⟨p, iaddr_blk p1, ?_, p2, fun B hB => ?_⟩
  · rintro B n rfl; exact iaddr_any p1 B
  · have hb := iaddr_blk p1
    unfold sLoadn at p2 ⊢
    split at p2
    · rename_i i o
      rw [Option.bind_eq_some_iff] at p2
      obtain ⟨r, q1, q2⟩ := p2
      rw [Option.map_eq_some_iff] at q2
      obtain ⟨l, q2, q3⟩ := q2
      injection q3 with q3 q4
      obtain ⟨r1, r2, r3, r4⟩ := r
      obtain ⟨g1, g2⟩ := getRow_some q1
      have g3 := hB i _ g1 (by rw [← hb]; simp [blkOf])
      have : getRow B i = some (r1, r2, r3, r4) := by unfold getRow; simp only [g3, if_neg g2]
      simp only [this, Option.bind_some, q2, Option.map_some, q3]
    · cases p2
theorem SlR.elf (h : SlR A sz v es.length es.flatten) (he : ∀ e ∈ es, e.length = sz ∧ ones e = true) {j o : Nat} {e : List Value} {x : Value} (hj : es[j]? = some e) (ho : e[o]? = some x) :
    ∃ p q, blkOf q = blkOf v ∧ (∀ (B : AH) (n : Int), n = (j : Int) → sIaddr B v (.int .i64 n) sz = some (p, B)) ∧ (∀ B, sFaddr B p o = some (q, B)) ∧ sLoad1 A q = some (x, A) := by
  have hel := (he e (List.mem_of_getElem? hj)).1
  have hlt := lt_of_get ho
  obtain ⟨p, q, p1, p2, p3⟩ := h.field (v0 := x) (lt_of_get hj) (off := o) (by omega) (by rw [flat_at he hj (by omega)]; exact ho)
  refine ⟨p, q, ?_, ?_, faddr_any p2, p3⟩
  · rw [faddr_blk p2, iaddr_blk p1]
  · rintro B n rfl; exact iaddr_any p1 B
theorem SlR.elfL (h : SlR A sz v es.length es.flatten) (he : ∀ e ∈ es, e.length = sz ∧ ones e = true) {j o : Nat} {e : List Value} {x : Value} (hj : es[j]? = some e) (ho : e[o]? = some x) :
    ∃ p q, (∀ (B : AH) (n : Int), n = (j : Int) → sIaddr B v (.int .i64 n) sz = some (p, B)) ∧ (∀ B, sFaddr B p o = some (q, B)) ∧ ∀ B, Le A B → sLoad1 B q = some (x, B) := by
  obtain ⟨p, q, _, p1, p2, p3⟩ := h.elf he hj ho
  exact ⟨p, q, p1, p2, fun B hB => load1_keep p3 (fun k b hb _ => hB.get hb)⟩
/-- An element's fields, by one address. -/
theorem SlR.elfs (h : SlR A sz v es.length es.flatten) (he : ∀ e ∈ es, e.length = sz ∧ ones e = true) {j : Nat} {e : List Value} {x0 : Value} (hj : es[j]? = some e) (h0 : e[0]? = some x0) :
    ∃ p, (∀ (B : AH) (n : Int), n = (j : Int) → sIaddr B v (.int .i64 n) sz = some (p, B)) ∧ ∀ o x, e[o]? = some x → ∃ q, (∀ B, sFaddr B p o = some (q, B)) ∧ ∀ B, Le A B → sLoad1 B q = some (x, B) := by
  obtain ⟨p, q, p1, p2, p3⟩ := SlR.elfL h he hj h0
  refine ⟨p, p1, fun o x hx => ?_⟩
  obtain ⟨p', q', u1, u2, u3⟩ := SlR.elfL h he hj hx
  have e : p' = p := by
    have h1 := p1 A j rfl
    rw [u1 A j rfl] at h1
    injection h1 with h1
    injection h1 with h1 _
  subst e
  exact ⟨q', u2, u3⟩
end
end Go.AS


-- ALIAS Try G 0
-- Printed by gen.py (wip/tools): the abstract code of each function, and that it fits the program.
namespace Go.AS.C
open Go Go.Proofs
set_option maxRecDepth 100000
abbrev chantrylaw41_DiffBetween : FuncId := 3
abbrev chantrylaw41_DiffApplies : FuncId := 4
abbrev chantrylaw41_DiffBack : FuncId := 5
abbrev chantrylaw41_large : FuncId := 6
abbrev chantrylaw41_awake : FuncId := 7
abbrev diff_Between : FuncId := 8
abbrev chantryref41_Between : FuncId := 9
abbrev chantryref41_Same : FuncId := 10
abbrev diff_Tidy : FuncId := 11
abbrev chantryref41_Tidy : FuncId := 12
abbrev chantryref23_Same : FuncId := 13
abbrev diff_Apply : FuncId := 14
abbrev chantryref41_Apply : FuncId := 15
abbrev diff_Same : FuncId := 16
abbrev api_Delta : FuncId := 17
abbrev api_Count : FuncId := 18
abbrev diff_byCount : FuncId := 19
abbrev diff_Between_1 : FuncId := 20
abbrev diff_Between_2 : FuncId := 21
abbrev diff_words : FuncId := 22
abbrev api_Word : FuncId := 23
abbrev diff_byName : FuncId := 24
abbrev diff_Between_3 : FuncId := 25
abbrev diff_Between_4 : FuncId := 26
abbrev chantryref41_counted : FuncId := 27
abbrev chantryref41_words : FuncId := 28
abbrev chantryref41_named : FuncId := 29
abbrev api_Count_30 : FuncId := 30
abbrev api_Word_31 : FuncId := 31
abbrev diff_byWord : FuncId := 32
abbrev chantryref41_rising : FuncId := 33
abbrev chantryref19_Same : FuncId := 34
abbrev chantryref20_SameWords : FuncId := 35
abbrev diff_apply : FuncId := 36
abbrev chantryref41_count : FuncId := 37
abbrev chantryref41_turn : FuncId := 38
abbrev chantryref41_line : FuncId := 39
abbrev api_Delta_40 : FuncId := 40
abbrev api_Delta_41 : FuncId := 41
abbrev api_Count_42 : FuncId := 42
abbrev cmp_Compare_string : FuncId := 43
abbrev diff_words_1 : FuncId := 44
abbrev diff_words_1_1 : FuncId := 45
abbrev api_Word_46 : FuncId := 46
abbrev chantryref41_has : FuncId := 47
abbrev cmp_Or_int : FuncId := 48
abbrev chantryref41_less : FuncId := 49
abbrev api_Count_50 : FuncId := 50
abbrev api_Count_51 : FuncId := 51
abbrev api_Word_52 : FuncId := 52
abbrev api_Word_53 : FuncId := 53
abbrev diff_odd : FuncId := 54
abbrev chantryref41_put : FuncId := 55
abbrev chantryref41_cut : FuncId := 56
abbrev cmp_isNaN_string : FuncId := 57
abbrev api_Count_58 : FuncId := 58
abbrev api_Count_59 : FuncId := 59
abbrev api_Count_60 : FuncId := 60
abbrev api_Word_61 : FuncId := 61
abbrev api_Word_62 : FuncId := 62
abbrev api_Word_63 : FuncId := 63
abbrev api_Count_64 : FuncId := 64
abbrev api_Count_65 : FuncId := 65
abbrev api_Word_66 : FuncId := 66
abbrev api_Word_67 : FuncId := 67
abbrev api_Count_68 : FuncId := 68
abbrev api_Word_69 : FuncId := 69
abbrev api_Count_70 : FuncId := 70
abbrev api_Word_71 : FuncId := 71
/-- chantry/chantrylaw41.DiffBetween -/
noncomputable def ic_chantrylaw41_DiffBetween : IC :=
  (.seq (.ops [
    ⟨(some 2), none, false, .box (.tmp 0)⟩,
    ⟨(some 3), none, false, .box (.tmp 1)⟩,
    ⟨(some 4), none, false, .mov (.const (.bool false))⟩]) (.seq (.seq (.ops [
    ⟨(some 9), none, false, .loadn (.tmp 2) 4⟩,
    ⟨(some 10), none, false, .call chantrylaw41_large [(.tmp 9)]⟩,
    ⟨(some 11), none, false, .mov (.tmp 10)⟩,
    ⟨(some 12), (some (11, false)), false, .loadn (.tmp 3) 4⟩,
    ⟨(some 13), (some (11, false)), false, .call chantrylaw41_large [(.tmp 12)]⟩,
    ⟨(some 14), none, false, .pick (.tmp 11) (.const (.bool true)) (.tmp 13)⟩]) (.cond (.tmp 14) (.seq (.ops [
    ⟨(some 15), none, false, .call chantrylaw41_awake []⟩,
    ⟨(some 4), none, false, .mov (.tmp 15)⟩]) .ret) .skip)) (.seq (.ops [
    ⟨(some 17), none, false, .loadn (.tmp 2) 4⟩,
    ⟨(some 18), none, false, .loadn (.tmp 3) 4⟩,
    ⟨(some 19), none, false, .call diff_Between [(.tmp 17), (.tmp 18)]⟩,
    ⟨(some 16), none, false, .mov (.tmp 19)⟩,
    ⟨(some 20), none, false, .ext (.tmp 16) 0⟩,
    ⟨(some 21), none, false, .ext (.tmp 16) 1⟩,
    ⟨(some 5), none, false, .mov (.tmp 20)⟩,
    ⟨(some 6), none, false, .mov (.tmp 21)⟩]) (.seq (.ops [
    ⟨(some 23), none, false, .loadn (.tmp 2) 4⟩,
    ⟨(some 24), none, false, .loadn (.tmp 3) 4⟩,
    ⟨(some 25), none, false, .call chantryref41_Between [(.tmp 23), (.tmp 24)]⟩,
    ⟨(some 22), none, false, .mov (.tmp 25)⟩,
    ⟨(some 26), none, false, .ext (.tmp 22) 0⟩,
    ⟨(some 27), none, false, .ext (.tmp 22) 1⟩,
    ⟨(some 7), none, false, .mov (.tmp 26)⟩,
    ⟨(some 8), none, false, .mov (.tmp 27)⟩]) (.seq (.draw [
    ⟨(some 28), none, false, .mov (.tmp 5)⟩,
    ⟨(some 29), none, false, .mov (.tmp 7)⟩,
    ⟨(some 30), none, false, .call chantryref41_Same [(.tmp 28), (.tmp 29)]⟩,
    ⟨(some 31), none, false, .mov (.tmp 30)⟩,
    ⟨(some 32), (some (31, true)), false, .mov (.tmp 6)⟩,
    ⟨(some 33), (some (31, true)), false, .mov (.tmp 8)⟩,
    ⟨(some 34), (some (31, true)), false, .bin .eql (.tmp 32) (.tmp 33)⟩,
    ⟨(some 35), none, false, .pick (.tmp 31) (.tmp 34) (.const (.bool false))⟩,
    ⟨(some 36), none, false, .mov (.tmp 35)⟩,
    ⟨(some 37), (some (36, true)), false, .loadn (.tmp 2) 4⟩,
    ⟨(some 39), (some (36, true)), true, .loadn (.tmp 2) 4⟩,
    ⟨(some 38), (some (36, true)), true, .call diff_Tidy [(.tmp 37)]⟩,
    ⟨(some 40), (some (36, true)), false, .call chantryref41_Tidy [(.tmp 39)]⟩,
    ⟨(some 41), (some (36, true)), false, .beq false (.tmp 38) (.tmp 40)⟩,
    ⟨(some 42), none, false, .pick (.tmp 36) (.tmp 41) (.const (.bool false))⟩,
    ⟨(some 43), none, false, .mov (.tmp 42)⟩,
    ⟨(some 44), (some (43, true)), false, .mov (.tmp 6)⟩,
    ⟨(some 45), (some (43, true)), false, .bin .neq (.tmp 44) (.const (.int .i64 0))⟩,
    ⟨(some 46), (some (43, true)), false, .mov (.tmp 45)⟩,
    ⟨(some 47), (some (46, false)), false, .mov (.tmp 5)⟩,
    ⟨(some 48), (some (46, false)), false, .lens false (.tmp 47)⟩,
    ⟨(some 49), (some (46, false)), false, .bin .eql (.tmp 48) (.const (.int .i64 0))⟩,
    ⟨(some 50), (some (46, false)), false, .loadn (.tmp 2) 4⟩,
    ⟨(some 51), (some (46, false)), false, .loadn (.tmp 3) 4⟩,
    ⟨(some 52), (some (46, false)), false, .call chantryref23_Same [(.tmp 50), (.tmp 51)]⟩,
    ⟨(some 53), (some (46, false)), false, .beq false (.tmp 49) (.tmp 52)⟩,
    ⟨(some 54), (some (43, true)), false, .pick (.tmp 46) (.const (.bool true)) (.tmp 53)⟩,
    ⟨(some 55), none, false, .pick (.tmp 43) (.tmp 54) (.const (.bool false))⟩,
    ⟨(some 56), none, false, .mov (.tmp 55)⟩,
    ⟨(some 57), (some (56, true)), false, .call chantrylaw41_awake []⟩,
    ⟨(some 58), none, false, .pick (.tmp 56) (.tmp 57) (.const (.bool false))⟩,
    ⟨(some 4), none, false, .mov (.tmp 58)⟩]) .ret)))))
theorem fits_chantrylaw41_DiffBetween : Fits Try.prog 0 chantrylaw41_DiffBetween ic_chantrylaw41_DiffBetween [.tmp 4] 2 :=
  ⟨Try.f3, Try.func3, by decide, by kernel_rfl, by kernel_rfl⟩

/-- chantry/chantrylaw41.DiffApplies -/
noncomputable def ic_chantrylaw41_DiffApplies : IC :=
  (.seq (.ops [
    ⟨(some 3), none, false, .box (.tmp 0)⟩,
    ⟨(some 6), none, false, .mov (.const (.bool false))⟩]) (.seq (.seq (.ops [
    ⟨(some 12), none, false, .loadn (.tmp 3) 4⟩,
    ⟨(some 13), none, false, .call chantrylaw41_large [(.tmp 12)]⟩,
    ⟨(some 14), none, false, .mov (.tmp 13)⟩,
    ⟨(some 15), (some (14, false)), false, .mov (.tmp 1)⟩,
    ⟨(some 16), (some (14, false)), false, .lens false (.tmp 15)⟩,
    ⟨(some 17), (some (14, false)), false, .bin .gtr (.tmp 16) (.const (.int .i64 30))⟩,
    ⟨(some 18), none, false, .pick (.tmp 14) (.const (.bool true)) (.tmp 17)⟩,
    ⟨(some 19), none, false, .mov (.tmp 18)⟩,
    ⟨(some 20), (some (19, false)), false, .mov (.tmp 2)⟩,
    ⟨(some 21), (some (19, false)), false, .lens false (.tmp 20)⟩,
    ⟨(some 22), (some (19, false)), false, .bin .gtr (.tmp 21) (.const (.int .i64 30))⟩,
    ⟨(some 23), none, false, .pick (.tmp 19) (.const (.bool true)) (.tmp 22)⟩]) (.cond (.tmp 23) (.seq (.ops [
    ⟨(some 24), none, false, .call chantrylaw41_awake []⟩,
    ⟨(some 6), none, false, .mov (.tmp 24)⟩]) .ret) .skip)) (.seq (.seq (.ops [
    ⟨(some 7), none, false, .mov (.const (.int .i64 0))⟩]) (.block 0 (.loop (.seq (.seq (.ops [
    ⟨(some 25), none, false, .mov (.tmp 7)⟩,
    ⟨(some 26), none, false, .mov (.tmp 1)⟩,
    ⟨(some 27), none, false, .lens false (.tmp 26)⟩,
    ⟨(some 28), none, false, .bin .lss (.tmp 25) (.tmp 27)⟩]) (.cond (.tmp 28) .skip (.exit 0))) (.seq (.block 1 (.seq (.ops [
    ⟨(some 31), none, false, .mov (.tmp 1)⟩,
    ⟨(some 32), none, false, .mov (.tmp 7)⟩,
    ⟨(some 33), none, false, .iaddr (.tmp 31) (.tmp 32) 4⟩,
    ⟨(some 34), none, false, .faddr (.tmp 33) 1⟩,
    ⟨(some 35), none, false, .load1 (.tmp 34)⟩,
    ⟨(some 36), none, false, .lens true (.tmp 35)⟩,
    ⟨(some 37), none, false, .bin .gtr (.tmp 36) (.const (.int .i64 60))⟩,
    ⟨(some 38), none, false, .mov (.tmp 37)⟩,
    ⟨(some 39), (some (38, false)), false, .mov (.tmp 1)⟩,
    ⟨(some 40), (some (38, false)), false, .mov (.tmp 7)⟩,
    ⟨(some 41), (some (38, false)), false, .iaddr (.tmp 39) (.tmp 40) 4⟩,
    ⟨(some 42), (some (38, false)), false, .faddr (.tmp 41) 2⟩,
    ⟨(some 43), (some (38, false)), false, .load1 (.tmp 42)⟩,
    ⟨(some 44), (some (38, false)), false, .lens true (.tmp 43)⟩,
    ⟨(some 45), (some (38, false)), false, .bin .gtr (.tmp 44) (.const (.int .i64 100))⟩,
    ⟨(some 46), none, false, .pick (.tmp 38) (.const (.bool true)) (.tmp 45)⟩]) (.cond (.tmp 46) (.seq (.ops [
    ⟨(some 47), none, false, .call chantrylaw41_awake []⟩,
    ⟨(some 6), none, false, .mov (.tmp 47)⟩]) .ret) .skip))) (.ops [
    ⟨(some 29), none, false, .mov (.tmp 7)⟩,
    ⟨(some 30), none, false, .bin .add (.tmp 29) (.const (.int .i64 1))⟩,
    ⟨(some 7), none, false, .mov (.tmp 30)⟩])))))) (.seq (.ops [
    ⟨(some 49), none, false, .loadn (.tmp 3) 4⟩,
    ⟨(some 50), none, false, .mov (.tmp 1)⟩,
    ⟨(some 51), none, false, .call diff_Apply [(.tmp 49), (.tmp 50)]⟩,
    ⟨(some 48), none, false, .mov (.tmp 51)⟩,
    ⟨(some 52), none, false, .ext (.tmp 48) 0⟩,
    ⟨(some 53), none, false, .ext (.tmp 48) 1⟩,
    ⟨(some 8), none, false, .new [.slice none 0 0, .slice none 0 0, .slice none 0 0, .slice none 0 0]⟩,
    ⟨none, none, false, .store (.tmp 8) (.tmp 52) 4⟩,
    ⟨(some 9), none, false, .mov (.tmp 53)⟩]) (.seq (.ops [
    ⟨(some 55), none, false, .loadn (.tmp 3) 4⟩,
    ⟨(some 56), none, false, .mov (.tmp 1)⟩,
    ⟨(some 57), none, false, .call chantryref41_Apply [(.tmp 55), (.tmp 56)]⟩,
    ⟨(some 54), none, false, .mov (.tmp 57)⟩,
    ⟨(some 58), none, false, .ext (.tmp 54) 0⟩,
    ⟨(some 59), none, false, .ext (.tmp 54) 1⟩,
    ⟨(some 10), none, false, .new [.slice none 0 0, .slice none 0 0, .slice none 0 0, .slice none 0 0]⟩,
    ⟨none, none, false, .store (.tmp 10) (.tmp 58) 4⟩,
    ⟨(some 11), none, false, .mov (.tmp 59)⟩]) (.seq (.ops [
    ⟨(some 60), none, false, .loadn (.tmp 8) 4⟩,
    ⟨(some 61), none, false, .loadn (.tmp 10) 4⟩,
    ⟨(some 62), none, false, .call chantryref23_Same [(.tmp 60), (.tmp 61)]⟩,
    ⟨(some 63), none, false, .mov (.tmp 62)⟩,
    ⟨(some 64), (some (63, true)), false, .mov (.tmp 9)⟩,
    ⟨(some 65), (some (63, true)), false, .mov (.tmp 11)⟩,
    ⟨(some 66), (some (63, true)), false, .bin .eql (.tmp 64) (.tmp 65)⟩,
    ⟨(some 67), none, false, .pick (.tmp 63) (.tmp 66) (.const (.bool false))⟩,
    ⟨(some 68), none, false, .mov (.tmp 67)⟩,
    ⟨(some 69), (some (68, true)), false, .mov (.tmp 9)⟩,
    ⟨(some 70), (some (68, true)), false, .bin .neq (.tmp 69) (.const (.int .i64 0))⟩,
    ⟨(some 71), (some (68, true)), false, .mov (.tmp 70)⟩,
    ⟨(some 72), (some (71, false)), false, .loadn (.tmp 8) 4⟩,
    ⟨(some 73), (some (71, false)), false, .call diff_Tidy [(.tmp 72)]⟩,
    ⟨(some 74), (some (68, true)), false, .pick (.tmp 71) (.const (.bool true)) (.tmp 73)⟩,
    ⟨(some 75), none, false, .pick (.tmp 68) (.tmp 74) (.const (.bool false))⟩,
    ⟨(some 76), none, false, .mov (.tmp 75)⟩,
    ⟨(some 77), (some (76, true)), false, .mov (.tmp 1)⟩,
    ⟨(some 78), (some (76, true)), false, .mov (.tmp 2)⟩,
    ⟨(some 79), (some (76, true)), false, .call diff_Same [(.tmp 77), (.tmp 78)]⟩,
    ⟨(some 80), (some (76, true)), false, .mov (.tmp 1)⟩,
    ⟨(some 81), (some (76, true)), false, .mov (.tmp 2)⟩,
    ⟨(some 82), (some (76, true)), false, .call chantryref41_Same [(.tmp 80), (.tmp 81)]⟩,
    ⟨(some 83), (some (76, true)), false, .beq false (.tmp 79) (.tmp 82)⟩,
    ⟨(some 84), none, false, .pick (.tmp 76) (.tmp 83) (.const (.bool false))⟩,
    ⟨(some 85), none, false, .mov (.tmp 84)⟩,
    ⟨(some 86), (some (85, true)), false, .call chantrylaw41_awake []⟩,
    ⟨(some 87), none, false, .pick (.tmp 85) (.tmp 86) (.const (.bool false))⟩,
    ⟨(some 6), none, false, .mov (.tmp 87)⟩]) .ret))))))
theorem fits_chantrylaw41_DiffApplies : Fits Try.prog 0 chantrylaw41_DiffApplies ic_chantrylaw41_DiffApplies [.tmp 6] 3 :=
  ⟨Try.f4, Try.func4, by decide, by kernel_rfl, by kernel_rfl⟩

/-- chantry/chantrylaw41.DiffBack -/
noncomputable def ic_chantrylaw41_DiffBack : IC :=
  (.seq (.ops [
    ⟨(some 2), none, false, .box (.tmp 0)⟩,
    ⟨(some 3), none, false, .box (.tmp 1)⟩,
    ⟨(some 4), none, false, .mov (.const (.bool false))⟩]) (.seq (.seq (.ops [
    ⟨(some 13), none, false, .loadn (.tmp 2) 4⟩,
    ⟨(some 14), none, false, .call chantrylaw41_large [(.tmp 13)]⟩,
    ⟨(some 15), none, false, .mov (.tmp 14)⟩,
    ⟨(some 16), (some (15, false)), false, .loadn (.tmp 3) 4⟩,
    ⟨(some 17), (some (15, false)), false, .call chantrylaw41_large [(.tmp 16)]⟩,
    ⟨(some 18), none, false, .pick (.tmp 15) (.const (.bool true)) (.tmp 17)⟩,
    ⟨(some 19), none, false, .mov (.tmp 18)⟩,
    ⟨(some 20), (some (19, false)), false, .loadn (.tmp 2) 4⟩,
    ⟨(some 21), (some (19, false)), false, .call chantryref41_Tidy [(.tmp 20)]⟩,
    ⟨(some 22), (some (19, false)), false, .un .not (.tmp 21)⟩,
    ⟨(some 23), none, false, .pick (.tmp 19) (.const (.bool true)) (.tmp 22)⟩,
    ⟨(some 24), none, false, .mov (.tmp 23)⟩,
    ⟨(some 25), (some (24, false)), false, .loadn (.tmp 3) 4⟩,
    ⟨(some 26), (some (24, false)), false, .call chantryref41_Tidy [(.tmp 25)]⟩,
    ⟨(some 27), (some (24, false)), false, .un .not (.tmp 26)⟩,
    ⟨(some 28), none, false, .pick (.tmp 24) (.const (.bool true)) (.tmp 27)⟩]) (.cond (.tmp 28) (.seq (.ops [
    ⟨(some 29), none, false, .call chantrylaw41_awake []⟩,
    ⟨(some 4), none, false, .mov (.tmp 29)⟩]) .ret) .skip)) (.seq (.ops [
    ⟨(some 31), none, false, .loadn (.tmp 2) 4⟩,
    ⟨(some 32), none, false, .loadn (.tmp 3) 4⟩,
    ⟨(some 33), none, false, .call diff_Between [(.tmp 31), (.tmp 32)]⟩,
    ⟨(some 30), none, false, .mov (.tmp 33)⟩,
    ⟨(some 34), none, false, .ext (.tmp 30) 0⟩,
    ⟨(some 35), none, false, .ext (.tmp 30) 1⟩,
    ⟨(some 5), none, false, .mov (.tmp 34)⟩,
    ⟨(some 6), none, false, .mov (.tmp 35)⟩]) (.seq (.ops [
    ⟨(some 37), none, false, .loadn (.tmp 3) 4⟩,
    ⟨(some 38), none, false, .loadn (.tmp 2) 4⟩,
    ⟨(some 39), none, false, .call diff_Between [(.tmp 37), (.tmp 38)]⟩,
    ⟨(some 36), none, false, .mov (.tmp 39)⟩,
    ⟨(some 40), none, false, .ext (.tmp 36) 0⟩,
    ⟨(some 41), none, false, .ext (.tmp 36) 1⟩,
    ⟨(some 7), none, false, .mov (.tmp 40)⟩,
    ⟨(some 8), none, false, .mov (.tmp 41)⟩]) (.seq (.ops [
    ⟨(some 43), none, false, .loadn (.tmp 2) 4⟩,
    ⟨(some 44), none, false, .mov (.tmp 5)⟩,
    ⟨(some 45), none, false, .call diff_Apply [(.tmp 43), (.tmp 44)]⟩,
    ⟨(some 42), none, false, .mov (.tmp 45)⟩,
    ⟨(some 46), none, false, .ext (.tmp 42) 0⟩,
    ⟨(some 47), none, false, .ext (.tmp 42) 1⟩,
    ⟨(some 9), none, false, .new [.slice none 0 0, .slice none 0 0, .slice none 0 0, .slice none 0 0]⟩,
    ⟨none, none, false, .store (.tmp 9) (.tmp 46) 4⟩,
    ⟨(some 10), none, false, .mov (.tmp 47)⟩]) (.seq (.ops [
    ⟨(some 49), none, false, .loadn (.tmp 9) 4⟩,
    ⟨(some 50), none, false, .mov (.tmp 7)⟩,
    ⟨(some 51), none, false, .call diff_Apply [(.tmp 49), (.tmp 50)]⟩,
    ⟨(some 48), none, false, .mov (.tmp 51)⟩,
    ⟨(some 52), none, false, .ext (.tmp 48) 0⟩,
    ⟨(some 53), none, false, .ext (.tmp 48) 1⟩,
    ⟨(some 11), none, false, .new [.slice none 0 0, .slice none 0 0, .slice none 0 0, .slice none 0 0]⟩,
    ⟨none, none, false, .store (.tmp 11) (.tmp 52) 4⟩,
    ⟨(some 12), none, false, .mov (.tmp 53)⟩]) (.seq (.ops [
    ⟨(some 54), none, false, .mov (.tmp 6)⟩,
    ⟨(some 55), none, false, .bin .eql (.tmp 54) (.const (.int .i64 0))⟩,
    ⟨(some 56), none, false, .mov (.tmp 55)⟩,
    ⟨(some 57), (some (56, true)), false, .mov (.tmp 8)⟩,
    ⟨(some 58), (some (56, true)), false, .bin .eql (.tmp 57) (.const (.int .i64 0))⟩,
    ⟨(some 59), none, false, .pick (.tmp 56) (.tmp 58) (.const (.bool false))⟩,
    ⟨(some 60), none, false, .mov (.tmp 59)⟩,
    ⟨(some 61), (some (60, true)), false, .mov (.tmp 10)⟩,
    ⟨(some 62), (some (60, true)), false, .bin .eql (.tmp 61) (.const (.int .i64 0))⟩,
    ⟨(some 63), none, false, .pick (.tmp 60) (.tmp 62) (.const (.bool false))⟩,
    ⟨(some 64), none, false, .mov (.tmp 63)⟩,
    ⟨(some 65), (some (64, true)), false, .mov (.tmp 12)⟩,
    ⟨(some 66), (some (64, true)), false, .bin .eql (.tmp 65) (.const (.int .i64 0))⟩,
    ⟨(some 67), none, false, .pick (.tmp 64) (.tmp 66) (.const (.bool false))⟩,
    ⟨(some 68), none, false, .mov (.tmp 67)⟩,
    ⟨(some 69), (some (68, true)), false, .loadn (.tmp 9) 4⟩,
    ⟨(some 70), (some (68, true)), false, .loadn (.tmp 3) 4⟩,
    ⟨(some 71), (some (68, true)), false, .call chantryref23_Same [(.tmp 69), (.tmp 70)]⟩,
    ⟨(some 72), none, false, .pick (.tmp 68) (.tmp 71) (.const (.bool false))⟩,
    ⟨(some 73), none, false, .mov (.tmp 72)⟩,
    ⟨(some 74), (some (73, true)), false, .loadn (.tmp 11) 4⟩,
    ⟨(some 75), (some (73, true)), false, .loadn (.tmp 2) 4⟩,
    ⟨(some 76), (some (73, true)), false, .call chantryref23_Same [(.tmp 74), (.tmp 75)]⟩,
    ⟨(some 77), none, false, .pick (.tmp 73) (.tmp 76) (.const (.bool false))⟩,
    ⟨(some 78), none, false, .mov (.tmp 77)⟩,
    ⟨(some 79), (some (78, true)), false, .call chantrylaw41_awake []⟩,
    ⟨(some 80), none, false, .pick (.tmp 78) (.tmp 79) (.const (.bool false))⟩,
    ⟨(some 4), none, false, .mov (.tmp 80)⟩]) .ret)))))))
theorem fits_chantrylaw41_DiffBack : Fits Try.prog 0 chantrylaw41_DiffBack ic_chantrylaw41_DiffBack [.tmp 4] 2 :=
  ⟨Try.f5, Try.func5, by decide, by kernel_rfl, by kernel_rfl⟩

/-- chantry/chantrylaw41.large -/
noncomputable def ic_chantrylaw41_large : IC :=
  (.seq (.ops [
    ⟨(some 1), none, false, .box (.tmp 0)⟩,
    ⟨(some 2), none, false, .mov (.const (.bool false))⟩]) (.seq (.seq (.ops [
    ⟨(some 6), none, false, .faddr (.tmp 1) 0⟩,
    ⟨(some 7), none, false, .load1 (.tmp 6)⟩,
    ⟨(some 8), none, false, .lens false (.tmp 7)⟩,
    ⟨(some 9), none, false, .bin .gtr (.tmp 8) (.const (.int .i64 20))⟩,
    ⟨(some 10), none, false, .mov (.tmp 9)⟩,
    ⟨(some 11), (some (10, false)), false, .faddr (.tmp 1) 1⟩,
    ⟨(some 12), (some (10, false)), false, .load1 (.tmp 11)⟩,
    ⟨(some 13), (some (10, false)), false, .lens false (.tmp 12)⟩,
    ⟨(some 14), (some (10, false)), false, .bin .gtr (.tmp 13) (.const (.int .i64 20))⟩,
    ⟨(some 15), none, false, .pick (.tmp 10) (.const (.bool true)) (.tmp 14)⟩,
    ⟨(some 16), none, false, .mov (.tmp 15)⟩,
    ⟨(some 17), (some (16, false)), false, .faddr (.tmp 1) 2⟩,
    ⟨(some 18), (some (16, false)), false, .load1 (.tmp 17)⟩,
    ⟨(some 19), (some (16, false)), false, .lens false (.tmp 18)⟩,
    ⟨(some 20), (some (16, false)), false, .bin .gtr (.tmp 19) (.const (.int .i64 20))⟩,
    ⟨(some 21), none, false, .pick (.tmp 16) (.const (.bool true)) (.tmp 20)⟩,
    ⟨(some 22), none, false, .mov (.tmp 21)⟩,
    ⟨(some 23), (some (22, false)), false, .faddr (.tmp 1) 3⟩,
    ⟨(some 24), (some (22, false)), false, .load1 (.tmp 23)⟩,
    ⟨(some 25), (some (22, false)), false, .lens false (.tmp 24)⟩,
    ⟨(some 26), (some (22, false)), false, .bin .gtr (.tmp 25) (.const (.int .i64 20))⟩,
    ⟨(some 27), none, false, .pick (.tmp 22) (.const (.bool true)) (.tmp 26)⟩]) (.cond (.tmp 27) (.seq (.ops [
    ⟨(some 2), none, false, .mov (.const (.bool true))⟩]) .ret) .skip)) (.seq (.seq (.ops [
    ⟨(some 3), none, false, .mov (.const (.int .i64 0))⟩]) (.block 0 (.loop (.seq (.seq (.ops [
    ⟨(some 28), none, false, .mov (.tmp 3)⟩,
    ⟨(some 29), none, false, .faddr (.tmp 1) 0⟩,
    ⟨(some 30), none, false, .load1 (.tmp 29)⟩,
    ⟨(some 31), none, false, .lens false (.tmp 30)⟩,
    ⟨(some 32), none, false, .bin .lss (.tmp 28) (.tmp 31)⟩]) (.cond (.tmp 32) .skip (.exit 0))) (.seq (.block 1 (.seq (.ops [
    ⟨(some 35), none, false, .faddr (.tmp 1) 0⟩,
    ⟨(some 36), none, false, .load1 (.tmp 35)⟩,
    ⟨(some 37), none, false, .mov (.tmp 3)⟩,
    ⟨(some 38), none, false, .iaddr (.tmp 36) (.tmp 37) 2⟩,
    ⟨(some 39), none, false, .faddr (.tmp 38) 0⟩,
    ⟨(some 40), none, false, .load1 (.tmp 39)⟩,
    ⟨(some 41), none, false, .lens true (.tmp 40)⟩,
    ⟨(some 42), none, false, .bin .gtr (.tmp 41) (.const (.int .i64 60))⟩]) (.cond (.tmp 42) (.seq (.ops [
    ⟨(some 2), none, false, .mov (.const (.bool true))⟩]) .ret) .skip))) (.ops [
    ⟨(some 33), none, false, .mov (.tmp 3)⟩,
    ⟨(some 34), none, false, .bin .add (.tmp 33) (.const (.int .i64 1))⟩,
    ⟨(some 3), none, false, .mov (.tmp 34)⟩])))))) (.seq (.draw [
    ⟨(some 44), none, false, .faddr (.tmp 1) 1⟩,
    ⟨(some 45), none, true, .load1 (.tmp 44)⟩,
    ⟨(some 47), none, false, .faddr (.tmp 1) 2⟩,
    ⟨(some 48), none, true, .load1 (.tmp 47)⟩,
    ⟨(some 50), none, false, .faddr (.tmp 1) 3⟩,
    ⟨(some 51), none, true, .load1 (.tmp 50)⟩,
    ⟨(some 43), none, true, .lit [.string ⟨#[]⟩, .string ⟨#[]⟩] 2 0 []⟩,
    ⟨(some 46), none, true, .app (.tmp 43) (.tmp 45) 2 32⟩,
    ⟨(some 49), none, true, .app (.tmp 46) (.tmp 48) 2 32⟩,
    ⟨(some 52), none, false, .app (.tmp 49) (.tmp 51) 2 32⟩,
    ⟨(some 4), none, false, .mov (.tmp 52)⟩]) (.seq (.seq (.ops [
    ⟨(some 5), none, false, .mov (.const (.int .i64 0))⟩]) (.block 2 (.loop (.seq (.seq (.ops [
    ⟨(some 53), none, false, .mov (.tmp 5)⟩,
    ⟨(some 54), none, false, .mov (.tmp 4)⟩,
    ⟨(some 55), none, false, .lens false (.tmp 54)⟩,
    ⟨(some 56), none, false, .bin .lss (.tmp 53) (.tmp 55)⟩]) (.cond (.tmp 56) .skip (.exit 2))) (.seq (.block 3 (.seq (.ops [
    ⟨(some 59), none, false, .mov (.tmp 4)⟩,
    ⟨(some 60), none, false, .mov (.tmp 5)⟩,
    ⟨(some 61), none, false, .iaddr (.tmp 59) (.tmp 60) 2⟩,
    ⟨(some 62), none, false, .faddr (.tmp 61) 0⟩,
    ⟨(some 63), none, false, .load1 (.tmp 62)⟩,
    ⟨(some 64), none, false, .lens true (.tmp 63)⟩,
    ⟨(some 65), none, false, .bin .gtr (.tmp 64) (.const (.int .i64 60))⟩,
    ⟨(some 66), none, false, .mov (.tmp 65)⟩,
    ⟨(some 67), (some (66, false)), false, .mov (.tmp 4)⟩,
    ⟨(some 68), (some (66, false)), false, .mov (.tmp 5)⟩,
    ⟨(some 69), (some (66, false)), false, .iaddr (.tmp 67) (.tmp 68) 2⟩,
    ⟨(some 70), (some (66, false)), false, .faddr (.tmp 69) 1⟩,
    ⟨(some 71), (some (66, false)), false, .load1 (.tmp 70)⟩,
    ⟨(some 72), (some (66, false)), false, .lens true (.tmp 71)⟩,
    ⟨(some 73), (some (66, false)), false, .bin .gtr (.tmp 72) (.const (.int .i64 100))⟩,
    ⟨(some 74), none, false, .pick (.tmp 66) (.const (.bool true)) (.tmp 73)⟩]) (.cond (.tmp 74) (.seq (.ops [
    ⟨(some 2), none, false, .mov (.const (.bool true))⟩]) .ret) .skip))) (.ops [
    ⟨(some 57), none, false, .mov (.tmp 5)⟩,
    ⟨(some 58), none, false, .bin .add (.tmp 57) (.const (.int .i64 1))⟩,
    ⟨(some 5), none, false, .mov (.tmp 58)⟩])))))) (.seq (.ops [
    ⟨(some 2), none, false, .mov (.const (.bool false))⟩]) .ret))))))
theorem fits_chantrylaw41_large : Fits Try.prog 0 chantrylaw41_large ic_chantrylaw41_large [.tmp 2] 1 :=
  ⟨Try.f6, Try.func6, by decide, by kernel_rfl, by kernel_rfl⟩

/-- chantry/chantrylaw41.awake -/
noncomputable def ic_chantrylaw41_awake : IC :=
  (.seq (.ops [
    ⟨(some 0), none, false, .mov (.const (.bool false))⟩]) (.seq (.ops [
    ⟨(some 12), none, false, .build [.string ⟨#[]⟩, .int .i64 0] [(0, 1, (.const (.string ⟨#[97]⟩))), (1, 1, (.const (.int .i64 1)))]⟩,
    ⟨(some 13), none, false, .lit [.string ⟨#[]⟩, .int .i64 0] 2 1 [(0, 2, (.tmp 12))]⟩,
    ⟨(some 14), none, false, .build [.string ⟨#[]⟩, .string ⟨#[]⟩] [(0, 1, (.const (.string ⟨#[109]⟩))), (1, 1, (.const (.string ⟨#[120]⟩)))]⟩,
    ⟨(some 15), none, false, .lit [.string ⟨#[]⟩, .string ⟨#[]⟩] 2 1 [(0, 2, (.tmp 14))]⟩,
    ⟨(some 16), none, false, .build [.string ⟨#[]⟩, .string ⟨#[]⟩] [(0, 1, (.const (.string ⟨#[108]⟩))), (1, 1, (.const (.string ⟨#[112]⟩)))]⟩,
    ⟨(some 17), none, false, .lit [.string ⟨#[]⟩, .string ⟨#[]⟩] 2 1 [(0, 2, (.tmp 16))]⟩,
    ⟨(some 18), none, false, .build [.slice none 0 0, .slice none 0 0, .slice none 0 0, .slice none 0 0] [(0, 1, (.tmp 13)), (1, 1, (.tmp 15)), (3, 1, (.tmp 17))]⟩,
    ⟨(some 1), none, false, .new [.slice none 0 0, .slice none 0 0, .slice none 0 0, .slice none 0 0]⟩,
    ⟨none, none, false, .store (.tmp 1) (.tmp 18) 4⟩]) (.seq (.ops [
    ⟨(some 19), none, false, .build [.string ⟨#[]⟩, .int .i64 0] [(0, 1, (.const (.string ⟨#[97]⟩))), (1, 1, (.const (.int .i64 2)))]⟩,
    ⟨(some 20), none, false, .lit [.string ⟨#[]⟩, .int .i64 0] 2 1 [(0, 2, (.tmp 19))]⟩,
    ⟨(some 21), none, false, .build [.string ⟨#[]⟩, .string ⟨#[]⟩] [(0, 1, (.const (.string ⟨#[118]⟩)))]⟩,
    ⟨(some 22), none, false, .lit [.string ⟨#[]⟩, .string ⟨#[]⟩] 2 1 [(0, 2, (.tmp 21))]⟩,
    ⟨(some 23), none, false, .build [.string ⟨#[]⟩, .string ⟨#[]⟩] [(0, 1, (.const (.string ⟨#[108]⟩))), (1, 1, (.const (.string ⟨#[113]⟩)))]⟩,
    ⟨(some 24), none, false, .lit [.string ⟨#[]⟩, .string ⟨#[]⟩] 2 1 [(0, 2, (.tmp 23))]⟩,
    ⟨(some 25), none, false, .build [.slice none 0 0, .slice none 0 0, .slice none 0 0, .slice none 0 0] [(0, 1, (.tmp 20)), (2, 1, (.tmp 22)), (3, 1, (.tmp 24))]⟩,
    ⟨(some 2), none, false, .new [.slice none 0 0, .slice none 0 0, .slice none 0 0, .slice none 0 0]⟩,
    ⟨none, none, false, .store (.tmp 2) (.tmp 25) 4⟩]) (.seq (.ops [
    ⟨(some 27), none, false, .loadn (.tmp 1) 4⟩,
    ⟨(some 28), none, false, .loadn (.tmp 2) 4⟩,
    ⟨(some 29), none, false, .call diff_Between [(.tmp 27), (.tmp 28)]⟩,
    ⟨(some 26), none, false, .mov (.tmp 29)⟩,
    ⟨(some 30), none, false, .ext (.tmp 26) 0⟩,
    ⟨(some 31), none, false, .ext (.tmp 26) 1⟩,
    ⟨(some 3), none, false, .mov (.tmp 30)⟩,
    ⟨(some 4), none, false, .mov (.tmp 31)⟩]) (.seq (.ops [
    ⟨(some 33), none, false, .loadn (.tmp 1) 4⟩,
    ⟨(some 34), none, false, .mov (.tmp 3)⟩,
    ⟨(some 35), none, false, .call diff_Apply [(.tmp 33), (.tmp 34)]⟩,
    ⟨(some 32), none, false, .mov (.tmp 35)⟩,
    ⟨(some 36), none, false, .ext (.tmp 32) 0⟩,
    ⟨(some 37), none, false, .ext (.tmp 32) 1⟩,
    ⟨(some 5), none, false, .new [.slice none 0 0, .slice none 0 0, .slice none 0 0, .slice none 0 0]⟩,
    ⟨none, none, false, .store (.tmp 5) (.tmp 36) 4⟩,
    ⟨(some 6), none, false, .mov (.tmp 37)⟩]) (.seq (.ops [
    ⟨(some 39), none, false, .loadn (.tmp 2) 4⟩,
    ⟨(some 40), none, false, .mov (.tmp 3)⟩,
    ⟨(some 41), none, false, .call diff_Apply [(.tmp 39), (.tmp 40)]⟩,
    ⟨(some 38), none, false, .mov (.tmp 41)⟩,
    ⟨(some 42), none, false, .ext (.tmp 38) 0⟩,
    ⟨(some 43), none, false, .ext (.tmp 38) 1⟩,
    ⟨(some 7), none, false, .new [.slice none 0 0, .slice none 0 0, .slice none 0 0, .slice none 0 0]⟩,
    ⟨none, none, false, .store (.tmp 7) (.tmp 42) 4⟩,
    ⟨(some 8), none, false, .mov (.tmp 43)⟩]) (.seq (.ops [
    ⟨(some 45), none, false, .loadn (.tmp 1) 4⟩,
    ⟨(some 46), none, false, .build [.string ⟨#[]⟩, .int .i64 0] [(0, 1, (.const (.string ⟨#[98]⟩)))]⟩,
    ⟨(some 47), none, false, .build [.string ⟨#[]⟩, .int .i64 0] [(0, 1, (.const (.string ⟨#[97]⟩)))]⟩,
    ⟨(some 48), none, false, .lit [.string ⟨#[]⟩, .int .i64 0] 2 2 [(0, 2, (.tmp 46)), (2, 2, (.tmp 47))]⟩,
    ⟨(some 49), none, false, .build [.slice none 0 0, .slice none 0 0, .slice none 0 0, .slice none 0 0] [(0, 1, (.tmp 48))]⟩,
    ⟨(some 50), none, false, .call diff_Between [(.tmp 45), (.tmp 49)]⟩,
    ⟨(some 44), none, false, .mov (.tmp 50)⟩,
    ⟨(some 51), none, false, .ext (.tmp 44) 0⟩,
    ⟨(some 52), none, false, .ext (.tmp 44) 1⟩,
    ⟨(some 9), none, false, .mov (.tmp 51)⟩,
    ⟨(some 10), none, false, .mov (.tmp 52)⟩]) (.seq (.ops [
    ⟨(some 53), none, false, .build [.int .i64 0, .string ⟨#[]⟩, .string ⟨#[]⟩, .int .i64 0] [(0, 1, (.const (.int .i64 2))), (1, 1, (.const (.string ⟨#[97]⟩))), (3, 1, (.const (.int .i64 2)))]⟩,
    ⟨(some 54), none, false, .build [.int .i64 0, .string ⟨#[]⟩, .string ⟨#[]⟩, .int .i64 0] [(0, 1, (.const (.int .i64 3))), (1, 1, (.const (.string ⟨#[109]⟩))), (2, 1, (.const (.string ⟨#[120]⟩)))]⟩,
    ⟨(some 55), none, false, .build [.int .i64 0, .string ⟨#[]⟩, .string ⟨#[]⟩, .int .i64 0] [(0, 1, (.const (.int .i64 6))), (1, 1, (.const (.string ⟨#[118]⟩)))]⟩,
    ⟨(some 56), none, false, .build [.int .i64 0, .string ⟨#[]⟩, .string ⟨#[]⟩, .int .i64 0] [(0, 1, (.const (.int .i64 8))), (1, 1, (.const (.string ⟨#[108]⟩))), (2, 1, (.const (.string ⟨#[113]⟩)))]⟩,
    ⟨(some 57), none, false, .lit [.int .i64 0, .string ⟨#[]⟩, .string ⟨#[]⟩, .int .i64 0] 4 4 [(0, 4, (.tmp 53)), (4, 4, (.tmp 54)), (8, 4, (.tmp 55)), (12, 4, (.tmp 56))]⟩,
    ⟨(some 11), none, false, .mov (.tmp 57)⟩]) (.seq (.ops [
    ⟨(some 58), none, false, .mov (.tmp 4)⟩,
    ⟨(some 59), none, false, .bin .eql (.tmp 58) (.const (.int .i64 0))⟩,
    ⟨(some 60), none, false, .mov (.tmp 59)⟩,
    ⟨(some 61), (some (60, true)), false, .mov (.tmp 3)⟩,
    ⟨(some 62), (some (60, true)), false, .mov (.tmp 11)⟩,
    ⟨(some 63), (some (60, true)), false, .call chantryref41_Same [(.tmp 61), (.tmp 62)]⟩,
    ⟨(some 64), none, false, .pick (.tmp 60) (.tmp 63) (.const (.bool false))⟩,
    ⟨(some 65), none, false, .mov (.tmp 64)⟩,
    ⟨(some 66), (some (65, true)), false, .mov (.tmp 6)⟩,
    ⟨(some 67), (some (65, true)), false, .bin .eql (.tmp 66) (.const (.int .i64 0))⟩,
    ⟨(some 68), none, false, .pick (.tmp 65) (.tmp 67) (.const (.bool false))⟩,
    ⟨(some 69), none, false, .mov (.tmp 68)⟩,
    ⟨(some 70), (some (69, true)), false, .loadn (.tmp 5) 4⟩,
    ⟨(some 71), (some (69, true)), false, .loadn (.tmp 2) 4⟩,
    ⟨(some 72), (some (69, true)), false, .call chantryref23_Same [(.tmp 70), (.tmp 71)]⟩,
    ⟨(some 73), none, false, .pick (.tmp 69) (.tmp 72) (.const (.bool false))⟩,
    ⟨(some 74), none, false, .mov (.tmp 73)⟩,
    ⟨(some 75), (some (74, true)), false, .mov (.tmp 8)⟩,
    ⟨(some 76), (some (74, true)), false, .bin .eql (.tmp 75) (.const (.int .i64 5))⟩,
    ⟨(some 77), none, false, .pick (.tmp 74) (.tmp 76) (.const (.bool false))⟩,
    ⟨(some 78), none, false, .mov (.tmp 77)⟩,
    ⟨(some 79), (some (78, true)), false, .mov (.tmp 10)⟩,
    ⟨(some 80), (some (78, true)), false, .bin .eql (.tmp 79) (.const (.int .i64 1))⟩,
    ⟨(some 81), none, false, .pick (.tmp 78) (.tmp 80) (.const (.bool false))⟩,
    ⟨(some 82), none, false, .mov (.tmp 81)⟩,
    ⟨(some 83), (some (82, true)), false, .loadn (.tmp 1) 4⟩,
    ⟨(some 84), (some (82, true)), false, .call diff_Tidy [(.tmp 83)]⟩,
    ⟨(some 85), none, false, .pick (.tmp 82) (.tmp 84) (.const (.bool false))⟩,
    ⟨(some 86), none, false, .mov (.tmp 85)⟩,
    ⟨(some 87), (some (86, true)), false, .mov (.tmp 3)⟩,
    ⟨(some 88), (some (86, true)), false, .mov (.tmp 11)⟩,
    ⟨(some 89), (some (86, true)), false, .call diff_Same [(.tmp 87), (.tmp 88)]⟩,
    ⟨(some 90), none, false, .pick (.tmp 86) (.tmp 89) (.const (.bool false))⟩,
    ⟨(some 91), none, false, .mov (.tmp 90)⟩,
    ⟨(some 92), (some (91, true)), false, .mov (.tmp 3)⟩,
    ⟨(some 93), (some (91, true)), false, .call diff_Same [(.tmp 92), (.const (.slice none 0 0))]⟩,
    ⟨(some 94), (some (91, true)), false, .un .not (.tmp 93)⟩,
    ⟨(some 95), none, false, .pick (.tmp 91) (.tmp 94) (.const (.bool false))⟩,
    ⟨(some 0), none, false, .mov (.tmp 95)⟩]) .ret)))))))))
theorem fits_chantrylaw41_awake : Fits Try.prog 0 chantrylaw41_awake ic_chantrylaw41_awake [.tmp 0] 0 :=
  ⟨Try.f7, Try.func7, by decide, by kernel_rfl, by kernel_rfl⟩

/-- chantry/diff.Between -/
noncomputable def ic_diff_Between : IC :=
  (.seq (.ops [
    ⟨(some 2), none, false, .box (.tmp 0)⟩,
    ⟨(some 3), none, false, .box (.tmp 1)⟩,
    ⟨(some 4), none, false, .mov (.const (.slice none 0 0))⟩,
    ⟨(some 5), none, false, .mov (.const (.int .i64 0))⟩]) (.seq (.seq (.ops [
    ⟨(some 6), none, false, .loadn (.tmp 2) 4⟩,
    ⟨(some 7), none, false, .call diff_Tidy [(.tmp 6)]⟩,
    ⟨(some 8), none, false, .un .not (.tmp 7)⟩,
    ⟨(some 9), none, false, .mov (.tmp 8)⟩,
    ⟨(some 10), (some (9, false)), false, .loadn (.tmp 3) 4⟩,
    ⟨(some 11), (some (9, false)), false, .call diff_Tidy [(.tmp 10)]⟩,
    ⟨(some 12), (some (9, false)), false, .un .not (.tmp 11)⟩,
    ⟨(some 13), none, false, .pick (.tmp 9) (.const (.bool true)) (.tmp 12)⟩]) (.cond (.tmp 13) (.seq (.ops [
    ⟨(some 4), none, false, .mov (.const (.slice none 0 0))⟩,
    ⟨(some 5), none, false, .mov (.const (.int .i64 1))⟩]) .ret) .skip)) (.seq (.draw [
    ⟨(some 14), none, false, .faddr (.tmp 2) 0⟩,
    ⟨(some 15), none, false, .load1 (.tmp 14)⟩,
    ⟨(some 16), none, false, .faddr (.tmp 3) 0⟩,
    ⟨(some 17), none, false, .load1 (.tmp 16)⟩,
    ⟨(some 19), none, false, .faddr (.tmp 3) 0⟩,
    ⟨(some 20), none, true, .load1 (.tmp 19)⟩,
    ⟨(some 21), none, false, .faddr (.tmp 2) 0⟩,
    ⟨(some 22), none, true, .load1 (.tmp 21)⟩,
    ⟨(some 24), none, false, .faddr (.tmp 2) 1⟩,
    ⟨(some 25), none, true, .load1 (.tmp 24)⟩,
    ⟨(some 26), none, false, .faddr (.tmp 3) 1⟩,
    ⟨(some 27), none, true, .load1 (.tmp 26)⟩,
    ⟨(some 29), none, false, .faddr (.tmp 2) 2⟩,
    ⟨(some 30), none, true, .load1 (.tmp 29)⟩,
    ⟨(some 31), none, false, .faddr (.tmp 3) 2⟩,
    ⟨(some 32), none, true, .load1 (.tmp 31)⟩,
    ⟨(some 34), none, false, .faddr (.tmp 2) 3⟩,
    ⟨(some 35), none, true, .load1 (.tmp 34)⟩,
    ⟨(some 36), none, false, .faddr (.tmp 3) 3⟩,
    ⟨(some 37), none, true, .load1 (.tmp 36)⟩,
    ⟨(some 39), none, false, .faddr (.tmp 3) 3⟩,
    ⟨(some 40), none, true, .load1 (.tmp 39)⟩,
    ⟨(some 41), none, false, .faddr (.tmp 2) 3⟩,
    ⟨(some 42), none, true, .load1 (.tmp 41)⟩,
    ⟨(some 18), none, true, .call api_Count [(.tmp 15), (.tmp 17), (.func 19), (.const (.bool false)), (.func 20)]⟩,
    ⟨(some 23), none, true, .call api_Count [(.tmp 20), (.tmp 22), (.func 19), (.const (.bool true)), (.func 21)]⟩,
    ⟨(some 28), none, true, .call diff_words [(.tmp 25), (.tmp 27), (.const (.int .i64 3)), (.const (.int .i64 4))]⟩,
    ⟨(some 33), none, true, .call diff_words [(.tmp 30), (.tmp 32), (.const (.int .i64 5)), (.const (.int .i64 6))]⟩,
    ⟨(some 38), none, true, .call api_Word [(.tmp 35), (.tmp 37), (.func 24), (.const (.bool false)), (.func 25)]⟩,
    ⟨(some 43), none, false, .call api_Word [(.tmp 40), (.tmp 42), (.func 24), (.const (.bool true)), (.func 26)]⟩,
    ⟨(some 44), none, false, .lit [.slice none 0 0] 1 6 [(0, 1, (.tmp 18)), (1, 1, (.tmp 23)), (2, 1, (.tmp 28)), (3, 1, (.tmp 33)), (4, 1, (.tmp 38)), (5, 1, (.tmp 43))]⟩,
    ⟨(some 45), none, false, .call api_Delta [(.tmp 44)]⟩,
    ⟨(some 4), none, false, .mov (.tmp 45)⟩,
    ⟨(some 5), none, false, .mov (.const (.int .i64 0))⟩]) .ret)))
theorem fits_diff_Between : Fits Try.prog 0 diff_Between ic_diff_Between [.tmp 4, .tmp 5] 2 :=
  ⟨Try.f8, Try.func8, by decide, by kernel_rfl, by kernel_rfl⟩

/-- chantry/chantryref41.Between -/
noncomputable def ic_chantryref41_Between : IC :=
  (.seq (.ops [
    ⟨(some 2), none, false, .box (.tmp 0)⟩,
    ⟨(some 3), none, false, .box (.tmp 1)⟩,
    ⟨(some 4), none, false, .mov (.const (.slice none 0 0))⟩,
    ⟨(some 5), none, false, .mov (.const (.int .i64 0))⟩]) (.seq (.seq (.ops [
    ⟨(some 11), none, false, .loadn (.tmp 2) 4⟩,
    ⟨(some 12), none, false, .call chantryref41_Tidy [(.tmp 11)]⟩,
    ⟨(some 13), none, false, .un .not (.tmp 12)⟩,
    ⟨(some 14), none, false, .mov (.tmp 13)⟩,
    ⟨(some 15), (some (14, false)), false, .loadn (.tmp 3) 4⟩,
    ⟨(some 16), (some (14, false)), false, .call chantryref41_Tidy [(.tmp 15)]⟩,
    ⟨(some 17), (some (14, false)), false, .un .not (.tmp 16)⟩,
    ⟨(some 18), none, false, .pick (.tmp 14) (.const (.bool true)) (.tmp 17)⟩]) (.cond (.tmp 18) (.seq (.ops [
    ⟨(some 4), none, false, .mov (.const (.slice none 0 0))⟩,
    ⟨(some 5), none, false, .mov (.const (.int .i64 1))⟩]) .ret) .skip)) (.seq (.ops [
    ⟨(some 6), none, false, .mov (.const (.slice none 0 0))⟩]) (.seq (.seq (.ops [
    ⟨(some 7), none, false, .mov (.const (.int .i64 0))⟩]) (.block 0 (.loop (.seq (.seq (.ops [
    ⟨(some 19), none, false, .mov (.tmp 7)⟩,
    ⟨(some 20), none, false, .faddr (.tmp 2) 0⟩,
    ⟨(some 21), none, false, .load1 (.tmp 20)⟩,
    ⟨(some 22), none, false, .lens false (.tmp 21)⟩,
    ⟨(some 23), none, false, .bin .lss (.tmp 19) (.tmp 22)⟩]) (.cond (.tmp 23) .skip (.exit 0))) (.seq (.block 1 (.seq (.draw [
    ⟨(some 26), none, false, .faddr (.tmp 3) 0⟩,
    ⟨(some 27), none, false, .load1 (.tmp 26)⟩,
    ⟨(some 28), none, false, .faddr (.tmp 2) 0⟩,
    ⟨(some 29), none, false, .load1 (.tmp 28)⟩,
    ⟨(some 30), none, false, .mov (.tmp 7)⟩,
    ⟨(some 31), none, false, .iaddr (.tmp 29) (.tmp 30) 2⟩,
    ⟨(some 32), none, false, .faddr (.tmp 31) 0⟩,
    ⟨(some 33), none, false, .load1 (.tmp 32)⟩,
    ⟨(some 34), none, false, .call chantryref41_counted [(.tmp 27), (.tmp 33)]⟩,
    ⟨(some 35), none, false, .bin .lss (.tmp 34) (.const (.int .i64 0))⟩]) (.cond (.tmp 35) (.ops [
    ⟨(some 36), none, false, .mov (.tmp 6)⟩,
    ⟨(some 37), none, false, .faddr (.tmp 2) 0⟩,
    ⟨(some 38), none, false, .load1 (.tmp 37)⟩,
    ⟨(some 39), none, false, .mov (.tmp 7)⟩,
    ⟨(some 40), none, false, .iaddr (.tmp 38) (.tmp 39) 2⟩,
    ⟨(some 41), none, false, .faddr (.tmp 40) 0⟩,
    ⟨(some 42), none, false, .load1 (.tmp 41)⟩,
    ⟨(some 43), none, false, .build [.int .i64 0, .string ⟨#[]⟩, .string ⟨#[]⟩, .int .i64 0] [(0, 1, (.const (.int .i64 1))), (1, 1, (.tmp 42))]⟩,
    ⟨(some 44), none, false, .lit [.int .i64 0, .string ⟨#[]⟩, .string ⟨#[]⟩, .int .i64 0] 4 1 [(0, 4, (.tmp 43))]⟩,
    ⟨(some 45), none, false, .app (.tmp 36) (.tmp 44) 4 48⟩,
    ⟨(some 6), none, false, .mov (.tmp 45)⟩]) .skip))) (.ops [
    ⟨(some 24), none, false, .mov (.tmp 7)⟩,
    ⟨(some 25), none, false, .bin .add (.tmp 24) (.const (.int .i64 1))⟩,
    ⟨(some 7), none, false, .mov (.tmp 25)⟩])))))) (.seq (.seq (.ops [
    ⟨(some 8), none, false, .mov (.const (.int .i64 0))⟩]) (.block 2 (.loop (.seq (.seq (.ops [
    ⟨(some 46), none, false, .mov (.tmp 8)⟩,
    ⟨(some 47), none, false, .faddr (.tmp 3) 0⟩,
    ⟨(some 48), none, false, .load1 (.tmp 47)⟩,
    ⟨(some 49), none, false, .lens false (.tmp 48)⟩,
    ⟨(some 50), none, false, .bin .lss (.tmp 46) (.tmp 49)⟩]) (.cond (.tmp 50) .skip (.exit 2))) (.seq (.block 3 (.seq (.draw [
    ⟨(some 53), none, false, .faddr (.tmp 2) 0⟩,
    ⟨(some 54), none, false, .load1 (.tmp 53)⟩,
    ⟨(some 55), none, false, .faddr (.tmp 3) 0⟩,
    ⟨(some 56), none, false, .load1 (.tmp 55)⟩,
    ⟨(some 57), none, false, .mov (.tmp 8)⟩,
    ⟨(some 58), none, false, .iaddr (.tmp 56) (.tmp 57) 2⟩,
    ⟨(some 59), none, false, .faddr (.tmp 58) 0⟩,
    ⟨(some 60), none, false, .load1 (.tmp 59)⟩,
    ⟨(some 61), none, false, .call chantryref41_counted [(.tmp 54), (.tmp 60)]⟩,
    ⟨(some 9), none, false, .mov (.tmp 61)⟩]) (.seq (.draw [
    ⟨(some 62), none, false, .mov (.tmp 9)⟩,
    ⟨(some 63), none, false, .bin .lss (.tmp 62) (.const (.int .i64 0))⟩,
    ⟨(some 64), none, false, .mov (.tmp 63)⟩,
    ⟨(some 65), (some (64, false)), false, .faddr (.tmp 2) 0⟩,
    ⟨(some 66), (some (64, false)), false, .load1 (.tmp 65)⟩,
    ⟨(some 67), (some (64, false)), false, .mov (.tmp 9)⟩,
    ⟨(some 68), (some (64, false)), false, .iaddr (.tmp 66) (.tmp 67) 2⟩,
    ⟨(some 69), (some (64, false)), false, .faddr (.tmp 68) 1⟩,
    ⟨(some 70), (some (64, false)), false, .load1 (.tmp 69)⟩,
    ⟨(some 71), (some (64, false)), false, .faddr (.tmp 3) 0⟩,
    ⟨(some 72), (some (64, false)), false, .load1 (.tmp 71)⟩,
    ⟨(some 73), (some (64, false)), false, .mov (.tmp 8)⟩,
    ⟨(some 74), (some (64, false)), false, .iaddr (.tmp 72) (.tmp 73) 2⟩,
    ⟨(some 75), (some (64, false)), false, .faddr (.tmp 74) 1⟩,
    ⟨(some 76), (some (64, false)), false, .load1 (.tmp 75)⟩,
    ⟨(some 77), (some (64, false)), false, .bin .neq (.tmp 70) (.tmp 76)⟩,
    ⟨(some 78), none, false, .pick (.tmp 64) (.const (.bool true)) (.tmp 77)⟩]) (.cond (.tmp 78) (.draw [
    ⟨(some 79), none, false, .mov (.tmp 6)⟩,
    ⟨(some 80), none, false, .faddr (.tmp 3) 0⟩,
    ⟨(some 81), none, false, .load1 (.tmp 80)⟩,
    ⟨(some 82), none, false, .mov (.tmp 8)⟩,
    ⟨(some 83), none, false, .iaddr (.tmp 81) (.tmp 82) 2⟩,
    ⟨(some 84), none, false, .faddr (.tmp 83) 0⟩,
    ⟨(some 85), none, false, .load1 (.tmp 84)⟩,
    ⟨(some 86), none, false, .faddr (.tmp 3) 0⟩,
    ⟨(some 87), none, false, .load1 (.tmp 86)⟩,
    ⟨(some 88), none, false, .mov (.tmp 8)⟩,
    ⟨(some 89), none, false, .iaddr (.tmp 87) (.tmp 88) 2⟩,
    ⟨(some 90), none, false, .faddr (.tmp 89) 1⟩,
    ⟨(some 91), none, false, .load1 (.tmp 90)⟩,
    ⟨(some 92), none, false, .build [.int .i64 0, .string ⟨#[]⟩, .string ⟨#[]⟩, .int .i64 0] [(0, 1, (.const (.int .i64 2))), (1, 1, (.tmp 85)), (3, 1, (.tmp 91))]⟩,
    ⟨(some 93), none, false, .lit [.int .i64 0, .string ⟨#[]⟩, .string ⟨#[]⟩, .int .i64 0] 4 1 [(0, 4, (.tmp 92))]⟩,
    ⟨(some 94), none, false, .app (.tmp 79) (.tmp 93) 4 48⟩,
    ⟨(some 6), none, false, .mov (.tmp 94)⟩]) .skip)))) (.ops [
    ⟨(some 51), none, false, .mov (.tmp 8)⟩,
    ⟨(some 52), none, false, .bin .add (.tmp 51) (.const (.int .i64 1))⟩,
    ⟨(some 8), none, false, .mov (.tmp 52)⟩])))))) (.seq (.ops [
    ⟨(some 95), none, false, .mov (.tmp 6)⟩,
    ⟨(some 96), none, false, .faddr (.tmp 2) 1⟩,
    ⟨(some 97), none, false, .load1 (.tmp 96)⟩,
    ⟨(some 98), none, false, .faddr (.tmp 3) 1⟩,
    ⟨(some 99), none, false, .load1 (.tmp 98)⟩,
    ⟨(some 100), none, false, .call chantryref41_words [(.const (.int .i64 3)), (.tmp 97), (.tmp 99)]⟩,
    ⟨(some 101), none, false, .app (.tmp 95) (.tmp 100) 4 48⟩,
    ⟨(some 6), none, false, .mov (.tmp 101)⟩]) (.seq (.ops [
    ⟨(some 102), none, false, .mov (.tmp 6)⟩,
    ⟨(some 103), none, false, .faddr (.tmp 3) 1⟩,
    ⟨(some 104), none, false, .load1 (.tmp 103)⟩,
    ⟨(some 105), none, false, .faddr (.tmp 2) 1⟩,
    ⟨(some 106), none, false, .load1 (.tmp 105)⟩,
    ⟨(some 107), none, false, .call chantryref41_words [(.const (.int .i64 4)), (.tmp 104), (.tmp 106)]⟩,
    ⟨(some 108), none, false, .app (.tmp 102) (.tmp 107) 4 48⟩,
    ⟨(some 6), none, false, .mov (.tmp 108)⟩]) (.seq (.ops [
    ⟨(some 109), none, false, .mov (.tmp 6)⟩,
    ⟨(some 110), none, false, .faddr (.tmp 2) 2⟩,
    ⟨(some 111), none, false, .load1 (.tmp 110)⟩,
    ⟨(some 112), none, false, .faddr (.tmp 3) 2⟩,
    ⟨(some 113), none, false, .load1 (.tmp 112)⟩,
    ⟨(some 114), none, false, .call chantryref41_words [(.const (.int .i64 5)), (.tmp 111), (.tmp 113)]⟩,
    ⟨(some 115), none, false, .app (.tmp 109) (.tmp 114) 4 48⟩,
    ⟨(some 6), none, false, .mov (.tmp 115)⟩]) (.seq (.ops [
    ⟨(some 116), none, false, .mov (.tmp 6)⟩,
    ⟨(some 117), none, false, .faddr (.tmp 3) 2⟩,
    ⟨(some 118), none, false, .load1 (.tmp 117)⟩,
    ⟨(some 119), none, false, .faddr (.tmp 2) 2⟩,
    ⟨(some 120), none, false, .load1 (.tmp 119)⟩,
    ⟨(some 121), none, false, .call chantryref41_words [(.const (.int .i64 6)), (.tmp 118), (.tmp 120)]⟩,
    ⟨(some 122), none, false, .app (.tmp 116) (.tmp 121) 4 48⟩,
    ⟨(some 6), none, false, .mov (.tmp 122)⟩]) (.seq (.seq (.ops [
    ⟨(some 10), none, false, .mov (.const (.int .i64 0))⟩]) (.block 4 (.loop (.seq (.seq (.ops [
    ⟨(some 123), none, false, .mov (.tmp 10)⟩,
    ⟨(some 124), none, false, .faddr (.tmp 2) 3⟩,
    ⟨(some 125), none, false, .load1 (.tmp 124)⟩,
    ⟨(some 126), none, false, .lens false (.tmp 125)⟩,
    ⟨(some 127), none, false, .bin .lss (.tmp 123) (.tmp 126)⟩]) (.cond (.tmp 127) .skip (.exit 4))) (.seq (.block 5 (.seq (.draw [
    ⟨(some 130), none, false, .faddr (.tmp 3) 3⟩,
    ⟨(some 131), none, false, .load1 (.tmp 130)⟩,
    ⟨(some 132), none, false, .faddr (.tmp 2) 3⟩,
    ⟨(some 133), none, false, .load1 (.tmp 132)⟩,
    ⟨(some 134), none, false, .mov (.tmp 10)⟩,
    ⟨(some 135), none, false, .iaddr (.tmp 133) (.tmp 134) 2⟩,
    ⟨(some 136), none, false, .faddr (.tmp 135) 0⟩,
    ⟨(some 137), none, false, .load1 (.tmp 136)⟩,
    ⟨(some 138), none, false, .call chantryref41_named [(.tmp 131), (.tmp 137)]⟩,
    ⟨(some 139), none, false, .bin .lss (.tmp 138) (.const (.int .i64 0))⟩]) (.cond (.tmp 139) (.ops [
    ⟨(some 140), none, false, .mov (.tmp 6)⟩,
    ⟨(some 141), none, false, .faddr (.tmp 2) 3⟩,
    ⟨(some 142), none, false, .load1 (.tmp 141)⟩,
    ⟨(some 143), none, false, .mov (.tmp 10)⟩,
    ⟨(some 144), none, false, .iaddr (.tmp 142) (.tmp 143) 2⟩,
    ⟨(some 145), none, false, .faddr (.tmp 144) 0⟩,
    ⟨(some 146), none, false, .load1 (.tmp 145)⟩,
    ⟨(some 147), none, false, .build [.int .i64 0, .string ⟨#[]⟩, .string ⟨#[]⟩, .int .i64 0] [(0, 1, (.const (.int .i64 7))), (1, 1, (.tmp 146))]⟩,
    ⟨(some 148), none, false, .lit [.int .i64 0, .string ⟨#[]⟩, .string ⟨#[]⟩, .int .i64 0] 4 1 [(0, 4, (.tmp 147))]⟩,
    ⟨(some 149), none, false, .app (.tmp 140) (.tmp 148) 4 48⟩,
    ⟨(some 6), none, false, .mov (.tmp 149)⟩]) .skip))) (.ops [
    ⟨(some 128), none, false, .mov (.tmp 10)⟩,
    ⟨(some 129), none, false, .bin .add (.tmp 128) (.const (.int .i64 1))⟩,
    ⟨(some 10), none, false, .mov (.tmp 129)⟩])))))) (.seq (.ops [
    ⟨(some 150), none, false, .mov (.tmp 6)⟩,
    ⟨(some 151), none, false, .faddr (.tmp 3) 3⟩,
    ⟨(some 152), none, false, .load1 (.tmp 151)⟩,
    ⟨(some 153), none, false, .faddr (.tmp 2) 3⟩,
    ⟨(some 154), none, false, .load1 (.tmp 153)⟩,
    ⟨(some 155), none, false, .call chantryref41_words [(.const (.int .i64 8)), (.tmp 152), (.tmp 154)]⟩,
    ⟨(some 156), none, false, .app (.tmp 150) (.tmp 155) 4 48⟩,
    ⟨(some 4), none, false, .mov (.tmp 156)⟩,
    ⟨(some 5), none, false, .mov (.const (.int .i64 0))⟩]) .ret)))))))))))
theorem fits_chantryref41_Between : Fits Try.prog 0 chantryref41_Between ic_chantryref41_Between [.tmp 4, .tmp 5] 2 :=
  ⟨Try.f9, Try.func9, by decide, by kernel_rfl, by kernel_rfl⟩

/-- chantry/chantryref41.Same -/
noncomputable def ic_chantryref41_Same : IC :=
  (.seq (.ops [
    ⟨(some 4), none, false, .mov (.const (.bool false))⟩]) (.seq (.seq (.ops [
    ⟨(some 6), none, false, .mov (.tmp 0)⟩,
    ⟨(some 7), none, false, .lens false (.tmp 6)⟩,
    ⟨(some 8), none, false, .mov (.tmp 1)⟩,
    ⟨(some 9), none, false, .lens false (.tmp 8)⟩,
    ⟨(some 10), none, false, .bin .neq (.tmp 7) (.tmp 9)⟩]) (.cond (.tmp 10) (.seq (.ops [
    ⟨(some 4), none, false, .mov (.const (.bool false))⟩]) .ret) .skip)) (.seq (.seq (.ops [
    ⟨(some 5), none, false, .mov (.const (.int .i64 0))⟩]) (.block 0 (.loop (.seq (.seq (.ops [
    ⟨(some 11), none, false, .mov (.tmp 5)⟩,
    ⟨(some 12), none, false, .mov (.tmp 0)⟩,
    ⟨(some 13), none, false, .lens false (.tmp 12)⟩,
    ⟨(some 14), none, false, .bin .lss (.tmp 11) (.tmp 13)⟩]) (.cond (.tmp 14) .skip (.exit 0))) (.seq (.block 1 (.seq (.draw [
    ⟨(some 17), none, false, .mov (.tmp 0)⟩,
    ⟨(some 18), none, false, .mov (.tmp 5)⟩,
    ⟨(some 19), none, false, .iaddr (.tmp 17) (.tmp 18) 4⟩,
    ⟨(some 20), none, false, .loadn (.tmp 19) 4⟩,
    ⟨(some 21), none, false, .mov (.tmp 1)⟩,
    ⟨(some 22), none, false, .mov (.tmp 5)⟩,
    ⟨(some 23), none, false, .iaddr (.tmp 21) (.tmp 22) 4⟩,
    ⟨(some 24), none, false, .loadn (.tmp 23) 4⟩,
    ⟨(some 25), none, false, .eqagg true (Try.prog.keyLits 8 35) (.tmp 20) (.tmp 24)⟩]) (.cond (.tmp 25) (.seq (.ops [
    ⟨(some 4), none, false, .mov (.const (.bool false))⟩]) .ret) .skip))) (.ops [
    ⟨(some 15), none, false, .mov (.tmp 5)⟩,
    ⟨(some 16), none, false, .bin .add (.tmp 15) (.const (.int .i64 1))⟩,
    ⟨(some 5), none, false, .mov (.tmp 16)⟩])))))) (.seq (.ops [
    ⟨(some 4), none, false, .mov (.const (.bool true))⟩]) .ret))))
theorem fits_chantryref41_Same : Fits Try.prog 0 chantryref41_Same ic_chantryref41_Same [.tmp 4] 2 :=
  ⟨Try.f10, Try.func10, by decide, by kernel_rfl, by kernel_rfl⟩

/-- chantry/diff.Tidy -/
noncomputable def ic_diff_Tidy : IC :=
  (.seq (.ops [
    ⟨(some 1), none, false, .box (.tmp 0)⟩,
    ⟨(some 2), none, false, .mov (.const (.bool false))⟩]) (.seq (.ops [
    ⟨(some 3), none, false, .faddr (.tmp 1) 0⟩,
    ⟨(some 4), none, false, .load1 (.tmp 3)⟩,
    ⟨(some 5), none, false, .call api_Count_30 [(.tmp 4), (.func 19)]⟩,
    ⟨(some 6), none, false, .mov (.tmp 5)⟩,
    ⟨(some 7), (some (6, true)), false, .faddr (.tmp 1) 1⟩,
    ⟨(some 8), (some (6, true)), false, .load1 (.tmp 7)⟩,
    ⟨(some 9), (some (6, true)), false, .call api_Word_31 [(.tmp 8), (.func 32)]⟩,
    ⟨(some 10), none, false, .pick (.tmp 6) (.tmp 9) (.const (.bool false))⟩,
    ⟨(some 11), none, false, .mov (.tmp 10)⟩,
    ⟨(some 12), (some (11, true)), false, .faddr (.tmp 1) 2⟩,
    ⟨(some 13), (some (11, true)), false, .load1 (.tmp 12)⟩,
    ⟨(some 14), (some (11, true)), false, .call api_Word_31 [(.tmp 13), (.func 32)]⟩,
    ⟨(some 15), none, false, .pick (.tmp 11) (.tmp 14) (.const (.bool false))⟩,
    ⟨(some 16), none, false, .mov (.tmp 15)⟩,
    ⟨(some 17), (some (16, true)), false, .faddr (.tmp 1) 3⟩,
    ⟨(some 18), (some (16, true)), false, .load1 (.tmp 17)⟩,
    ⟨(some 19), (some (16, true)), false, .call api_Word_31 [(.tmp 18), (.func 24)]⟩,
    ⟨(some 20), none, false, .pick (.tmp 16) (.tmp 19) (.const (.bool false))⟩,
    ⟨(some 2), none, false, .mov (.tmp 20)⟩]) .ret))
theorem fits_diff_Tidy : Fits Try.prog 0 diff_Tidy ic_diff_Tidy [.tmp 2] 1 :=
  ⟨Try.f11, Try.func11, by decide, by kernel_rfl, by kernel_rfl⟩

/-- chantry/chantryref41.Tidy -/
noncomputable def ic_chantryref41_Tidy : IC :=
  (.seq (.ops [
    ⟨(some 1), none, false, .box (.tmp 0)⟩,
    ⟨(some 2), none, false, .mov (.const (.bool false))⟩]) (.seq (.seq (.ops [
    ⟨(some 3), none, false, .mov (.const (.int .i64 1))⟩]) (.block 0 (.loop (.seq (.seq (.ops [
    ⟨(some 4), none, false, .mov (.tmp 3)⟩,
    ⟨(some 5), none, false, .faddr (.tmp 1) 0⟩,
    ⟨(some 6), none, false, .load1 (.tmp 5)⟩,
    ⟨(some 7), none, false, .lens false (.tmp 6)⟩,
    ⟨(some 8), none, false, .bin .lss (.tmp 4) (.tmp 7)⟩]) (.cond (.tmp 8) .skip (.exit 0))) (.seq (.block 1 (.seq (.draw [
    ⟨(some 11), none, false, .faddr (.tmp 1) 0⟩,
    ⟨(some 12), none, false, .load1 (.tmp 11)⟩,
    ⟨(some 13), none, false, .mov (.tmp 3)⟩,
    ⟨(some 14), none, false, .bin .sub (.tmp 13) (.const (.int .i64 1))⟩,
    ⟨(some 15), none, false, .iaddr (.tmp 12) (.tmp 14) 2⟩,
    ⟨(some 16), none, false, .faddr (.tmp 15) 0⟩,
    ⟨(some 17), none, false, .load1 (.tmp 16)⟩,
    ⟨(some 18), none, false, .faddr (.tmp 1) 0⟩,
    ⟨(some 19), none, false, .load1 (.tmp 18)⟩,
    ⟨(some 20), none, false, .mov (.tmp 3)⟩,
    ⟨(some 21), none, false, .iaddr (.tmp 19) (.tmp 20) 2⟩,
    ⟨(some 22), none, false, .faddr (.tmp 21) 0⟩,
    ⟨(some 23), none, false, .load1 (.tmp 22)⟩,
    ⟨(some 24), none, false, .bin .geq (.tmp 17) (.tmp 23)⟩]) (.cond (.tmp 24) (.seq (.ops [
    ⟨(some 2), none, false, .mov (.const (.bool false))⟩]) .ret) .skip))) (.ops [
    ⟨(some 9), none, false, .mov (.tmp 3)⟩,
    ⟨(some 10), none, false, .bin .add (.tmp 9) (.const (.int .i64 1))⟩,
    ⟨(some 3), none, false, .mov (.tmp 10)⟩])))))) (.seq (.ops [
    ⟨(some 25), none, false, .faddr (.tmp 1) 1⟩,
    ⟨(some 26), none, false, .load1 (.tmp 25)⟩,
    ⟨(some 27), none, false, .call chantryref41_rising [(.tmp 26), (.const (.bool false))]⟩,
    ⟨(some 28), none, false, .mov (.tmp 27)⟩,
    ⟨(some 29), (some (28, true)), false, .faddr (.tmp 1) 2⟩,
    ⟨(some 30), (some (28, true)), false, .load1 (.tmp 29)⟩,
    ⟨(some 31), (some (28, true)), false, .call chantryref41_rising [(.tmp 30), (.const (.bool false))]⟩,
    ⟨(some 32), none, false, .pick (.tmp 28) (.tmp 31) (.const (.bool false))⟩,
    ⟨(some 33), none, false, .mov (.tmp 32)⟩,
    ⟨(some 34), (some (33, true)), false, .faddr (.tmp 1) 3⟩,
    ⟨(some 35), (some (33, true)), false, .load1 (.tmp 34)⟩,
    ⟨(some 36), (some (33, true)), false, .call chantryref41_rising [(.tmp 35), (.const (.bool true))]⟩,
    ⟨(some 37), none, false, .pick (.tmp 33) (.tmp 36) (.const (.bool false))⟩,
    ⟨(some 2), none, false, .mov (.tmp 37)⟩]) .ret)))
theorem fits_chantryref41_Tidy : Fits Try.prog 0 chantryref41_Tidy ic_chantryref41_Tidy [.tmp 2] 1 :=
  ⟨Try.f12, Try.func12, by decide, by kernel_rfl, by kernel_rfl⟩

/-- chantry/chantryref23.Same -/
noncomputable def ic_chantryref23_Same : IC :=
  (.seq (.ops [
    ⟨(some 2), none, false, .box (.tmp 0)⟩,
    ⟨(some 3), none, false, .box (.tmp 1)⟩,
    ⟨(some 4), none, false, .mov (.const (.bool false))⟩]) (.seq (.ops [
    ⟨(some 5), none, false, .faddr (.tmp 2) 0⟩,
    ⟨(some 6), none, false, .load1 (.tmp 5)⟩,
    ⟨(some 7), none, false, .faddr (.tmp 3) 0⟩,
    ⟨(some 8), none, false, .load1 (.tmp 7)⟩,
    ⟨(some 9), none, false, .call chantryref19_Same [(.tmp 6), (.tmp 8)]⟩,
    ⟨(some 10), none, false, .mov (.tmp 9)⟩,
    ⟨(some 11), (some (10, true)), false, .faddr (.tmp 2) 1⟩,
    ⟨(some 12), (some (10, true)), false, .load1 (.tmp 11)⟩,
    ⟨(some 13), (some (10, true)), false, .faddr (.tmp 3) 1⟩,
    ⟨(some 14), (some (10, true)), false, .load1 (.tmp 13)⟩,
    ⟨(some 15), (some (10, true)), false, .call chantryref20_SameWords [(.tmp 12), (.tmp 14)]⟩,
    ⟨(some 16), none, false, .pick (.tmp 10) (.tmp 15) (.const (.bool false))⟩,
    ⟨(some 17), none, false, .mov (.tmp 16)⟩,
    ⟨(some 18), (some (17, true)), false, .faddr (.tmp 2) 2⟩,
    ⟨(some 19), (some (17, true)), false, .load1 (.tmp 18)⟩,
    ⟨(some 20), (some (17, true)), false, .faddr (.tmp 3) 2⟩,
    ⟨(some 21), (some (17, true)), false, .load1 (.tmp 20)⟩,
    ⟨(some 22), (some (17, true)), false, .call chantryref20_SameWords [(.tmp 19), (.tmp 21)]⟩,
    ⟨(some 23), none, false, .pick (.tmp 17) (.tmp 22) (.const (.bool false))⟩,
    ⟨(some 24), none, false, .mov (.tmp 23)⟩,
    ⟨(some 25), (some (24, true)), false, .faddr (.tmp 2) 3⟩,
    ⟨(some 26), (some (24, true)), false, .load1 (.tmp 25)⟩,
    ⟨(some 27), (some (24, true)), false, .faddr (.tmp 3) 3⟩,
    ⟨(some 28), (some (24, true)), false, .load1 (.tmp 27)⟩,
    ⟨(some 29), (some (24, true)), false, .call chantryref20_SameWords [(.tmp 26), (.tmp 28)]⟩,
    ⟨(some 30), none, false, .pick (.tmp 24) (.tmp 29) (.const (.bool false))⟩,
    ⟨(some 4), none, false, .mov (.tmp 30)⟩]) .ret))
theorem fits_chantryref23_Same : Fits Try.prog 0 chantryref23_Same ic_chantryref23_Same [.tmp 4] 2 :=
  ⟨Try.f13, Try.func13, by decide, by kernel_rfl, by kernel_rfl⟩

/-- chantry/diff.Apply -/
noncomputable def ic_diff_Apply : IC :=
  (.seq (.ops [
    ⟨(some 2), none, false, .box (.tmp 0)⟩,
    ⟨(some 4), none, false, .new [.slice none 0 0, .slice none 0 0, .slice none 0 0, .slice none 0 0]⟩,
    ⟨(some 5), none, false, .mov (.const (.int .i64 0))⟩]) (.seq (.seq (.ops [
    ⟨(some 8), none, false, .loadn (.tmp 2) 4⟩,
    ⟨(some 9), none, false, .call diff_Tidy [(.tmp 8)]⟩,
    ⟨(some 10), none, false, .un .not (.tmp 9)⟩]) (.cond (.tmp 10) (.seq (.ops [
    ⟨(some 11), none, false, .build [.slice none 0 0, .slice none 0 0, .slice none 0 0, .slice none 0 0] []⟩,
    ⟨none, none, false, .store (.tmp 4) (.tmp 11) 4⟩,
    ⟨(some 5), none, false, .mov (.const (.int .i64 1))⟩]) .ret) .skip)) (.seq (.seq (.ops [
    ⟨(some 12), none, false, .mov (.tmp 1)⟩,
    ⟨(some 13), none, false, .lens false (.tmp 12)⟩,
    ⟨(some 14), none, false, .mov (.const (.int .i64 0))⟩]) (.block 0 (.loop (.seq (.ops [
    ⟨(some 15), none, false, .bin .lss (.tmp 14) (.tmp 13)⟩]) (.seq (.cond (.tmp 15) .skip (.exit 0)) (.seq (.block 1 (.seq (.ops [
    ⟨(some 16), none, false, .iaddr (.tmp 12) (.tmp 14) 4⟩,
    ⟨(some 17), none, false, .loadn (.tmp 16) 4⟩,
    ⟨(some 7), none, false, .new [.int .i64 0, .string ⟨#[]⟩, .string ⟨#[]⟩, .int .i64 0]⟩,
    ⟨none, none, false, .store (.tmp 7) (.tmp 17) 4⟩]) (.seq (.ops [
    ⟨(some 18), none, false, .loadn (.tmp 7) 4⟩,
    ⟨(some 19), none, false, .call diff_apply [(.tmp 2), (.tmp 18)]⟩,
    ⟨(some 20), none, false, .un .not (.tmp 19)⟩]) (.cond (.tmp 20) (.seq (.ops [
    ⟨(some 21), none, false, .build [.slice none 0 0, .slice none 0 0, .slice none 0 0, .slice none 0 0] []⟩,
    ⟨none, none, false, .store (.tmp 4) (.tmp 21) 4⟩,
    ⟨(some 5), none, false, .mov (.const (.int .i64 5))⟩]) .ret) .skip)))) (.ops [
    ⟨(some 22), none, false, .bin .add (.tmp 14) (.const (.int .i64 1))⟩,
    ⟨(some 14), none, false, .mov (.tmp 22)⟩]))))))) (.seq (.ops [
    ⟨(some 23), none, false, .loadn (.tmp 2) 4⟩,
    ⟨none, none, false, .store (.tmp 4) (.tmp 23) 4⟩,
    ⟨(some 5), none, false, .mov (.const (.int .i64 0))⟩]) .ret))))
theorem fits_diff_Apply : Fits Try.prog 0 diff_Apply ic_diff_Apply [.many 4 4, .tmp 5] 2 :=
  ⟨Try.f14, Try.func14, by decide, by kernel_rfl, by kernel_rfl⟩

/-- chantry/chantryref41.Apply -/
noncomputable def ic_chantryref41_Apply : IC :=
  (.seq (.ops [
    ⟨(some 2), none, false, .box (.tmp 0)⟩,
    ⟨(some 4), none, false, .new [.slice none 0 0, .slice none 0 0, .slice none 0 0, .slice none 0 0]⟩,
    ⟨(some 5), none, false, .mov (.const (.int .i64 0))⟩]) (.seq (.seq (.ops [
    ⟨(some 8), none, false, .loadn (.tmp 2) 4⟩,
    ⟨(some 9), none, false, .call chantryref41_Tidy [(.tmp 8)]⟩,
    ⟨(some 10), none, false, .un .not (.tmp 9)⟩]) (.cond (.tmp 10) (.seq (.ops [
    ⟨(some 11), none, false, .build [.slice none 0 0, .slice none 0 0, .slice none 0 0, .slice none 0 0] []⟩,
    ⟨none, none, false, .store (.tmp 4) (.tmp 11) 4⟩,
    ⟨(some 5), none, false, .mov (.const (.int .i64 1))⟩]) .ret) .skip)) (.seq (.seq (.ops [
    ⟨(some 6), none, false, .mov (.const (.int .i64 0))⟩]) (.block 0 (.loop (.seq (.seq (.ops [
    ⟨(some 12), none, false, .mov (.tmp 6)⟩,
    ⟨(some 13), none, false, .mov (.tmp 1)⟩,
    ⟨(some 14), none, false, .lens false (.tmp 13)⟩,
    ⟨(some 15), none, false, .bin .lss (.tmp 12) (.tmp 14)⟩]) (.cond (.tmp 15) .skip (.exit 0))) (.seq (.block 1 (.seq (.ops [
    ⟨(some 7), none, false, .mov (.const (.bool false))⟩]) (.seq (.seq (.ops [
    ⟨(some 18), none, false, .mov (.tmp 1)⟩,
    ⟨(some 19), none, false, .mov (.tmp 6)⟩,
    ⟨(some 20), none, false, .iaddr (.tmp 18) (.tmp 19) 4⟩,
    ⟨(some 21), none, false, .faddr (.tmp 20) 0⟩,
    ⟨(some 22), none, false, .load1 (.tmp 21)⟩]) (.block 2 (.seq (.seq (.ops [
    ⟨(some 24), none, false, .bin .eql (.tmp 22) (.const (.int .i64 1))⟩,
    ⟨(some 23), none, false, .mov (.tmp 24)⟩]) (.cond (.tmp 23) .skip (.ops [
    ⟨(some 25), none, false, .bin .eql (.tmp 22) (.const (.int .i64 2))⟩,
    ⟨(some 23), none, false, .mov (.tmp 25)⟩]))) (.cond (.tmp 23) (.draw [
    ⟨(some 27), none, false, .faddr (.tmp 2) 0⟩,
    ⟨(some 28), none, false, .load1 (.tmp 27)⟩,
    ⟨(some 29), none, false, .mov (.tmp 1)⟩,
    ⟨(some 30), none, false, .mov (.tmp 6)⟩,
    ⟨(some 31), none, false, .iaddr (.tmp 29) (.tmp 30) 4⟩,
    ⟨(some 32), none, false, .loadn (.tmp 31) 4⟩,
    ⟨(some 33), none, false, .call chantryref41_count [(.tmp 28), (.tmp 32)]⟩,
    ⟨(some 26), none, false, .mov (.tmp 33)⟩,
    ⟨(some 34), none, false, .ext (.tmp 26) 0⟩,
    ⟨(some 35), none, false, .ext (.tmp 26) 1⟩,
    ⟨(some 36), none, false, .faddr (.tmp 2) 0⟩,
    ⟨none, none, false, .store (.tmp 36) (.tmp 34) 1⟩,
    ⟨(some 7), none, false, .mov (.tmp 35)⟩]) (.seq (.seq (.ops [
    ⟨(some 38), none, false, .bin .eql (.tmp 22) (.const (.int .i64 3))⟩,
    ⟨(some 37), none, false, .mov (.tmp 38)⟩]) (.cond (.tmp 37) .skip (.ops [
    ⟨(some 39), none, false, .bin .eql (.tmp 22) (.const (.int .i64 4))⟩,
    ⟨(some 37), none, false, .mov (.tmp 39)⟩]))) (.cond (.tmp 37) (.draw [
    ⟨(some 41), none, false, .faddr (.tmp 2) 1⟩,
    ⟨(some 42), none, false, .load1 (.tmp 41)⟩,
    ⟨(some 43), none, false, .mov (.tmp 1)⟩,
    ⟨(some 44), none, false, .mov (.tmp 6)⟩,
    ⟨(some 45), none, false, .iaddr (.tmp 43) (.tmp 44) 4⟩,
    ⟨(some 46), none, false, .loadn (.tmp 45) 4⟩,
    ⟨(some 47), none, false, .mov (.tmp 1)⟩,
    ⟨(some 48), none, false, .mov (.tmp 6)⟩,
    ⟨(some 49), none, false, .iaddr (.tmp 47) (.tmp 48) 4⟩,
    ⟨(some 50), none, false, .faddr (.tmp 49) 0⟩,
    ⟨(some 51), none, false, .load1 (.tmp 50)⟩,
    ⟨(some 52), none, false, .bin .eql (.tmp 51) (.const (.int .i64 4))⟩,
    ⟨(some 53), none, false, .call chantryref41_turn [(.tmp 42), (.tmp 46), (.tmp 52)]⟩,
    ⟨(some 40), none, false, .mov (.tmp 53)⟩,
    ⟨(some 54), none, false, .ext (.tmp 40) 0⟩,
    ⟨(some 55), none, false, .ext (.tmp 40) 1⟩,
    ⟨(some 56), none, false, .faddr (.tmp 2) 1⟩,
    ⟨none, none, false, .store (.tmp 56) (.tmp 54) 1⟩,
    ⟨(some 7), none, false, .mov (.tmp 55)⟩]) (.seq (.seq (.ops [
    ⟨(some 58), none, false, .bin .eql (.tmp 22) (.const (.int .i64 5))⟩,
    ⟨(some 57), none, false, .mov (.tmp 58)⟩]) (.cond (.tmp 57) .skip (.ops [
    ⟨(some 59), none, false, .bin .eql (.tmp 22) (.const (.int .i64 6))⟩,
    ⟨(some 57), none, false, .mov (.tmp 59)⟩]))) (.cond (.tmp 57) (.draw [
    ⟨(some 61), none, false, .faddr (.tmp 2) 2⟩,
    ⟨(some 62), none, false, .load1 (.tmp 61)⟩,
    ⟨(some 63), none, false, .mov (.tmp 1)⟩,
    ⟨(some 64), none, false, .mov (.tmp 6)⟩,
    ⟨(some 65), none, false, .iaddr (.tmp 63) (.tmp 64) 4⟩,
    ⟨(some 66), none, false, .loadn (.tmp 65) 4⟩,
    ⟨(some 67), none, false, .mov (.tmp 1)⟩,
    ⟨(some 68), none, false, .mov (.tmp 6)⟩,
    ⟨(some 69), none, false, .iaddr (.tmp 67) (.tmp 68) 4⟩,
    ⟨(some 70), none, false, .faddr (.tmp 69) 0⟩,
    ⟨(some 71), none, false, .load1 (.tmp 70)⟩,
    ⟨(some 72), none, false, .bin .eql (.tmp 71) (.const (.int .i64 6))⟩,
    ⟨(some 73), none, false, .call chantryref41_turn [(.tmp 62), (.tmp 66), (.tmp 72)]⟩,
    ⟨(some 60), none, false, .mov (.tmp 73)⟩,
    ⟨(some 74), none, false, .ext (.tmp 60) 0⟩,
    ⟨(some 75), none, false, .ext (.tmp 60) 1⟩,
    ⟨(some 76), none, false, .faddr (.tmp 2) 2⟩,
    ⟨none, none, false, .store (.tmp 76) (.tmp 74) 1⟩,
    ⟨(some 7), none, false, .mov (.tmp 75)⟩]) (.seq (.seq (.ops [
    ⟨(some 78), none, false, .bin .eql (.tmp 22) (.const (.int .i64 7))⟩,
    ⟨(some 77), none, false, .mov (.tmp 78)⟩]) (.cond (.tmp 77) .skip (.ops [
    ⟨(some 79), none, false, .bin .eql (.tmp 22) (.const (.int .i64 8))⟩,
    ⟨(some 77), none, false, .mov (.tmp 79)⟩]))) (.cond (.tmp 77) (.draw [
    ⟨(some 81), none, false, .faddr (.tmp 2) 3⟩,
    ⟨(some 82), none, false, .load1 (.tmp 81)⟩,
    ⟨(some 83), none, false, .mov (.tmp 1)⟩,
    ⟨(some 84), none, false, .mov (.tmp 6)⟩,
    ⟨(some 85), none, false, .iaddr (.tmp 83) (.tmp 84) 4⟩,
    ⟨(some 86), none, false, .loadn (.tmp 85) 4⟩,
    ⟨(some 87), none, false, .call chantryref41_line [(.tmp 82), (.tmp 86)]⟩,
    ⟨(some 80), none, false, .mov (.tmp 87)⟩,
    ⟨(some 88), none, false, .ext (.tmp 80) 0⟩,
    ⟨(some 89), none, false, .ext (.tmp 80) 1⟩,
    ⟨(some 90), none, false, .faddr (.tmp 2) 3⟩,
    ⟨none, none, false, .store (.tmp 90) (.tmp 88) 1⟩,
    ⟨(some 7), none, false, .mov (.tmp 89)⟩]) .skip)))))))))) (.seq (.ops [
    ⟨(some 91), none, false, .mov (.tmp 7)⟩,
    ⟨(some 92), none, false, .un .not (.tmp 91)⟩]) (.cond (.tmp 92) (.seq (.ops [
    ⟨(some 93), none, false, .build [.slice none 0 0, .slice none 0 0, .slice none 0 0, .slice none 0 0] []⟩,
    ⟨none, none, false, .store (.tmp 4) (.tmp 93) 4⟩,
    ⟨(some 5), none, false, .mov (.const (.int .i64 5))⟩]) .ret) .skip))))) (.ops [
    ⟨(some 16), none, false, .mov (.tmp 6)⟩,
    ⟨(some 17), none, false, .bin .add (.tmp 16) (.const (.int .i64 1))⟩,
    ⟨(some 6), none, false, .mov (.tmp 17)⟩])))))) (.seq (.ops [
    ⟨(some 94), none, false, .loadn (.tmp 2) 4⟩,
    ⟨none, none, false, .store (.tmp 4) (.tmp 94) 4⟩,
    ⟨(some 5), none, false, .mov (.const (.int .i64 0))⟩]) .ret))))
theorem fits_chantryref41_Apply : Fits Try.prog 0 chantryref41_Apply ic_chantryref41_Apply [.many 4 4, .tmp 5] 2 :=
  ⟨Try.f15, Try.func15, by decide, by kernel_rfl, by kernel_rfl⟩

/-- chantry/diff.Same -/
noncomputable def ic_diff_Same : IC :=
  (.seq (.ops [
    ⟨(some 4), none, false, .mov (.const (.bool false))⟩]) (.seq (.ops [
    ⟨(some 5), none, false, .mov (.tmp 0)⟩,
    ⟨(some 6), none, false, .mov (.tmp 1)⟩,
    ⟨(some 7), none, false, .call api_Delta_40 [(.tmp 5), (.tmp 6)]⟩,
    ⟨(some 4), none, false, .mov (.tmp 7)⟩]) .ret))
theorem fits_diff_Same : Fits Try.prog 0 diff_Same ic_diff_Same [.tmp 4] 2 :=
  ⟨Try.f16, Try.func16, by decide, by kernel_rfl, by kernel_rfl⟩

/-- slices.Concat[[]chantry/api.Delta,chantry/api.Delta] -/
noncomputable def ic_api_Delta : IC :=
  (.seq (.ops [
    ⟨(some 2), none, false, .mov (.const (.slice none 0 0))⟩]) (.seq (.ops [
    ⟨(some 3), none, false, .mov (.const (.int .i64 0))⟩]) (.seq (.seq (.ops [
    ⟨(some 9), none, false, .mov (.tmp 0)⟩,
    ⟨(some 10), none, false, .lens false (.tmp 9)⟩,
    ⟨(some 11), none, false, .mov (.const (.int .i64 0))⟩]) (.block 0 (.loop (.seq (.ops [
    ⟨(some 12), none, false, .bin .lss (.tmp 11) (.tmp 10)⟩]) (.seq (.cond (.tmp 12) .skip (.exit 0)) (.seq (.block 1 (.seq (.ops [
    ⟨(some 13), none, false, .iaddr (.tmp 9) (.tmp 11) 1⟩,
    ⟨(some 14), none, false, .load1 (.tmp 13)⟩,
    ⟨(some 5), none, false, .mov (.tmp 14)⟩]) (.seq (.ops [
    ⟨(some 15), none, false, .mov (.tmp 3)⟩,
    ⟨(some 16), none, false, .mov (.tmp 5)⟩,
    ⟨(some 17), none, false, .lens false (.tmp 16)⟩,
    ⟨(some 18), none, false, .bin .add (.tmp 15) (.tmp 17)⟩,
    ⟨(some 3), none, false, .mov (.tmp 18)⟩]) (.seq (.ops [
    ⟨(some 19), none, false, .mov (.tmp 3)⟩,
    ⟨(some 20), none, false, .bin .lss (.tmp 19) (.const (.int .i64 0))⟩]) (.cond (.tmp 20) (.ops [
    ⟨(some 21), none, false, .ifc 9 (.const (.string ⟨#[108, 101, 110, 32, 111, 117, 116, 32, 111, 102, 32, 114, 97, 110, 103, 101]⟩))⟩,
    ⟨none, none, false, .fail⟩]) .skip))))) (.ops [
    ⟨(some 22), none, false, .bin .add (.tmp 11) (.const (.int .i64 1))⟩,
    ⟨(some 11), none, false, .mov (.tmp 22)⟩]))))))) (.seq (.ops [
    ⟨(some 23), none, false, .mov (.tmp 3)⟩,
    ⟨(some 24), none, false, .call api_Delta_41 [(.const (.slice none 0 0)), (.tmp 23)]⟩,
    ⟨(some 6), none, false, .mov (.tmp 24)⟩]) (.seq (.seq (.ops [
    ⟨(some 25), none, false, .mov (.tmp 0)⟩,
    ⟨(some 26), none, false, .lens false (.tmp 25)⟩,
    ⟨(some 27), none, false, .mov (.const (.int .i64 0))⟩]) (.block 2 (.loop (.seq (.ops [
    ⟨(some 28), none, false, .bin .lss (.tmp 27) (.tmp 26)⟩]) (.seq (.cond (.tmp 28) .skip (.exit 2)) (.seq (.block 3 (.seq (.ops [
    ⟨(some 29), none, false, .iaddr (.tmp 25) (.tmp 27) 1⟩,
    ⟨(some 30), none, false, .load1 (.tmp 29)⟩,
    ⟨(some 8), none, false, .mov (.tmp 30)⟩]) (.ops [
    ⟨(some 31), none, false, .mov (.tmp 6)⟩,
    ⟨(some 32), none, false, .mov (.tmp 8)⟩,
    ⟨(some 33), none, false, .app (.tmp 31) (.tmp 32) 4 48⟩,
    ⟨(some 6), none, false, .mov (.tmp 33)⟩]))) (.ops [
    ⟨(some 34), none, false, .bin .add (.tmp 27) (.const (.int .i64 1))⟩,
    ⟨(some 27), none, false, .mov (.tmp 34)⟩]))))))) (.seq (.ops [
    ⟨(some 35), none, false, .mov (.tmp 6)⟩,
    ⟨(some 2), none, false, .mov (.tmp 35)⟩]) .ret))))))
theorem fits_api_Delta : Fits Try.prog 0 api_Delta ic_api_Delta [.tmp 2] 1 :=
  ⟨Try.f17, Try.func17, by decide, by kernel_rfl, by kernel_rfl⟩

/-- chantry/diff.less[chantry/api.Count] -/
noncomputable def ic_api_Count : IC :=
  (.seq (.ops [
    ⟨(some 10), none, false, .mov (.const (.slice none 0 0))⟩]) (.seq (.ops [
    ⟨(some 11), none, false, .mov (.const (.slice none 0 0))⟩]) (.seq (.seq (.ops [
    ⟨(some 16), none, false, .mov (.tmp 0)⟩,
    ⟨(some 17), none, false, .lens false (.tmp 16)⟩,
    ⟨(some 18), none, false, .mov (.const (.int .i64 0))⟩]) (.block 0 (.loop (.seq (.ops [
    ⟨(some 19), none, false, .bin .lss (.tmp 18) (.tmp 17)⟩]) (.seq (.cond (.tmp 19) .skip (.exit 0)) (.seq (.block 1 (.seq (.ops [
    ⟨(some 20), none, false, .iaddr (.tmp 16) (.tmp 18) 2⟩,
    ⟨(some 21), none, false, .loadn (.tmp 20) 2⟩,
    ⟨(some 13), none, false, .new [.string ⟨#[]⟩, .int .i64 0]⟩,
    ⟨none, none, false, .store (.tmp 13) (.tmp 21) 2⟩]) (.seq (.ops [
    ⟨(some 23), none, false, .mov (.tmp 1)⟩,
    ⟨(some 24), none, false, .loadn (.tmp 13) 2⟩,
    ⟨(some 25), none, false, .mov (.tmp 2)⟩,
    ⟨(some 26), none, false, .call api_Count_42 [(.tmp 23), (.tmp 24), (.tmp 25)]⟩,
    ⟨(some 22), none, false, .mov (.tmp 26)⟩,
    ⟨(some 27), none, false, .ext (.tmp 22) 0⟩,
    ⟨(some 28), none, false, .ext (.tmp 22) 1⟩,
    ⟨(some 14), none, false, .mov (.tmp 27)⟩,
    ⟨(some 15), none, false, .mov (.tmp 28)⟩]) (.seq (.draw [
    ⟨(some 29), none, false, .mov (.tmp 15)⟩,
    ⟨(some 30), none, false, .un .not (.tmp 29)⟩,
    ⟨(some 31), none, false, .mov (.tmp 30)⟩,
    ⟨(some 32), (some (31, false)), false, .mov (.tmp 3)⟩,
    ⟨(some 33), (some (31, false)), false, .mov (.tmp 32)⟩,
    ⟨(some 34), (some (33, true)), false, .mov (.tmp 1)⟩,
    ⟨(some 35), (some (33, true)), false, .mov (.tmp 14)⟩,
    ⟨(some 36), (some (33, true)), false, .iaddr (.tmp 34) (.tmp 35) 2⟩,
    ⟨(some 37), (some (33, true)), false, .loadn (.tmp 36) 2⟩,
    ⟨(some 38), (some (33, true)), false, .loadn (.tmp 13) 2⟩,
    ⟨(some 39), (some (33, true)), false, .eqagg true (Try.prog.keyLits 8 40) (.tmp 37) (.tmp 38)⟩,
    ⟨(some 40), (some (31, false)), false, .pick (.tmp 33) (.tmp 39) (.const (.bool false))⟩,
    ⟨(some 41), none, false, .pick (.tmp 31) (.const (.bool true)) (.tmp 40)⟩]) (.cond (.tmp 41) (.ops [
    ⟨(some 42), none, false, .mov (.tmp 11)⟩,
    ⟨(some 43), none, false, .mov (.tmp 4)⟩,
    ⟨(some 44), none, false, .loadn (.tmp 13) 2⟩,
    ⟨(some 45), none, false, .calld (.tmp 43) [(.tmp 44)]⟩,
    ⟨(some 46), none, false, .lit [.int .i64 0, .string ⟨#[]⟩, .string ⟨#[]⟩, .int .i64 0] 4 1 [(0, 4, (.tmp 45))]⟩,
    ⟨(some 47), none, false, .app (.tmp 42) (.tmp 46) 4 48⟩,
    ⟨(some 11), none, false, .mov (.tmp 47)⟩]) .skip))))) (.ops [
    ⟨(some 48), none, false, .bin .add (.tmp 18) (.const (.int .i64 1))⟩,
    ⟨(some 18), none, false, .mov (.tmp 48)⟩]))))))) (.seq (.ops [
    ⟨(some 49), none, false, .mov (.tmp 11)⟩,
    ⟨(some 10), none, false, .mov (.tmp 49)⟩]) .ret))))
theorem fits_api_Count : Fits Try.prog 0 api_Count ic_api_Count [.tmp 10] 5 :=
  ⟨Try.f18, Try.func18, by decide, by kernel_rfl, by kernel_rfl⟩

/-- chantry/diff.byCount -/
noncomputable def ic_diff_byCount : IC :=
  (.seq (.ops [
    ⟨(some 2), none, false, .box (.tmp 0)⟩,
    ⟨(some 3), none, false, .box (.tmp 1)⟩,
    ⟨(some 4), none, false, .mov (.const (.int .i64 0))⟩]) (.seq (.ops [
    ⟨(some 5), none, false, .faddr (.tmp 2) 0⟩,
    ⟨(some 6), none, false, .load1 (.tmp 5)⟩,
    ⟨(some 7), none, false, .faddr (.tmp 3) 0⟩,
    ⟨(some 8), none, false, .load1 (.tmp 7)⟩,
    ⟨(some 9), none, false, .call cmp_Compare_string [(.tmp 6), (.tmp 8)]⟩,
    ⟨(some 4), none, false, .mov (.tmp 9)⟩]) .ret))
theorem fits_diff_byCount : Fits Try.prog 0 diff_byCount ic_diff_byCount [.tmp 4] 2 :=
  ⟨Try.f19, Try.func19, by decide, by kernel_rfl, by kernel_rfl⟩

/-- chantry/diff.Between$1 -/
noncomputable def ic_diff_Between_1 : IC :=
  (.seq (.ops [
    ⟨(some 1), none, false, .box (.tmp 0)⟩,
    ⟨(some 2), none, false, .new [.int .i64 0, .string ⟨#[]⟩, .string ⟨#[]⟩, .int .i64 0]⟩]) (.seq (.ops [
    ⟨(some 3), none, false, .faddr (.tmp 1) 0⟩,
    ⟨(some 4), none, false, .load1 (.tmp 3)⟩,
    ⟨(some 5), none, false, .build [.int .i64 0, .string ⟨#[]⟩, .string ⟨#[]⟩, .int .i64 0] [(0, 1, (.const (.int .i64 1))), (1, 1, (.tmp 4))]⟩,
    ⟨none, none, false, .store (.tmp 2) (.tmp 5) 4⟩]) .ret))
theorem fits_diff_Between_1 : Fits Try.prog 0 diff_Between_1 ic_diff_Between_1 [.many 2 4] 1 :=
  ⟨Try.f20, Try.func20, by decide, by kernel_rfl, by kernel_rfl⟩

/-- chantry/diff.Between$2 -/
noncomputable def ic_diff_Between_2 : IC :=
  (.seq (.ops [
    ⟨(some 1), none, false, .box (.tmp 0)⟩,
    ⟨(some 2), none, false, .new [.int .i64 0, .string ⟨#[]⟩, .string ⟨#[]⟩, .int .i64 0]⟩]) (.seq (.ops [
    ⟨(some 3), none, false, .faddr (.tmp 1) 0⟩,
    ⟨(some 4), none, false, .load1 (.tmp 3)⟩,
    ⟨(some 5), none, false, .faddr (.tmp 1) 1⟩,
    ⟨(some 6), none, false, .load1 (.tmp 5)⟩,
    ⟨(some 7), none, false, .build [.int .i64 0, .string ⟨#[]⟩, .string ⟨#[]⟩, .int .i64 0] [(0, 1, (.const (.int .i64 2))), (1, 1, (.tmp 4)), (3, 1, (.tmp 6))]⟩,
    ⟨none, none, false, .store (.tmp 2) (.tmp 7) 4⟩]) .ret))
theorem fits_diff_Between_2 : Fits Try.prog 0 diff_Between_2 ic_diff_Between_2 [.many 2 4] 1 :=
  ⟨Try.f21, Try.func21, by decide, by kernel_rfl, by kernel_rfl⟩

/-- chantry/diff.words -/
noncomputable def ic_diff_words : IC :=
  (.seq (.ops [
    ⟨(some 8), none, false, .mov (.const (.slice none 0 0))⟩]) (.seq (.ops [
    ⟨(some 9), none, false, .mov (.func 44)⟩]) (.seq (.ops [
    ⟨(some 10), none, false, .mov (.tmp 0)⟩,
    ⟨(some 11), none, false, .mov (.tmp 1)⟩,
    ⟨(some 12), none, false, .mov (.tmp 9)⟩,
    ⟨(some 13), none, false, .mov (.tmp 2)⟩,
    ⟨(some 14), none, false, .calld (.tmp 12) [(.tmp 13)]⟩,
    ⟨(some 15), none, false, .call api_Word [(.tmp 10), (.tmp 11), (.func 32), (.const (.bool false)), (.tmp 14)]⟩,
    ⟨(some 16), none, false, .mov (.tmp 1)⟩,
    ⟨(some 17), none, false, .mov (.tmp 0)⟩,
    ⟨(some 18), none, false, .mov (.tmp 9)⟩,
    ⟨(some 19), none, false, .mov (.tmp 3)⟩,
    ⟨(some 20), none, false, .calld (.tmp 18) [(.tmp 19)]⟩,
    ⟨(some 21), none, false, .call api_Word [(.tmp 16), (.tmp 17), (.func 32), (.const (.bool false)), (.tmp 20)]⟩,
    ⟨(some 22), none, false, .lit [.slice none 0 0] 1 2 [(0, 1, (.tmp 15)), (1, 1, (.tmp 21))]⟩,
    ⟨(some 23), none, false, .call api_Delta [(.tmp 22)]⟩,
    ⟨(some 8), none, false, .mov (.tmp 23)⟩]) .ret)))
theorem fits_diff_words : Fits Try.prog 0 diff_words ic_diff_words [.tmp 8] 4 :=
  ⟨Try.f22, Try.func22, by decide, by kernel_rfl, by kernel_rfl⟩

/-- chantry/diff.less[chantry/api.Word] -/
noncomputable def ic_api_Word : IC :=
  (.seq (.ops [
    ⟨(some 10), none, false, .mov (.const (.slice none 0 0))⟩]) (.seq (.ops [
    ⟨(some 11), none, false, .mov (.const (.slice none 0 0))⟩]) (.seq (.seq (.ops [
    ⟨(some 16), none, false, .mov (.tmp 0)⟩,
    ⟨(some 17), none, false, .lens false (.tmp 16)⟩,
    ⟨(some 18), none, false, .mov (.const (.int .i64 0))⟩]) (.block 0 (.loop (.seq (.ops [
    ⟨(some 19), none, false, .bin .lss (.tmp 18) (.tmp 17)⟩]) (.seq (.cond (.tmp 19) .skip (.exit 0)) (.seq (.block 1 (.seq (.ops [
    ⟨(some 20), none, false, .iaddr (.tmp 16) (.tmp 18) 2⟩,
    ⟨(some 21), none, false, .loadn (.tmp 20) 2⟩,
    ⟨(some 13), none, false, .new [.string ⟨#[]⟩, .string ⟨#[]⟩]⟩,
    ⟨none, none, false, .store (.tmp 13) (.tmp 21) 2⟩]) (.seq (.ops [
    ⟨(some 23), none, false, .mov (.tmp 1)⟩,
    ⟨(some 24), none, false, .loadn (.tmp 13) 2⟩,
    ⟨(some 25), none, false, .mov (.tmp 2)⟩,
    ⟨(some 26), none, false, .call api_Word_46 [(.tmp 23), (.tmp 24), (.tmp 25)]⟩,
    ⟨(some 22), none, false, .mov (.tmp 26)⟩,
    ⟨(some 27), none, false, .ext (.tmp 22) 0⟩,
    ⟨(some 28), none, false, .ext (.tmp 22) 1⟩,
    ⟨(some 14), none, false, .mov (.tmp 27)⟩,
    ⟨(some 15), none, false, .mov (.tmp 28)⟩]) (.seq (.draw [
    ⟨(some 29), none, false, .mov (.tmp 15)⟩,
    ⟨(some 30), none, false, .un .not (.tmp 29)⟩,
    ⟨(some 31), none, false, .mov (.tmp 30)⟩,
    ⟨(some 32), (some (31, false)), false, .mov (.tmp 3)⟩,
    ⟨(some 33), (some (31, false)), false, .mov (.tmp 32)⟩,
    ⟨(some 34), (some (33, true)), false, .mov (.tmp 1)⟩,
    ⟨(some 35), (some (33, true)), false, .mov (.tmp 14)⟩,
    ⟨(some 36), (some (33, true)), false, .iaddr (.tmp 34) (.tmp 35) 2⟩,
    ⟨(some 37), (some (33, true)), false, .loadn (.tmp 36) 2⟩,
    ⟨(some 38), (some (33, true)), false, .loadn (.tmp 13) 2⟩,
    ⟨(some 39), (some (33, true)), false, .eqagg true (Try.prog.keyLits 8 42) (.tmp 37) (.tmp 38)⟩,
    ⟨(some 40), (some (31, false)), false, .pick (.tmp 33) (.tmp 39) (.const (.bool false))⟩,
    ⟨(some 41), none, false, .pick (.tmp 31) (.const (.bool true)) (.tmp 40)⟩]) (.cond (.tmp 41) (.ops [
    ⟨(some 42), none, false, .mov (.tmp 11)⟩,
    ⟨(some 43), none, false, .mov (.tmp 4)⟩,
    ⟨(some 44), none, false, .loadn (.tmp 13) 2⟩,
    ⟨(some 45), none, false, .calld (.tmp 43) [(.tmp 44)]⟩,
    ⟨(some 46), none, false, .lit [.int .i64 0, .string ⟨#[]⟩, .string ⟨#[]⟩, .int .i64 0] 4 1 [(0, 4, (.tmp 45))]⟩,
    ⟨(some 47), none, false, .app (.tmp 42) (.tmp 46) 4 48⟩,
    ⟨(some 11), none, false, .mov (.tmp 47)⟩]) .skip))))) (.ops [
    ⟨(some 48), none, false, .bin .add (.tmp 18) (.const (.int .i64 1))⟩,
    ⟨(some 18), none, false, .mov (.tmp 48)⟩]))))))) (.seq (.ops [
    ⟨(some 49), none, false, .mov (.tmp 11)⟩,
    ⟨(some 10), none, false, .mov (.tmp 49)⟩]) .ret))))
theorem fits_api_Word : Fits Try.prog 0 api_Word ic_api_Word [.tmp 10] 5 :=
  ⟨Try.f23, Try.func23, by decide, by kernel_rfl, by kernel_rfl⟩

/-- chantry/diff.byName -/
noncomputable def ic_diff_byName : IC :=
  (.seq (.ops [
    ⟨(some 2), none, false, .box (.tmp 0)⟩,
    ⟨(some 3), none, false, .box (.tmp 1)⟩,
    ⟨(some 4), none, false, .mov (.const (.int .i64 0))⟩]) (.seq (.ops [
    ⟨(some 5), none, false, .faddr (.tmp 2) 0⟩,
    ⟨(some 6), none, false, .load1 (.tmp 5)⟩,
    ⟨(some 7), none, false, .faddr (.tmp 3) 0⟩,
    ⟨(some 8), none, false, .load1 (.tmp 7)⟩,
    ⟨(some 9), none, false, .call cmp_Compare_string [(.tmp 6), (.tmp 8)]⟩,
    ⟨(some 4), none, false, .mov (.tmp 9)⟩]) .ret))
theorem fits_diff_byName : Fits Try.prog 0 diff_byName ic_diff_byName [.tmp 4] 2 :=
  ⟨Try.f24, Try.func24, by decide, by kernel_rfl, by kernel_rfl⟩

/-- chantry/diff.Between$3 -/
noncomputable def ic_diff_Between_3 : IC :=
  (.seq (.ops [
    ⟨(some 1), none, false, .box (.tmp 0)⟩,
    ⟨(some 2), none, false, .new [.int .i64 0, .string ⟨#[]⟩, .string ⟨#[]⟩, .int .i64 0]⟩]) (.seq (.ops [
    ⟨(some 3), none, false, .faddr (.tmp 1) 0⟩,
    ⟨(some 4), none, false, .load1 (.tmp 3)⟩,
    ⟨(some 5), none, false, .build [.int .i64 0, .string ⟨#[]⟩, .string ⟨#[]⟩, .int .i64 0] [(0, 1, (.const (.int .i64 7))), (1, 1, (.tmp 4))]⟩,
    ⟨none, none, false, .store (.tmp 2) (.tmp 5) 4⟩]) .ret))
theorem fits_diff_Between_3 : Fits Try.prog 0 diff_Between_3 ic_diff_Between_3 [.many 2 4] 1 :=
  ⟨Try.f25, Try.func25, by decide, by kernel_rfl, by kernel_rfl⟩

/-- chantry/diff.Between$4 -/
noncomputable def ic_diff_Between_4 : IC :=
  (.seq (.ops [
    ⟨(some 1), none, false, .box (.tmp 0)⟩,
    ⟨(some 2), none, false, .new [.int .i64 0, .string ⟨#[]⟩, .string ⟨#[]⟩, .int .i64 0]⟩]) (.seq (.ops [
    ⟨(some 3), none, false, .faddr (.tmp 1) 0⟩,
    ⟨(some 4), none, false, .load1 (.tmp 3)⟩,
    ⟨(some 5), none, false, .faddr (.tmp 1) 1⟩,
    ⟨(some 6), none, false, .load1 (.tmp 5)⟩,
    ⟨(some 7), none, false, .build [.int .i64 0, .string ⟨#[]⟩, .string ⟨#[]⟩, .int .i64 0] [(0, 1, (.const (.int .i64 8))), (1, 1, (.tmp 4)), (2, 1, (.tmp 6))]⟩,
    ⟨none, none, false, .store (.tmp 2) (.tmp 7) 4⟩]) .ret))
theorem fits_diff_Between_4 : Fits Try.prog 0 diff_Between_4 ic_diff_Between_4 [.many 2 4] 1 :=
  ⟨Try.f26, Try.func26, by decide, by kernel_rfl, by kernel_rfl⟩

/-- chantry/chantryref41.counted -/
noncomputable def ic_chantryref41_counted : IC :=
  (.seq (.ops [
    ⟨(some 4), none, false, .mov (.const (.int .i64 0))⟩]) (.seq (.seq (.ops [
    ⟨(some 5), none, false, .mov (.const (.int .i64 0))⟩]) (.block 0 (.loop (.seq (.seq (.ops [
    ⟨(some 6), none, false, .mov (.tmp 5)⟩,
    ⟨(some 7), none, false, .mov (.tmp 0)⟩,
    ⟨(some 8), none, false, .lens false (.tmp 7)⟩,
    ⟨(some 9), none, false, .bin .lss (.tmp 6) (.tmp 8)⟩]) (.cond (.tmp 9) .skip (.exit 0))) (.seq (.block 1 (.seq (.ops [
    ⟨(some 12), none, false, .mov (.tmp 0)⟩,
    ⟨(some 13), none, false, .mov (.tmp 5)⟩,
    ⟨(some 14), none, false, .iaddr (.tmp 12) (.tmp 13) 2⟩,
    ⟨(some 15), none, false, .faddr (.tmp 14) 0⟩,
    ⟨(some 16), none, false, .load1 (.tmp 15)⟩,
    ⟨(some 17), none, false, .mov (.tmp 1)⟩,
    ⟨(some 18), none, false, .bin .eql (.tmp 16) (.tmp 17)⟩]) (.cond (.tmp 18) (.seq (.ops [
    ⟨(some 19), none, false, .mov (.tmp 5)⟩,
    ⟨(some 4), none, false, .mov (.tmp 19)⟩]) .ret) .skip))) (.ops [
    ⟨(some 10), none, false, .mov (.tmp 5)⟩,
    ⟨(some 11), none, false, .bin .add (.tmp 10) (.const (.int .i64 1))⟩,
    ⟨(some 5), none, false, .mov (.tmp 11)⟩])))))) (.seq (.ops [
    ⟨(some 4), none, false, .mov (.const (.int .i64 (-1)))⟩]) .ret)))
theorem fits_chantryref41_counted : Fits Try.prog 0 chantryref41_counted ic_chantryref41_counted [.tmp 4] 2 :=
  ⟨Try.f27, Try.func27, by decide, by kernel_rfl, by kernel_rfl⟩

/-- chantry/chantryref41.words -/
noncomputable def ic_chantryref41_words : IC :=
  (.seq (.ops [
    ⟨(some 6), none, false, .mov (.const (.slice none 0 0))⟩]) (.seq (.ops [
    ⟨(some 7), none, false, .mov (.const (.slice none 0 0))⟩]) (.seq (.seq (.ops [
    ⟨(some 8), none, false, .mov (.const (.int .i64 0))⟩]) (.block 0 (.loop (.seq (.seq (.ops [
    ⟨(some 9), none, false, .mov (.tmp 8)⟩,
    ⟨(some 10), none, false, .mov (.tmp 1)⟩,
    ⟨(some 11), none, false, .lens false (.tmp 10)⟩,
    ⟨(some 12), none, false, .bin .lss (.tmp 9) (.tmp 11)⟩]) (.cond (.tmp 12) .skip (.exit 0))) (.seq (.block 1 (.seq (.ops [
    ⟨(some 15), none, false, .mov (.tmp 2)⟩,
    ⟨(some 16), none, false, .mov (.tmp 1)⟩,
    ⟨(some 17), none, false, .mov (.tmp 8)⟩,
    ⟨(some 18), none, false, .iaddr (.tmp 16) (.tmp 17) 2⟩,
    ⟨(some 19), none, false, .loadn (.tmp 18) 2⟩,
    ⟨(some 20), none, false, .call chantryref41_has [(.tmp 15), (.tmp 19)]⟩,
    ⟨(some 21), none, false, .un .not (.tmp 20)⟩]) (.cond (.tmp 21) (.draw [
    ⟨(some 22), none, false, .mov (.tmp 7)⟩,
    ⟨(some 23), none, false, .mov (.tmp 0)⟩,
    ⟨(some 24), none, false, .mov (.tmp 1)⟩,
    ⟨(some 25), none, false, .mov (.tmp 8)⟩,
    ⟨(some 26), none, false, .iaddr (.tmp 24) (.tmp 25) 2⟩,
    ⟨(some 27), none, false, .faddr (.tmp 26) 0⟩,
    ⟨(some 28), none, false, .load1 (.tmp 27)⟩,
    ⟨(some 29), none, false, .mov (.tmp 1)⟩,
    ⟨(some 30), none, false, .mov (.tmp 8)⟩,
    ⟨(some 31), none, false, .iaddr (.tmp 29) (.tmp 30) 2⟩,
    ⟨(some 32), none, false, .faddr (.tmp 31) 1⟩,
    ⟨(some 33), none, false, .load1 (.tmp 32)⟩,
    ⟨(some 34), none, false, .build [.int .i64 0, .string ⟨#[]⟩, .string ⟨#[]⟩, .int .i64 0] [(0, 1, (.tmp 23)), (1, 1, (.tmp 28)), (2, 1, (.tmp 33))]⟩,
    ⟨(some 35), none, false, .lit [.int .i64 0, .string ⟨#[]⟩, .string ⟨#[]⟩, .int .i64 0] 4 1 [(0, 4, (.tmp 34))]⟩,
    ⟨(some 36), none, false, .app (.tmp 22) (.tmp 35) 4 48⟩,
    ⟨(some 7), none, false, .mov (.tmp 36)⟩]) .skip))) (.ops [
    ⟨(some 13), none, false, .mov (.tmp 8)⟩,
    ⟨(some 14), none, false, .bin .add (.tmp 13) (.const (.int .i64 1))⟩,
    ⟨(some 8), none, false, .mov (.tmp 14)⟩])))))) (.seq (.ops [
    ⟨(some 37), none, false, .mov (.tmp 7)⟩,
    ⟨(some 6), none, false, .mov (.tmp 37)⟩]) .ret))))
theorem fits_chantryref41_words : Fits Try.prog 0 chantryref41_words ic_chantryref41_words [.tmp 6] 3 :=
  ⟨Try.f28, Try.func28, by decide, by kernel_rfl, by kernel_rfl⟩

/-- chantry/chantryref41.named -/
noncomputable def ic_chantryref41_named : IC :=
  (.seq (.ops [
    ⟨(some 4), none, false, .mov (.const (.int .i64 0))⟩]) (.seq (.seq (.ops [
    ⟨(some 5), none, false, .mov (.const (.int .i64 0))⟩]) (.block 0 (.loop (.seq (.seq (.ops [
    ⟨(some 6), none, false, .mov (.tmp 5)⟩,
    ⟨(some 7), none, false, .mov (.tmp 0)⟩,
    ⟨(some 8), none, false, .lens false (.tmp 7)⟩,
    ⟨(some 9), none, false, .bin .lss (.tmp 6) (.tmp 8)⟩]) (.cond (.tmp 9) .skip (.exit 0))) (.seq (.block 1 (.seq (.ops [
    ⟨(some 12), none, false, .mov (.tmp 0)⟩,
    ⟨(some 13), none, false, .mov (.tmp 5)⟩,
    ⟨(some 14), none, false, .iaddr (.tmp 12) (.tmp 13) 2⟩,
    ⟨(some 15), none, false, .faddr (.tmp 14) 0⟩,
    ⟨(some 16), none, false, .load1 (.tmp 15)⟩,
    ⟨(some 17), none, false, .mov (.tmp 1)⟩,
    ⟨(some 18), none, false, .bin .eql (.tmp 16) (.tmp 17)⟩]) (.cond (.tmp 18) (.seq (.ops [
    ⟨(some 19), none, false, .mov (.tmp 5)⟩,
    ⟨(some 4), none, false, .mov (.tmp 19)⟩]) .ret) .skip))) (.ops [
    ⟨(some 10), none, false, .mov (.tmp 5)⟩,
    ⟨(some 11), none, false, .bin .add (.tmp 10) (.const (.int .i64 1))⟩,
    ⟨(some 5), none, false, .mov (.tmp 11)⟩])))))) (.seq (.ops [
    ⟨(some 4), none, false, .mov (.const (.int .i64 (-1)))⟩]) .ret)))
theorem fits_chantryref41_named : Fits Try.prog 0 chantryref41_named ic_chantryref41_named [.tmp 4] 2 :=
  ⟨Try.f29, Try.func29, by decide, by kernel_rfl, by kernel_rfl⟩

/-- chantry/diff.rises[chantry/api.Count] -/
noncomputable def ic_api_Count_30 : IC :=
  (.seq (.ops [
    ⟨(some 4), none, false, .mov (.const (.bool false))⟩]) (.seq (.seq (.ops [
    ⟨(some 5), none, false, .mov (.const (.int .i64 1))⟩]) (.block 0 (.loop (.seq (.seq (.ops [
    ⟨(some 6), none, false, .mov (.tmp 5)⟩,
    ⟨(some 7), none, false, .mov (.tmp 0)⟩,
    ⟨(some 8), none, false, .lens false (.tmp 7)⟩,
    ⟨(some 9), none, false, .bin .lss (.tmp 6) (.tmp 8)⟩]) (.cond (.tmp 9) .skip (.exit 0))) (.seq (.block 1 (.seq (.draw [
    ⟨(some 12), none, false, .mov (.tmp 1)⟩,
    ⟨(some 13), none, false, .mov (.tmp 0)⟩,
    ⟨(some 14), none, false, .mov (.tmp 5)⟩,
    ⟨(some 15), none, false, .bin .sub (.tmp 14) (.const (.int .i64 1))⟩,
    ⟨(some 16), none, false, .iaddr (.tmp 13) (.tmp 15) 2⟩,
    ⟨(some 17), none, false, .loadn (.tmp 16) 2⟩,
    ⟨(some 18), none, false, .mov (.tmp 0)⟩,
    ⟨(some 19), none, false, .mov (.tmp 5)⟩,
    ⟨(some 20), none, false, .iaddr (.tmp 18) (.tmp 19) 2⟩,
    ⟨(some 21), none, false, .loadn (.tmp 20) 2⟩,
    ⟨(some 22), none, false, .calld (.tmp 12) [(.tmp 17), (.tmp 21)]⟩,
    ⟨(some 23), none, false, .bin .geq (.tmp 22) (.const (.int .i64 0))⟩]) (.cond (.tmp 23) (.seq (.ops [
    ⟨(some 4), none, false, .mov (.const (.bool false))⟩]) .ret) .skip))) (.ops [
    ⟨(some 10), none, false, .mov (.tmp 5)⟩,
    ⟨(some 11), none, false, .bin .add (.tmp 10) (.const (.int .i64 1))⟩,
    ⟨(some 5), none, false, .mov (.tmp 11)⟩])))))) (.seq (.ops [
    ⟨(some 4), none, false, .mov (.const (.bool true))⟩]) .ret)))
theorem fits_api_Count_30 : Fits Try.prog 0 api_Count_30 ic_api_Count_30 [.tmp 4] 2 :=
  ⟨Try.f30, Try.func30, by decide, by kernel_rfl, by kernel_rfl⟩

/-- chantry/diff.rises[chantry/api.Word] -/
noncomputable def ic_api_Word_31 : IC :=
  (.seq (.ops [
    ⟨(some 4), none, false, .mov (.const (.bool false))⟩]) (.seq (.seq (.ops [
    ⟨(some 5), none, false, .mov (.const (.int .i64 1))⟩]) (.block 0 (.loop (.seq (.seq (.ops [
    ⟨(some 6), none, false, .mov (.tmp 5)⟩,
    ⟨(some 7), none, false, .mov (.tmp 0)⟩,
    ⟨(some 8), none, false, .lens false (.tmp 7)⟩,
    ⟨(some 9), none, false, .bin .lss (.tmp 6) (.tmp 8)⟩]) (.cond (.tmp 9) .skip (.exit 0))) (.seq (.block 1 (.seq (.draw [
    ⟨(some 12), none, false, .mov (.tmp 1)⟩,
    ⟨(some 13), none, false, .mov (.tmp 0)⟩,
    ⟨(some 14), none, false, .mov (.tmp 5)⟩,
    ⟨(some 15), none, false, .bin .sub (.tmp 14) (.const (.int .i64 1))⟩,
    ⟨(some 16), none, false, .iaddr (.tmp 13) (.tmp 15) 2⟩,
    ⟨(some 17), none, false, .loadn (.tmp 16) 2⟩,
    ⟨(some 18), none, false, .mov (.tmp 0)⟩,
    ⟨(some 19), none, false, .mov (.tmp 5)⟩,
    ⟨(some 20), none, false, .iaddr (.tmp 18) (.tmp 19) 2⟩,
    ⟨(some 21), none, false, .loadn (.tmp 20) 2⟩,
    ⟨(some 22), none, false, .calld (.tmp 12) [(.tmp 17), (.tmp 21)]⟩,
    ⟨(some 23), none, false, .bin .geq (.tmp 22) (.const (.int .i64 0))⟩]) (.cond (.tmp 23) (.seq (.ops [
    ⟨(some 4), none, false, .mov (.const (.bool false))⟩]) .ret) .skip))) (.ops [
    ⟨(some 10), none, false, .mov (.tmp 5)⟩,
    ⟨(some 11), none, false, .bin .add (.tmp 10) (.const (.int .i64 1))⟩,
    ⟨(some 5), none, false, .mov (.tmp 11)⟩])))))) (.seq (.ops [
    ⟨(some 4), none, false, .mov (.const (.bool true))⟩]) .ret)))
theorem fits_api_Word_31 : Fits Try.prog 0 api_Word_31 ic_api_Word_31 [.tmp 4] 2 :=
  ⟨Try.f31, Try.func31, by decide, by kernel_rfl, by kernel_rfl⟩

/-- chantry/diff.byWord -/
noncomputable def ic_diff_byWord : IC :=
  (.seq (.ops [
    ⟨(some 2), none, false, .box (.tmp 0)⟩,
    ⟨(some 3), none, false, .box (.tmp 1)⟩,
    ⟨(some 4), none, false, .mov (.const (.int .i64 0))⟩]) (.seq (.draw [
    ⟨(some 5), none, false, .loadn (.tmp 2) 2⟩,
    ⟨(some 6), none, false, .loadn (.tmp 3) 2⟩,
    ⟨(some 8), none, false, .faddr (.tmp 2) 1⟩,
    ⟨(some 9), none, true, .load1 (.tmp 8)⟩,
    ⟨(some 10), none, false, .faddr (.tmp 3) 1⟩,
    ⟨(some 11), none, true, .load1 (.tmp 10)⟩,
    ⟨(some 7), none, true, .call diff_byName [(.tmp 5), (.tmp 6)]⟩,
    ⟨(some 12), none, false, .call cmp_Compare_string [(.tmp 9), (.tmp 11)]⟩,
    ⟨(some 13), none, false, .lit [.int .i64 0] 1 2 [(0, 1, (.tmp 7)), (1, 1, (.tmp 12))]⟩,
    ⟨(some 14), none, false, .call cmp_Or_int [(.tmp 13)]⟩,
    ⟨(some 4), none, false, .mov (.tmp 14)⟩]) .ret))
theorem fits_diff_byWord : Fits Try.prog 0 diff_byWord ic_diff_byWord [.tmp 4] 2 :=
  ⟨Try.f32, Try.func32, by decide, by kernel_rfl, by kernel_rfl⟩

/-- chantry/chantryref41.rising -/
noncomputable def ic_chantryref41_rising : IC :=
  (.seq (.ops [
    ⟨(some 4), none, false, .mov (.const (.bool false))⟩]) (.seq (.seq (.ops [
    ⟨(some 5), none, false, .mov (.const (.int .i64 1))⟩]) (.block 0 (.loop (.seq (.seq (.ops [
    ⟨(some 6), none, false, .mov (.tmp 5)⟩,
    ⟨(some 7), none, false, .mov (.tmp 0)⟩,
    ⟨(some 8), none, false, .lens false (.tmp 7)⟩,
    ⟨(some 9), none, false, .bin .lss (.tmp 6) (.tmp 8)⟩]) (.cond (.tmp 9) .skip (.exit 0))) (.seq (.block 1 (.seq (.draw [
    ⟨(some 12), none, false, .mov (.tmp 0)⟩,
    ⟨(some 13), none, false, .mov (.tmp 5)⟩,
    ⟨(some 14), none, false, .bin .sub (.tmp 13) (.const (.int .i64 1))⟩,
    ⟨(some 15), none, false, .iaddr (.tmp 12) (.tmp 14) 2⟩,
    ⟨(some 16), none, false, .loadn (.tmp 15) 2⟩,
    ⟨(some 17), none, false, .mov (.tmp 0)⟩,
    ⟨(some 18), none, false, .mov (.tmp 5)⟩,
    ⟨(some 19), none, false, .iaddr (.tmp 17) (.tmp 18) 2⟩,
    ⟨(some 20), none, false, .loadn (.tmp 19) 2⟩,
    ⟨(some 21), none, false, .call chantryref41_less [(.tmp 16), (.tmp 20)]⟩,
    ⟨(some 22), none, false, .un .not (.tmp 21)⟩,
    ⟨(some 23), none, false, .mov (.tmp 22)⟩,
    ⟨(some 24), (some (23, false)), false, .mov (.tmp 1)⟩,
    ⟨(some 25), (some (23, false)), false, .mov (.tmp 24)⟩,
    ⟨(some 26), (some (25, true)), false, .mov (.tmp 0)⟩,
    ⟨(some 27), (some (25, true)), false, .mov (.tmp 5)⟩,
    ⟨(some 28), (some (25, true)), false, .bin .sub (.tmp 27) (.const (.int .i64 1))⟩,
    ⟨(some 29), (some (25, true)), false, .iaddr (.tmp 26) (.tmp 28) 2⟩,
    ⟨(some 30), (some (25, true)), false, .faddr (.tmp 29) 0⟩,
    ⟨(some 31), (some (25, true)), false, .load1 (.tmp 30)⟩,
    ⟨(some 32), (some (25, true)), false, .mov (.tmp 0)⟩,
    ⟨(some 33), (some (25, true)), false, .mov (.tmp 5)⟩,
    ⟨(some 34), (some (25, true)), false, .iaddr (.tmp 32) (.tmp 33) 2⟩,
    ⟨(some 35), (some (25, true)), false, .faddr (.tmp 34) 0⟩,
    ⟨(some 36), (some (25, true)), false, .load1 (.tmp 35)⟩,
    ⟨(some 37), (some (25, true)), false, .bin .eql (.tmp 31) (.tmp 36)⟩,
    ⟨(some 38), (some (23, false)), false, .pick (.tmp 25) (.tmp 37) (.const (.bool false))⟩,
    ⟨(some 39), none, false, .pick (.tmp 23) (.const (.bool true)) (.tmp 38)⟩]) (.cond (.tmp 39) (.seq (.ops [
    ⟨(some 4), none, false, .mov (.const (.bool false))⟩]) .ret) .skip))) (.ops [
    ⟨(some 10), none, false, .mov (.tmp 5)⟩,
    ⟨(some 11), none, false, .bin .add (.tmp 10) (.const (.int .i64 1))⟩,
    ⟨(some 5), none, false, .mov (.tmp 11)⟩])))))) (.seq (.ops [
    ⟨(some 4), none, false, .mov (.const (.bool true))⟩]) .ret)))
theorem fits_chantryref41_rising : Fits Try.prog 0 chantryref41_rising ic_chantryref41_rising [.tmp 4] 2 :=
  ⟨Try.f33, Try.func33, by decide, by kernel_rfl, by kernel_rfl⟩

/-- chantry/chantryref19.Same -/
noncomputable def ic_chantryref19_Same : IC :=
  (.seq (.ops [
    ⟨(some 4), none, false, .mov (.const (.bool false))⟩]) (.seq (.seq (.ops [
    ⟨(some 6), none, false, .mov (.tmp 0)⟩,
    ⟨(some 7), none, false, .lens false (.tmp 6)⟩,
    ⟨(some 8), none, false, .mov (.tmp 1)⟩,
    ⟨(some 9), none, false, .lens false (.tmp 8)⟩,
    ⟨(some 10), none, false, .bin .neq (.tmp 7) (.tmp 9)⟩]) (.cond (.tmp 10) (.seq (.ops [
    ⟨(some 4), none, false, .mov (.const (.bool false))⟩]) .ret) .skip)) (.seq (.seq (.ops [
    ⟨(some 5), none, false, .mov (.const (.int .i64 0))⟩]) (.block 0 (.loop (.seq (.seq (.ops [
    ⟨(some 11), none, false, .mov (.tmp 5)⟩,
    ⟨(some 12), none, false, .mov (.tmp 0)⟩,
    ⟨(some 13), none, false, .lens false (.tmp 12)⟩,
    ⟨(some 14), none, false, .bin .lss (.tmp 11) (.tmp 13)⟩]) (.cond (.tmp 14) .skip (.exit 0))) (.seq (.block 1 (.seq (.draw [
    ⟨(some 17), none, false, .mov (.tmp 0)⟩,
    ⟨(some 18), none, false, .mov (.tmp 5)⟩,
    ⟨(some 19), none, false, .iaddr (.tmp 17) (.tmp 18) 2⟩,
    ⟨(some 20), none, false, .loadn (.tmp 19) 2⟩,
    ⟨(some 21), none, false, .mov (.tmp 1)⟩,
    ⟨(some 22), none, false, .mov (.tmp 5)⟩,
    ⟨(some 23), none, false, .iaddr (.tmp 21) (.tmp 22) 2⟩,
    ⟨(some 24), none, false, .loadn (.tmp 23) 2⟩,
    ⟨(some 25), none, false, .eqagg true (Try.prog.keyLits 8 40) (.tmp 20) (.tmp 24)⟩]) (.cond (.tmp 25) (.seq (.ops [
    ⟨(some 4), none, false, .mov (.const (.bool false))⟩]) .ret) .skip))) (.ops [
    ⟨(some 15), none, false, .mov (.tmp 5)⟩,
    ⟨(some 16), none, false, .bin .add (.tmp 15) (.const (.int .i64 1))⟩,
    ⟨(some 5), none, false, .mov (.tmp 16)⟩])))))) (.seq (.ops [
    ⟨(some 4), none, false, .mov (.const (.bool true))⟩]) .ret))))
theorem fits_chantryref19_Same : Fits Try.prog 0 chantryref19_Same ic_chantryref19_Same [.tmp 4] 2 :=
  ⟨Try.f34, Try.func34, by decide, by kernel_rfl, by kernel_rfl⟩

/-- chantry/chantryref20.SameWords -/
noncomputable def ic_chantryref20_SameWords : IC :=
  (.seq (.ops [
    ⟨(some 4), none, false, .mov (.const (.bool false))⟩]) (.seq (.seq (.ops [
    ⟨(some 6), none, false, .mov (.tmp 0)⟩,
    ⟨(some 7), none, false, .lens false (.tmp 6)⟩,
    ⟨(some 8), none, false, .mov (.tmp 1)⟩,
    ⟨(some 9), none, false, .lens false (.tmp 8)⟩,
    ⟨(some 10), none, false, .bin .neq (.tmp 7) (.tmp 9)⟩]) (.cond (.tmp 10) (.seq (.ops [
    ⟨(some 4), none, false, .mov (.const (.bool false))⟩]) .ret) .skip)) (.seq (.seq (.ops [
    ⟨(some 5), none, false, .mov (.const (.int .i64 0))⟩]) (.block 0 (.loop (.seq (.seq (.ops [
    ⟨(some 11), none, false, .mov (.tmp 5)⟩,
    ⟨(some 12), none, false, .mov (.tmp 0)⟩,
    ⟨(some 13), none, false, .lens false (.tmp 12)⟩,
    ⟨(some 14), none, false, .bin .lss (.tmp 11) (.tmp 13)⟩]) (.cond (.tmp 14) .skip (.exit 0))) (.seq (.block 1 (.seq (.draw [
    ⟨(some 17), none, false, .mov (.tmp 0)⟩,
    ⟨(some 18), none, false, .mov (.tmp 5)⟩,
    ⟨(some 19), none, false, .iaddr (.tmp 17) (.tmp 18) 2⟩,
    ⟨(some 20), none, false, .loadn (.tmp 19) 2⟩,
    ⟨(some 21), none, false, .mov (.tmp 1)⟩,
    ⟨(some 22), none, false, .mov (.tmp 5)⟩,
    ⟨(some 23), none, false, .iaddr (.tmp 21) (.tmp 22) 2⟩,
    ⟨(some 24), none, false, .loadn (.tmp 23) 2⟩,
    ⟨(some 25), none, false, .eqagg true (Try.prog.keyLits 8 42) (.tmp 20) (.tmp 24)⟩]) (.cond (.tmp 25) (.seq (.ops [
    ⟨(some 4), none, false, .mov (.const (.bool false))⟩]) .ret) .skip))) (.ops [
    ⟨(some 15), none, false, .mov (.tmp 5)⟩,
    ⟨(some 16), none, false, .bin .add (.tmp 15) (.const (.int .i64 1))⟩,
    ⟨(some 5), none, false, .mov (.tmp 16)⟩])))))) (.seq (.ops [
    ⟨(some 4), none, false, .mov (.const (.bool true))⟩]) .ret))))
theorem fits_chantryref20_SameWords : Fits Try.prog 0 chantryref20_SameWords ic_chantryref20_SameWords [.tmp 4] 2 :=
  ⟨Try.f35, Try.func35, by decide, by kernel_rfl, by kernel_rfl⟩

/-- chantry/diff.apply -/
noncomputable def ic_diff_apply : IC :=
  (.seq (.ops [
    ⟨(some 3), none, false, .box (.tmp 1)⟩,
    ⟨(some 4), none, false, .mov (.const (.bool false))⟩]) (.seq (.ops [
    ⟨(some 5), none, false, .mov (.const (.bool false))⟩]) (.seq (.ops [
    ⟨(some 7), none, false, .faddr (.tmp 3) 1⟩,
    ⟨(some 8), none, false, .load1 (.tmp 7)⟩,
    ⟨(some 9), none, false, .faddr (.tmp 3) 2⟩,
    ⟨(some 10), none, false, .load1 (.tmp 9)⟩,
    ⟨(some 11), none, false, .build [.string ⟨#[]⟩, .string ⟨#[]⟩] [(0, 1, (.tmp 8)), (1, 1, (.tmp 10))]⟩,
    ⟨(some 6), none, false, .new [.string ⟨#[]⟩, .string ⟨#[]⟩]⟩,
    ⟨none, none, false, .store (.tmp 6) (.tmp 11) 2⟩]) (.seq (.seq (.ops [
    ⟨(some 12), none, false, .faddr (.tmp 3) 0⟩,
    ⟨(some 13), none, false, .load1 (.tmp 12)⟩]) (.block 0 (.seq (.ops [
    ⟨(some 15), none, false, .bin .eql (.tmp 13) (.const (.int .i64 1))⟩,
    ⟨(some 14), none, false, .mov (.tmp 15)⟩]) (.cond (.tmp 14) (.draw [
    ⟨(some 17), none, false, .mov (.tmp 0)⟩,
    ⟨(some 18), none, false, .mov (.tmp 0)⟩,
    ⟨(some 19), none, false, .nilc (.tmp 18)⟩,
    ⟨(some 20), none, false, .faddr (.tmp 19) 0⟩,
    ⟨(some 21), none, false, .load1 (.tmp 20)⟩,
    ⟨(some 22), none, false, .faddr (.tmp 3) 1⟩,
    ⟨(some 23), none, false, .load1 (.tmp 22)⟩,
    ⟨(some 24), none, false, .build [.string ⟨#[]⟩, .int .i64 0] [(0, 1, (.tmp 23))]⟩,
    ⟨(some 25), none, false, .call api_Count_50 [(.tmp 21), (.tmp 24), (.func 19)]⟩,
    ⟨(some 16), none, false, .mov (.tmp 25)⟩,
    ⟨(some 26), none, false, .ext (.tmp 16) 0⟩,
    ⟨(some 27), none, false, .ext (.tmp 16) 1⟩,
    ⟨(some 28), none, false, .nilc (.tmp 17)⟩,
    ⟨(some 29), none, false, .faddr (.tmp 28) 0⟩,
    ⟨none, none, false, .store (.tmp 29) (.tmp 26) 1⟩,
    ⟨(some 5), none, false, .mov (.tmp 27)⟩]) (.seq (.ops [
    ⟨(some 31), none, false, .bin .eql (.tmp 13) (.const (.int .i64 2))⟩,
    ⟨(some 30), none, false, .mov (.tmp 31)⟩]) (.cond (.tmp 30) (.draw [
    ⟨(some 33), none, false, .mov (.tmp 0)⟩,
    ⟨(some 34), none, false, .mov (.tmp 0)⟩,
    ⟨(some 35), none, false, .nilc (.tmp 34)⟩,
    ⟨(some 36), none, false, .faddr (.tmp 35) 0⟩,
    ⟨(some 37), none, false, .load1 (.tmp 36)⟩,
    ⟨(some 38), none, false, .faddr (.tmp 3) 1⟩,
    ⟨(some 39), none, false, .load1 (.tmp 38)⟩,
    ⟨(some 40), none, false, .faddr (.tmp 3) 3⟩,
    ⟨(some 41), none, false, .load1 (.tmp 40)⟩,
    ⟨(some 42), none, false, .build [.string ⟨#[]⟩, .int .i64 0] [(0, 1, (.tmp 39)), (1, 1, (.tmp 41))]⟩,
    ⟨(some 43), none, false, .call api_Count_51 [(.tmp 37), (.tmp 42), (.func 19), (.const (.bool true))]⟩,
    ⟨(some 32), none, false, .mov (.tmp 43)⟩,
    ⟨(some 44), none, false, .ext (.tmp 32) 0⟩,
    ⟨(some 45), none, false, .ext (.tmp 32) 1⟩,
    ⟨(some 46), none, false, .nilc (.tmp 33)⟩,
    ⟨(some 47), none, false, .faddr (.tmp 46) 0⟩,
    ⟨none, none, false, .store (.tmp 47) (.tmp 44) 1⟩,
    ⟨(some 5), none, false, .mov (.tmp 45)⟩]) (.seq (.ops [
    ⟨(some 49), none, false, .bin .eql (.tmp 13) (.const (.int .i64 3))⟩,
    ⟨(some 48), none, false, .mov (.tmp 49)⟩]) (.cond (.tmp 48) (.draw [
    ⟨(some 51), none, false, .mov (.tmp 0)⟩,
    ⟨(some 52), none, false, .mov (.tmp 0)⟩,
    ⟨(some 53), none, false, .nilc (.tmp 52)⟩,
    ⟨(some 54), none, false, .faddr (.tmp 53) 1⟩,
    ⟨(some 55), none, false, .load1 (.tmp 54)⟩,
    ⟨(some 56), none, false, .loadn (.tmp 6) 2⟩,
    ⟨(some 57), none, false, .call api_Word_52 [(.tmp 55), (.tmp 56), (.func 32)]⟩,
    ⟨(some 50), none, false, .mov (.tmp 57)⟩,
    ⟨(some 58), none, false, .ext (.tmp 50) 0⟩,
    ⟨(some 59), none, false, .ext (.tmp 50) 1⟩,
    ⟨(some 60), none, false, .nilc (.tmp 51)⟩,
    ⟨(some 61), none, false, .faddr (.tmp 60) 1⟩,
    ⟨none, none, false, .store (.tmp 61) (.tmp 58) 1⟩,
    ⟨(some 5), none, false, .mov (.tmp 59)⟩]) (.seq (.ops [
    ⟨(some 63), none, false, .bin .eql (.tmp 13) (.const (.int .i64 4))⟩,
    ⟨(some 62), none, false, .mov (.tmp 63)⟩]) (.cond (.tmp 62) (.draw [
    ⟨(some 65), none, false, .mov (.tmp 0)⟩,
    ⟨(some 66), none, false, .mov (.tmp 0)⟩,
    ⟨(some 67), none, false, .nilc (.tmp 66)⟩,
    ⟨(some 68), none, false, .faddr (.tmp 67) 1⟩,
    ⟨(some 69), none, false, .load1 (.tmp 68)⟩,
    ⟨(some 70), none, false, .loadn (.tmp 6) 2⟩,
    ⟨(some 71), none, false, .call api_Word_53 [(.tmp 69), (.tmp 70), (.func 32), (.const (.bool false))]⟩,
    ⟨(some 64), none, false, .mov (.tmp 71)⟩,
    ⟨(some 72), none, false, .ext (.tmp 64) 0⟩,
    ⟨(some 73), none, false, .ext (.tmp 64) 1⟩,
    ⟨(some 74), none, false, .nilc (.tmp 65)⟩,
    ⟨(some 75), none, false, .faddr (.tmp 74) 1⟩,
    ⟨none, none, false, .store (.tmp 75) (.tmp 72) 1⟩,
    ⟨(some 5), none, false, .mov (.tmp 73)⟩]) (.seq (.ops [
    ⟨(some 77), none, false, .bin .eql (.tmp 13) (.const (.int .i64 5))⟩,
    ⟨(some 76), none, false, .mov (.tmp 77)⟩]) (.cond (.tmp 76) (.draw [
    ⟨(some 79), none, false, .mov (.tmp 0)⟩,
    ⟨(some 80), none, false, .mov (.tmp 0)⟩,
    ⟨(some 81), none, false, .nilc (.tmp 80)⟩,
    ⟨(some 82), none, false, .faddr (.tmp 81) 2⟩,
    ⟨(some 83), none, false, .load1 (.tmp 82)⟩,
    ⟨(some 84), none, false, .loadn (.tmp 6) 2⟩,
    ⟨(some 85), none, false, .call api_Word_52 [(.tmp 83), (.tmp 84), (.func 32)]⟩,
    ⟨(some 78), none, false, .mov (.tmp 85)⟩,
    ⟨(some 86), none, false, .ext (.tmp 78) 0⟩,
    ⟨(some 87), none, false, .ext (.tmp 78) 1⟩,
    ⟨(some 88), none, false, .nilc (.tmp 79)⟩,
    ⟨(some 89), none, false, .faddr (.tmp 88) 2⟩,
    ⟨none, none, false, .store (.tmp 89) (.tmp 86) 1⟩,
    ⟨(some 5), none, false, .mov (.tmp 87)⟩]) (.seq (.ops [
    ⟨(some 91), none, false, .bin .eql (.tmp 13) (.const (.int .i64 6))⟩,
    ⟨(some 90), none, false, .mov (.tmp 91)⟩]) (.cond (.tmp 90) (.draw [
    ⟨(some 93), none, false, .mov (.tmp 0)⟩,
    ⟨(some 94), none, false, .mov (.tmp 0)⟩,
    ⟨(some 95), none, false, .nilc (.tmp 94)⟩,
    ⟨(some 96), none, false, .faddr (.tmp 95) 2⟩,
    ⟨(some 97), none, false, .load1 (.tmp 96)⟩,
    ⟨(some 98), none, false, .loadn (.tmp 6) 2⟩,
    ⟨(some 99), none, false, .call api_Word_53 [(.tmp 97), (.tmp 98), (.func 32), (.const (.bool false))]⟩,
    ⟨(some 92), none, false, .mov (.tmp 99)⟩,
    ⟨(some 100), none, false, .ext (.tmp 92) 0⟩,
    ⟨(some 101), none, false, .ext (.tmp 92) 1⟩,
    ⟨(some 102), none, false, .nilc (.tmp 93)⟩,
    ⟨(some 103), none, false, .faddr (.tmp 102) 2⟩,
    ⟨none, none, false, .store (.tmp 103) (.tmp 100) 1⟩,
    ⟨(some 5), none, false, .mov (.tmp 101)⟩]) (.seq (.ops [
    ⟨(some 105), none, false, .bin .eql (.tmp 13) (.const (.int .i64 7))⟩,
    ⟨(some 104), none, false, .mov (.tmp 105)⟩]) (.cond (.tmp 104) (.draw [
    ⟨(some 107), none, false, .mov (.tmp 0)⟩,
    ⟨(some 108), none, false, .mov (.tmp 0)⟩,
    ⟨(some 109), none, false, .nilc (.tmp 108)⟩,
    ⟨(some 110), none, false, .faddr (.tmp 109) 3⟩,
    ⟨(some 111), none, false, .load1 (.tmp 110)⟩,
    ⟨(some 112), none, false, .loadn (.tmp 6) 2⟩,
    ⟨(some 113), none, false, .call api_Word_52 [(.tmp 111), (.tmp 112), (.func 24)]⟩,
    ⟨(some 106), none, false, .mov (.tmp 113)⟩,
    ⟨(some 114), none, false, .ext (.tmp 106) 0⟩,
    ⟨(some 115), none, false, .ext (.tmp 106) 1⟩,
    ⟨(some 116), none, false, .nilc (.tmp 107)⟩,
    ⟨(some 117), none, false, .faddr (.tmp 116) 3⟩,
    ⟨none, none, false, .store (.tmp 117) (.tmp 114) 1⟩,
    ⟨(some 5), none, false, .mov (.tmp 115)⟩]) (.seq (.ops [
    ⟨(some 119), none, false, .bin .eql (.tmp 13) (.const (.int .i64 8))⟩,
    ⟨(some 118), none, false, .mov (.tmp 119)⟩]) (.cond (.tmp 118) (.draw [
    ⟨(some 121), none, false, .mov (.tmp 0)⟩,
    ⟨(some 122), none, false, .mov (.tmp 0)⟩,
    ⟨(some 123), none, false, .nilc (.tmp 122)⟩,
    ⟨(some 124), none, false, .faddr (.tmp 123) 3⟩,
    ⟨(some 125), none, false, .load1 (.tmp 124)⟩,
    ⟨(some 126), none, false, .loadn (.tmp 6) 2⟩,
    ⟨(some 127), none, false, .call api_Word_53 [(.tmp 125), (.tmp 126), (.func 24), (.const (.bool true))]⟩,
    ⟨(some 120), none, false, .mov (.tmp 127)⟩,
    ⟨(some 128), none, false, .ext (.tmp 120) 0⟩,
    ⟨(some 129), none, false, .ext (.tmp 120) 1⟩,
    ⟨(some 130), none, false, .nilc (.tmp 121)⟩,
    ⟨(some 131), none, false, .faddr (.tmp 130) 3⟩,
    ⟨none, none, false, .store (.tmp 131) (.tmp 128) 1⟩,
    ⟨(some 5), none, false, .mov (.tmp 129)⟩]) .skip)))))))))))))))))) (.seq (.ops [
    ⟨(some 132), none, false, .mov (.tmp 5)⟩,
    ⟨(some 133), none, false, .mov (.tmp 132)⟩,
    ⟨(some 134), (some (133, true)), false, .loadn (.tmp 3) 4⟩,
    ⟨(some 135), (some (133, true)), false, .call diff_odd [(.tmp 134)]⟩,
    ⟨(some 136), (some (133, true)), false, .un .not (.tmp 135)⟩,
    ⟨(some 137), none, false, .pick (.tmp 133) (.tmp 136) (.const (.bool false))⟩,
    ⟨(some 4), none, false, .mov (.tmp 137)⟩]) .ret)))))
theorem fits_diff_apply : Fits Try.prog 0 diff_apply ic_diff_apply [.tmp 4] 2 :=
  ⟨Try.f36, Try.func36, by decide, by kernel_rfl, by kernel_rfl⟩

/-- chantry/chantryref41.count -/
noncomputable def ic_chantryref41_count : IC :=
  (.seq (.ops [
    ⟨(some 3), none, false, .box (.tmp 1)⟩,
    ⟨(some 4), none, false, .mov (.const (.slice none 0 0))⟩,
    ⟨(some 5), none, false, .mov (.const (.bool false))⟩]) (.seq (.ops [
    ⟨(some 10), none, false, .mov (.tmp 0)⟩,
    ⟨(some 11), none, false, .faddr (.tmp 3) 1⟩,
    ⟨(some 12), none, false, .load1 (.tmp 11)⟩,
    ⟨(some 13), none, false, .call chantryref41_counted [(.tmp 10), (.tmp 12)]⟩,
    ⟨(some 6), none, false, .mov (.tmp 13)⟩]) (.seq (.seq (.draw [
    ⟨(some 14), none, false, .faddr (.tmp 3) 2⟩,
    ⟨(some 15), none, false, .load1 (.tmp 14)⟩,
    ⟨(some 16), none, false, .bin .neq (.tmp 15) (.const (.string ⟨#[]⟩))⟩,
    ⟨(some 17), none, false, .mov (.tmp 16)⟩,
    ⟨(some 18), (some (17, false)), false, .faddr (.tmp 3) 0⟩,
    ⟨(some 19), (some (17, false)), false, .load1 (.tmp 18)⟩,
    ⟨(some 20), (some (17, false)), false, .bin .eql (.tmp 19) (.const (.int .i64 1))⟩,
    ⟨(some 21), (some (17, false)), false, .mov (.tmp 20)⟩,
    ⟨(some 22), (some (21, true)), false, .mov (.tmp 6)⟩,
    ⟨(some 23), (some (21, true)), false, .bin .lss (.tmp 22) (.const (.int .i64 0))⟩,
    ⟨(some 24), (some (21, true)), false, .mov (.tmp 23)⟩,
    ⟨(some 25), (some (24, false)), false, .faddr (.tmp 3) 3⟩,
    ⟨(some 26), (some (24, false)), false, .load1 (.tmp 25)⟩,
    ⟨(some 27), (some (24, false)), false, .bin .neq (.tmp 26) (.const (.int .i64 0))⟩,
    ⟨(some 28), (some (21, true)), false, .pick (.tmp 24) (.const (.bool true)) (.tmp 27)⟩,
    ⟨(some 29), (some (17, false)), false, .pick (.tmp 21) (.tmp 28) (.const (.bool false))⟩,
    ⟨(some 30), none, false, .pick (.tmp 17) (.const (.bool true)) (.tmp 29)⟩,
    ⟨(some 31), none, false, .mov (.tmp 30)⟩,
    ⟨(some 32), (some (31, false)), false, .faddr (.tmp 3) 0⟩,
    ⟨(some 33), (some (31, false)), false, .load1 (.tmp 32)⟩,
    ⟨(some 34), (some (31, false)), false, .bin .eql (.tmp 33) (.const (.int .i64 2))⟩,
    ⟨(some 35), (some (31, false)), false, .mov (.tmp 34)⟩,
    ⟨(some 36), (some (35, true)), false, .mov (.tmp 6)⟩,
    ⟨(some 37), (some (35, true)), false, .bin .geq (.tmp 36) (.const (.int .i64 0))⟩,
    ⟨(some 38), (some (31, false)), false, .pick (.tmp 35) (.tmp 37) (.const (.bool false))⟩,
    ⟨(some 39), (some (31, false)), false, .mov (.tmp 38)⟩,
    ⟨(some 40), (some (39, true)), false, .mov (.tmp 0)⟩,
    ⟨(some 41), (some (39, true)), false, .mov (.tmp 6)⟩,
    ⟨(some 42), (some (39, true)), false, .iaddr (.tmp 40) (.tmp 41) 2⟩,
    ⟨(some 43), (some (39, true)), false, .faddr (.tmp 42) 1⟩,
    ⟨(some 44), (some (39, true)), false, .load1 (.tmp 43)⟩,
    ⟨(some 45), (some (39, true)), false, .faddr (.tmp 3) 3⟩,
    ⟨(some 46), (some (39, true)), false, .load1 (.tmp 45)⟩,
    ⟨(some 47), (some (39, true)), false, .bin .eql (.tmp 44) (.tmp 46)⟩,
    ⟨(some 48), (some (31, false)), false, .pick (.tmp 39) (.tmp 47) (.const (.bool false))⟩,
    ⟨(some 49), none, false, .pick (.tmp 31) (.const (.bool true)) (.tmp 48)⟩]) (.cond (.tmp 49) (.seq (.ops [
    ⟨(some 4), none, false, .mov (.const (.slice none 0 0))⟩,
    ⟨(some 5), none, false, .mov (.const (.bool false))⟩]) .ret) .skip)) (.seq (.ops [
    ⟨(some 7), none, false, .mov (.const (.slice none 0 0))⟩]) (.seq (.ops [
    ⟨(some 50), none, false, .faddr (.tmp 3) 0⟩,
    ⟨(some 51), none, false, .load1 (.tmp 50)⟩,
    ⟨(some 52), none, false, .bin .eql (.tmp 51) (.const (.int .i64 2))⟩,
    ⟨(some 8), none, false, .mov (.tmp 52)⟩]) (.seq (.seq (.ops [
    ⟨(some 9), none, false, .mov (.const (.int .i64 0))⟩]) (.block 0 (.loop (.seq (.seq (.ops [
    ⟨(some 53), none, false, .mov (.tmp 9)⟩,
    ⟨(some 54), none, false, .mov (.tmp 0)⟩,
    ⟨(some 55), none, false, .lens false (.tmp 54)⟩,
    ⟨(some 56), none, false, .bin .lss (.tmp 53) (.tmp 55)⟩]) (.cond (.tmp 56) .skip (.exit 0))) (.seq (.block 1 (.seq (.seq (.draw [
    ⟨(some 59), none, false, .mov (.tmp 8)⟩,
    ⟨(some 60), none, false, .mov (.tmp 59)⟩,
    ⟨(some 61), (some (60, true)), false, .mov (.tmp 0)⟩,
    ⟨(some 62), (some (60, true)), false, .mov (.tmp 9)⟩,
    ⟨(some 63), (some (60, true)), false, .iaddr (.tmp 61) (.tmp 62) 2⟩,
    ⟨(some 64), (some (60, true)), false, .faddr (.tmp 63) 0⟩,
    ⟨(some 65), (some (60, true)), false, .load1 (.tmp 64)⟩,
    ⟨(some 66), (some (60, true)), false, .faddr (.tmp 3) 1⟩,
    ⟨(some 67), (some (60, true)), false, .load1 (.tmp 66)⟩,
    ⟨(some 68), (some (60, true)), false, .bin .geq (.tmp 65) (.tmp 67)⟩,
    ⟨(some 69), none, false, .pick (.tmp 60) (.tmp 68) (.const (.bool false))⟩]) (.cond (.tmp 69) (.seq (.ops [
    ⟨(some 70), none, false, .mov (.tmp 7)⟩,
    ⟨(some 71), none, false, .faddr (.tmp 3) 1⟩,
    ⟨(some 72), none, false, .load1 (.tmp 71)⟩,
    ⟨(some 73), none, false, .faddr (.tmp 3) 3⟩,
    ⟨(some 74), none, false, .load1 (.tmp 73)⟩,
    ⟨(some 75), none, false, .build [.string ⟨#[]⟩, .int .i64 0] [(0, 1, (.tmp 72)), (1, 1, (.tmp 74))]⟩,
    ⟨(some 76), none, false, .lit [.string ⟨#[]⟩, .int .i64 0] 2 1 [(0, 2, (.tmp 75))]⟩,
    ⟨(some 77), none, false, .app (.tmp 70) (.tmp 76) 2 24⟩,
    ⟨(some 7), none, false, .mov (.tmp 77)⟩]) (.ops [
    ⟨(some 8), none, false, .mov (.const (.bool false))⟩])) .skip)) (.seq (.draw [
    ⟨(some 78), none, false, .mov (.tmp 0)⟩,
    ⟨(some 79), none, false, .mov (.tmp 9)⟩,
    ⟨(some 80), none, false, .iaddr (.tmp 78) (.tmp 79) 2⟩,
    ⟨(some 81), none, false, .faddr (.tmp 80) 0⟩,
    ⟨(some 82), none, false, .load1 (.tmp 81)⟩,
    ⟨(some 83), none, false, .faddr (.tmp 3) 1⟩,
    ⟨(some 84), none, false, .load1 (.tmp 83)⟩,
    ⟨(some 85), none, false, .bin .neq (.tmp 82) (.tmp 84)⟩]) (.cond (.tmp 85) (.ops [
    ⟨(some 86), none, false, .mov (.tmp 7)⟩,
    ⟨(some 87), none, false, .mov (.tmp 0)⟩,
    ⟨(some 88), none, false, .mov (.tmp 9)⟩,
    ⟨(some 89), none, false, .iaddr (.tmp 87) (.tmp 88) 2⟩,
    ⟨(some 90), none, false, .loadn (.tmp 89) 2⟩,
    ⟨(some 91), none, false, .lit [.string ⟨#[]⟩, .int .i64 0] 2 1 [(0, 2, (.tmp 90))]⟩,
    ⟨(some 92), none, false, .app (.tmp 86) (.tmp 91) 2 24⟩,
    ⟨(some 7), none, false, .mov (.tmp 92)⟩]) .skip)))) (.ops [
    ⟨(some 57), none, false, .mov (.tmp 9)⟩,
    ⟨(some 58), none, false, .bin .add (.tmp 57) (.const (.int .i64 1))⟩,
    ⟨(some 9), none, false, .mov (.tmp 58)⟩])))))) (.seq (.seq (.ops [
    ⟨(some 93), none, false, .mov (.tmp 8)⟩]) (.cond (.tmp 93) (.ops [
    ⟨(some 94), none, false, .mov (.tmp 7)⟩,
    ⟨(some 95), none, false, .faddr (.tmp 3) 1⟩,
    ⟨(some 96), none, false, .load1 (.tmp 95)⟩,
    ⟨(some 97), none, false, .faddr (.tmp 3) 3⟩,
    ⟨(some 98), none, false, .load1 (.tmp 97)⟩,
    ⟨(some 99), none, false, .build [.string ⟨#[]⟩, .int .i64 0] [(0, 1, (.tmp 96)), (1, 1, (.tmp 98))]⟩,
    ⟨(some 100), none, false, .lit [.string ⟨#[]⟩, .int .i64 0] 2 1 [(0, 2, (.tmp 99))]⟩,
    ⟨(some 101), none, false, .app (.tmp 94) (.tmp 100) 2 24⟩,
    ⟨(some 7), none, false, .mov (.tmp 101)⟩]) .skip)) (.seq (.ops [
    ⟨(some 102), none, false, .mov (.tmp 7)⟩,
    ⟨(some 4), none, false, .mov (.tmp 102)⟩,
    ⟨(some 5), none, false, .mov (.const (.bool true))⟩]) .ret))))))))
theorem fits_chantryref41_count : Fits Try.prog 0 chantryref41_count ic_chantryref41_count [.tmp 4, .tmp 5] 2 :=
  ⟨Try.f37, Try.func37, by decide, by kernel_rfl, by kernel_rfl⟩

/-- chantry/chantryref41.turn -/
noncomputable def ic_chantryref41_turn : IC :=
  (.seq (.ops [
    ⟨(some 4), none, false, .box (.tmp 1)⟩,
    ⟨(some 6), none, false, .mov (.const (.slice none 0 0))⟩,
    ⟨(some 7), none, false, .mov (.const (.bool false))⟩]) (.seq (.ops [
    ⟨(some 10), none, false, .faddr (.tmp 4) 1⟩,
    ⟨(some 11), none, false, .load1 (.tmp 10)⟩,
    ⟨(some 12), none, false, .faddr (.tmp 4) 2⟩,
    ⟨(some 13), none, false, .load1 (.tmp 12)⟩,
    ⟨(some 14), none, false, .build [.string ⟨#[]⟩, .string ⟨#[]⟩] [(0, 1, (.tmp 11)), (1, 1, (.tmp 13))]⟩,
    ⟨(some 8), none, false, .new [.string ⟨#[]⟩, .string ⟨#[]⟩]⟩,
    ⟨none, none, false, .store (.tmp 8) (.tmp 14) 2⟩]) (.seq (.seq (.ops [
    ⟨(some 15), none, false, .faddr (.tmp 4) 3⟩,
    ⟨(some 16), none, false, .load1 (.tmp 15)⟩,
    ⟨(some 17), none, false, .bin .neq (.tmp 16) (.const (.int .i64 0))⟩,
    ⟨(some 18), none, false, .mov (.tmp 17)⟩,
    ⟨(some 19), (some (18, false)), false, .mov (.tmp 0)⟩,
    ⟨(some 20), (some (18, false)), false, .loadn (.tmp 8) 2⟩,
    ⟨(some 21), (some (18, false)), false, .call chantryref41_has [(.tmp 19), (.tmp 20)]⟩,
    ⟨(some 22), (some (18, false)), false, .mov (.tmp 2)⟩,
    ⟨(some 23), (some (18, false)), false, .beq false (.tmp 21) (.tmp 22)⟩,
    ⟨(some 24), none, false, .pick (.tmp 18) (.const (.bool true)) (.tmp 23)⟩]) (.cond (.tmp 24) (.seq (.ops [
    ⟨(some 6), none, false, .mov (.const (.slice none 0 0))⟩,
    ⟨(some 7), none, false, .mov (.const (.bool false))⟩]) .ret) .skip)) (.seq (.seq (.ops [
    ⟨(some 25), none, false, .mov (.tmp 2)⟩]) (.cond (.tmp 25) (.seq (.ops [
    ⟨(some 26), none, false, .mov (.tmp 0)⟩,
    ⟨(some 27), none, false, .loadn (.tmp 8) 2⟩,
    ⟨(some 28), none, false, .call chantryref41_put [(.tmp 26), (.tmp 27)]⟩,
    ⟨(some 6), none, false, .mov (.tmp 28)⟩,
    ⟨(some 7), none, false, .mov (.const (.bool true))⟩]) .ret) .skip)) (.seq (.seq (.ops [
    ⟨(some 9), none, false, .mov (.const (.int .i64 0))⟩]) (.block 0 (.loop (.seq (.seq (.ops [
    ⟨(some 29), none, false, .mov (.tmp 9)⟩,
    ⟨(some 30), none, false, .mov (.tmp 0)⟩,
    ⟨(some 31), none, false, .lens false (.tmp 30)⟩,
    ⟨(some 32), none, false, .bin .lss (.tmp 29) (.tmp 31)⟩]) (.cond (.tmp 32) .skip (.exit 0))) (.seq (.block 1 (.seq (.draw [
    ⟨(some 35), none, false, .mov (.tmp 0)⟩,
    ⟨(some 36), none, false, .mov (.tmp 9)⟩,
    ⟨(some 37), none, false, .iaddr (.tmp 35) (.tmp 36) 2⟩,
    ⟨(some 38), none, false, .loadn (.tmp 37) 2⟩,
    ⟨(some 39), none, false, .loadn (.tmp 8) 2⟩,
    ⟨(some 40), none, false, .eqagg false (Try.prog.keyLits 8 42) (.tmp 38) (.tmp 39)⟩]) (.cond (.tmp 40) (.seq (.ops [
    ⟨(some 41), none, false, .mov (.tmp 0)⟩,
    ⟨(some 42), none, false, .mov (.tmp 9)⟩,
    ⟨(some 43), none, false, .call chantryref41_cut [(.tmp 41), (.tmp 42)]⟩,
    ⟨(some 6), none, false, .mov (.tmp 43)⟩,
    ⟨(some 7), none, false, .mov (.const (.bool true))⟩]) .ret) .skip))) (.ops [
    ⟨(some 33), none, false, .mov (.tmp 9)⟩,
    ⟨(some 34), none, false, .bin .add (.tmp 33) (.const (.int .i64 1))⟩,
    ⟨(some 9), none, false, .mov (.tmp 34)⟩])))))) (.seq (.ops [
    ⟨(some 6), none, false, .mov (.const (.slice none 0 0))⟩,
    ⟨(some 7), none, false, .mov (.const (.bool false))⟩]) .ret))))))
theorem fits_chantryref41_turn : Fits Try.prog 0 chantryref41_turn ic_chantryref41_turn [.tmp 6, .tmp 7] 3 :=
  ⟨Try.f38, Try.func38, by decide, by kernel_rfl, by kernel_rfl⟩

/-- chantry/chantryref41.line -/
noncomputable def ic_chantryref41_line : IC :=
  (.seq (.ops [
    ⟨(some 3), none, false, .box (.tmp 1)⟩,
    ⟨(some 4), none, false, .mov (.const (.slice none 0 0))⟩,
    ⟨(some 5), none, false, .mov (.const (.bool false))⟩]) (.seq (.ops [
    ⟨(some 7), none, false, .mov (.tmp 0)⟩,
    ⟨(some 8), none, false, .faddr (.tmp 3) 1⟩,
    ⟨(some 9), none, false, .load1 (.tmp 8)⟩,
    ⟨(some 10), none, false, .call chantryref41_named [(.tmp 7), (.tmp 9)]⟩,
    ⟨(some 6), none, false, .mov (.tmp 10)⟩]) (.seq (.seq (.draw [
    ⟨(some 11), none, false, .faddr (.tmp 3) 3⟩,
    ⟨(some 12), none, false, .load1 (.tmp 11)⟩,
    ⟨(some 13), none, false, .bin .neq (.tmp 12) (.const (.int .i64 0))⟩,
    ⟨(some 14), none, false, .mov (.tmp 13)⟩,
    ⟨(some 15), (some (14, false)), false, .faddr (.tmp 3) 0⟩,
    ⟨(some 16), (some (14, false)), false, .load1 (.tmp 15)⟩,
    ⟨(some 17), (some (14, false)), false, .bin .eql (.tmp 16) (.const (.int .i64 7))⟩,
    ⟨(some 18), (some (14, false)), false, .mov (.tmp 17)⟩,
    ⟨(some 19), (some (18, true)), false, .mov (.tmp 6)⟩,
    ⟨(some 20), (some (18, true)), false, .bin .lss (.tmp 19) (.const (.int .i64 0))⟩,
    ⟨(some 21), (some (18, true)), false, .mov (.tmp 20)⟩,
    ⟨(some 22), (some (21, false)), false, .faddr (.tmp 3) 2⟩,
    ⟨(some 23), (some (21, false)), false, .load1 (.tmp 22)⟩,
    ⟨(some 24), (some (21, false)), false, .bin .neq (.tmp 23) (.const (.string ⟨#[]⟩))⟩,
    ⟨(some 25), (some (18, true)), false, .pick (.tmp 21) (.const (.bool true)) (.tmp 24)⟩,
    ⟨(some 26), (some (14, false)), false, .pick (.tmp 18) (.tmp 25) (.const (.bool false))⟩,
    ⟨(some 27), none, false, .pick (.tmp 14) (.const (.bool true)) (.tmp 26)⟩,
    ⟨(some 28), none, false, .mov (.tmp 27)⟩,
    ⟨(some 29), (some (28, false)), false, .faddr (.tmp 3) 0⟩,
    ⟨(some 30), (some (28, false)), false, .load1 (.tmp 29)⟩,
    ⟨(some 31), (some (28, false)), false, .bin .eql (.tmp 30) (.const (.int .i64 8))⟩,
    ⟨(some 32), (some (28, false)), false, .mov (.tmp 31)⟩,
    ⟨(some 33), (some (32, true)), false, .mov (.tmp 6)⟩,
    ⟨(some 34), (some (32, true)), false, .bin .geq (.tmp 33) (.const (.int .i64 0))⟩,
    ⟨(some 35), (some (28, false)), false, .pick (.tmp 32) (.tmp 34) (.const (.bool false))⟩,
    ⟨(some 36), (some (28, false)), false, .mov (.tmp 35)⟩,
    ⟨(some 37), (some (36, true)), false, .mov (.tmp 0)⟩,
    ⟨(some 38), (some (36, true)), false, .mov (.tmp 6)⟩,
    ⟨(some 39), (some (36, true)), false, .iaddr (.tmp 37) (.tmp 38) 2⟩,
    ⟨(some 40), (some (36, true)), false, .faddr (.tmp 39) 1⟩,
    ⟨(some 41), (some (36, true)), false, .load1 (.tmp 40)⟩,
    ⟨(some 42), (some (36, true)), false, .faddr (.tmp 3) 2⟩,
    ⟨(some 43), (some (36, true)), false, .load1 (.tmp 42)⟩,
    ⟨(some 44), (some (36, true)), false, .bin .eql (.tmp 41) (.tmp 43)⟩,
    ⟨(some 45), (some (28, false)), false, .pick (.tmp 36) (.tmp 44) (.const (.bool false))⟩,
    ⟨(some 46), none, false, .pick (.tmp 28) (.const (.bool true)) (.tmp 45)⟩]) (.cond (.tmp 46) (.seq (.ops [
    ⟨(some 4), none, false, .mov (.const (.slice none 0 0))⟩,
    ⟨(some 5), none, false, .mov (.const (.bool false))⟩]) .ret) .skip)) (.seq (.seq (.ops [
    ⟨(some 47), none, false, .mov (.tmp 6)⟩,
    ⟨(some 48), none, false, .bin .geq (.tmp 47) (.const (.int .i64 0))⟩]) (.cond (.tmp 48) (.ops [
    ⟨(some 49), none, false, .mov (.tmp 0)⟩,
    ⟨(some 50), none, false, .mov (.tmp 6)⟩,
    ⟨(some 51), none, false, .call chantryref41_cut [(.tmp 49), (.tmp 50)]⟩,
    ⟨(some 0), none, false, .mov (.tmp 51)⟩]) .skip)) (.seq (.seq (.ops [
    ⟨(some 52), none, false, .faddr (.tmp 3) 0⟩,
    ⟨(some 53), none, false, .load1 (.tmp 52)⟩,
    ⟨(some 54), none, false, .bin .eql (.tmp 53) (.const (.int .i64 7))⟩]) (.cond (.tmp 54) (.seq (.ops [
    ⟨(some 55), none, false, .mov (.tmp 0)⟩,
    ⟨(some 4), none, false, .mov (.tmp 55)⟩,
    ⟨(some 5), none, false, .mov (.const (.bool true))⟩]) .ret) .skip)) (.seq (.ops [
    ⟨(some 56), none, false, .mov (.tmp 0)⟩,
    ⟨(some 57), none, false, .faddr (.tmp 3) 1⟩,
    ⟨(some 58), none, false, .load1 (.tmp 57)⟩,
    ⟨(some 59), none, false, .faddr (.tmp 3) 2⟩,
    ⟨(some 60), none, false, .load1 (.tmp 59)⟩,
    ⟨(some 61), none, false, .build [.string ⟨#[]⟩, .string ⟨#[]⟩] [(0, 1, (.tmp 58)), (1, 1, (.tmp 60))]⟩,
    ⟨(some 62), none, false, .call chantryref41_put [(.tmp 56), (.tmp 61)]⟩,
    ⟨(some 4), none, false, .mov (.tmp 62)⟩,
    ⟨(some 5), none, false, .mov (.const (.bool true))⟩]) .ret))))))
theorem fits_chantryref41_line : Fits Try.prog 0 chantryref41_line ic_chantryref41_line [.tmp 4, .tmp 5] 2 :=
  ⟨Try.f39, Try.func39, by decide, by kernel_rfl, by kernel_rfl⟩

/-- slices.Equal[[]chantry/api.Delta,chantry/api.Delta] -/
noncomputable def ic_api_Delta_40 : IC :=
  (.seq (.ops [
    ⟨(some 4), none, false, .mov (.const (.bool false))⟩]) (.seq (.seq (.ops [
    ⟨(some 6), none, false, .mov (.tmp 0)⟩,
    ⟨(some 7), none, false, .lens false (.tmp 6)⟩,
    ⟨(some 8), none, false, .mov (.tmp 1)⟩,
    ⟨(some 9), none, false, .lens false (.tmp 8)⟩,
    ⟨(some 10), none, false, .bin .neq (.tmp 7) (.tmp 9)⟩]) (.cond (.tmp 10) (.seq (.ops [
    ⟨(some 4), none, false, .mov (.const (.bool false))⟩]) .ret) .skip)) (.seq (.seq (.ops [
    ⟨(some 11), none, false, .mov (.tmp 0)⟩,
    ⟨(some 12), none, false, .lens false (.tmp 11)⟩,
    ⟨(some 13), none, false, .mov (.const (.int .i64 0))⟩]) (.block 0 (.loop (.seq (.ops [
    ⟨(some 14), none, false, .bin .lss (.tmp 13) (.tmp 12)⟩]) (.seq (.cond (.tmp 14) .skip (.exit 0)) (.seq (.block 1 (.seq (.ops [
    ⟨(some 15), none, false, .mov (.tmp 13)⟩,
    ⟨(some 5), none, false, .mov (.tmp 15)⟩]) (.seq (.draw [
    ⟨(some 16), none, false, .mov (.tmp 0)⟩,
    ⟨(some 17), none, false, .mov (.tmp 5)⟩,
    ⟨(some 18), none, false, .iaddr (.tmp 16) (.tmp 17) 4⟩,
    ⟨(some 19), none, false, .loadn (.tmp 18) 4⟩,
    ⟨(some 20), none, false, .mov (.tmp 1)⟩,
    ⟨(some 21), none, false, .mov (.tmp 5)⟩,
    ⟨(some 22), none, false, .iaddr (.tmp 20) (.tmp 21) 4⟩,
    ⟨(some 23), none, false, .loadn (.tmp 22) 4⟩,
    ⟨(some 24), none, false, .eqagg true (Try.prog.keyLits 8 35) (.tmp 19) (.tmp 23)⟩]) (.cond (.tmp 24) (.seq (.ops [
    ⟨(some 4), none, false, .mov (.const (.bool false))⟩]) .ret) .skip)))) (.ops [
    ⟨(some 25), none, false, .bin .add (.tmp 13) (.const (.int .i64 1))⟩,
    ⟨(some 13), none, false, .mov (.tmp 25)⟩]))))))) (.seq (.ops [
    ⟨(some 4), none, false, .mov (.const (.bool true))⟩]) .ret))))
theorem fits_api_Delta_40 : Fits Try.prog 0 api_Delta_40 ic_api_Delta_40 [.tmp 4] 2 :=
  ⟨Try.f40, Try.func40, by decide, by kernel_rfl, by kernel_rfl⟩

/-- slices.Grow[[]chantry/api.Delta,chantry/api.Delta] -/
noncomputable def ic_api_Delta_41 : IC :=
  (.seq (.ops [
    ⟨(some 4), none, false, .mov (.const (.slice none 0 0))⟩]) (.seq (.seq (.ops [
    ⟨(some 5), none, false, .mov (.tmp 1)⟩,
    ⟨(some 6), none, false, .bin .lss (.tmp 5) (.const (.int .i64 0))⟩]) (.cond (.tmp 6) (.ops [
    ⟨(some 7), none, false, .ifc 9 (.const (.string ⟨#[99, 97, 110, 110, 111, 116, 32, 98, 101, 32, 110, 101, 103, 97, 116, 105, 118, 101]⟩))⟩,
    ⟨none, none, false, .fail⟩]) .skip)) (.seq (.seq (.ops [
    ⟨(some 8), none, false, .mov (.tmp 1)⟩,
    ⟨(some 9), none, false, .mov (.tmp 0)⟩,
    ⟨(some 10), none, false, .capn (.tmp 9)⟩,
    ⟨(some 11), none, false, .mov (.tmp 0)⟩,
    ⟨(some 12), none, false, .lens false (.tmp 11)⟩,
    ⟨(some 13), none, false, .bin .sub (.tmp 10) (.tmp 12)⟩,
    ⟨(some 14), none, false, .bin .sub (.tmp 8) (.tmp 13)⟩,
    ⟨(some 1), none, false, .mov (.tmp 14)⟩]) (.seq (.ops [
    ⟨(some 15), none, false, .mov (.tmp 1)⟩,
    ⟨(some 16), none, false, .bin .gtr (.tmp 15) (.const (.int .i64 0))⟩]) (.cond (.tmp 16) (.ops [
    ⟨(some 17), none, false, .mov (.tmp 0)⟩,
    ⟨(some 18), none, false, .mov (.tmp 0)⟩,
    ⟨(some 19), none, false, .capn (.tmp 18)⟩,
    ⟨(some 20), none, false, .sll (.tmp 17) none (some (.tmp 19)) none 4⟩,
    ⟨(some 21), none, false, .mov (.tmp 1)⟩,
    ⟨(some 22), none, false, .appz (.tmp 20) (.tmp 21) [.int .i64 0, .string ⟨#[]⟩, .string ⟨#[]⟩, .int .i64 0] 48⟩,
    ⟨(some 23), none, false, .mov (.tmp 0)⟩,
    ⟨(some 24), none, false, .lens false (.tmp 23)⟩,
    ⟨(some 25), none, false, .sll (.tmp 22) none (some (.tmp 24)) none 4⟩,
    ⟨(some 0), none, false, .mov (.tmp 25)⟩]) .skip))) (.seq (.ops [
    ⟨(some 26), none, false, .mov (.tmp 0)⟩,
    ⟨(some 4), none, false, .mov (.tmp 26)⟩]) .ret))))
theorem fits_api_Delta_41 : Fits Try.prog 0 api_Delta_41 ic_api_Delta_41 [.tmp 4] 2 :=
  ⟨Try.f41, Try.func41, by decide, by kernel_rfl, by kernel_rfl⟩

/-- slices.BinarySearchFunc[[]chantry/api.Count,chantry/api.Count,chantry/api.Count] -/
noncomputable def ic_api_Count_42 : IC :=
  (.seq (.ops [
    ⟨(some 4), none, false, .box (.tmp 1)⟩,
    ⟨(some 6), none, false, .mov (.const (.int .i64 0))⟩,
    ⟨(some 7), none, false, .mov (.const (.bool false))⟩]) (.seq (.ops [
    ⟨(some 12), none, false, .mov (.tmp 0)⟩,
    ⟨(some 13), none, false, .lens false (.tmp 12)⟩,
    ⟨(some 8), none, false, .mov (.tmp 13)⟩]) (.seq (.ops [
    ⟨(some 14), none, false, .mov (.tmp 8)⟩,
    ⟨(some 9), none, false, .mov (.const (.int .i64 0))⟩,
    ⟨(some 10), none, false, .mov (.tmp 14)⟩]) (.seq (.block 0 (.loop (.seq (.seq (.ops [
    ⟨(some 15), none, false, .mov (.tmp 9)⟩,
    ⟨(some 16), none, false, .mov (.tmp 10)⟩,
    ⟨(some 17), none, false, .bin .lss (.tmp 15) (.tmp 16)⟩]) (.cond (.tmp 17) .skip (.exit 0))) (.block 1 (.seq (.ops [
    ⟨(some 18), none, false, .mov (.tmp 9)⟩,
    ⟨(some 19), none, false, .mov (.tmp 10)⟩,
    ⟨(some 20), none, false, .bin .add (.tmp 18) (.tmp 19)⟩,
    ⟨(some 21), none, false, .conv .u64 (.tmp 20)⟩,
    ⟨(some 22), none, false, .bin .shr (.tmp 21) (.const (.int .u64 1))⟩,
    ⟨(some 23), none, false, .conv .i64 (.tmp 22)⟩,
    ⟨(some 11), none, false, .mov (.tmp 23)⟩]) (.seq (.draw [
    ⟨(some 24), none, false, .mov (.tmp 2)⟩,
    ⟨(some 25), none, false, .mov (.tmp 0)⟩,
    ⟨(some 26), none, false, .mov (.tmp 11)⟩,
    ⟨(some 27), none, false, .iaddr (.tmp 25) (.tmp 26) 2⟩,
    ⟨(some 28), none, false, .loadn (.tmp 27) 2⟩,
    ⟨(some 29), none, false, .loadn (.tmp 4) 2⟩,
    ⟨(some 30), none, false, .calld (.tmp 24) [(.tmp 28), (.tmp 29)]⟩,
    ⟨(some 31), none, false, .bin .lss (.tmp 30) (.const (.int .i64 0))⟩]) (.cond (.tmp 31) (.ops [
    ⟨(some 32), none, false, .mov (.tmp 11)⟩,
    ⟨(some 33), none, false, .bin .add (.tmp 32) (.const (.int .i64 1))⟩,
    ⟨(some 9), none, false, .mov (.tmp 33)⟩]) (.ops [
    ⟨(some 34), none, false, .mov (.tmp 11)⟩,
    ⟨(some 10), none, false, .mov (.tmp 34)⟩])))))))) (.seq (.draw [
    ⟨(some 35), none, false, .mov (.tmp 9)⟩,
    ⟨(some 36), none, false, .mov (.tmp 9)⟩,
    ⟨(some 37), none, false, .mov (.tmp 8)⟩,
    ⟨(some 38), none, false, .bin .lss (.tmp 36) (.tmp 37)⟩,
    ⟨(some 39), none, false, .mov (.tmp 38)⟩,
    ⟨(some 40), (some (39, true)), false, .mov (.tmp 2)⟩,
    ⟨(some 41), (some (39, true)), false, .mov (.tmp 0)⟩,
    ⟨(some 42), (some (39, true)), false, .mov (.tmp 9)⟩,
    ⟨(some 43), (some (39, true)), false, .iaddr (.tmp 41) (.tmp 42) 2⟩,
    ⟨(some 44), (some (39, true)), false, .loadn (.tmp 43) 2⟩,
    ⟨(some 45), (some (39, true)), false, .loadn (.tmp 4) 2⟩,
    ⟨(some 46), (some (39, true)), false, .calld (.tmp 40) [(.tmp 44), (.tmp 45)]⟩,
    ⟨(some 47), (some (39, true)), false, .bin .eql (.tmp 46) (.const (.int .i64 0))⟩,
    ⟨(some 48), none, false, .pick (.tmp 39) (.tmp 47) (.const (.bool false))⟩,
    ⟨(some 6), none, false, .mov (.tmp 35)⟩,
    ⟨(some 7), none, false, .mov (.tmp 48)⟩]) .ret)))))
theorem fits_api_Count_42 : Fits Try.prog 0 api_Count_42 ic_api_Count_42 [.tmp 6, .tmp 7] 3 :=
  ⟨Try.f42, Try.func42, by decide, by kernel_rfl, by kernel_rfl⟩

/-- cmp.Compare[string] -/
noncomputable def ic_cmp_Compare_string : IC :=
  (.seq (.ops [
    ⟨(some 4), none, false, .mov (.const (.int .i64 0))⟩]) (.seq (.ops [
    ⟨(some 7), none, false, .mov (.tmp 0)⟩,
    ⟨(some 8), none, false, .call cmp_isNaN_string [(.tmp 7)]⟩,
    ⟨(some 5), none, false, .mov (.tmp 8)⟩]) (.seq (.ops [
    ⟨(some 9), none, false, .mov (.tmp 1)⟩,
    ⟨(some 10), none, false, .call cmp_isNaN_string [(.tmp 9)]⟩,
    ⟨(some 6), none, false, .mov (.tmp 10)⟩]) (.seq (.seq (.ops [
    ⟨(some 11), none, false, .mov (.tmp 5)⟩]) (.cond (.tmp 11) (.seq (.seq (.ops [
    ⟨(some 12), none, false, .mov (.tmp 6)⟩]) (.cond (.tmp 12) (.seq (.ops [
    ⟨(some 4), none, false, .mov (.const (.int .i64 0))⟩]) .ret) .skip)) (.seq (.ops [
    ⟨(some 4), none, false, .mov (.const (.int .i64 (-1)))⟩]) .ret)) .skip)) (.seq (.seq (.ops [
    ⟨(some 13), none, false, .mov (.tmp 6)⟩]) (.cond (.tmp 13) (.seq (.ops [
    ⟨(some 4), none, false, .mov (.const (.int .i64 1))⟩]) .ret) .skip)) (.seq (.seq (.ops [
    ⟨(some 14), none, false, .mov (.tmp 0)⟩,
    ⟨(some 15), none, false, .mov (.tmp 1)⟩,
    ⟨(some 16), none, false, .bin .lss (.tmp 14) (.tmp 15)⟩]) (.cond (.tmp 16) (.seq (.ops [
    ⟨(some 4), none, false, .mov (.const (.int .i64 (-1)))⟩]) .ret) .skip)) (.seq (.seq (.ops [
    ⟨(some 17), none, false, .mov (.tmp 0)⟩,
    ⟨(some 18), none, false, .mov (.tmp 1)⟩,
    ⟨(some 19), none, false, .bin .gtr (.tmp 17) (.tmp 18)⟩]) (.cond (.tmp 19) (.seq (.ops [
    ⟨(some 4), none, false, .mov (.const (.int .i64 1))⟩]) .ret) .skip)) (.seq (.ops [
    ⟨(some 4), none, false, .mov (.const (.int .i64 0))⟩]) .ret))))))))
theorem fits_cmp_Compare_string : Fits Try.prog 0 cmp_Compare_string ic_cmp_Compare_string [.tmp 4] 2 :=
  ⟨Try.f43, Try.func43, by decide, by kernel_rfl, by kernel_rfl⟩

/-- chantry/diff.words$1 -/
noncomputable def ic_diff_words_1 : IC :=
  (.seq (.ops [
    ⟨(some 1), none, false, .box (.tmp 0)⟩,
    ⟨(some 2), none, false, .mov (.const (.nilFunc))⟩]) (.seq (.ops [
    ⟨(some 3), none, false, .fn (.func diff_words_1_1) [] [(.tmp 1)]⟩,
    ⟨(some 2), none, false, .mov (.tmp 3)⟩]) .ret))
theorem fits_diff_words_1 : Fits Try.prog 0 diff_words_1 ic_diff_words_1 [.tmp 2] 1 :=
  ⟨Try.f44, Try.func44, by decide, by kernel_rfl, by kernel_rfl⟩

/-- chantry/diff.words$1$1 -/
noncomputable def ic_diff_words_1_1 : IC :=
  (.seq (.ops [
    ⟨(some 2), none, false, .box (.tmp 0)⟩,
    ⟨(some 3), none, false, .new [.int .i64 0, .string ⟨#[]⟩, .string ⟨#[]⟩, .int .i64 0]⟩]) (.seq (.ops [
    ⟨(some 4), none, false, .load1 (.tmp 1)⟩,
    ⟨(some 5), none, false, .faddr (.tmp 2) 0⟩,
    ⟨(some 6), none, false, .load1 (.tmp 5)⟩,
    ⟨(some 7), none, false, .faddr (.tmp 2) 1⟩,
    ⟨(some 8), none, false, .load1 (.tmp 7)⟩,
    ⟨(some 9), none, false, .build [.int .i64 0, .string ⟨#[]⟩, .string ⟨#[]⟩, .int .i64 0] [(0, 1, (.tmp 4)), (1, 1, (.tmp 6)), (2, 1, (.tmp 8))]⟩,
    ⟨none, none, false, .store (.tmp 3) (.tmp 9) 4⟩]) .ret))
theorem fits_diff_words_1_1 : Fits Try.prog 0 diff_words_1_1 ic_diff_words_1_1 [.many 3 4] 1 :=
  ⟨Try.f45, Try.func45, by decide, by kernel_rfl, by kernel_rfl⟩

/-- slices.BinarySearchFunc[[]chantry/api.Word,chantry/api.Word,chantry/api.Word] -/
noncomputable def ic_api_Word_46 : IC :=
  (.seq (.ops [
    ⟨(some 4), none, false, .box (.tmp 1)⟩,
    ⟨(some 6), none, false, .mov (.const (.int .i64 0))⟩,
    ⟨(some 7), none, false, .mov (.const (.bool false))⟩]) (.seq (.ops [
    ⟨(some 12), none, false, .mov (.tmp 0)⟩,
    ⟨(some 13), none, false, .lens false (.tmp 12)⟩,
    ⟨(some 8), none, false, .mov (.tmp 13)⟩]) (.seq (.ops [
    ⟨(some 14), none, false, .mov (.tmp 8)⟩,
    ⟨(some 9), none, false, .mov (.const (.int .i64 0))⟩,
    ⟨(some 10), none, false, .mov (.tmp 14)⟩]) (.seq (.block 0 (.loop (.seq (.seq (.ops [
    ⟨(some 15), none, false, .mov (.tmp 9)⟩,
    ⟨(some 16), none, false, .mov (.tmp 10)⟩,
    ⟨(some 17), none, false, .bin .lss (.tmp 15) (.tmp 16)⟩]) (.cond (.tmp 17) .skip (.exit 0))) (.block 1 (.seq (.ops [
    ⟨(some 18), none, false, .mov (.tmp 9)⟩,
    ⟨(some 19), none, false, .mov (.tmp 10)⟩,
    ⟨(some 20), none, false, .bin .add (.tmp 18) (.tmp 19)⟩,
    ⟨(some 21), none, false, .conv .u64 (.tmp 20)⟩,
    ⟨(some 22), none, false, .bin .shr (.tmp 21) (.const (.int .u64 1))⟩,
    ⟨(some 23), none, false, .conv .i64 (.tmp 22)⟩,
    ⟨(some 11), none, false, .mov (.tmp 23)⟩]) (.seq (.draw [
    ⟨(some 24), none, false, .mov (.tmp 2)⟩,
    ⟨(some 25), none, false, .mov (.tmp 0)⟩,
    ⟨(some 26), none, false, .mov (.tmp 11)⟩,
    ⟨(some 27), none, false, .iaddr (.tmp 25) (.tmp 26) 2⟩,
    ⟨(some 28), none, false, .loadn (.tmp 27) 2⟩,
    ⟨(some 29), none, false, .loadn (.tmp 4) 2⟩,
    ⟨(some 30), none, false, .calld (.tmp 24) [(.tmp 28), (.tmp 29)]⟩,
    ⟨(some 31), none, false, .bin .lss (.tmp 30) (.const (.int .i64 0))⟩]) (.cond (.tmp 31) (.ops [
    ⟨(some 32), none, false, .mov (.tmp 11)⟩,
    ⟨(some 33), none, false, .bin .add (.tmp 32) (.const (.int .i64 1))⟩,
    ⟨(some 9), none, false, .mov (.tmp 33)⟩]) (.ops [
    ⟨(some 34), none, false, .mov (.tmp 11)⟩,
    ⟨(some 10), none, false, .mov (.tmp 34)⟩])))))))) (.seq (.draw [
    ⟨(some 35), none, false, .mov (.tmp 9)⟩,
    ⟨(some 36), none, false, .mov (.tmp 9)⟩,
    ⟨(some 37), none, false, .mov (.tmp 8)⟩,
    ⟨(some 38), none, false, .bin .lss (.tmp 36) (.tmp 37)⟩,
    ⟨(some 39), none, false, .mov (.tmp 38)⟩,
    ⟨(some 40), (some (39, true)), false, .mov (.tmp 2)⟩,
    ⟨(some 41), (some (39, true)), false, .mov (.tmp 0)⟩,
    ⟨(some 42), (some (39, true)), false, .mov (.tmp 9)⟩,
    ⟨(some 43), (some (39, true)), false, .iaddr (.tmp 41) (.tmp 42) 2⟩,
    ⟨(some 44), (some (39, true)), false, .loadn (.tmp 43) 2⟩,
    ⟨(some 45), (some (39, true)), false, .loadn (.tmp 4) 2⟩,
    ⟨(some 46), (some (39, true)), false, .calld (.tmp 40) [(.tmp 44), (.tmp 45)]⟩,
    ⟨(some 47), (some (39, true)), false, .bin .eql (.tmp 46) (.const (.int .i64 0))⟩,
    ⟨(some 48), none, false, .pick (.tmp 39) (.tmp 47) (.const (.bool false))⟩,
    ⟨(some 6), none, false, .mov (.tmp 35)⟩,
    ⟨(some 7), none, false, .mov (.tmp 48)⟩]) .ret)))))
theorem fits_api_Word_46 : Fits Try.prog 0 api_Word_46 ic_api_Word_46 [.tmp 6, .tmp 7] 3 :=
  ⟨Try.f46, Try.func46, by decide, by kernel_rfl, by kernel_rfl⟩

/-- chantry/chantryref41.has -/
noncomputable def ic_chantryref41_has : IC :=
  (.seq (.ops [
    ⟨(some 3), none, false, .box (.tmp 1)⟩,
    ⟨(some 4), none, false, .mov (.const (.bool false))⟩]) (.seq (.seq (.ops [
    ⟨(some 5), none, false, .mov (.const (.int .i64 0))⟩]) (.block 0 (.loop (.seq (.seq (.ops [
    ⟨(some 6), none, false, .mov (.tmp 5)⟩,
    ⟨(some 7), none, false, .mov (.tmp 0)⟩,
    ⟨(some 8), none, false, .lens false (.tmp 7)⟩,
    ⟨(some 9), none, false, .bin .lss (.tmp 6) (.tmp 8)⟩]) (.cond (.tmp 9) .skip (.exit 0))) (.seq (.block 1 (.seq (.draw [
    ⟨(some 12), none, false, .mov (.tmp 0)⟩,
    ⟨(some 13), none, false, .mov (.tmp 5)⟩,
    ⟨(some 14), none, false, .iaddr (.tmp 12) (.tmp 13) 2⟩,
    ⟨(some 15), none, false, .loadn (.tmp 14) 2⟩,
    ⟨(some 16), none, false, .loadn (.tmp 3) 2⟩,
    ⟨(some 17), none, false, .eqagg false (Try.prog.keyLits 8 42) (.tmp 15) (.tmp 16)⟩]) (.cond (.tmp 17) (.seq (.ops [
    ⟨(some 4), none, false, .mov (.const (.bool true))⟩]) .ret) .skip))) (.ops [
    ⟨(some 10), none, false, .mov (.tmp 5)⟩,
    ⟨(some 11), none, false, .bin .add (.tmp 10) (.const (.int .i64 1))⟩,
    ⟨(some 5), none, false, .mov (.tmp 11)⟩])))))) (.seq (.ops [
    ⟨(some 4), none, false, .mov (.const (.bool false))⟩]) .ret)))
theorem fits_chantryref41_has : Fits Try.prog 0 chantryref41_has ic_chantryref41_has [.tmp 4] 2 :=
  ⟨Try.f47, Try.func47, by decide, by kernel_rfl, by kernel_rfl⟩

/-- cmp.Or[int] -/
noncomputable def ic_cmp_Or_int : IC :=
  (.seq (.ops [
    ⟨(some 2), none, false, .mov (.const (.int .i64 0))⟩]) (.seq (.ops [
    ⟨(some 3), none, false, .mov (.const (.int .i64 0))⟩]) (.seq (.seq (.ops [
    ⟨(some 6), none, false, .mov (.tmp 0)⟩,
    ⟨(some 7), none, false, .lens false (.tmp 6)⟩,
    ⟨(some 8), none, false, .mov (.const (.int .i64 0))⟩]) (.block 0 (.loop (.seq (.ops [
    ⟨(some 9), none, false, .bin .lss (.tmp 8) (.tmp 7)⟩]) (.seq (.cond (.tmp 9) .skip (.exit 0)) (.seq (.block 1 (.seq (.ops [
    ⟨(some 10), none, false, .iaddr (.tmp 6) (.tmp 8) 1⟩,
    ⟨(some 11), none, false, .load1 (.tmp 10)⟩,
    ⟨(some 5), none, false, .mov (.tmp 11)⟩]) (.seq (.ops [
    ⟨(some 12), none, false, .mov (.tmp 5)⟩,
    ⟨(some 13), none, false, .mov (.tmp 3)⟩,
    ⟨(some 14), none, false, .bin .neq (.tmp 12) (.tmp 13)⟩]) (.cond (.tmp 14) (.seq (.ops [
    ⟨(some 15), none, false, .mov (.tmp 5)⟩,
    ⟨(some 2), none, false, .mov (.tmp 15)⟩]) .ret) .skip)))) (.ops [
    ⟨(some 16), none, false, .bin .add (.tmp 8) (.const (.int .i64 1))⟩,
    ⟨(some 8), none, false, .mov (.tmp 16)⟩]))))))) (.seq (.ops [
    ⟨(some 17), none, false, .mov (.tmp 3)⟩,
    ⟨(some 2), none, false, .mov (.tmp 17)⟩]) .ret))))
theorem fits_cmp_Or_int : Fits Try.prog 0 cmp_Or_int ic_cmp_Or_int [.tmp 2] 1 :=
  ⟨Try.f48, Try.func48, by decide, by kernel_rfl, by kernel_rfl⟩

/-- chantry/chantryref41.less -/
noncomputable def ic_chantryref41_less : IC :=
  (.seq (.ops [
    ⟨(some 2), none, false, .box (.tmp 0)⟩,
    ⟨(some 3), none, false, .box (.tmp 1)⟩,
    ⟨(some 4), none, false, .mov (.const (.bool false))⟩]) (.seq (.ops [
    ⟨(some 5), none, false, .faddr (.tmp 2) 0⟩,
    ⟨(some 6), none, false, .load1 (.tmp 5)⟩,
    ⟨(some 7), none, false, .faddr (.tmp 3) 0⟩,
    ⟨(some 8), none, false, .load1 (.tmp 7)⟩,
    ⟨(some 9), none, false, .bin .lss (.tmp 6) (.tmp 8)⟩,
    ⟨(some 10), none, false, .mov (.tmp 9)⟩,
    ⟨(some 11), (some (10, false)), false, .faddr (.tmp 2) 0⟩,
    ⟨(some 12), (some (10, false)), false, .load1 (.tmp 11)⟩,
    ⟨(some 13), (some (10, false)), false, .faddr (.tmp 3) 0⟩,
    ⟨(some 14), (some (10, false)), false, .load1 (.tmp 13)⟩,
    ⟨(some 15), (some (10, false)), false, .bin .eql (.tmp 12) (.tmp 14)⟩,
    ⟨(some 16), (some (10, false)), false, .mov (.tmp 15)⟩,
    ⟨(some 17), (some (16, true)), false, .faddr (.tmp 2) 1⟩,
    ⟨(some 18), (some (16, true)), false, .load1 (.tmp 17)⟩,
    ⟨(some 19), (some (16, true)), false, .faddr (.tmp 3) 1⟩,
    ⟨(some 20), (some (16, true)), false, .load1 (.tmp 19)⟩,
    ⟨(some 21), (some (16, true)), false, .bin .lss (.tmp 18) (.tmp 20)⟩,
    ⟨(some 22), (some (10, false)), false, .pick (.tmp 16) (.tmp 21) (.const (.bool false))⟩,
    ⟨(some 23), none, false, .pick (.tmp 10) (.const (.bool true)) (.tmp 22)⟩,
    ⟨(some 4), none, false, .mov (.tmp 23)⟩]) .ret))
theorem fits_chantryref41_less : Fits Try.prog 0 chantryref41_less ic_chantryref41_less [.tmp 4] 2 :=
  ⟨Try.f49, Try.func49, by decide, by kernel_rfl, by kernel_rfl⟩

/-- chantry/diff.out[chantry/api.Count] -/
noncomputable def ic_api_Count_50 : IC :=
  (.seq (.ops [
    ⟨(some 4), none, false, .box (.tmp 1)⟩,
    ⟨(some 6), none, false, .mov (.const (.slice none 0 0))⟩,
    ⟨(some 7), none, false, .mov (.const (.bool false))⟩]) (.seq (.ops [
    ⟨(some 11), none, false, .mov (.tmp 0)⟩,
    ⟨(some 12), none, false, .loadn (.tmp 4) 2⟩,
    ⟨(some 13), none, false, .mov (.tmp 2)⟩,
    ⟨(some 14), none, false, .call api_Count_42 [(.tmp 11), (.tmp 12), (.tmp 13)]⟩,
    ⟨(some 10), none, false, .mov (.tmp 14)⟩,
    ⟨(some 15), none, false, .ext (.tmp 10) 0⟩,
    ⟨(some 16), none, false, .ext (.tmp 10) 1⟩,
    ⟨(some 8), none, false, .mov (.tmp 15)⟩,
    ⟨(some 9), none, false, .mov (.tmp 16)⟩]) (.seq (.seq (.ops [
    ⟨(some 17), none, false, .mov (.tmp 9)⟩,
    ⟨(some 18), none, false, .un .not (.tmp 17)⟩]) (.cond (.tmp 18) (.seq (.ops [
    ⟨(some 6), none, false, .mov (.const (.slice none 0 0))⟩,
    ⟨(some 7), none, false, .mov (.const (.bool false))⟩]) .ret) .skip)) (.seq (.ops [
    ⟨(some 19), none, false, .mov (.tmp 0)⟩,
    ⟨(some 20), none, false, .call api_Count_59 [(.tmp 19)]⟩,
    ⟨(some 21), none, false, .mov (.tmp 8)⟩,
    ⟨(some 22), none, false, .mov (.tmp 8)⟩,
    ⟨(some 23), none, false, .bin .add (.tmp 22) (.const (.int .i64 1))⟩,
    ⟨(some 24), none, false, .call api_Count_58 [(.tmp 20), (.tmp 21), (.tmp 23)]⟩,
    ⟨(some 6), none, false, .mov (.tmp 24)⟩,
    ⟨(some 7), none, false, .mov (.const (.bool true))⟩]) .ret))))
theorem fits_api_Count_50 : Fits Try.prog 0 api_Count_50 ic_api_Count_50 [.tmp 6, .tmp 7] 3 :=
  ⟨Try.f50, Try.func50, by decide, by kernel_rfl, by kernel_rfl⟩

/-- chantry/diff.in[chantry/api.Count] -/
noncomputable def ic_api_Count_51 : IC :=
  (.seq (.ops [
    ⟨(some 5), none, false, .box (.tmp 1)⟩,
    ⟨(some 8), none, false, .mov (.const (.slice none 0 0))⟩,
    ⟨(some 9), none, false, .mov (.const (.bool false))⟩]) (.seq (.ops [
    ⟨(some 14), none, false, .mov (.tmp 0)⟩,
    ⟨(some 15), none, false, .loadn (.tmp 5) 2⟩,
    ⟨(some 16), none, false, .mov (.tmp 2)⟩,
    ⟨(some 17), none, false, .call api_Count_42 [(.tmp 14), (.tmp 15), (.tmp 16)]⟩,
    ⟨(some 13), none, false, .mov (.tmp 17)⟩,
    ⟨(some 18), none, false, .ext (.tmp 13) 0⟩,
    ⟨(some 19), none, false, .ext (.tmp 13) 1⟩,
    ⟨(some 10), none, false, .mov (.tmp 18)⟩,
    ⟨(some 11), none, false, .mov (.tmp 19)⟩]) (.seq (.seq (.draw [
    ⟨(some 20), none, false, .mov (.tmp 11)⟩,
    ⟨(some 21), none, false, .mov (.tmp 20)⟩,
    ⟨(some 22), (some (21, true)), false, .mov (.tmp 3)⟩,
    ⟨(some 23), (some (21, true)), false, .un .not (.tmp 22)⟩,
    ⟨(some 24), (some (21, true)), false, .mov (.tmp 23)⟩,
    ⟨(some 25), (some (24, false)), false, .mov (.tmp 0)⟩,
    ⟨(some 26), (some (24, false)), false, .mov (.tmp 10)⟩,
    ⟨(some 27), (some (24, false)), false, .iaddr (.tmp 25) (.tmp 26) 2⟩,
    ⟨(some 28), (some (24, false)), false, .loadn (.tmp 27) 2⟩,
    ⟨(some 29), (some (24, false)), false, .loadn (.tmp 5) 2⟩,
    ⟨(some 30), (some (24, false)), false, .eqagg false (Try.prog.keyLits 8 40) (.tmp 28) (.tmp 29)⟩,
    ⟨(some 31), (some (21, true)), false, .pick (.tmp 24) (.const (.bool true)) (.tmp 30)⟩,
    ⟨(some 32), none, false, .pick (.tmp 21) (.tmp 31) (.const (.bool false))⟩]) (.cond (.tmp 32) (.seq (.ops [
    ⟨(some 8), none, false, .mov (.const (.slice none 0 0))⟩,
    ⟨(some 9), none, false, .mov (.const (.bool false))⟩]) .ret) .skip)) (.seq (.ops [
    ⟨(some 33), none, false, .mov (.tmp 0)⟩,
    ⟨(some 34), none, false, .call api_Count_59 [(.tmp 33)]⟩,
    ⟨(some 12), none, false, .mov (.tmp 34)⟩]) (.seq (.seq (.ops [
    ⟨(some 35), none, false, .mov (.tmp 11)⟩]) (.cond (.tmp 35) (.seq (.ops [
    ⟨(some 36), none, false, .mov (.tmp 12)⟩,
    ⟨(some 37), none, false, .mov (.tmp 10)⟩,
    ⟨(some 38), none, false, .loadn (.tmp 5) 2⟩,
    ⟨(some 39), none, false, .iaddr (.tmp 36) (.tmp 37) 2⟩,
    ⟨none, none, false, .store (.tmp 39) (.tmp 38) 2⟩]) (.seq (.ops [
    ⟨(some 40), none, false, .mov (.tmp 12)⟩,
    ⟨(some 8), none, false, .mov (.tmp 40)⟩,
    ⟨(some 9), none, false, .mov (.const (.bool true))⟩]) .ret)) .skip)) (.seq (.ops [
    ⟨(some 41), none, false, .mov (.tmp 12)⟩,
    ⟨(some 42), none, false, .mov (.tmp 10)⟩,
    ⟨(some 43), none, false, .loadn (.tmp 5) 2⟩,
    ⟨(some 44), none, false, .lit [.string ⟨#[]⟩, .int .i64 0] 2 1 [(0, 2, (.tmp 43))]⟩,
    ⟨(some 45), none, false, .call api_Count_60 [(.tmp 41), (.tmp 42), (.tmp 44)]⟩,
    ⟨(some 8), none, false, .mov (.tmp 45)⟩,
    ⟨(some 9), none, false, .mov (.const (.bool true))⟩]) .ret))))))
theorem fits_api_Count_51 : Fits Try.prog 0 api_Count_51 ic_api_Count_51 [.tmp 8, .tmp 9] 4 :=
  ⟨Try.f51, Try.func51, by decide, by kernel_rfl, by kernel_rfl⟩

/-- chantry/diff.out[chantry/api.Word] -/
noncomputable def ic_api_Word_52 : IC :=
  (.seq (.ops [
    ⟨(some 4), none, false, .box (.tmp 1)⟩,
    ⟨(some 6), none, false, .mov (.const (.slice none 0 0))⟩,
    ⟨(some 7), none, false, .mov (.const (.bool false))⟩]) (.seq (.ops [
    ⟨(some 11), none, false, .mov (.tmp 0)⟩,
    ⟨(some 12), none, false, .loadn (.tmp 4) 2⟩,
    ⟨(some 13), none, false, .mov (.tmp 2)⟩,
    ⟨(some 14), none, false, .call api_Word_46 [(.tmp 11), (.tmp 12), (.tmp 13)]⟩,
    ⟨(some 10), none, false, .mov (.tmp 14)⟩,
    ⟨(some 15), none, false, .ext (.tmp 10) 0⟩,
    ⟨(some 16), none, false, .ext (.tmp 10) 1⟩,
    ⟨(some 8), none, false, .mov (.tmp 15)⟩,
    ⟨(some 9), none, false, .mov (.tmp 16)⟩]) (.seq (.seq (.ops [
    ⟨(some 17), none, false, .mov (.tmp 9)⟩,
    ⟨(some 18), none, false, .un .not (.tmp 17)⟩]) (.cond (.tmp 18) (.seq (.ops [
    ⟨(some 6), none, false, .mov (.const (.slice none 0 0))⟩,
    ⟨(some 7), none, false, .mov (.const (.bool false))⟩]) .ret) .skip)) (.seq (.ops [
    ⟨(some 19), none, false, .mov (.tmp 0)⟩,
    ⟨(some 20), none, false, .call api_Word_62 [(.tmp 19)]⟩,
    ⟨(some 21), none, false, .mov (.tmp 8)⟩,
    ⟨(some 22), none, false, .mov (.tmp 8)⟩,
    ⟨(some 23), none, false, .bin .add (.tmp 22) (.const (.int .i64 1))⟩,
    ⟨(some 24), none, false, .call api_Word_61 [(.tmp 20), (.tmp 21), (.tmp 23)]⟩,
    ⟨(some 6), none, false, .mov (.tmp 24)⟩,
    ⟨(some 7), none, false, .mov (.const (.bool true))⟩]) .ret))))
theorem fits_api_Word_52 : Fits Try.prog 0 api_Word_52 ic_api_Word_52 [.tmp 6, .tmp 7] 3 :=
  ⟨Try.f52, Try.func52, by decide, by kernel_rfl, by kernel_rfl⟩

/-- chantry/diff.in[chantry/api.Word] -/
noncomputable def ic_api_Word_53 : IC :=
  (.seq (.ops [
    ⟨(some 5), none, false, .box (.tmp 1)⟩,
    ⟨(some 8), none, false, .mov (.const (.slice none 0 0))⟩,
    ⟨(some 9), none, false, .mov (.const (.bool false))⟩]) (.seq (.ops [
    ⟨(some 14), none, false, .mov (.tmp 0)⟩,
    ⟨(some 15), none, false, .loadn (.tmp 5) 2⟩,
    ⟨(some 16), none, false, .mov (.tmp 2)⟩,
    ⟨(some 17), none, false, .call api_Word_46 [(.tmp 14), (.tmp 15), (.tmp 16)]⟩,
    ⟨(some 13), none, false, .mov (.tmp 17)⟩,
    ⟨(some 18), none, false, .ext (.tmp 13) 0⟩,
    ⟨(some 19), none, false, .ext (.tmp 13) 1⟩,
    ⟨(some 10), none, false, .mov (.tmp 18)⟩,
    ⟨(some 11), none, false, .mov (.tmp 19)⟩]) (.seq (.seq (.draw [
    ⟨(some 20), none, false, .mov (.tmp 11)⟩,
    ⟨(some 21), none, false, .mov (.tmp 20)⟩,
    ⟨(some 22), (some (21, true)), false, .mov (.tmp 3)⟩,
    ⟨(some 23), (some (21, true)), false, .un .not (.tmp 22)⟩,
    ⟨(some 24), (some (21, true)), false, .mov (.tmp 23)⟩,
    ⟨(some 25), (some (24, false)), false, .mov (.tmp 0)⟩,
    ⟨(some 26), (some (24, false)), false, .mov (.tmp 10)⟩,
    ⟨(some 27), (some (24, false)), false, .iaddr (.tmp 25) (.tmp 26) 2⟩,
    ⟨(some 28), (some (24, false)), false, .loadn (.tmp 27) 2⟩,
    ⟨(some 29), (some (24, false)), false, .loadn (.tmp 5) 2⟩,
    ⟨(some 30), (some (24, false)), false, .eqagg false (Try.prog.keyLits 8 42) (.tmp 28) (.tmp 29)⟩,
    ⟨(some 31), (some (21, true)), false, .pick (.tmp 24) (.const (.bool true)) (.tmp 30)⟩,
    ⟨(some 32), none, false, .pick (.tmp 21) (.tmp 31) (.const (.bool false))⟩]) (.cond (.tmp 32) (.seq (.ops [
    ⟨(some 8), none, false, .mov (.const (.slice none 0 0))⟩,
    ⟨(some 9), none, false, .mov (.const (.bool false))⟩]) .ret) .skip)) (.seq (.ops [
    ⟨(some 33), none, false, .mov (.tmp 0)⟩,
    ⟨(some 34), none, false, .call api_Word_62 [(.tmp 33)]⟩,
    ⟨(some 12), none, false, .mov (.tmp 34)⟩]) (.seq (.seq (.ops [
    ⟨(some 35), none, false, .mov (.tmp 11)⟩]) (.cond (.tmp 35) (.seq (.ops [
    ⟨(some 36), none, false, .mov (.tmp 12)⟩,
    ⟨(some 37), none, false, .mov (.tmp 10)⟩,
    ⟨(some 38), none, false, .loadn (.tmp 5) 2⟩,
    ⟨(some 39), none, false, .iaddr (.tmp 36) (.tmp 37) 2⟩,
    ⟨none, none, false, .store (.tmp 39) (.tmp 38) 2⟩]) (.seq (.ops [
    ⟨(some 40), none, false, .mov (.tmp 12)⟩,
    ⟨(some 8), none, false, .mov (.tmp 40)⟩,
    ⟨(some 9), none, false, .mov (.const (.bool true))⟩]) .ret)) .skip)) (.seq (.ops [
    ⟨(some 41), none, false, .mov (.tmp 12)⟩,
    ⟨(some 42), none, false, .mov (.tmp 10)⟩,
    ⟨(some 43), none, false, .loadn (.tmp 5) 2⟩,
    ⟨(some 44), none, false, .lit [.string ⟨#[]⟩, .string ⟨#[]⟩] 2 1 [(0, 2, (.tmp 43))]⟩,
    ⟨(some 45), none, false, .call api_Word_63 [(.tmp 41), (.tmp 42), (.tmp 44)]⟩,
    ⟨(some 8), none, false, .mov (.tmp 45)⟩,
    ⟨(some 9), none, false, .mov (.const (.bool true))⟩]) .ret))))))
theorem fits_api_Word_53 : Fits Try.prog 0 api_Word_53 ic_api_Word_53 [.tmp 8, .tmp 9] 4 :=
  ⟨Try.f53, Try.func53, by decide, by kernel_rfl, by kernel_rfl⟩

/-- chantry/diff.odd -/
noncomputable def ic_diff_odd : IC :=
  (.seq (.ops [
    ⟨(some 1), none, false, .box (.tmp 0)⟩,
    ⟨(some 2), none, false, .mov (.const (.bool false))⟩]) (.seq (.ops [
    ⟨(some 4), none, false, .faddr (.tmp 1) 0⟩,
    ⟨(some 5), none, false, .load1 (.tmp 4)⟩,
    ⟨(some 6), none, false, .bin .eql (.tmp 5) (.const (.int .i64 1))⟩,
    ⟨(some 7), none, false, .mov (.tmp 6)⟩,
    ⟨(some 8), (some (7, false)), false, .faddr (.tmp 1) 0⟩,
    ⟨(some 9), (some (7, false)), false, .load1 (.tmp 8)⟩,
    ⟨(some 10), (some (7, false)), false, .bin .eql (.tmp 9) (.const (.int .i64 2))⟩,
    ⟨(some 11), none, false, .pick (.tmp 7) (.const (.bool true)) (.tmp 10)⟩,
    ⟨(some 12), none, false, .mov (.tmp 11)⟩,
    ⟨(some 13), (some (12, false)), false, .faddr (.tmp 1) 0⟩,
    ⟨(some 14), (some (12, false)), false, .load1 (.tmp 13)⟩,
    ⟨(some 15), (some (12, false)), false, .bin .eql (.tmp 14) (.const (.int .i64 7))⟩,
    ⟨(some 16), none, false, .pick (.tmp 12) (.const (.bool true)) (.tmp 15)⟩,
    ⟨(some 3), none, false, .mov (.tmp 16)⟩]) (.seq (.ops [
    ⟨(some 17), none, false, .faddr (.tmp 1) 0⟩,
    ⟨(some 18), none, false, .load1 (.tmp 17)⟩,
    ⟨(some 19), none, false, .bin .neq (.tmp 18) (.const (.int .i64 2))⟩,
    ⟨(some 20), none, false, .mov (.tmp 19)⟩,
    ⟨(some 21), (some (20, true)), false, .faddr (.tmp 1) 3⟩,
    ⟨(some 22), (some (20, true)), false, .load1 (.tmp 21)⟩,
    ⟨(some 23), (some (20, true)), false, .bin .neq (.tmp 22) (.const (.int .i64 0))⟩,
    ⟨(some 24), none, false, .pick (.tmp 20) (.tmp 23) (.const (.bool false))⟩,
    ⟨(some 25), none, false, .mov (.tmp 24)⟩,
    ⟨(some 26), (some (25, false)), false, .mov (.tmp 3)⟩,
    ⟨(some 27), (some (25, false)), false, .mov (.tmp 26)⟩,
    ⟨(some 28), (some (27, true)), false, .faddr (.tmp 1) 2⟩,
    ⟨(some 29), (some (27, true)), false, .load1 (.tmp 28)⟩,
    ⟨(some 30), (some (27, true)), false, .bin .neq (.tmp 29) (.const (.string ⟨#[]⟩))⟩,
    ⟨(some 31), (some (25, false)), false, .pick (.tmp 27) (.tmp 30) (.const (.bool false))⟩,
    ⟨(some 32), none, false, .pick (.tmp 25) (.const (.bool true)) (.tmp 31)⟩,
    ⟨(some 2), none, false, .mov (.tmp 32)⟩]) .ret)))
theorem fits_diff_odd : Fits Try.prog 0 diff_odd ic_diff_odd [.tmp 2] 1 :=
  ⟨Try.f54, Try.func54, by decide, by kernel_rfl, by kernel_rfl⟩

/-- chantry/chantryref41.put -/
noncomputable def ic_chantryref41_put : IC :=
  (.seq (.ops [
    ⟨(some 3), none, false, .box (.tmp 1)⟩,
    ⟨(some 4), none, false, .mov (.const (.slice none 0 0))⟩]) (.seq (.ops [
    ⟨(some 5), none, false, .mov (.const (.int .i64 0))⟩]) (.seq (.block 0 (.loop (.seq (.seq (.draw [
    ⟨(some 7), none, false, .mov (.tmp 5)⟩,
    ⟨(some 8), none, false, .mov (.tmp 0)⟩,
    ⟨(some 9), none, false, .lens false (.tmp 8)⟩,
    ⟨(some 10), none, false, .bin .lss (.tmp 7) (.tmp 9)⟩,
    ⟨(some 11), none, false, .mov (.tmp 10)⟩,
    ⟨(some 12), (some (11, true)), false, .mov (.tmp 0)⟩,
    ⟨(some 13), (some (11, true)), false, .mov (.tmp 5)⟩,
    ⟨(some 14), (some (11, true)), false, .iaddr (.tmp 12) (.tmp 13) 2⟩,
    ⟨(some 15), (some (11, true)), false, .loadn (.tmp 14) 2⟩,
    ⟨(some 16), (some (11, true)), false, .loadn (.tmp 3) 2⟩,
    ⟨(some 17), (some (11, true)), false, .call chantryref41_less [(.tmp 15), (.tmp 16)]⟩,
    ⟨(some 18), none, false, .pick (.tmp 11) (.tmp 17) (.const (.bool false))⟩]) (.cond (.tmp 18) .skip (.exit 0))) (.block 1 (.ops [
    ⟨(some 19), none, false, .mov (.tmp 5)⟩,
    ⟨(some 20), none, false, .bin .add (.tmp 19) (.const (.int .i64 1))⟩,
    ⟨(some 5), none, false, .mov (.tmp 20)⟩]))))) (.seq (.ops [
    ⟨(some 21), none, false, .lit [.string ⟨#[]⟩, .string ⟨#[]⟩] 2 0 []⟩,
    ⟨(some 22), none, false, .mov (.tmp 0)⟩,
    ⟨(some 23), none, false, .mov (.tmp 5)⟩,
    ⟨(some 24), none, false, .sll (.tmp 22) none (some (.tmp 23)) none 2⟩,
    ⟨(some 25), none, false, .app (.tmp 21) (.tmp 24) 2 32⟩,
    ⟨(some 6), none, false, .mov (.tmp 25)⟩]) (.seq (.ops [
    ⟨(some 26), none, false, .mov (.tmp 6)⟩,
    ⟨(some 27), none, false, .loadn (.tmp 3) 2⟩,
    ⟨(some 28), none, false, .lit [.string ⟨#[]⟩, .string ⟨#[]⟩] 2 1 [(0, 2, (.tmp 27))]⟩,
    ⟨(some 29), none, false, .app (.tmp 26) (.tmp 28) 2 32⟩,
    ⟨(some 6), none, false, .mov (.tmp 29)⟩]) (.seq (.ops [
    ⟨(some 30), none, false, .mov (.tmp 6)⟩,
    ⟨(some 31), none, false, .mov (.tmp 0)⟩,
    ⟨(some 32), none, false, .mov (.tmp 5)⟩,
    ⟨(some 33), none, false, .sll (.tmp 31) (some (.tmp 32)) none none 2⟩,
    ⟨(some 34), none, false, .app (.tmp 30) (.tmp 33) 2 32⟩,
    ⟨(some 4), none, false, .mov (.tmp 34)⟩]) .ret))))))
theorem fits_chantryref41_put : Fits Try.prog 0 chantryref41_put ic_chantryref41_put [.tmp 4] 2 :=
  ⟨Try.f55, Try.func55, by decide, by kernel_rfl, by kernel_rfl⟩

/-- chantry/chantryref41.cut -/
noncomputable def ic_chantryref41_cut : IC :=
  (.seq (.ops [
    ⟨(some 4), none, false, .mov (.const (.slice none 0 0))⟩]) (.seq (.ops [
    ⟨(some 6), none, false, .lit [.string ⟨#[]⟩, .string ⟨#[]⟩] 2 0 []⟩,
    ⟨(some 7), none, false, .mov (.tmp 0)⟩,
    ⟨(some 8), none, false, .mov (.tmp 1)⟩,
    ⟨(some 9), none, false, .sll (.tmp 7) none (some (.tmp 8)) none 2⟩,
    ⟨(some 10), none, false, .app (.tmp 6) (.tmp 9) 2 32⟩,
    ⟨(some 5), none, false, .mov (.tmp 10)⟩]) (.seq (.ops [
    ⟨(some 11), none, false, .mov (.tmp 5)⟩,
    ⟨(some 12), none, false, .mov (.tmp 0)⟩,
    ⟨(some 13), none, false, .mov (.tmp 1)⟩,
    ⟨(some 14), none, false, .bin .add (.tmp 13) (.const (.int .i64 1))⟩,
    ⟨(some 15), none, false, .sll (.tmp 12) (some (.tmp 14)) none none 2⟩,
    ⟨(some 16), none, false, .app (.tmp 11) (.tmp 15) 2 32⟩,
    ⟨(some 4), none, false, .mov (.tmp 16)⟩]) .ret)))
theorem fits_chantryref41_cut : Fits Try.prog 0 chantryref41_cut ic_chantryref41_cut [.tmp 4] 2 :=
  ⟨Try.f56, Try.func56, by decide, by kernel_rfl, by kernel_rfl⟩

/-- cmp.isNaN[string] -/
noncomputable def ic_cmp_isNaN_string : IC :=
  (.seq (.ops [
    ⟨(some 2), none, false, .mov (.const (.bool false))⟩]) (.seq (.ops [
    ⟨(some 3), none, false, .mov (.tmp 0)⟩,
    ⟨(some 4), none, false, .mov (.tmp 0)⟩,
    ⟨(some 5), none, false, .bin .neq (.tmp 3) (.tmp 4)⟩,
    ⟨(some 2), none, false, .mov (.tmp 5)⟩]) .ret))
theorem fits_cmp_isNaN_string : Fits Try.prog 0 cmp_isNaN_string ic_cmp_isNaN_string [.tmp 2] 1 :=
  ⟨Try.f57, Try.func57, by decide, by kernel_rfl, by kernel_rfl⟩

/-- slices.Delete[[]chantry/api.Count,chantry/api.Count] -/
noncomputable def ic_api_Count_58 : IC :=
  (.seq (.ops [
    ⟨(some 6), none, false, .mov (.const (.slice none 0 0))⟩]) (.seq (.ops [
    ⟨(some 8), none, false, .mov (.tmp 0)⟩,
    ⟨(some 9), none, false, .mov (.tmp 1)⟩,
    ⟨(some 10), none, false, .mov (.tmp 2)⟩,
    ⟨(some 11), none, false, .mov (.tmp 0)⟩,
    ⟨(some 12), none, false, .lens false (.tmp 11)⟩,
    ⟨(some 13), none, false, .sll (.tmp 8) (some (.tmp 9)) (some (.tmp 10)) (some (.tmp 12)) 2⟩]) (.seq (.seq (.ops [
    ⟨(some 14), none, false, .mov (.tmp 1)⟩,
    ⟨(some 15), none, false, .mov (.tmp 2)⟩,
    ⟨(some 16), none, false, .bin .eql (.tmp 14) (.tmp 15)⟩]) (.cond (.tmp 16) (.seq (.ops [
    ⟨(some 17), none, false, .mov (.tmp 0)⟩,
    ⟨(some 6), none, false, .mov (.tmp 17)⟩]) .ret) .skip)) (.seq (.ops [
    ⟨(some 18), none, false, .mov (.tmp 0)⟩,
    ⟨(some 19), none, false, .lens false (.tmp 18)⟩,
    ⟨(some 7), none, false, .mov (.tmp 19)⟩]) (.seq (.draw [
    ⟨(some 20), none, false, .mov (.tmp 0)⟩,
    ⟨(some 21), none, false, .mov (.tmp 1)⟩,
    ⟨(some 22), none, false, .sll (.tmp 20) none (some (.tmp 21)) none 2⟩,
    ⟨(some 23), none, false, .mov (.tmp 0)⟩,
    ⟨(some 24), none, false, .mov (.tmp 2)⟩,
    ⟨(some 25), none, false, .sll (.tmp 23) (some (.tmp 24)) none none 2⟩,
    ⟨(some 26), none, false, .app (.tmp 22) (.tmp 25) 2 24⟩,
    ⟨(some 0), none, false, .mov (.tmp 26)⟩]) (.seq (.ops [
    ⟨(some 27), none, false, .mov (.tmp 0)⟩,
    ⟨(some 28), none, false, .mov (.tmp 0)⟩,
    ⟨(some 29), none, false, .lens false (.tmp 28)⟩,
    ⟨(some 30), none, false, .mov (.tmp 7)⟩,
    ⟨(some 31), none, false, .sll (.tmp 27) (some (.tmp 29)) (some (.tmp 30)) none 2⟩,
    ⟨none, none, false, .clr (.tmp 31) [.string ⟨#[]⟩, .int .i64 0]⟩]) (.seq (.ops [
    ⟨(some 32), none, false, .mov (.tmp 0)⟩,
    ⟨(some 6), none, false, .mov (.tmp 32)⟩]) .ret)))))))
theorem fits_api_Count_58 : Fits Try.prog 0 api_Count_58 ic_api_Count_58 [.tmp 6] 3 :=
  ⟨Try.f58, Try.func58, by decide, by kernel_rfl, by kernel_rfl⟩

/-- slices.Clone[[]chantry/api.Count,chantry/api.Count] -/
noncomputable def ic_api_Count_59 : IC :=
  (.seq (.ops [
    ⟨(some 2), none, false, .mov (.const (.slice none 0 0))⟩]) (.seq (.seq (.ops [
    ⟨(some 3), none, false, .mov (.tmp 0)⟩,
    ⟨(some 4), none, false, .isnil (.slice 40) (.tmp 3) false⟩]) (.cond (.tmp 4) (.seq (.ops [
    ⟨(some 2), none, false, .mov (.const (.slice none 0 0))⟩]) .ret) .skip)) (.seq (.ops [
    ⟨(some 5), none, false, .lit [.string ⟨#[]⟩, .int .i64 0] 2 0 []⟩,
    ⟨(some 6), none, false, .mov (.tmp 0)⟩,
    ⟨(some 7), none, false, .app (.tmp 5) (.tmp 6) 2 24⟩,
    ⟨(some 2), none, false, .mov (.tmp 7)⟩]) .ret)))
theorem fits_api_Count_59 : Fits Try.prog 0 api_Count_59 ic_api_Count_59 [.tmp 2] 1 :=
  ⟨Try.f59, Try.func59, by decide, by kernel_rfl, by kernel_rfl⟩

/-- slices.Insert[[]chantry/api.Count,chantry/api.Count] -/
noncomputable def ic_api_Count_60 : IC :=
  (.seq (.ops [
    ⟨(some 6), none, false, .mov (.const (.slice none 0 0))⟩]) (.seq (.ops [
    ⟨(some 10), none, false, .mov (.tmp 0)⟩,
    ⟨(some 11), none, false, .mov (.tmp 1)⟩,
    ⟨(some 12), none, false, .sll (.tmp 10) (some (.tmp 11)) none none 2⟩]) (.seq (.ops [
    ⟨(some 13), none, false, .mov (.tmp 2)⟩,
    ⟨(some 14), none, false, .lens false (.tmp 13)⟩,
    ⟨(some 7), none, false, .mov (.tmp 14)⟩]) (.seq (.seq (.ops [
    ⟨(some 15), none, false, .mov (.tmp 7)⟩,
    ⟨(some 16), none, false, .bin .eql (.tmp 15) (.const (.int .i64 0))⟩]) (.cond (.tmp 16) (.seq (.ops [
    ⟨(some 17), none, false, .mov (.tmp 0)⟩,
    ⟨(some 6), none, false, .mov (.tmp 17)⟩]) .ret) .skip)) (.seq (.ops [
    ⟨(some 18), none, false, .mov (.tmp 0)⟩,
    ⟨(some 19), none, false, .lens false (.tmp 18)⟩,
    ⟨(some 8), none, false, .mov (.tmp 19)⟩]) (.seq (.seq (.ops [
    ⟨(some 20), none, false, .mov (.tmp 1)⟩,
    ⟨(some 21), none, false, .mov (.tmp 8)⟩,
    ⟨(some 22), none, false, .bin .eql (.tmp 20) (.tmp 21)⟩]) (.cond (.tmp 22) (.seq (.ops [
    ⟨(some 23), none, false, .mov (.tmp 0)⟩,
    ⟨(some 24), none, false, .mov (.tmp 2)⟩,
    ⟨(some 25), none, false, .app (.tmp 23) (.tmp 24) 2 24⟩,
    ⟨(some 6), none, false, .mov (.tmp 25)⟩]) .ret) .skip)) (.seq (.seq (.ops [
    ⟨(some 26), none, false, .mov (.tmp 8)⟩,
    ⟨(some 27), none, false, .mov (.tmp 7)⟩,
    ⟨(some 28), none, false, .bin .add (.tmp 26) (.tmp 27)⟩,
    ⟨(some 29), none, false, .mov (.tmp 0)⟩,
    ⟨(some 30), none, false, .capn (.tmp 29)⟩,
    ⟨(some 31), none, false, .bin .gtr (.tmp 28) (.tmp 30)⟩]) (.cond (.tmp 31) (.seq (.ops [
    ⟨(some 32), none, false, .mov (.tmp 0)⟩,
    ⟨(some 33), none, false, .mov (.tmp 1)⟩,
    ⟨(some 34), none, false, .sll (.tmp 32) none (some (.tmp 33)) none 2⟩,
    ⟨(some 35), none, false, .mov (.tmp 8)⟩,
    ⟨(some 36), none, false, .mov (.tmp 7)⟩,
    ⟨(some 37), none, false, .bin .add (.tmp 35) (.tmp 36)⟩,
    ⟨(some 38), none, false, .mov (.tmp 1)⟩,
    ⟨(some 39), none, false, .bin .sub (.tmp 37) (.tmp 38)⟩,
    ⟨(some 40), none, false, .appz (.tmp 34) (.tmp 39) [.string ⟨#[]⟩, .int .i64 0] 24⟩,
    ⟨(some 9), none, false, .mov (.tmp 40)⟩]) (.seq (.ops [
    ⟨(some 41), none, false, .mov (.tmp 9)⟩,
    ⟨(some 42), none, false, .mov (.tmp 1)⟩,
    ⟨(some 43), none, false, .sll (.tmp 41) (some (.tmp 42)) none none 2⟩,
    ⟨(some 44), none, false, .mov (.tmp 2)⟩,
    ⟨(some 45), none, false, .copy (.tmp 43) (.tmp 44) 2⟩]) (.seq (.draw [
    ⟨(some 46), none, false, .mov (.tmp 9)⟩,
    ⟨(some 47), none, false, .mov (.tmp 1)⟩,
    ⟨(some 48), none, false, .mov (.tmp 7)⟩,
    ⟨(some 49), none, false, .bin .add (.tmp 47) (.tmp 48)⟩,
    ⟨(some 50), none, false, .sll (.tmp 46) (some (.tmp 49)) none none 2⟩,
    ⟨(some 51), none, false, .mov (.tmp 0)⟩,
    ⟨(some 52), none, false, .mov (.tmp 1)⟩,
    ⟨(some 53), none, false, .sll (.tmp 51) (some (.tmp 52)) none none 2⟩,
    ⟨(some 54), none, false, .copy (.tmp 50) (.tmp 53) 2⟩]) (.seq (.ops [
    ⟨(some 55), none, false, .mov (.tmp 9)⟩,
    ⟨(some 6), none, false, .mov (.tmp 55)⟩]) .ret)))) .skip)) (.seq (.ops [
    ⟨(some 56), none, false, .mov (.tmp 0)⟩,
    ⟨(some 57), none, false, .mov (.tmp 8)⟩,
    ⟨(some 58), none, false, .mov (.tmp 7)⟩,
    ⟨(some 59), none, false, .bin .add (.tmp 57) (.tmp 58)⟩,
    ⟨(some 60), none, false, .sll (.tmp 56) none (some (.tmp 59)) none 2⟩,
    ⟨(some 0), none, false, .mov (.tmp 60)⟩]) (.seq (.seq (.ops [
    ⟨(some 61), none, false, .mov (.tmp 2)⟩,
    ⟨(some 62), none, false, .mov (.tmp 0)⟩,
    ⟨(some 63), none, false, .mov (.tmp 1)⟩,
    ⟨(some 64), none, false, .mov (.tmp 7)⟩,
    ⟨(some 65), none, false, .bin .add (.tmp 63) (.tmp 64)⟩,
    ⟨(some 66), none, false, .sll (.tmp 62) (some (.tmp 65)) none none 2⟩,
    ⟨(some 67), none, false, .callx api_Count_64 [(.tmp 61), (.tmp 66)]⟩,
    ⟨(some 68), none, false, .un .not (.tmp 67)⟩]) (.cond (.tmp 68) (.seq (.draw [
    ⟨(some 69), none, false, .mov (.tmp 0)⟩,
    ⟨(some 70), none, false, .mov (.tmp 1)⟩,
    ⟨(some 71), none, false, .mov (.tmp 7)⟩,
    ⟨(some 72), none, false, .bin .add (.tmp 70) (.tmp 71)⟩,
    ⟨(some 73), none, false, .sll (.tmp 69) (some (.tmp 72)) none none 2⟩,
    ⟨(some 74), none, false, .mov (.tmp 0)⟩,
    ⟨(some 75), none, false, .mov (.tmp 1)⟩,
    ⟨(some 76), none, false, .sll (.tmp 74) (some (.tmp 75)) none none 2⟩,
    ⟨(some 77), none, false, .copy (.tmp 73) (.tmp 76) 2⟩]) (.seq (.ops [
    ⟨(some 78), none, false, .mov (.tmp 0)⟩,
    ⟨(some 79), none, false, .mov (.tmp 1)⟩,
    ⟨(some 80), none, false, .sll (.tmp 78) (some (.tmp 79)) none none 2⟩,
    ⟨(some 81), none, false, .mov (.tmp 2)⟩,
    ⟨(some 82), none, false, .copy (.tmp 80) (.tmp 81) 2⟩]) (.seq (.ops [
    ⟨(some 83), none, false, .mov (.tmp 0)⟩,
    ⟨(some 6), none, false, .mov (.tmp 83)⟩]) .ret))) .skip)) (.seq (.ops [
    ⟨(some 84), none, false, .mov (.tmp 0)⟩,
    ⟨(some 85), none, false, .mov (.tmp 8)⟩,
    ⟨(some 86), none, false, .sll (.tmp 84) (some (.tmp 85)) none none 2⟩,
    ⟨(some 87), none, false, .mov (.tmp 2)⟩,
    ⟨(some 88), none, false, .copy (.tmp 86) (.tmp 87) 2⟩]) (.seq (.ops [
    ⟨(some 89), none, false, .mov (.tmp 0)⟩,
    ⟨(some 90), none, false, .mov (.tmp 1)⟩,
    ⟨(some 91), none, false, .sll (.tmp 89) (some (.tmp 90)) none none 2⟩,
    ⟨(some 92), none, false, .mov (.tmp 7)⟩,
    ⟨(some 93), none, false, .call api_Count_65 [(.tmp 91), (.tmp 92)]⟩]) (.seq (.ops [
    ⟨(some 94), none, false, .mov (.tmp 0)⟩,
    ⟨(some 6), none, false, .mov (.tmp 94)⟩]) .ret))))))))))))
theorem fits_api_Count_60 : Fits Try.prog 0 api_Count_60 ic_api_Count_60 [.tmp 6] 3 :=
  ⟨Try.f60, Try.func60, by decide, by kernel_rfl, by kernel_rfl⟩

/-- slices.Delete[[]chantry/api.Word,chantry/api.Word] -/
noncomputable def ic_api_Word_61 : IC :=
  (.seq (.ops [
    ⟨(some 6), none, false, .mov (.const (.slice none 0 0))⟩]) (.seq (.ops [
    ⟨(some 8), none, false, .mov (.tmp 0)⟩,
    ⟨(some 9), none, false, .mov (.tmp 1)⟩,
    ⟨(some 10), none, false, .mov (.tmp 2)⟩,
    ⟨(some 11), none, false, .mov (.tmp 0)⟩,
    ⟨(some 12), none, false, .lens false (.tmp 11)⟩,
    ⟨(some 13), none, false, .sll (.tmp 8) (some (.tmp 9)) (some (.tmp 10)) (some (.tmp 12)) 2⟩]) (.seq (.seq (.ops [
    ⟨(some 14), none, false, .mov (.tmp 1)⟩,
    ⟨(some 15), none, false, .mov (.tmp 2)⟩,
    ⟨(some 16), none, false, .bin .eql (.tmp 14) (.tmp 15)⟩]) (.cond (.tmp 16) (.seq (.ops [
    ⟨(some 17), none, false, .mov (.tmp 0)⟩,
    ⟨(some 6), none, false, .mov (.tmp 17)⟩]) .ret) .skip)) (.seq (.ops [
    ⟨(some 18), none, false, .mov (.tmp 0)⟩,
    ⟨(some 19), none, false, .lens false (.tmp 18)⟩,
    ⟨(some 7), none, false, .mov (.tmp 19)⟩]) (.seq (.draw [
    ⟨(some 20), none, false, .mov (.tmp 0)⟩,
    ⟨(some 21), none, false, .mov (.tmp 1)⟩,
    ⟨(some 22), none, false, .sll (.tmp 20) none (some (.tmp 21)) none 2⟩,
    ⟨(some 23), none, false, .mov (.tmp 0)⟩,
    ⟨(some 24), none, false, .mov (.tmp 2)⟩,
    ⟨(some 25), none, false, .sll (.tmp 23) (some (.tmp 24)) none none 2⟩,
    ⟨(some 26), none, false, .app (.tmp 22) (.tmp 25) 2 32⟩,
    ⟨(some 0), none, false, .mov (.tmp 26)⟩]) (.seq (.ops [
    ⟨(some 27), none, false, .mov (.tmp 0)⟩,
    ⟨(some 28), none, false, .mov (.tmp 0)⟩,
    ⟨(some 29), none, false, .lens false (.tmp 28)⟩,
    ⟨(some 30), none, false, .mov (.tmp 7)⟩,
    ⟨(some 31), none, false, .sll (.tmp 27) (some (.tmp 29)) (some (.tmp 30)) none 2⟩,
    ⟨none, none, false, .clr (.tmp 31) [.string ⟨#[]⟩, .string ⟨#[]⟩]⟩]) (.seq (.ops [
    ⟨(some 32), none, false, .mov (.tmp 0)⟩,
    ⟨(some 6), none, false, .mov (.tmp 32)⟩]) .ret)))))))
theorem fits_api_Word_61 : Fits Try.prog 0 api_Word_61 ic_api_Word_61 [.tmp 6] 3 :=
  ⟨Try.f61, Try.func61, by decide, by kernel_rfl, by kernel_rfl⟩

/-- slices.Clone[[]chantry/api.Word,chantry/api.Word] -/
noncomputable def ic_api_Word_62 : IC :=
  (.seq (.ops [
    ⟨(some 2), none, false, .mov (.const (.slice none 0 0))⟩]) (.seq (.seq (.ops [
    ⟨(some 3), none, false, .mov (.tmp 0)⟩,
    ⟨(some 4), none, false, .isnil (.slice 42) (.tmp 3) false⟩]) (.cond (.tmp 4) (.seq (.ops [
    ⟨(some 2), none, false, .mov (.const (.slice none 0 0))⟩]) .ret) .skip)) (.seq (.ops [
    ⟨(some 5), none, false, .lit [.string ⟨#[]⟩, .string ⟨#[]⟩] 2 0 []⟩,
    ⟨(some 6), none, false, .mov (.tmp 0)⟩,
    ⟨(some 7), none, false, .app (.tmp 5) (.tmp 6) 2 32⟩,
    ⟨(some 2), none, false, .mov (.tmp 7)⟩]) .ret)))
theorem fits_api_Word_62 : Fits Try.prog 0 api_Word_62 ic_api_Word_62 [.tmp 2] 1 :=
  ⟨Try.f62, Try.func62, by decide, by kernel_rfl, by kernel_rfl⟩

/-- slices.Insert[[]chantry/api.Word,chantry/api.Word] -/
noncomputable def ic_api_Word_63 : IC :=
  (.seq (.ops [
    ⟨(some 6), none, false, .mov (.const (.slice none 0 0))⟩]) (.seq (.ops [
    ⟨(some 10), none, false, .mov (.tmp 0)⟩,
    ⟨(some 11), none, false, .mov (.tmp 1)⟩,
    ⟨(some 12), none, false, .sll (.tmp 10) (some (.tmp 11)) none none 2⟩]) (.seq (.ops [
    ⟨(some 13), none, false, .mov (.tmp 2)⟩,
    ⟨(some 14), none, false, .lens false (.tmp 13)⟩,
    ⟨(some 7), none, false, .mov (.tmp 14)⟩]) (.seq (.seq (.ops [
    ⟨(some 15), none, false, .mov (.tmp 7)⟩,
    ⟨(some 16), none, false, .bin .eql (.tmp 15) (.const (.int .i64 0))⟩]) (.cond (.tmp 16) (.seq (.ops [
    ⟨(some 17), none, false, .mov (.tmp 0)⟩,
    ⟨(some 6), none, false, .mov (.tmp 17)⟩]) .ret) .skip)) (.seq (.ops [
    ⟨(some 18), none, false, .mov (.tmp 0)⟩,
    ⟨(some 19), none, false, .lens false (.tmp 18)⟩,
    ⟨(some 8), none, false, .mov (.tmp 19)⟩]) (.seq (.seq (.ops [
    ⟨(some 20), none, false, .mov (.tmp 1)⟩,
    ⟨(some 21), none, false, .mov (.tmp 8)⟩,
    ⟨(some 22), none, false, .bin .eql (.tmp 20) (.tmp 21)⟩]) (.cond (.tmp 22) (.seq (.ops [
    ⟨(some 23), none, false, .mov (.tmp 0)⟩,
    ⟨(some 24), none, false, .mov (.tmp 2)⟩,
    ⟨(some 25), none, false, .app (.tmp 23) (.tmp 24) 2 32⟩,
    ⟨(some 6), none, false, .mov (.tmp 25)⟩]) .ret) .skip)) (.seq (.seq (.ops [
    ⟨(some 26), none, false, .mov (.tmp 8)⟩,
    ⟨(some 27), none, false, .mov (.tmp 7)⟩,
    ⟨(some 28), none, false, .bin .add (.tmp 26) (.tmp 27)⟩,
    ⟨(some 29), none, false, .mov (.tmp 0)⟩,
    ⟨(some 30), none, false, .capn (.tmp 29)⟩,
    ⟨(some 31), none, false, .bin .gtr (.tmp 28) (.tmp 30)⟩]) (.cond (.tmp 31) (.seq (.ops [
    ⟨(some 32), none, false, .mov (.tmp 0)⟩,
    ⟨(some 33), none, false, .mov (.tmp 1)⟩,
    ⟨(some 34), none, false, .sll (.tmp 32) none (some (.tmp 33)) none 2⟩,
    ⟨(some 35), none, false, .mov (.tmp 8)⟩,
    ⟨(some 36), none, false, .mov (.tmp 7)⟩,
    ⟨(some 37), none, false, .bin .add (.tmp 35) (.tmp 36)⟩,
    ⟨(some 38), none, false, .mov (.tmp 1)⟩,
    ⟨(some 39), none, false, .bin .sub (.tmp 37) (.tmp 38)⟩,
    ⟨(some 40), none, false, .appz (.tmp 34) (.tmp 39) [.string ⟨#[]⟩, .string ⟨#[]⟩] 32⟩,
    ⟨(some 9), none, false, .mov (.tmp 40)⟩]) (.seq (.ops [
    ⟨(some 41), none, false, .mov (.tmp 9)⟩,
    ⟨(some 42), none, false, .mov (.tmp 1)⟩,
    ⟨(some 43), none, false, .sll (.tmp 41) (some (.tmp 42)) none none 2⟩,
    ⟨(some 44), none, false, .mov (.tmp 2)⟩,
    ⟨(some 45), none, false, .copy (.tmp 43) (.tmp 44) 2⟩]) (.seq (.draw [
    ⟨(some 46), none, false, .mov (.tmp 9)⟩,
    ⟨(some 47), none, false, .mov (.tmp 1)⟩,
    ⟨(some 48), none, false, .mov (.tmp 7)⟩,
    ⟨(some 49), none, false, .bin .add (.tmp 47) (.tmp 48)⟩,
    ⟨(some 50), none, false, .sll (.tmp 46) (some (.tmp 49)) none none 2⟩,
    ⟨(some 51), none, false, .mov (.tmp 0)⟩,
    ⟨(some 52), none, false, .mov (.tmp 1)⟩,
    ⟨(some 53), none, false, .sll (.tmp 51) (some (.tmp 52)) none none 2⟩,
    ⟨(some 54), none, false, .copy (.tmp 50) (.tmp 53) 2⟩]) (.seq (.ops [
    ⟨(some 55), none, false, .mov (.tmp 9)⟩,
    ⟨(some 6), none, false, .mov (.tmp 55)⟩]) .ret)))) .skip)) (.seq (.ops [
    ⟨(some 56), none, false, .mov (.tmp 0)⟩,
    ⟨(some 57), none, false, .mov (.tmp 8)⟩,
    ⟨(some 58), none, false, .mov (.tmp 7)⟩,
    ⟨(some 59), none, false, .bin .add (.tmp 57) (.tmp 58)⟩,
    ⟨(some 60), none, false, .sll (.tmp 56) none (some (.tmp 59)) none 2⟩,
    ⟨(some 0), none, false, .mov (.tmp 60)⟩]) (.seq (.seq (.ops [
    ⟨(some 61), none, false, .mov (.tmp 2)⟩,
    ⟨(some 62), none, false, .mov (.tmp 0)⟩,
    ⟨(some 63), none, false, .mov (.tmp 1)⟩,
    ⟨(some 64), none, false, .mov (.tmp 7)⟩,
    ⟨(some 65), none, false, .bin .add (.tmp 63) (.tmp 64)⟩,
    ⟨(some 66), none, false, .sll (.tmp 62) (some (.tmp 65)) none none 2⟩,
    ⟨(some 67), none, false, .callx api_Word_66 [(.tmp 61), (.tmp 66)]⟩,
    ⟨(some 68), none, false, .un .not (.tmp 67)⟩]) (.cond (.tmp 68) (.seq (.draw [
    ⟨(some 69), none, false, .mov (.tmp 0)⟩,
    ⟨(some 70), none, false, .mov (.tmp 1)⟩,
    ⟨(some 71), none, false, .mov (.tmp 7)⟩,
    ⟨(some 72), none, false, .bin .add (.tmp 70) (.tmp 71)⟩,
    ⟨(some 73), none, false, .sll (.tmp 69) (some (.tmp 72)) none none 2⟩,
    ⟨(some 74), none, false, .mov (.tmp 0)⟩,
    ⟨(some 75), none, false, .mov (.tmp 1)⟩,
    ⟨(some 76), none, false, .sll (.tmp 74) (some (.tmp 75)) none none 2⟩,
    ⟨(some 77), none, false, .copy (.tmp 73) (.tmp 76) 2⟩]) (.seq (.ops [
    ⟨(some 78), none, false, .mov (.tmp 0)⟩,
    ⟨(some 79), none, false, .mov (.tmp 1)⟩,
    ⟨(some 80), none, false, .sll (.tmp 78) (some (.tmp 79)) none none 2⟩,
    ⟨(some 81), none, false, .mov (.tmp 2)⟩,
    ⟨(some 82), none, false, .copy (.tmp 80) (.tmp 81) 2⟩]) (.seq (.ops [
    ⟨(some 83), none, false, .mov (.tmp 0)⟩,
    ⟨(some 6), none, false, .mov (.tmp 83)⟩]) .ret))) .skip)) (.seq (.ops [
    ⟨(some 84), none, false, .mov (.tmp 0)⟩,
    ⟨(some 85), none, false, .mov (.tmp 8)⟩,
    ⟨(some 86), none, false, .sll (.tmp 84) (some (.tmp 85)) none none 2⟩,
    ⟨(some 87), none, false, .mov (.tmp 2)⟩,
    ⟨(some 88), none, false, .copy (.tmp 86) (.tmp 87) 2⟩]) (.seq (.ops [
    ⟨(some 89), none, false, .mov (.tmp 0)⟩,
    ⟨(some 90), none, false, .mov (.tmp 1)⟩,
    ⟨(some 91), none, false, .sll (.tmp 89) (some (.tmp 90)) none none 2⟩,
    ⟨(some 92), none, false, .mov (.tmp 7)⟩,
    ⟨(some 93), none, false, .call api_Word_67 [(.tmp 91), (.tmp 92)]⟩]) (.seq (.ops [
    ⟨(some 94), none, false, .mov (.tmp 0)⟩,
    ⟨(some 6), none, false, .mov (.tmp 94)⟩]) .ret))))))))))))
theorem fits_api_Word_63 : Fits Try.prog 0 api_Word_63 ic_api_Word_63 [.tmp 6] 3 :=
  ⟨Try.f63, Try.func63, by decide, by kernel_rfl, by kernel_rfl⟩

-- NOT SERVED 64 slices.overlaps[chantry/api.Count]: no body

/-- slices.rotateRight[chantry/api.Count] -/
noncomputable def ic_api_Count_65 : IC :=
  (.ops [
    ⟨(some 4), none, false, .mov (.tmp 0)⟩,
    ⟨(some 5), none, false, .mov (.tmp 0)⟩,
    ⟨(some 6), none, false, .lens false (.tmp 5)⟩,
    ⟨(some 7), none, false, .mov (.tmp 1)⟩,
    ⟨(some 8), none, false, .bin .sub (.tmp 6) (.tmp 7)⟩,
    ⟨(some 9), none, false, .call api_Count_68 [(.tmp 4), (.tmp 8)]⟩])
theorem fits_api_Count_65 : Fits Try.prog 0 api_Count_65 ic_api_Count_65 [] 2 :=
  ⟨Try.f65, Try.func65, by decide, by kernel_rfl, by kernel_rfl⟩

-- NOT SERVED 66 slices.overlaps[chantry/api.Word]: no body

/-- slices.rotateRight[chantry/api.Word] -/
noncomputable def ic_api_Word_67 : IC :=
  (.ops [
    ⟨(some 4), none, false, .mov (.tmp 0)⟩,
    ⟨(some 5), none, false, .mov (.tmp 0)⟩,
    ⟨(some 6), none, false, .lens false (.tmp 5)⟩,
    ⟨(some 7), none, false, .mov (.tmp 1)⟩,
    ⟨(some 8), none, false, .bin .sub (.tmp 6) (.tmp 7)⟩,
    ⟨(some 9), none, false, .call api_Word_69 [(.tmp 4), (.tmp 8)]⟩])
theorem fits_api_Word_67 : Fits Try.prog 0 api_Word_67 ic_api_Word_67 [] 2 :=
  ⟨Try.f67, Try.func67, by decide, by kernel_rfl, by kernel_rfl⟩

/-- slices.rotateLeft[chantry/api.Count] -/
noncomputable def ic_api_Count_68 : IC :=
  (.seq (.ops [
    ⟨(some 4), none, false, .mov (.tmp 0)⟩,
    ⟨(some 5), none, false, .mov (.tmp 1)⟩,
    ⟨(some 6), none, false, .sll (.tmp 4) none (some (.tmp 5)) none 2⟩,
    ⟨(some 7), none, false, .call api_Count_70 [(.tmp 6)]⟩]) (.seq (.ops [
    ⟨(some 8), none, false, .mov (.tmp 0)⟩,
    ⟨(some 9), none, false, .mov (.tmp 1)⟩,
    ⟨(some 10), none, false, .sll (.tmp 8) (some (.tmp 9)) none none 2⟩,
    ⟨(some 11), none, false, .call api_Count_70 [(.tmp 10)]⟩]) (.ops [
    ⟨(some 12), none, false, .mov (.tmp 0)⟩,
    ⟨(some 13), none, false, .call api_Count_70 [(.tmp 12)]⟩])))
theorem fits_api_Count_68 : Fits Try.prog 0 api_Count_68 ic_api_Count_68 [] 2 :=
  ⟨Try.f68, Try.func68, by decide, by kernel_rfl, by kernel_rfl⟩

/-- slices.rotateLeft[chantry/api.Word] -/
noncomputable def ic_api_Word_69 : IC :=
  (.seq (.ops [
    ⟨(some 4), none, false, .mov (.tmp 0)⟩,
    ⟨(some 5), none, false, .mov (.tmp 1)⟩,
    ⟨(some 6), none, false, .sll (.tmp 4) none (some (.tmp 5)) none 2⟩,
    ⟨(some 7), none, false, .call api_Word_71 [(.tmp 6)]⟩]) (.seq (.ops [
    ⟨(some 8), none, false, .mov (.tmp 0)⟩,
    ⟨(some 9), none, false, .mov (.tmp 1)⟩,
    ⟨(some 10), none, false, .sll (.tmp 8) (some (.tmp 9)) none none 2⟩,
    ⟨(some 11), none, false, .call api_Word_71 [(.tmp 10)]⟩]) (.ops [
    ⟨(some 12), none, false, .mov (.tmp 0)⟩,
    ⟨(some 13), none, false, .call api_Word_71 [(.tmp 12)]⟩])))
theorem fits_api_Word_69 : Fits Try.prog 0 api_Word_69 ic_api_Word_69 [] 2 :=
  ⟨Try.f69, Try.func69, by decide, by kernel_rfl, by kernel_rfl⟩

/-- slices.Reverse[[]chantry/api.Count,chantry/api.Count] -/
noncomputable def ic_api_Count_70 : IC :=
  (.seq (.ops [
    ⟨(some 4), none, false, .mov (.tmp 0)⟩,
    ⟨(some 5), none, false, .lens false (.tmp 4)⟩,
    ⟨(some 6), none, false, .bin .sub (.tmp 5) (.const (.int .i64 1))⟩,
    ⟨(some 2), none, false, .mov (.const (.int .i64 0))⟩,
    ⟨(some 3), none, false, .mov (.tmp 6)⟩]) (.block 0 (.loop (.seq (.seq (.ops [
    ⟨(some 7), none, false, .mov (.tmp 2)⟩,
    ⟨(some 8), none, false, .mov (.tmp 3)⟩,
    ⟨(some 9), none, false, .bin .lss (.tmp 7) (.tmp 8)⟩]) (.cond (.tmp 9) .skip (.exit 0))) (.seq (.block 1 (.draw [
    ⟨(some 14), none, false, .mov (.tmp 0)⟩,
    ⟨(some 15), none, false, .mov (.tmp 2)⟩,
    ⟨(some 16), none, false, .mov (.tmp 0)⟩,
    ⟨(some 17), none, false, .mov (.tmp 3)⟩,
    ⟨(some 18), none, false, .mov (.tmp 0)⟩,
    ⟨(some 19), none, false, .mov (.tmp 3)⟩,
    ⟨(some 20), none, false, .iaddr (.tmp 18) (.tmp 19) 2⟩,
    ⟨(some 21), none, false, .loadn (.tmp 20) 2⟩,
    ⟨(some 22), none, false, .mov (.tmp 0)⟩,
    ⟨(some 23), none, false, .mov (.tmp 2)⟩,
    ⟨(some 24), none, false, .iaddr (.tmp 22) (.tmp 23) 2⟩,
    ⟨(some 25), none, false, .loadn (.tmp 24) 2⟩,
    ⟨(some 26), none, false, .iaddr (.tmp 14) (.tmp 15) 2⟩,
    ⟨none, none, false, .store (.tmp 26) (.tmp 21) 2⟩,
    ⟨(some 27), none, false, .iaddr (.tmp 16) (.tmp 17) 2⟩,
    ⟨none, none, false, .store (.tmp 27) (.tmp 25) 2⟩])) (.ops [
    ⟨(some 10), none, false, .mov (.tmp 2)⟩,
    ⟨(some 11), none, false, .bin .add (.tmp 10) (.const (.int .i64 1))⟩,
    ⟨(some 12), none, false, .mov (.tmp 3)⟩,
    ⟨(some 13), none, false, .bin .sub (.tmp 12) (.const (.int .i64 1))⟩,
    ⟨(some 2), none, false, .mov (.tmp 11)⟩,
    ⟨(some 3), none, false, .mov (.tmp 13)⟩]))))))
theorem fits_api_Count_70 : Fits Try.prog 0 api_Count_70 ic_api_Count_70 [] 1 :=
  ⟨Try.f70, Try.func70, by decide, by kernel_rfl, by kernel_rfl⟩

/-- slices.Reverse[[]chantry/api.Word,chantry/api.Word] -/
noncomputable def ic_api_Word_71 : IC :=
  (.seq (.ops [
    ⟨(some 4), none, false, .mov (.tmp 0)⟩,
    ⟨(some 5), none, false, .lens false (.tmp 4)⟩,
    ⟨(some 6), none, false, .bin .sub (.tmp 5) (.const (.int .i64 1))⟩,
    ⟨(some 2), none, false, .mov (.const (.int .i64 0))⟩,
    ⟨(some 3), none, false, .mov (.tmp 6)⟩]) (.block 0 (.loop (.seq (.seq (.ops [
    ⟨(some 7), none, false, .mov (.tmp 2)⟩,
    ⟨(some 8), none, false, .mov (.tmp 3)⟩,
    ⟨(some 9), none, false, .bin .lss (.tmp 7) (.tmp 8)⟩]) (.cond (.tmp 9) .skip (.exit 0))) (.seq (.block 1 (.draw [
    ⟨(some 14), none, false, .mov (.tmp 0)⟩,
    ⟨(some 15), none, false, .mov (.tmp 2)⟩,
    ⟨(some 16), none, false, .mov (.tmp 0)⟩,
    ⟨(some 17), none, false, .mov (.tmp 3)⟩,
    ⟨(some 18), none, false, .mov (.tmp 0)⟩,
    ⟨(some 19), none, false, .mov (.tmp 3)⟩,
    ⟨(some 20), none, false, .iaddr (.tmp 18) (.tmp 19) 2⟩,
    ⟨(some 21), none, false, .loadn (.tmp 20) 2⟩,
    ⟨(some 22), none, false, .mov (.tmp 0)⟩,
    ⟨(some 23), none, false, .mov (.tmp 2)⟩,
    ⟨(some 24), none, false, .iaddr (.tmp 22) (.tmp 23) 2⟩,
    ⟨(some 25), none, false, .loadn (.tmp 24) 2⟩,
    ⟨(some 26), none, false, .iaddr (.tmp 14) (.tmp 15) 2⟩,
    ⟨none, none, false, .store (.tmp 26) (.tmp 21) 2⟩,
    ⟨(some 27), none, false, .iaddr (.tmp 16) (.tmp 17) 2⟩,
    ⟨none, none, false, .store (.tmp 27) (.tmp 25) 2⟩])) (.ops [
    ⟨(some 10), none, false, .mov (.tmp 2)⟩,
    ⟨(some 11), none, false, .bin .add (.tmp 10) (.const (.int .i64 1))⟩,
    ⟨(some 12), none, false, .mov (.tmp 3)⟩,
    ⟨(some 13), none, false, .bin .sub (.tmp 12) (.const (.int .i64 1))⟩,
    ⟨(some 2), none, false, .mov (.tmp 11)⟩,
    ⟨(some 3), none, false, .mov (.tmp 13)⟩]))))))
theorem fits_api_Word_71 : Fits Try.prog 0 api_Word_71 ic_api_Word_71 [] 1 :=
  ⟨Try.f71, Try.func71, by decide, by kernel_rfl, by kernel_rfl⟩

-- NOT SERVED 72 (runtime.boundsError).Error: no body

-- NOT SERVED 73 (runtime.boundsError).RuntimeError: no body

-- NOT SERVED 74 (runtime.errorString).Error: no body

-- NOT SERVED 75 (runtime.errorString).RuntimeError: no body

-- NOT SERVED 76 (runtime.plainError).Error: no body

-- NOT SERVED 77 (runtime.plainError).RuntimeError: no body

-- NOT SERVED 78 (runtime.errorAddressString).Error: no body

-- NOT SERVED 79 (runtime.errorAddressString).RuntimeError: no body

-- NOT SERVED 80 (*runtime.TypeAssertionError).Error: no body

-- NOT SERVED 81 (*runtime.TypeAssertionError).RuntimeError: no body

-- NOT SERVED 82 (*runtime.PanicNilError).Error: no body

-- NOT SERVED 83 (*runtime.PanicNilError).RuntimeError: no body

-- NOT SERVED 84 (*internal/abi.Type).Align: no body

-- NOT SERVED 85 (internal/runtime/maps.unhashableTypeError).Error: no body

-- NOT SERVED 86 (internal/runtime/maps.unhashableTypeError).RuntimeError: no body

-- NOT SERVED 87 (internal/abi.Kind).String: no body

end Go.AS.C


namespace Go.AS.C
open Go Go.Proofs
set_option linter.unusedVariables false
set_option linter.unusedSimpArgs false
set_option maxRecDepth 10000

theorem mixed : Try.prog.follows .mixedOrders = true := by kernel_rfl

end Go.AS.C


namespace Go.AS.C
open Go Go.Proofs
set_option linter.unusedVariables false
set_option linter.unusedSimpArgs false
set_option maxRecDepth 10000

/-! States, as plain data and as they stand in the heap. -/
structure WordV where
  name : ByteArray
  text : ByteArray
def wordE (w : WordV) : List Value := [.string w.name, .string w.text]
/-- A slice of words. -/
def WordsA (A : AH) (v : Value) (l : List WordV) : Prop := Sl A 2 v (l.map wordE).length (l.map wordE).flatten
theorem wordE_ok (l : List WordV) : ∀ e ∈ l.map wordE, e.length = 2 ∧ ones e = true := by
  intro e he
  rw [List.mem_map] at he
  obtain ⟨w, _, rfl⟩ := he
  exact ⟨rfl, rfl⟩
theorem WordsA.le {A B : AH} {v : Value} {l : List WordV} (h : WordsA A v l) (hl : Le A B) : WordsA B v l := Sl.le h hl
theorem WordsA.len {A : AH} {v : Value} {l : List WordV} (h : WordsA A v l) (B : AH) : sLens B false v = some (ii l.length, B) := by
  have := Sl.lenB h B
  rw [List.length_map] at this
  exact this
theorem WordsA.at {A : AH} {v : Value} {l : List WordV} (h : WordsA A v l) {j : Nat} {w : WordV} (hj : l[j]? = some w) : ∃ p, (∀ (B : AH) (n : Int), n = (j : Int) → sIaddr B v (.int .i64 n) 2 = some (p, B)) ∧ ∀ B, Le A B → sLoadn B p 2 = some (.agg #[.string w.name, .string w.text], B) := by
  obtain ⟨p, _, p1, _, p3⟩ := Sl.el h (wordE_ok l) (j := j) (e := wordE w) (by rw [List.getElem?_map, hj]; rfl)
  exact ⟨p, p1, fun B hB => p3 B (fun k b hb _ => hB.get hb)⟩
theorem WordsA.fld {A : AH} {v : Value} {l : List WordV} (h : WordsA A v l) {j o : Nat} {w : WordV} {x : Value} (hj : l[j]? = some w) (ho : (wordE w)[o]? = some x) : ∃ p q, (∀ (B : AH) (n : Int), n = (j : Int) → sIaddr B v (.int .i64 n) 2 = some (p, B)) ∧ (∀ B, sFaddr B p o = some (q, B)) ∧ ∀ B, Le A B → sLoad1 B q = some (x, B) :=
  Sl.elfL h (wordE_ok l) (j := j) (e := wordE w) (by rw [List.getElem?_map, hj]; rfl) ho
abbrev ptr (i : Nat) : Value := .pointer (some ⟨i, 0, none⟩)
structure CountV where
  name : ByteArray
  n : Int
def countE (w : CountV) : List Value := [.string w.name, ii w.n]
def CountsA (A : AH) (v : Value) (l : List CountV) : Prop := Sl A 2 v (l.map countE).length (l.map countE).flatten
theorem countE_ok (l : List CountV) : ∀ e ∈ l.map countE, e.length = 2 ∧ ones e = true := by
  intro e he
  rw [List.mem_map] at he
  obtain ⟨w, _, rfl⟩ := he
  exact ⟨rfl, rfl⟩
theorem CountsA.le {A B : AH} {v : Value} {l : List CountV} (h : CountsA A v l) (hl : Le A B) : CountsA B v l := Sl.le h hl
theorem CountsA.len {A : AH} {v : Value} {l : List CountV} (h : CountsA A v l) (B : AH) : sLens B false v = some (ii l.length, B) := by
  have := Sl.lenB h B
  rw [List.length_map] at this
  exact this
theorem CountsA.at {A : AH} {v : Value} {l : List CountV} (h : CountsA A v l) {j : Nat} {w : CountV} (hj : l[j]? = some w) : ∃ p, (∀ (B : AH) (n : Int), n = (j : Int) → sIaddr B v (.int .i64 n) 2 = some (p, B)) ∧ ∀ B, Le A B → sLoadn B p 2 = some (.agg #[.string w.name, ii w.n], B) := by
  obtain ⟨p, _, p1, _, p3⟩ := Sl.el h (countE_ok l) (j := j) (e := countE w) (by rw [List.getElem?_map, hj]; rfl)
  exact ⟨p, p1, fun B hB => p3 B (fun k b hb _ => hB.get hb)⟩
theorem CountsA.fld {A : AH} {v : Value} {l : List CountV} (h : CountsA A v l) {j o : Nat} {w : CountV} {x : Value} (hj : l[j]? = some w) (ho : (countE w)[o]? = some x) : ∃ p q, (∀ (B : AH) (n : Int), n = (j : Int) → sIaddr B v (.int .i64 n) 2 = some (p, B)) ∧ (∀ B, sFaddr B p o = some (q, B)) ∧ ∀ B, Le A B → sLoad1 B q = some (x, B) :=
  Sl.elfL h (countE_ok l) (j := j) (e := countE w) (by rw [List.getElem?_map, hj]; rfl) ho
structure StateV where
  counts : List CountV
  members : List WordV
  values : List WordV
  lines : List WordV
/-- A state, as a value of which the lists stand in the heap. -/
def StateA (A : AH) (x : Value) (s : StateV) : Prop := ∃ c m v l : Value, x = .agg #[c, m, v, l] ∧ CountsA A c s.counts ∧ WordsA A m s.members ∧ WordsA A v s.values ∧ WordsA A l s.lines
theorem StateA.le {A B : AH} {x : Value} {s : StateV} (h : StateA A x s) (hl : Le A B) : StateA B x s := by
  obtain ⟨c, m, v, l, h1, h2, h3, h4, h5⟩ := h
  exact ⟨c, m, v, l, h1, h2.le hl, h3.le hl, h4.le hl, h5.le hl⟩
def I64 (n : Int) : Prop := -9223372036854775808 ≤ n ∧ n < 9223372036854775808
def FinC (w : CountV) : Prop := w.name.size ≤ 200 ∧ I64 w.n
def FinW (w : WordV) : Prop := w.name.size ≤ 200 ∧ w.text.size ≤ 200
def FinS (s : StateV) : Prop := (s.counts.length < 2 ^ 40 ∧ ∀ w ∈ s.counts, FinC w) ∧ (s.members.length < 2 ^ 40 ∧ ∀ w ∈ s.members, FinW w) ∧ (s.values.length < 2 ^ 40 ∧ ∀ w ∈ s.values, FinW w) ∧ (s.lines.length < 2 ^ 40 ∧ ∀ w ∈ s.lines, FinW w)
/-- A state's numbers are in range. -/
def RangeS (s : StateV) : Prop := ∀ w ∈ s.counts, -9223372036854775808 ≤ w.n ∧ w.n < 9223372036854775808
theorem good_count {A : AH} {F : Nat} (cs : List Value) (h : Good Try.prog A (F + 2) 40 cs) : ∃ w : CountV, cs = countE w ∧ (-9223372036854775808 ≤ w.n ∧ w.n < 9223372036854775808) := by
  obtain ⟨hl, hf⟩ := good_fields Try.underlying40 h
  have hc : Try.prog.cellsOf 40 = 2 := by kernel_rfl
  rw [hc] at hl
  match cs, hl with
  | [c0, c1], _ =>
    have e3 : Try.prog.cellsOf 3 = 1 := by kernel_rfl
    have e9 : Try.prog.cellsOf 9 = 1 := by kernel_rfl
    simp only [List.forall_mem_cons, e3, e9, List.drop_zero, List.drop_succ_cons, List.take_succ_cons, List.take_zero] at hf
    obtain ⟨h0, h1, _⟩ := hf
    obtain ⟨s, r0, b0⟩ := cell_str Try.underlying9 h0
    obtain ⟨n, r1, b1⟩ := cell_int Try.underlying3 h1
    injection r0 with r0 _
    injection r1 with r1 _
    subst r0 r1
    exact ⟨⟨s, n⟩, rfl, b1⟩
theorem good_word {A : AH} {F : Nat} (cs : List Value) (h : Good Try.prog A (F + 2) 42 cs) : ∃ w : WordV, cs = wordE w ∧ True := by
  obtain ⟨hl, hf⟩ := good_fields Try.underlying42 h
  have hc : Try.prog.cellsOf 42 = 2 := by kernel_rfl
  rw [hc] at hl
  match cs, hl with
  | [c0, c1], _ =>
    have e9 : Try.prog.cellsOf 9 = 1 := by kernel_rfl
    simp only [List.forall_mem_cons, e9, List.drop_zero, List.drop_succ_cons, List.take_succ_cons, List.take_zero] at hf
    obtain ⟨h0, h1, _⟩ := hf
    obtain ⟨s, r0, b0⟩ := cell_str Try.underlying9 h0
    obtain ⟨n, r1, b1⟩ := cell_str Try.underlying9 h1
    injection r0 with r0 _
    injection r1 with r1 _
    subst r0 r1
    exact ⟨⟨s, n⟩, rfl, trivial⟩
theorem law_counts {A : AH} {F : Nat} {v : Value} (h : GoodV Try.prog A (F + 3) 22 v) : ∃ l : List CountV, CountsA A v l ∧ l.length < 2 ^ 50 ∧ ∀ w ∈ l, -9223372036854775808 ≤ w.n ∧ w.n < 9223372036854775808 :=
  law_rows Try.underlying22 (by kernel_rfl) (by decide +kernel) good_count h
theorem law_words {A : AH} {F : Nat} {v : Value} (h : GoodV Try.prog A (F + 3) 23 v) : ∃ l : List WordV, WordsA A v l ∧ l.length < 2 ^ 50 := by
  obtain ⟨l, h1, h2, _⟩ := law_rows Try.underlying23 (by kernel_rfl) (by decide +kernel) good_word h
  exact ⟨l, h1, h2⟩
theorem good_state {A : AH} {F : Nat} {cs : List Value} (h : Good Try.prog A (F + 4) 25 cs) : ∃ s : StateV, StateA A (.agg cs.toArray) s ∧ RangeS s := by
  obtain ⟨hl, hf⟩ := good_fields Try.underlying25 h
  have hc : Try.prog.cellsOf 25 = 4 := by kernel_rfl
  rw [hc] at hl
  match cs, hl with
  | [c0, c1, c2, c3], _ =>
    have e22 : Try.prog.cellsOf 22 = 1 := by kernel_rfl
    have e23 : Try.prog.cellsOf 23 = 1 := by kernel_rfl
    simp only [List.forall_mem_cons, e22, e23, List.drop_zero, List.drop_succ_cons, List.take_succ_cons, List.take_zero] at hf
    obtain ⟨h0, h1, h2, h3, _⟩ := hf
    obtain ⟨v0, r0, g0⟩ := cell_slice Try.underlying22 h0
    obtain ⟨v1, r1, g1⟩ := cell_slice Try.underlying23 h1
    obtain ⟨v2, r2, g2⟩ := cell_slice Try.underlying23 h2
    obtain ⟨v3, r3, g3⟩ := cell_slice Try.underlying23 h3
    injection r0 with r0 _
    injection r1 with r1 _
    injection r2 with r2 _
    injection r3 with r3 _
    subst r0 r1 r2 r3
    obtain ⟨l0, a0, _, b0⟩ := law_counts g0
    obtain ⟨l1, a1, _⟩ := law_words g1
    obtain ⟨l2, a2, _⟩ := law_words g2
    obtain ⟨l3, a3, _⟩ := law_words g3
    exact ⟨⟨l0, l1, l2, l3⟩, ⟨_, _, _, _, rfl, a0, a1, a2, a3⟩, b0⟩
theorem law_state {A : AH} {F : Nat} {v : Value} (h : GoodV Try.prog A (F + 4) 25 v) : ∃ s : StateV, StateA A v s ∧ RangeS s := by
  obtain ⟨cs, rfl, hg⟩ := good_struct Try.underlying25 h
  exact good_state hg

end Go.AS.C


namespace Go.AS.C
open Go Go.Proofs
set_option linter.unusedVariables false
set_option linter.unusedSimpArgs false
set_option maxRecDepth 10000

theorem cmp_isNaN_spec {A : AH} {a : ByteArray} {Q : Value → AH → Prop} (hq : Q (.bool false) A) : ACalls 0 Try.prog cmp_isNaN_string [.string a] Q A := by
  refine ACalls.of_fits mixed fits_cmp_isNaN_string rfl ?_
  unfold ic_cmp_isNaN_string
  have i0 : initA [.string a] 0 = .string a := rfl
  generalize initA [.string a] = r at i0
  simp (maxSteps := 1000000) (disch := omega) only [stepS, reduceIte, Nat.reduceBEq, Nat.reduceEqDiff, tupleOf, stepT, i0]
  exact hq
end Go.AS.C


namespace Go.AS
open Go
set_option maxRecDepth 100000
/-! Codes of library functions that are alike in many chapters (printed by geni.py). -/
end Go.AS


namespace Go.AS
open Go
set_option linter.unusedVariables false
set_option linter.unusedSimpArgs false
set_option maxRecDepth 10000

/-- fv, called with an element and what is sought, tells how they compare. -/
def CmpT (G : Nat) (P : Program) (fv tgt : Value) (dom lt eq : List Value → Prop) : Prop :=
  ∀ (A : AH) (x : List Value) (Q : Value → AH → Prop), dom x → (∀ A' n, Le A A' → (n < 0 ↔ lt x) → (n = 0 ↔ eq x) → Q (ii n) A') → callD fv G P [.agg x.toArray, tgt] Q A

section
variable {G : Nat} {P : Program} (hm : P.follows .mixedOrders = true) {sz : Nat} {A : AH} {v fv tgt : Value} {Q : Value → AH → Prop} {dom lt eq : List Value → Prop}
include hm
end
end Go.AS
