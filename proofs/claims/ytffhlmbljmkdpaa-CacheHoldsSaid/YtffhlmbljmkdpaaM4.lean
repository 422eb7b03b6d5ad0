/- Lemmas for the proof of a given statement; no conditions. -/
import Derived.Test.YtffhlmbljmkdpaaM3
import Derived.Conc.MuLone
import Derived.Test.YtffhlmbljmkdpaaRows
import Derived.KernelRfl
set_option maxHeartbeats 1000000

namespace Go.AS
open Go
set_option linter.unusedVariables false
set_option linter.unusedSimpArgs false

/-! Slices of elements of some cells each, of the call's own: read, written, swapped. -/

/-- All but the row at which v leads is as it was. -/
def KeepV (A : AH) (v : Value) (A' : AH) : Prop := A.length ≤ A'.length ∧ ∀ k b, A[k]? = some b → k ∉ blkOf v → A'[k]? = some b
def OwnE (a0 : Nat) (A : AH) (sz : Nat) (v : Value) (es : List (List Value)) : Prop := (∀ e ∈ es, e.length = sz ∧ ones e = true) ∧ OwnS a0 A sz v es.length es.flatten

section
variable {A B C A0 : AH} {v w : Value} {sz n a0 : Nat} {cs : List Value} {es fs : List (List Value)}
theorem KeepV.refl (A : AH) (v : Value) : KeepV A v A := ⟨Nat.le_refl _, fun _ _ h _ => h⟩
theorem KeepV.trans (h : KeepV A v B) (k : KeepV B v C) : KeepV A v C := ⟨Nat.le_trans h.1 k.1, fun j b hb hj => k.2 j b (h.2 j b hb hj) hj⟩
theorem KeepV.le (h : KeepV A v B) (hl : Le A0 A) (hi : ∀ k ∈ blkOf v, A0.length ≤ k) : Le A0 B := by
  refine Le.of_get (fun k hk => ?_) (Nat.le_trans hl.len h.1)
  have hb : A0[k]? = some A0[k] := List.getElem?_eq_getElem hk
  rw [hb, h.2 k _ (hl.get hb) (fun hm => by have := hi k hm; omega)]
theorem iaddr_any {x i p : Value} {A' : AH} (h : sIaddr A x i sz = some (p, A')) (B : AH) : sIaddr B x i sz = some (p, B) := by
  unfold sIaddr at h ⊢
  split at h
  · rw [Option.bind_eq_some_iff] at h
    obtain ⟨j, h1, h⟩ := h
    split at h
    · rename_i hc
      injection h with h; injection h with h2 h3; subst h2
      simp only [h1, Option.bind_some]
      rw [if_pos hc]
    · cases h
  · cases h
theorem ones_flatten (h : ∀ e ∈ es, e.length = sz ∧ ones e = true) : ones es.flatten = true := by
  unfold ones
  rw [List.all_eq_true]
  intro x hx
  obtain ⟨e, he, hx⟩ := List.mem_flatten.1 hx
  have := (h e he).2
  unfold ones at this
  rw [List.all_eq_true] at this
  exact this x hx
theorem flat_len' (h : ∀ e ∈ es, e.length = sz ∧ ones e = true) : es.flatten.length = es.length * sz := flat_len es sz (fun j c hc => (h c (List.mem_of_getElem? hc)).1)
theorem flat_cut (h : ∀ e ∈ es, e.length = sz ∧ ones e = true) {j : Nat} {e : List Value} (hj : es[j]? = some e) : (es.flatten.drop (j * sz)).take sz = e := by
  have h1 := flat_part es j e hj
  have h2 := flat_len_take es sz (fun j c hc => (h c (List.mem_of_getElem? hc)).1) j (Nat.le_of_lt (lt_of_get hj))
  rw [h2, (h e (List.mem_of_getElem? hj)).1] at h1
  exact h1
theorem flat_at (h : ∀ e ∈ es, e.length = sz ∧ ones e = true) {j o : Nat} {e : List Value} (hj : es[j]? = some e) (ho : o < sz) : es.flatten[j * sz + o]? = e[o]? := by
  have := flat_cut h hj
  rw [← this, List.getElem?_take_of_lt ho, List.getElem?_drop]
/-- An element is read. -/
theorem Sl.el (h : Sl A sz v es.length es.flatten) (he : ∀ e ∈ es, e.length = sz ∧ ones e = true) {j : Nat} {e : List Value} (hj : es[j]? = some e) :
    ∃ p, blkOf p = blkOf v ∧ (∀ (B : AH) (n : Int), n = (j : Int) → sIaddr B v (.int .i64 n) sz = some (p, B)) ∧ sLoadn A p sz = some (.agg e.toArray, A) ∧ ∀ B, (∀ k b, A[k]? = some b → k ∈ blkOf v → B[k]? = some b) → sLoadn B p sz = some (.agg e.toArray, B) := by
  obtain ⟨p, p1, p2⟩ := h.atn (lt_of_get hj)
  rw [flat_cut he hj] at p2
  refine ⟨p, iaddr_blk p1, ?_, p2, fun B hB => ?_⟩
  · rintro B n rfl; exact iaddr_any p1 B
  · have hb := iaddr_blk p1
    unfold sLoadn at p2 ⊢
    split at p2
    · rename_i i o
      rw [Option.bind_eq_some_iff] at p2
      obtain ⟨r, q1, q2⟩ := p2
      rw [Option.map_eq_some_iff] at q2
      obtain ⟨l, q2, q3⟩ := q2
      injection q3 with q3 q4
      obtain ⟨r1, r2, r3, r4⟩ := r
      obtain ⟨g1, g2⟩ := getRow_some q1
      have g3 := hB i _ g1 (by rw [← hb]; simp [blkOf])
      have : getRow B i = some (r1, r2, r3, r4) := by unfold getRow; simp only [g3, if_neg g2]
      simp only [this, Option.bind_some, q2, Option.map_some, q3]
    · cases p2
theorem OwnE.el (h : OwnE a0 A sz v es) {j : Nat} {e : List Value} (hj : es[j]? = some e) :
    ∃ p, blkOf p = blkOf v ∧ (∀ (B : AH) (n : Int), n = (j : Int) → sIaddr B v (.int .i64 n) sz = some (p, B)) ∧ sLoadn A p sz = some (.agg e.toArray, A) ∧ ∀ B, (∀ k b, A[k]? = some b → k ∈ blkOf v → B[k]? = some b) → sLoadn B p sz = some (.agg e.toArray, B) := Sl.el h.2.sl h.1 hj
/-- An element is written. -/
theorem OwnE.put (h : OwnE a0 A sz v es) {j : Nat} {e : List Value} (hj : j < es.length) (h1 : e.length = sz) (h2 : ones e = true) {p : Value} (hp : sIaddr A v (.int .i64 (j : Int)) sz = some (p, A)) :
    ∃ A', sStore A p (.agg e.toArray) sz = some (undef, A') ∧ OwnE a0 A' sz v (es.set j e) ∧ KeepV A v A' := by
  obtain ⟨he, hs⟩ := h
  have hfl := flat_len' he
  have hm : j * sz + sz ≤ es.length * sz := by
    have := Nat.mul_le_mul_right sz (show j + 1 ≤ es.length by omega)
    rw [Nat.add_mul, Nat.one_mul] at this
    exact this
  obtain ⟨h0, hs⟩ := hs
  rcases hs with ⟨rfl, hz⟩ | ⟨rfl, hz⟩ | ⟨i, o, c, rc, ex, rfl, k2, k3, k4, k5, k6⟩
  · omega
  · omega
  · have e1 : sIaddr A (.slice (some ⟨i, o, none⟩) es.length c) (.int .i64 (j : Int)) sz = some (.pointer (some ⟨i, o + j * sz, none⟩), A) := by
      unfold sIaddr
      simp only [asI, Option.bind_some]
      rw [if_pos ⟨by omega, by omega⟩]
      simp
    rw [e1] at hp
    injection hp with hp; injection hp with hp _; subst hp
    have ec : (Value.agg e.toArray).cells = e.toArray := rfl
    refine ⟨A.set i (.row (setAll rc (o + j * sz) e) .own sz ex), ?_, ⟨?_, ?_⟩, ?_⟩
    · unfold sStore
      rw [ec]
      simp only [List.size_toArray]
      rw [if_pos h1]
      unfold wr
      simp only [k4]
      rw [if_pos ⟨by omega, h2⟩]
      rfl
    · intro x hx
      rcases List.mem_or_eq_of_mem_set hx with hx | rfl
      · exact he x hx
      · exact ⟨h1, h2⟩
    · have he' : ∀ x ∈ es.set j e, x.length = sz ∧ ones x = true := by
        intro x hx
        rcases List.mem_or_eq_of_mem_set hx with hx | rfl
        · exact he x hx
        · exact ⟨h1, h2⟩
      have hl2 : (es.set j e).length = es.length := List.length_set ..
      refine ⟨by rw [flat_len' he'], .inr (.inr ⟨i, o, c, setAll rc (o + j * sz) e, ex, by rw [hl2], by rw [hl2]; exact k2, k3, by rw [List.getElem?_set_self (lt_of_get k4)], ?_, ?_⟩)⟩
      · rw [setAll_length _ _ _ (by omega), hl2]; exact k5
      · intro m hm2
        rw [hl2] at hm2
        have hsz : 0 < sz := by
          rcases Nat.eq_zero_or_pos sz with h | h
          · subst h; omega
          · exact h
        rw [setAll_get _ _ _ (by omega)]
        obtain ⟨q, r, rfl, hr⟩ : ∃ q r, m = q * sz + r ∧ r < sz := ⟨m / sz, m % sz, by rw [Nat.mul_comm]; exact (Nat.div_add_mod m sz).symm, Nat.mod_lt _ hsz⟩
        have hq : q < es.length := by
          rcases Nat.lt_or_ge q es.length with h | h
          · exact h
          · have := Nat.mul_le_mul_right sz h; omega
        by_cases hqj : q = j
        · subst hqj
          rw [if_pos ⟨by omega, by omega⟩, flat_at he' (j := q) (o := r) (e := e) (List.getElem?_set_self hq) hr]
          congr 1; omega
        · obtain ⟨x, hx⟩ : ∃ x, es[q]? = some x := ⟨_, List.getElem?_eq_getElem hq⟩
          have hne : ¬ (o + j * sz ≤ o + (q * sz + r) ∧ o + (q * sz + r) < o + j * sz + e.length) := by
            rintro ⟨u1, u2⟩
            rcases Nat.lt_or_gt_of_ne hqj with hlt | hgt
            · have := Nat.mul_le_mul_right sz (show q + 1 ≤ j by omega)
              rw [Nat.add_mul, Nat.one_mul] at this; omega
            · have := Nat.mul_le_mul_right sz (show j + 1 ≤ q by omega)
              rw [Nat.add_mul, Nat.one_mul] at this; omega
          rw [if_neg hne, k6 _ hm2, flat_at he hx hr, flat_at he' (e := x) (by rw [List.getElem?_set_ne (by omega)]; exact hx) hr]
    · refine ⟨by rw [List.length_set]; exact Nat.le_refl _, fun k b hb hk => ?_⟩
      rw [List.getElem?_set_ne (fun h => hk (by subst h; simp [blkOf]))]
      exact hb
theorem OwnE.le (h : OwnE a0 A sz v es) (hl : Le A B) : OwnE a0 B sz v es := ⟨h.1, h.2.le hl⟩
theorem OwnE.ge (h : OwnE a0 A sz v es) : ∀ k ∈ blkOf v, a0 ≤ k ∧ k < A.length := h.2.ge
theorem OwnE.len (h : OwnE a0 A sz v es) : sLens A false v = some (.int .i64 es.length, A) := h.2.sl.len
end
end Go.AS


namespace Go.AS
open Go
set_option linter.unusedVariables false
set_option linter.unusedSimpArgs false

/-! Lists in order by a key; rearrangements that keep what has one key in its order. -/

theorem kl_irr (a : List UInt8) : ¬ a < a := List.lt_irrefl a
section
variable {α : Type} {key : α → List UInt8}
/-- A stable rearrangement. -/
def Rk (key : α → List UInt8) (l l' : List α) : Prop := l'.length = l.length ∧ ∀ k, l'.filter (fun e => decide (key e = k)) = l.filter (fun e => decide (key e = k))
/-- In order. -/
def Srt (key : α → List UInt8) (l : List α) : Prop := l.Pairwise fun a b => ¬ key b < key a

theorem Rk.refl (l : List α) : Rk key l l := ⟨rfl, fun _ => rfl⟩
theorem Rk.trans {a b c : List α} (h : Rk key a b) (k : Rk key b c) : Rk key a c := ⟨k.1.trans h.1, fun x => (k.2 x).trans (h.2 x)⟩
theorem Rk.app {a b c d : List α} (h : Rk key a b) (k : Rk key c d) : Rk key (a ++ c) (b ++ d) :=
  ⟨by simp [h.1, k.1], fun x => by simp [List.filter_append, h.2 x, k.2 x]⟩
theorem Rk.mem {a b : List α} (h : Rk key a b) {x : α} : x ∈ b ↔ x ∈ a := by
  have := h.2 (key x)
  have e : ∀ l : List α, x ∈ l.filter (fun e => decide (key e = key x)) ↔ x ∈ l := fun l => by simp
  rw [← e b, this, e a]
theorem Srt.app {a b : List α} (ha : Srt key a) (hb : Srt key b) (h : ∀ x ∈ a, ∀ y ∈ b, ¬ key y < key x) : Srt key (a ++ b) :=
  List.pairwise_append.2 ⟨ha, hb, h⟩
theorem Srt.left {a b : List α} (h : Srt key (a ++ b)) : Srt key a := (List.pairwise_append.1 h).1
theorem Srt.right {a b : List α} (h : Srt key (a ++ b)) : Srt key b := (List.pairwise_append.1 h).2.1
theorem Srt.get {l : List α} (h : Srt key l) {i j : Nat} {x y : α} (hi : l[i]? = some x) (hj : l[j]? = some y) (hij : i ≤ j) : ¬ key y < key x := by
  rcases Nat.lt_or_ge i j with hlt | hge
  · obtain ⟨h1, h2⟩ := List.getElem?_eq_some_iff.1 hi
    obtain ⟨h3, h4⟩ := List.getElem?_eq_some_iff.1 hj
    have := List.pairwise_iff_getElem.1 h i j h1 h3 hlt
    rw [h2, h4] at this
    exact this
  · have : i = j := by omega
    subst this
    rw [hi] at hj
    obtain rfl := Option.some.inj hj
    exact kl_irr _
theorem Srt.one (x : α) : Srt key [x] := by simp [Srt]
theorem Srt.nil : Srt key ([] : List α) := by simp [Srt]
end
end Go.AS


namespace Go.AS
open Go
set_option maxRecDepth 100000
/-! Codes of library functions that are alike in many chapters (printed by geni.py). -/
end Go.AS


namespace Go.AS
open Go
set_option linter.unusedVariables false
set_option linter.unusedSimpArgs false
set_option maxRecDepth 10000

section
variable {G : Nat} {P : Program} (hm : P.follows .mixedOrders = true) {sz a0 : Nat} {A : AH} {v fv : Value} {Q : Value → AH → Prop}
include hm
end
end Go.AS


namespace Go.AS
open Go
set_option linter.unusedVariables false
set_option linter.unusedSimpArgs false
set_option maxRecDepth 10000

section
variable {G : Nat} {P : Program} (hm : P.follows .mixedOrders = true) {sz a0 : Nat} {A : AH} {v fv : Value} {Q : Value → AH → Prop} {dom : List Value → Prop} {key : List Value → List UInt8}
include hm
end
end Go.AS


namespace Go.AS
open Go
set_option linter.unusedVariables false
set_option linter.unusedSimpArgs false

section
variable {α : Type} {key : α → List UInt8}
theorem get_some {l : List α} {k : Nat} (h : k < l.length) : ∃ x, l[k]? = some x := ⟨_, List.getElem?_eq_getElem h⟩
end
end Go.AS


namespace Go.AS
open Go
set_option linter.unusedVariables false
set_option linter.unusedSimpArgs false
set_option maxRecDepth 10000

section
variable {G : Nat} {P : Program} (hm : P.follows .mixedOrders = true) {sz : Nat} {fv : Value} {dom : List Value → Prop} {key : List Value → List UInt8}

section
variable {A : AH} {v : Value} {a0 : Nat} {X Y : List (List Value)} {r : AT} {R : Exit → AT → AH → Prop}
include hm in
end
end
end Go.AS


namespace Go.AS
open Go
set_option linter.unusedVariables false
set_option linter.unusedSimpArgs false
set_option maxRecDepth 10000

section
variable {G : Nat} {P : Program} (hm : P.follows .mixedOrders = true) {sz : Nat} {fv : Value} {dom : List Value → Prop} {key : List Value → List UInt8}
include hm in
end
end Go.AS


namespace Go.AS
open Go
set_option linter.unusedVariables false
set_option linter.unusedSimpArgs false
set_option maxRecDepth 10000

section
variable {α : Type} {key : α → List UInt8}
/-- In order in parts of so many. -/
def ChS (key : α → List UInt8) (bs : Nat) (l : List α) : Prop := ∀ i, Srt key ((l.drop (i * bs)).take bs)
theorem ChS.nil {bs : Nat} : ChS key bs ([] : List α) := fun i => by simp [Srt]
theorem ChS.push {bs i : Nat} {D S : List α} (h : ChS key bs D) (hD : D.length = i * bs) (hS : S.length ≤ bs) (hs : Srt key S) : ChS key bs (D ++ S) := by
  intro j
  rcases Nat.lt_trichotomy j i with hj | hj | hj
  · have : j * bs + bs ≤ D.length := by
      rw [hD]
      have := Nat.mul_le_mul_right bs (show j + 1 ≤ i by omega)
      rw [Nat.add_mul, Nat.one_mul] at this; exact this
    rw [List.drop_append_of_le_length (by omega), List.take_append_of_le_length (by rw [List.length_drop]; omega)]
    exact h j
  · subst hj
    rw [← hD, List.drop_left, List.take_of_length_le hS]
    exact hs
  · have : (D ++ S).length ≤ j * bs := by
      rw [List.length_append, hD]
      have := Nat.mul_le_mul_right bs (show i + 1 ≤ j by omega)
      rw [Nat.add_mul, Nat.one_mul] at this; omega
    rw [List.drop_of_length_le this]
    simp [Srt]
theorem ChS.all {bs : Nat} {l : List α} (h : ChS key bs l) (hl : l.length ≤ bs) : Srt key l := by
  have := h 0
  rw [Nat.zero_mul, List.drop_zero, List.take_of_length_le hl] at this
  exact this
end

section
variable {G : Nat} {P : Program} (hm : P.follows .mixedOrders = true) {sz a0 : Nat} {A : AH} {v fv : Value} {Q : Value → AH → Prop} {dom : List Value → Prop} {key : List Value → List UInt8}
include hm
end
end Go.AS


namespace Go.AS
open Go
set_option linter.unusedVariables false
set_option linter.unusedSimpArgs false

/-! Slices of elements: cut, cleared, appended to. -/
section
variable {A B C A0 : AH} {v w u : Value} {sz n a0 l k : Nat} {cs e z : List Value} {es fs : List (List Value)} {lo hi : Option Value}

theorem flatten_cut (h : ∀ e ∈ es, e.length = sz ∧ ones e = true) (hlk : l ≤ k) (hk : k ≤ es.length) : ((es.take k).drop l).flatten = (es.flatten.drop (l * sz)).take ((k - l) * sz) := by
  have ht : ∀ j, j ≤ es.length → (es.take j).flatten.length = j * sz := fun j hj => flat_len_take es sz (fun j c hc => (h c (List.mem_of_getElem? hc)).1) j hj
  have e1 : es.flatten = ((es.take k).take l).flatten ++ (((es.take k).drop l).flatten ++ (es.drop k).flatten) := by
    rw [← List.append_assoc, ← List.flatten_append, List.take_append_drop, ← List.flatten_append, List.take_append_drop]
  have l1 : ((es.take k).take l).flatten.length = l * sz := by
    rw [List.take_take, Nat.min_eq_left hlk]; exact ht l (by omega)
  have l2 : ((es.take k).drop l).flatten.length = (k - l) * sz := by
    have := ht k hk
    rw [← List.take_append_drop l (es.take k), List.flatten_append, List.length_append, l1] at this
    rw [Nat.sub_mul]; omega
  rw [e1, ← l1, List.drop_left, ← l2, List.take_left]
/-- A part of a slice. -/
theorem OwnE.cut (h : OwnE a0 A sz v es) (hlk : l ≤ k) (hk : k ≤ es.length) (hb : ∀ c, es.length ≤ c → boundsA es.length c lo hi none = some (l, k, c)) :
    ∃ u, (∀ j ∈ blkOf u, j ∈ blkOf v) ∧ (∃ p c, u = .slice p (k - l) c) ∧ ∀ B fs, OwnE a0 B sz v fs → fs.length = es.length → sSll B v lo hi none sz = some (u, B) ∧ OwnE a0 B sz u ((fs.take k).drop l) := by
  obtain ⟨he, h0, h⟩ := h
  have mem : ∀ fs : List (List Value), (∀ e ∈ fs, e.length = sz ∧ ones e = true) → ∀ e ∈ (fs.take k).drop l, e.length = sz ∧ ones e = true := fun fs hf e hx => hf e (List.mem_of_mem_take (List.mem_of_mem_drop hx))
  rcases h with ⟨rfl, hz⟩ | ⟨rfl, hz⟩ | ⟨i, o, c, rc, ex, rfl, h2, h3, h4, h5, h6⟩
  · have : l = 0 := by omega
    have : k = 0 := by omega
    subst l k
    refine ⟨.slice none 0 0, fun j hj => hj, ⟨_, _, rfl⟩, fun B fs hf hl => ⟨?_, ?_⟩⟩
    · rw [hz] at hb
      unfold sSll
      simp only [hb 0 (Nat.le_refl _)]
      rfl
    · exact ⟨fun e hx => by simp at hx, OwnS.nil _ _ _⟩
  · have : l = 0 := by omega
    have : k = 0 := by omega
    subst l k
    refine ⟨.slice (some zmk) 0 0, fun j hj => hj, ⟨_, _, rfl⟩, fun B fs hf hl => ⟨?_, ?_⟩⟩
    · rw [hz] at hb
      unfold sSll zmk
      simp only [hb 0 (Nat.le_refl _)]
      rfl
    · exact ⟨fun e hx => by simp at hx, by simp, .inr (.inl ⟨rfl, rfl⟩)⟩
  · refine ⟨.slice (some ⟨i, o + l * sz, none⟩) (k - l) (c - l), fun j hj => hj, ⟨_, _, rfl⟩, fun B fs hf hl => ?_⟩
    obtain ⟨hf1, hf0, hf⟩ := hf
    have hlen : ((fs.take k).drop l).length = k - l := by rw [List.length_drop, List.length_take]; omega
    have hmul : l * sz + (k - l) * sz ≤ es.length * sz := by rw [← Nat.add_mul]; exact Nat.mul_le_mul_right _ (by omega)
    rcases hf with ⟨q, _⟩ | ⟨q, _⟩ | ⟨i', o', c', rc', ex', q, q2, q3, q4, q5, q6⟩
    · cases q
    · cases q
    · injection q with q q7 q8
      injection q with q
      injection q with q9 q10
      subst q9 q10 q8
      constructor
      · unfold sSll
        simp only [hb c h2, Option.bind_some]
        unfold rowSz
        rw [q4]
        simp
      · refine ⟨mem fs hf1, by rw [flat_len' (mem fs hf1)], .inr (.inr ⟨i, o + l * sz, c - l, rc', ex', by rw [hlen], by rw [hlen]; omega, q3, q4, by rw [hlen]; rw [hl] at q5; omega, ?_⟩)⟩
        intro j hj
        rw [hlen] at hj
        rw [flatten_cut hf1 hlk (by omega), List.getElem?_take_of_lt hj, List.getElem?_drop, Nat.add_assoc, q6 _ (by rw [hl]; omega)]
theorem ones_rep (hz : ones z = true) (m : Nat) : ones ((List.replicate m z).flatten) = true := by
  unfold ones at *
  rw [List.all_eq_true] at *
  intro x hx
  obtain ⟨l, h1, h2⟩ := List.mem_flatten.1 hx
  rw [List.mem_replicate] at h1
  rw [h1.2] at h2
  exact hz x h2
/-- What stands from l on is cleared. -/
theorem OwnE.clr (h : OwnE a0 A sz v es) (hl : l ≤ es.length) (hz : z.length = sz) (hz1 : ones z = true) (hu : sSll A v (some (.int .i64 (l : Int))) none none sz = some (u, A)) :
    ∃ A', sClr A u z = some (undef, A') ∧ OwnE a0 A' sz v (es.take l ++ List.replicate (es.length - l) z) ∧ KeepV A v A' := by
  have hE := h
  obtain ⟨he, h0, h⟩ := h
  have hb : ∀ c, es.length ≤ c → boundsA es.length c (some (ii l)) none none = some (l, es.length, c) := fun c hc => bnd_lo hl hc
  rcases h with ⟨rfl, hzz⟩ | ⟨rfl, hzz⟩ | ⟨i, o, c, rc, ex, rfl, h2, h3, h4, h5, h6⟩
  · have : l = 0 := by omega
    subst l
    have hes : es = [] := List.length_eq_zero_iff.1 hzz
    subst hes
    have : sSll A (.slice none 0 0) (some (ii (0 : Nat))) none none sz = some (.slice none 0 0, A) := rfl
    rw [show (Value.int .i64 ((0 : Nat) : Int)) = ii (0 : Nat) from rfl, this] at hu
    injection hu with hu; injection hu with hu; subst hu
    exact ⟨A, rfl, hE, .refl _ _⟩
  · have : l = 0 := by omega
    subst l
    have hes : es = [] := List.length_eq_zero_iff.1 hzz
    subst hes
    have : sSll A (.slice (some zmk) 0 0) (some (ii (0 : Nat))) none none sz = some (.slice (some zmk) 0 0, A) := rfl
    rw [show (Value.int .i64 ((0 : Nat) : Int)) = ii (0 : Nat) from rfl, this] at hu
    injection hu with hu; injection hu with hu; subst hu
    exact ⟨A, rfl, hE, .refl _ _⟩
  · have e : sSll A (.slice (some ⟨i, o, none⟩) es.length c) (some (.int .i64 (l : Int))) none none sz = some (.slice (some ⟨i, o + l * sz, none⟩) (es.length - l) (c - l), A) := by
      unfold sSll
      have := hb c h2
      unfold ii at this
      simp only [this, Option.bind_some]
      unfold rowSz
      rw [h4]
      simp
    rw [e] at hu
    injection hu with hu; injection hu with hu _; subst hu
    by_cases hm : es.length - l = 0
    · rw [hm]
      have : l = es.length := by omega
      subst this
      refine ⟨A, rfl, ?_, .refl _ _⟩
      rw [List.take_length]
      simpa using hE
    · obtain ⟨m, hm'⟩ : ∃ m, es.length - l = m + 1 := ⟨es.length - l - 1, by omega⟩
      have hmul : l * sz + (es.length - l) * sz = es.length * sz := by rw [← Nat.add_mul]; congr 1; omega
      have hrl : ((List.replicate (m + 1) z).flatten).length = (m + 1) * sz := by rw [rep_length, hz]
      rw [hm'] at hmul ⊢
      refine ⟨A.set i (.row (setAll rc (o + l * sz) ((List.replicate (m + 1) z).flatten)) .own sz ex), ?_, ⟨?_, ?_⟩, ?_⟩
      · show (wr A i (o + l * sz) _).map _ = _
        unfold wr
        simp only [h4]
        rw [if_pos ⟨by rw [hrl]; omega, ones_rep hz1 _⟩]
        rfl
      · intro x hx
        rcases List.mem_append.1 hx with hx | hx
        · exact he x (List.mem_of_mem_take hx)
        · rw [(List.mem_replicate.1 hx).2]; exact ⟨hz, hz1⟩
      · have hll : (es.take l ++ List.replicate (m + 1) z).length = es.length := by simp; omega
        have hfl : (es.take l).flatten.length = l * sz := flat_len_take es sz (fun j c hc => (he c (List.mem_of_getElem? hc)).1) l hl
        refine ⟨by rw [hll, List.flatten_append, List.length_append, hfl, hrl]; omega, .inr (.inr ⟨i, o, c, _, ex, by rw [hll], by rw [hll]; exact h2, h3, by rw [List.getElem?_set_self (lt_of_get h4)], ?_, ?_⟩)⟩
        · rw [setAll_length _ _ _ (by rw [hrl]; omega), hll]; exact h5
        · intro j hj
          rw [hll] at hj
          rw [setAll_get _ _ _ (by rw [hrl]; omega), List.flatten_append, hrl]
          rcases Nat.lt_or_ge j (l * sz) with hlt | hge
          · rw [if_neg (by omega), h6 _ hj, List.getElem?_append_left (by omega)]
            conv => lhs; rw [← List.take_append_drop l es, List.flatten_append]
            rw [List.getElem?_append_left (by omega)]
          · rw [if_pos (by omega), List.getElem?_append_right (by omega), hfl]
            congr 1; omega
      · refine ⟨by rw [List.length_set]; exact Nat.le_refl _, fun k b hb' hk => ?_⟩
        rw [List.getElem?_set_ne (fun h => hk (by subst h; simp [blkOf]))]
        exact hb'
theorem OwnE.nil (a0 : Nat) (A : AH) (sz : Nat) : OwnE a0 A sz (.slice none 0 0) [] := ⟨(fun e h => by cases h), OwnS.nil _ _ _⟩
/-- One more element. -/
theorem OwnE.push {bytes : Nat} (hl : Le A0 A) (h : OwnE A0.length A sz v es) (hsz : 0 < sz) (he : e.length = sz) (ho : ones e = true) (hb : 2 * ((es.length + 1) * bytes) ≤ 2 ^ 48) (hb0 : 0 < bytes) :
    ∃ v' A', sApp (A ++ [.row e .own sz true]) v (.slice (some ⟨A.length, 0, none⟩) 1 1) sz bytes = some (v', A') ∧ Le A0 A' ∧ OwnE A0.length A' sz v' (es ++ [e]) ∧ KeepV A v A' ∧ (blkOf v' = [A.length + 1] ∨ blkOf v' = blkOf v) := by
  have k1 : Le A (A ++ [.row e .own sz true]) := .push _ _
  have hs : Sl (A ++ [.row e .own sz true]) sz (.slice (some ⟨A.length, 0, none⟩) 1 1) 1 e :=
    ⟨by simp [he], .inr (.inr ⟨A.length, 0, 1, e, .own, true, rfl, by omega, by simp, by simp, by simp [he], fun j _ => by rw [Nat.zero_add]⟩)⟩
  obtain ⟨v', A', e1, e2, e3, e4⟩ := app_cells (bytes := bytes) (hl.trans k1) (h.2.le k1) hs ho hsz hb hb0
  have hf := app_fresh rfl (by simp) e1
  have hle := k1.len
  refine ⟨v', A', e1, e2, ⟨?_, ?_⟩, ⟨?_, fun i b hb hi => e4 i b (k1.get hb) (fun o c q => hi (by rw [q]; simp [blkOf]))⟩, by simpa using hf⟩
  · intro x hx
    rcases List.mem_append.1 hx with hx | hx
    · exact h.1 x hx
    · rw [List.mem_singleton.1 hx]; exact ⟨he, ho⟩
  · simpa using e3
  · refine Nat.le_trans hle ?_
    have : ∀ i, i < (A ++ [Blk.row e .own sz true]).length → i ∉ blkOf v → i < A'.length := by
      intro i hi hv
      exact lt_of_get (e4 i _ (List.getElem?_eq_getElem hi) (fun o c q => hv (by rw [q]; simp [blkOf])))
    have hlast := this A.length (by simp) (fun hv => by have := (h.2.ge A.length hv).2; omega)
    simp
    omega
end
end Go.AS


namespace Go.AS
open Go
set_option maxRecDepth 100000
/-! Codes of library functions that are alike in many chapters (printed by geni.py). -/
end Go.AS


namespace Go.AS
open Go
set_option linter.unusedVariables false
set_option linter.unusedSimpArgs false
set_option maxRecDepth 10000

section
variable {α : Type} {key : α → List UInt8}
/-- What keeps the order of what has one key keeps the first with each. -/
theorem Rk.find {a b : List α} (h : Rk key a b) (k : List UInt8) : b.find? (fun e => decide (key e = k)) = a.find? (fun e => decide (key e = k)) := by
  rw [← List.head?_filter, ← List.head?_filter, h.2 k]
end

section
variable {G : Nat} {P : Program} (hm : P.follows .mixedOrders = true) {sz a0 : Nat} {A : AH} {v fv : Value} {Q : Value → AH → Prop} {dom : List Value → Prop} {key : List Value → List UInt8}
include hm
end
end Go.AS


namespace Go.AS
open Go
set_option linter.unusedVariables false
set_option linter.unusedSimpArgs false

/-! One by one into a list that rises; what has the key of one that is there goes. -/
section
variable {α β : Type} {key : α → List UInt8}
theorem Rk.map {f : β → α} {kb : β → List UInt8} {a b : List β} (h : Rk kb a b) (hk : ∀ x ∈ a, kb x = key (f x)) : Rk key (a.map f) (b.map f) := by
  refine ⟨by simp [h.1], fun k => ?_⟩
  have aux : ∀ l : List β, (∀ x ∈ l, kb x = key (f x)) → (l.map f).filter (fun e => decide (key e = k)) = (l.filter (fun e => decide (kb e = k))).map f := by
    intro l hl
    rw [List.filter_map]
    congr 1
    apply List.filter_congr
    intro x hx
    simp [hl x hx]
  rw [aux b (fun x hx => hk x (h.mem.1 hx)), aux a hk, h.2 k]
theorem Srt.map {f : β → α} {kb : β → List UInt8} {a : List β} (h : Srt kb a) (hk : ∀ x ∈ a, kb x = key (f x)) : Srt key (a.map f) := by
  unfold Srt at *
  rw [List.pairwise_map]
  exact h.imp_of_mem (fun {x y} hx hy hxy => by rw [← hk x hx, ← hk y hy]; exact hxy)
end
end Go.AS


namespace Go.AS
open Go
set_option linter.unusedVariables false
set_option linter.unusedSimpArgs false

/-! Texts: their order. -/
abbrev bl (s : ByteArray) : List UInt8 := s.data.toList
section
variable {A B : AH} {sz n : Nat} {v x : Value} {cs : List Value}
end
end Go.AS


namespace Go.AS
open Go
set_option linter.unusedVariables false
set_option linter.unusedSimpArgs false

/-! Slices of one's own that stand apart; structs that are copied. -/
section
variable {A B C A0 : AH} {v w u x : Value} {sz s2 n m a0 b0 i : Nat} {cs ds e z : List Value} {es fs : List (List Value)}
theorem OwnS.apart (h : OwnS a0 A sz v n cs) (k : OwnS b0 A s2 w m ds) (hs : sz ≠ s2) : ∀ j ∈ blkOf w, j ∉ blkOf v := by
  obtain ⟨_, h⟩ := h
  obtain ⟨_, k⟩ := k
  intro j hj hv
  rcases k with ⟨rfl, _⟩ | ⟨rfl, _⟩ | ⟨i, o, c, rc, ex, rfl, k2, k3, k4, _⟩
  · cases hj
  · cases hj
  · simp only [blkOf, List.mem_singleton] at hj
    subst hj
    rcases h with ⟨rfl, _⟩ | ⟨rfl, _⟩ | ⟨i', o', c', rc', ex', rfl, h2, h3, h4, _⟩
    · cases hv
    · cases hv
    · simp only [blkOf, List.mem_singleton] at hv
      subst hv
      rw [h4] at k4
      injection k4 with k4
      injection k4 with _ _ k4 _
      exact hs k4
theorem OwnS.row_apart (h : OwnS a0 A sz v n cs) {rc : List Value} {st : St} {ex : Bool} (hi : A[i]? = some (.row rc st s2 ex)) (hs : s2 ≠ sz) : i ∉ blkOf v := by
  obtain ⟨_, h⟩ := h
  intro hv
  rcases h with ⟨rfl, _⟩ | ⟨rfl, _⟩ | ⟨j, o, c, rc', ex', rfl, h2, h3, h4, _⟩
  · cases hv
  · cases hv
  · simp only [blkOf, List.mem_singleton] at hv
    subst hv
    rw [h4] at hi
    injection hi with hi
    injection hi with _ _ hi _
    exact hs hi.symm
theorem OwnE.mono (h : OwnE a0 A sz v es) (hb : b0 ≤ a0) : OwnE b0 A sz v es := ⟨h.1, h.2.mono hb⟩
theorem OwnS.ki (h : OwnS a0 A sz v n cs) (hk : Keep A i B) {rc : List Value} {st : St} {ex : Bool} (hi : A[i]? = some (.row rc st s2 ex)) (hs : s2 ≠ sz) : OwnS a0 B sz v n cs := OwnS.kp h hk hi hs
theorem OwnE.ki (h : OwnE a0 A sz v es) (hk : Keep A i B) {rc : List Value} {st : St} {ex : Bool} (hi : A[i]? = some (.row rc st s2 ex)) (hs : s2 ≠ sz) : OwnE a0 B sz v es := ⟨h.1, h.2.kp hk hi hs⟩
theorem OwnB.le {bs : List UInt8} (h : OwnB a0 A v bs) (hl : Le A B) : OwnB a0 B v bs := OwnS.le h hl
theorem OwnB.mono {bs : List UInt8} (h : OwnB a0 A v bs) (hb : b0 ≤ a0) : OwnB b0 A v bs := OwnS.mono h hb
theorem OwnB.ki {bs : List UInt8} (h : OwnB a0 A v bs) (hk : Keep A i B) {rc : List Value} {st : St} {ex : Bool} (hi : A[i]? = some (.row rc st s2 ex)) (hs : s2 ≠ 1) : OwnB a0 B v bs := OwnS.ki h hk hi hs
theorem Sl.lenB (h : Sl A sz v n cs) (B : AH) : sLens B false v = some (.int .i64 n, B) := by
  obtain ⟨_, h⟩ := h
  rcases h with ⟨rfl, rfl⟩ | ⟨rfl, rfl⟩ | ⟨_, _, _, _, _, _, rfl, _⟩ <;> rfl
theorem KeepV.of_own (h : OwnS a0 A sz v n cs) (hl : A.length ≤ B.length) (hk : ∀ i b, A[i]? = some b → (∀ o c, v ≠ .slice (some ⟨i, o, none⟩) n c) → B[i]? = some b) : KeepV A v B :=
  ⟨hl, fun i b hb hi => hk i b hb (fun o c q => hi (by rw [q]; simp [blkOf]))⟩
theorem appI_len {s : Value} {new : List Value} {k bytes : Nat} {r : Value × AH} (h : appA A s new k sz bytes = some r) : A.length ≤ r.2.length := by
  unfold appA at h
  cases hi : appI A s new k sz bytes with
  | some q =>
    rw [hi] at h
    obtain rfl := Option.some.inj h
    unfold appI at hi
    split at hi
    · split at hi
      · split at hi
        · injection hi with hi; subst hi; simp
        · cases hi
      · cases hi
    · cases hi
  | none =>
  rw [hi, Option.none_or] at h
  unfold appA1 at h
  cases hf : appF A s new k sz bytes with
  | some q =>
    rw [hf] at h
    obtain rfl := Option.some.inj h
    unfold appF at hf
    split at hf
    · split at hf
      · split at hf
        · injection hf with hf; subst hf; simp
        · cases hf
      · cases hf
    · cases hf
  | none =>
  rw [hf, Option.none_or] at h
  unfold appA0 at h
  split at h
  · split at h
    · injection h with h; subst h; exact Nat.le_refl _
    · injection h with h; subst h; exact Nat.le_refl _
    · cases h
  · rw [Option.bind_eq_some_iff] at h
    obtain ⟨q, h1, h⟩ := h
    split at h
    · injection h with h; subst h
      simp only [List.length_append]
      rw [appBase_len h1]; omega
    · cases h
theorem sApp_len {s x : Value} {bytes : Nat} {v' : Value} {A' : AH} (h : sApp A s x sz bytes = some (v', A')) : A.length ≤ A'.length := by
  unfold sApp at h
  split at h
  · rw [Option.bind_eq_some_iff] at h
    obtain ⟨new, _, h⟩ := h
    exact appI_len h
  · cases h
/-- append(v, x...): bytes. -/
theorem OwnB.app {bs xs : List UInt8} (hl : Le A0 A) (h : OwnB A0.length A v bs) (hx : Byt A x xs) (hb : bs.length + xs.length ≤ 2 ^ 47) :
    ∃ v' A', sApp A v x 1 1 = some (v', A') ∧ Le A0 A' ∧ OwnB A0.length A' v' (bs ++ xs) ∧ KeepV A v A' := by
  obtain ⟨v', A', h1, h2, h3, h4⟩ := app_bytes hl h hx hb
  exact ⟨v', A', h1, h2, h3, KeepV.of_own h (sApp_len h1) h4⟩
/-- append(v, s...): a text's bytes. -/
theorem OwnB.apps {bs : List UInt8} {s : ByteArray} (hl : Le A0 A) (h : OwnB A0.length A v bs) (hb : bs.length + s.size ≤ 2 ^ 47) :
    ∃ v' A', sApps A v (.string s) 1 = some (v', A') ∧ Le A0 A' ∧ OwnB A0.length A' v' (bs ++ bl s) ∧ KeepV A v A' := by
  have he : u8s s = (bl s).map by8 := rfl
  have hls : (bl s).length = s.size := by simp
  obtain ⟨v', A', h1, h2, h3, h4⟩ := app_own (new := u8s s) (k := s.size) (bytes := 1) hl h (by omega) (by omega) (by omega) (by rw [he, List.length_map, hls, Nat.mul_one]) (by rw [he]; exact Byt.ones8 _)
  refine ⟨v', A', h1, h2, ?_, KeepV.of_own h (appI_len h1) h4⟩
  unfold OwnB
  rw [List.length_append, List.map_append, hls, ← he]
  exact h3
/-- One more text. -/
theorem app_str {l : List ByteArray} (s : ByteArray) (hl : Le A0 A) (h : OwnS A0.length A 1 w l.length (l.map .string)) (hb : l.length ≤ 2 ^ 40) :
    sLit A [.string ⟨#[]⟩] 1 1 [(0, 1, .string s)] = some (.slice (some ⟨A.length, 0, none⟩) 1 1, A ++ [.row [.string s] .own 1 true]) ∧
    ∃ w' A', sApp (A ++ [.row [.string s] .own 1 true]) w (.slice (some ⟨A.length, 0, none⟩) 1 1) 1 16 = some (w', A') ∧ Le A0 A' ∧ OwnS A0.length A' 1 w' (l ++ [s]).length ((l ++ [s]).map .string) ∧ KeepV A w A' := by
  have l1 := lit1 (A := A) (z := .string ⟨#[]⟩) (len := 1) (ps := [(0, 1, .string s)]) [.string s] rfl rfl (by
    intro y hy
    rw [List.mem_singleton] at hy
    subst hy; exact one1_str _)
  have k1 : Le A (A ++ [.row [.string s] .own 1 true]) := .push _ _
  obtain ⟨v2, A2, p1, p2, p3, p4⟩ := app_cells (bytes := 16) (hl.trans k1) (OwnS.le h k1) (sl_last A (cs := [.string s]) (st := .own) (ex := true) (c := 1) (by simp) (by simp)) rfl (by omega) (by simp; omega) (by omega)
  rw [List.length_singleton] at l1 p1
  refine ⟨l1, v2, A2, p1, p2, by simpa using p3, ⟨Nat.le_trans k1.len (sApp_len p1), fun i b hb hi => p4 i b (k1.get hb) (fun o c q => hi (by rw [q]; simp [blkOf]))⟩⟩
theorem KeepV.get (h : KeepV A v B) {j : Nat} {b : Blk} (hb : A[j]? = some b) (hj : j ∉ blkOf v) : B[j]? = some b := h.2 j b hb hj
theorem KeepV.rd (h : KeepV A v B) {R : List Nat} (hR : ∀ k ∈ R, k ∉ blkOf v) : RdOk R A B := fun k hk b hb => h.2 k b hb (hR k hk)
theorem Byt.one1 {bs : List UInt8} (h : Byt A v bs) : AS.one1 v := by
  obtain ⟨p, c, hs, _⟩ := h.shape
  rw [hs]; exact one1_sl _ _ _
theorem Sl.one1 (h : Sl A sz v n cs) : AS.one1 v := by
  obtain ⟨_, h⟩ := h
  rcases h with ⟨rfl, _⟩ | ⟨rfl, _⟩ | ⟨_, _, _, _, _, _, rfl, _⟩ <;> exact one1_sl _ _ _
theorem ones_two {x y : Value} (hx : one1 x) (hy : one1 y) : ones [x, y] = true := by
  unfold ones
  simp [hx.2, hy.2]
end
end Go.AS


namespace Go.AS
open Go
set_option linter.unusedVariables false
set_option linter.unusedSimpArgs false

section
variable {A B C A0 : AH} {v w u x : Value} {sz s2 n m a0 b0 i k : Nat} {cs ds e z : List Value} {es fs : List (List Value)}
theorem faddr_any {p q : Value} {o : Nat} {A' : AH} (h : sFaddr A p o = some (q, A')) (B : AH) : sFaddr B p o = some (q, B) := by
  unfold sFaddr at h ⊢
  split at h
  · injection h with h; injection h with h _; subst h; rfl
  · cases h
theorem faddr_blk {p q : Value} {o : Nat} {A' : AH} (h : sFaddr A p o = some (q, A')) : blkOf q = blkOf p := by
  unfold sFaddr at h
  split at h
  · injection h with h; injection h with h _; subst h; rfl
  · cases h
theorem load1_keep {p x : Value} (h : sLoad1 A p = some (x, A)) (hB : ∀ k b, A[k]? = some b → k ∈ blkOf p → B[k]? = some b) : sLoad1 B p = some (x, B) := by
  unfold sLoad1 at h ⊢
  split at h
  · rename_i i o
    rw [Option.bind_eq_some_iff] at h
    obtain ⟨r, q1, q2⟩ := h
    rw [Option.map_eq_some_iff] at q2
    obtain ⟨l, q2, q3⟩ := q2
    injection q3 with q3 q4
    obtain ⟨r1, r2, r3, r4⟩ := r
    obtain ⟨g1, g2⟩ := getRow_some q1
    have g3 := hB i _ g1 (by simp [blkOf])
    have : getRow B i = some (r1, r2, r3, r4) := by unfold getRow; simp only [g3, if_neg g2]
    simp only [this, Option.bind_some, q2, Option.map_some, q3]
  · cases h
/-- A part of an element is read. -/
theorem Sl.elf (h : Sl A sz v es.length es.flatten) (he : ∀ e ∈ es, e.length = sz ∧ ones e = true) {j o : Nat} {e : List Value} {x : Value} (hj : es[j]? = some e) (ho : e[o]? = some x) :
    ∃ p q, blkOf q = blkOf v ∧ (∀ (B : AH) (n : Int), n = (j : Int) → sIaddr B v (.int .i64 n) sz = some (p, B)) ∧ (∀ B, sFaddr B p o = some (q, B)) ∧ sLoad1 A q = some (x, A) := by
  have hel := (he e (List.mem_of_getElem? hj)).1
  have hlt := lt_of_get ho
  obtain ⟨p, q, p1, p2, p3⟩ := h.field (v0 := x) (lt_of_get hj) (off := o) (by omega) (by rw [flat_at he hj (by omega)]; exact ho)
  refine ⟨p, q, ?_, ?_, faddr_any p2, p3⟩
  · rw [faddr_blk p2, iaddr_blk p1]
  · rintro B n rfl; exact iaddr_any p1 B
theorem Sl.elfL (h : Sl A sz v es.length es.flatten) (he : ∀ e ∈ es, e.length = sz ∧ ones e = true) {j o : Nat} {e : List Value} {x : Value} (hj : es[j]? = some e) (ho : e[o]? = some x) :
    ∃ p q, (∀ (B : AH) (n : Int), n = (j : Int) → sIaddr B v (.int .i64 n) sz = some (p, B)) ∧ (∀ B, sFaddr B p o = some (q, B)) ∧ ∀ B, Le A B → sLoad1 B q = some (x, B) := by
  obtain ⟨p, q, _, p1, p2, p3⟩ := h.elf he hj ho
  exact ⟨p, q, p1, p2, fun B hB => load1_keep p3 (fun k b hb _ => hB.get hb)⟩
/-- An element of one cell is read. -/
theorem Sl.at1L (h : Sl A 1 v n cs) {j : Nat} {x : Value} (hj : cs[j]? = some x) : ∃ p, (∀ (B : AH) (n : Int), n = (j : Int) → sIaddr B v (.int .i64 n) 1 = some (p, B)) ∧ ∀ B, Le A B → sLoad1 B p = some (x, B) := by
  obtain ⟨p, p1, p2⟩ := h.at1 hj
  exact ⟨p, by rintro B n rfl; exact iaddr_any p1 B, fun B hB => load1_keep p2 (fun k b hb _ => hB.get hb)⟩
/-- Two values lead to blocks apart. -/
def Ap (v w : Value) : Prop := ∀ j ∈ blkOf v, j ∉ blkOf w
theorem Ap.symm (h : Ap v w) : Ap w v := fun j hj hk => h j hk hj
theorem Ap.nil {n c : Nat} : Ap (.slice none n c) w := fun j hj => by cases hj
theorem OwnS.lt {sz n : Nat} {cs : List Value} (h : OwnS a0 A sz v n cs) : ∀ j ∈ blkOf v, j < A.length := fun j hj => (h.ge j hj).2
theorem sApp_blk {s x : Value} {bytes : Nat} {v' : Value} {A' : AH} (h : sApp A s x sz bytes = some (v', A')) : ∀ j ∈ blkOf v', j ∈ blkOf s ∨ A.length ≤ j := by
  intro j hj
  have hx : ∃ p k c, x = .slice p k c := by
    unfold sApp at h
    split at h
    · exact ⟨_, _, _, rfl⟩
    · cases h
  obtain ⟨p, k, c, rfl⟩ := hx
  by_cases hk : k = 0
  · subst hk
    unfold sApp at h
    simp only [Option.bind_eq_some_iff] at h
    obtain ⟨new, _, h⟩ := h
    unfold appA at h
    rw [appI_zero, Option.none_or] at h
    unfold appA1 at h
    rw [appF_zero, Option.none_or] at h
    unfold appA0 at h
    rw [if_pos rfl] at h
    split at h
    · injection h with h; injection h with h _; subst h; exact .inl hj
    · injection h with h; injection h with h _; subst h; exact .inl hj
    · cases h
  · rcases app_fresh rfl hk h with e | e
    · rw [e, List.mem_singleton] at hj; exact .inr (by omega)
    · rw [e] at hj; exact .inl hj
/-- Elements of another slice are appended. -/
theorem OwnE.app {bytes : Nat} (hl : Le A0 A) (h : OwnE A0.length A sz v es) (hx : Sl A sz x fs.length fs.flatten) (hf : ∀ e ∈ fs, e.length = sz ∧ ones e = true) (hsz : 0 < sz) (hb : 2 * ((es.length + fs.length) * bytes) ≤ 2 ^ 48) (hb0 : 0 < bytes) :
    ∃ v' A', sApp A v x sz bytes = some (v', A') ∧ Le A0 A' ∧ OwnE A0.length A' sz v' (es ++ fs) ∧ KeepV A v A' := by
  obtain ⟨v', A', e1, e2, e3, e4⟩ := app_cells (bytes := bytes) hl h.2 hx (ones_flatten hf) hsz hb hb0
  refine ⟨v', A', e1, e2, ⟨?_, by simpa using e3⟩, KeepV.of_own h.2 (sApp_len e1) e4⟩
  intro y hy
  rcases List.mem_append.1 hy with hy | hy
  · exact h.1 y hy
  · exact hf y hy
theorem all2_take {α β : Type} {R : α → β → Prop} : ∀ {a : List α} {b : List β} (n : Nat), All2 R a b → All2 R (a.take n) (b.take n)
  | [], [], n, _ => by simp [All2]
  | x :: a, y :: b, 0, _ => by simp [All2]
  | x :: a, y :: b, n + 1, h => ⟨h.1, all2_take n h.2⟩
theorem all2_drop {α β : Type} {R : α → β → Prop} : ∀ {a : List α} {b : List β} (n : Nat), All2 R a b → All2 R (a.drop n) (b.drop n)
  | [], [], n, _ => by simp [All2]
  | x :: a, y :: b, 0, h => h
  | x :: a, y :: b, n + 1, h => all2_drop n h.2
theorem all2_get {α β : Type} {R : α → β → Prop} {a : List α} {b : List β} (h : All2 R a b) {j : Nat} {y : β} (hj : b[j]? = some y) : ∃ x, a[j]? = some x ∧ R x y := by
  have := All2.len _ _ h
  obtain ⟨x, hx⟩ := get_some (l := a) (k := j) (by have := lt_of_get hj; omega)
  exact ⟨x, hx, All2.get _ _ h j x y hx hj⟩
theorem all2_get' {α β : Type} {R : α → β → Prop} {a : List α} {b : List β} (h : All2 R a b) {j : Nat} {x : α} (hj : a[j]? = some x) : ∃ y, b[j]? = some y ∧ R x y := by
  have := All2.len _ _ h
  obtain ⟨y, hy⟩ := get_some (l := b) (k := j) (by have := lt_of_get hj; omega)
  exact ⟨y, hy, All2.get _ _ h j x y hj hy⟩
end
section
variable {α : Type} {key : α → List UInt8}
end
end Go.AS


namespace Go.AS
open Go
set_option linter.unusedVariables false
set_option linter.unusedSimpArgs false
section
variable {A B : AH} {v : Value} {sz : Nat} {es : List (List Value)}
/-- An element's fields, by one address. -/
theorem Sl.elfs (h : Sl A sz v es.length es.flatten) (he : ∀ e ∈ es, e.length = sz ∧ ones e = true) {j : Nat} {e : List Value} {x0 : Value} (hj : es[j]? = some e) (h0 : e[0]? = some x0) :
    ∃ p, (∀ (B : AH) (n : Int), n = (j : Int) → sIaddr B v (.int .i64 n) sz = some (p, B)) ∧ ∀ o x, e[o]? = some x → ∃ q, (∀ B, sFaddr B p o = some (q, B)) ∧ ∀ B, Le A B → sLoad1 B q = some (x, B) := by
  obtain ⟨p, q, p1, p2, p3⟩ := Sl.elfL h he hj h0
  refine ⟨p, p1, fun o x hx => ?_⟩
  obtain ⟨p', q', u1, u2, u3⟩ := Sl.elfL h he hj hx
  have e : p' = p := by
    have h1 := p1 A j rfl
    rw [u1 A j rfl] at h1
    injection h1 with h1
    injection h1 with h1 _
  subst e
  exact ⟨q', u2, u3⟩
theorem SlR.lenB {n : Nat} {cs : List Value} (h : SlR A sz v n cs) (B : AH) : sLens B false v = some (.int .i64 n, B) := by
  obtain ⟨h0, h⟩ := h
  rcases h with ⟨rfl, rfl⟩ | ⟨rfl, rfl⟩ | ⟨i, o, c, rc, st, bsz, ex, rfl, h2, h3, h4, h5, h6⟩ <;> simp [sLens]
theorem SlR.el (h : SlR A sz v es.length es.flatten) (he : ∀ e ∈ es, e.length = sz ∧ ones e = true) {j : Nat} {e : List Value} (hj : es[j]? = some e) :
    ∃ p, blkOf p = blkOf v ∧ (∀ (B : AH) (n : Int), n = (j : Int) → sIaddr B v (.int .i64 n) sz = some (p, B)) ∧ sLoadn A p sz = some (.agg e.toArray, A) ∧ ∀ B, (∀ k b, A[k]? = some b → k ∈ blkOf v → B[k]? = some b) → sLoadn B p sz = some (.agg e.toArray, B) := by
  obtain ⟨p, p1, p2⟩ := h.atn (lt_of_get hj)
  rw [flat_cut he hj] at p2
  refine ⟨p, iaddr_blk p1, ?_, p2, fun B hB => ?_⟩
  · rintro B n rfl; exact iaddr_any p1 B
  · have hb := iaddr_blk p1
    unfold sLoadn at p2 ⊢
    split at p2
    · rename_i i o
      rw [Option.bind_eq_some_iff] at p2
      obtain ⟨r, q1, q2⟩ := p2
      rw [Option.map_eq_some_iff] at q2
      obtain ⟨l, q2, q3⟩ := q2
      injection q3 with q3 q4
      obtain ⟨r1, r2, r3, r4⟩ := r
      obtain ⟨g1, g2⟩ := getRow_some q1
      have g3 := hB i _ g1 (by rw [← hb]; simp [blkOf])
      have : getRow B i = some (r1, r2, r3, r4) := by unfold getRow; simp only [g3, if_neg g2]
      simp only [this, Option.bind_some, q2, Option.map_some, q3]
    · cases p2
theorem SlR.elf (h : SlR A sz v es.length es.flatten) (he : ∀ e ∈ es, e.length = sz ∧ ones e = true) {j o : Nat} {e : List Value} {x : Value} (hj : es[j]? = some e) (ho : e[o]? = some x) :
    ∃ p q, blkOf q = blkOf v ∧ (∀ (B : AH) (n : Int), n = (j : Int) → sIaddr B v (.int .i64 n) sz = some (p, B)) ∧ (∀ B, sFaddr B p o = some (q, B)) ∧ sLoad1 A q = some (x, A) := by
  have hel := (he e (List.mem_of_getElem? hj)).1
  have hlt := lt_of_get ho
  obtain ⟨p, q, p1, p2, p3⟩ := h.field (v0 := x) (lt_of_get hj) (off := o) (by omega) (by rw [flat_at he hj (by omega)]; exact ho)
  refine ⟨p, q, ?_, ?_, faddr_any p2, p3⟩
  · rw [faddr_blk p2, iaddr_blk p1]
  · rintro B n rfl; exact iaddr_any p1 B
theorem SlR.elfL (h : SlR A sz v es.length es.flatten) (he : ∀ e ∈ es, e.length = sz ∧ ones e = true) {j o : Nat} {e : List Value} {x : Value} (hj : es[j]? = some e) (ho : e[o]? = some x) :
    ∃ p q, (∀ (B : AH) (n : Int), n = (j : Int) → sIaddr B v (.int .i64 n) sz = some (p, B)) ∧ (∀ B, sFaddr B p o = some (q, B)) ∧ ∀ B, Le A B → sLoad1 B q = some (x, B) := by
  obtain ⟨p, q, _, p1, p2, p3⟩ := h.elf he hj ho
  exact ⟨p, q, p1, p2, fun B hB => load1_keep p3 (fun k b hb _ => hB.get hb)⟩
/-- An element's fields, by one address. -/
theorem SlR.elfs (h : SlR A sz v es.length es.flatten) (he : ∀ e ∈ es, e.length = sz ∧ ones e = true) {j : Nat} {e : List Value} {x0 : Value} (hj : es[j]? = some e) (h0 : e[0]? = some x0) :
    ∃ p, (∀ (B : AH) (n : Int), n = (j : Int) → sIaddr B v (.int .i64 n) sz = some (p, B)) ∧ ∀ o x, e[o]? = some x → ∃ q, (∀ B, sFaddr B p o = some (q, B)) ∧ ∀ B, Le A B → sLoad1 B q = some (x, B) := by
  obtain ⟨p, q, p1, p2, p3⟩ := SlR.elfL h he hj h0
  refine ⟨p, p1, fun o x hx => ?_⟩
  obtain ⟨p', q', u1, u2, u3⟩ := SlR.elfL h he hj hx
  have e : p' = p := by
    have h1 := p1 A j rfl
    rw [u1 A j rfl] at h1
    injection h1 with h1
    injection h1 with h1 _
  subst e
  exact ⟨q', u2, u3⟩
end
end Go.AS


namespace Go.AS
open Go
set_option maxRecDepth 100000
/-! slices.Insert (printed). -/
noncomputable def icG_insert (sz bytes : Nat) (z : List Value) (fo fr : FuncId) : IC :=
  (.seq (.ops [
    ⟨(some 6), none, false, .mov (.const (.slice none 0 0))⟩]) (.seq (.ops [
    ⟨(some 10), none, false, .mov (.tmp 0)⟩,
    ⟨(some 11), none, false, .mov (.tmp 1)⟩,
    ⟨(some 12), none, false, .sll (.tmp 10) (some (.tmp 11)) none none sz⟩]) (.seq (.ops [
    ⟨(some 13), none, false, .mov (.tmp 2)⟩,
    ⟨(some 14), none, false, .lens false (.tmp 13)⟩,
    ⟨(some 7), none, false, .mov (.tmp 14)⟩]) (.seq (.seq (.ops [
    ⟨(some 15), none, false, .mov (.tmp 7)⟩,
    ⟨(some 16), none, false, .bin .eql (.tmp 15) (.const (.int .i64 0))⟩]) (.cond (.tmp 16) (.seq (.ops [
    ⟨(some 17), none, false, .mov (.tmp 0)⟩,
    ⟨(some 6), none, false, .mov (.tmp 17)⟩]) .ret) .skip)) (.seq (.ops [
    ⟨(some 18), none, false, .mov (.tmp 0)⟩,
    ⟨(some 19), none, false, .lens false (.tmp 18)⟩,
    ⟨(some 8), none, false, .mov (.tmp 19)⟩]) (.seq (.seq (.ops [
    ⟨(some 20), none, false, .mov (.tmp 1)⟩,
    ⟨(some 21), none, false, .mov (.tmp 8)⟩,
    ⟨(some 22), none, false, .bin .eql (.tmp 20) (.tmp 21)⟩]) (.cond (.tmp 22) (.seq (.ops [
    ⟨(some 23), none, false, .mov (.tmp 0)⟩,
    ⟨(some 24), none, false, .mov (.tmp 2)⟩,
    ⟨(some 25), none, false, .app (.tmp 23) (.tmp 24) sz bytes⟩,
    ⟨(some 6), none, false, .mov (.tmp 25)⟩]) .ret) .skip)) (.seq (.seq (.ops [
    ⟨(some 26), none, false, .mov (.tmp 8)⟩,
    ⟨(some 27), none, false, .mov (.tmp 7)⟩,
    ⟨(some 28), none, false, .bin .add (.tmp 26) (.tmp 27)⟩,
    ⟨(some 29), none, false, .mov (.tmp 0)⟩,
    ⟨(some 30), none, false, .capn (.tmp 29)⟩,
    ⟨(some 31), none, false, .bin .gtr (.tmp 28) (.tmp 30)⟩]) (.cond (.tmp 31) (.seq (.ops [
    ⟨(some 32), none, false, .mov (.tmp 0)⟩,
    ⟨(some 33), none, false, .mov (.tmp 1)⟩,
    ⟨(some 34), none, false, .sll (.tmp 32) none (some (.tmp 33)) none sz⟩,
    ⟨(some 35), none, false, .mov (.tmp 8)⟩,
    ⟨(some 36), none, false, .mov (.tmp 7)⟩,
    ⟨(some 37), none, false, .bin .add (.tmp 35) (.tmp 36)⟩,
    ⟨(some 38), none, false, .mov (.tmp 1)⟩,
    ⟨(some 39), none, false, .bin .sub (.tmp 37) (.tmp 38)⟩,
    ⟨(some 40), none, false, .appz (.tmp 34) (.tmp 39) z bytes⟩,
    ⟨(some 9), none, false, .mov (.tmp 40)⟩]) (.seq (.ops [
    ⟨(some 41), none, false, .mov (.tmp 9)⟩,
    ⟨(some 42), none, false, .mov (.tmp 1)⟩,
    ⟨(some 43), none, false, .sll (.tmp 41) (some (.tmp 42)) none none sz⟩,
    ⟨(some 44), none, false, .mov (.tmp 2)⟩,
    ⟨(some 45), none, false, .copy (.tmp 43) (.tmp 44) sz⟩]) (.seq (.draw [
    ⟨(some 46), none, false, .mov (.tmp 9)⟩,
    ⟨(some 47), none, false, .mov (.tmp 1)⟩,
    ⟨(some 48), none, false, .mov (.tmp 7)⟩,
    ⟨(some 49), none, false, .bin .add (.tmp 47) (.tmp 48)⟩,
    ⟨(some 50), none, false, .sll (.tmp 46) (some (.tmp 49)) none none sz⟩,
    ⟨(some 51), none, false, .mov (.tmp 0)⟩,
    ⟨(some 52), none, false, .mov (.tmp 1)⟩,
    ⟨(some 53), none, false, .sll (.tmp 51) (some (.tmp 52)) none none sz⟩,
    ⟨(some 54), none, false, .copy (.tmp 50) (.tmp 53) sz⟩]) (.seq (.ops [
    ⟨(some 55), none, false, .mov (.tmp 9)⟩,
    ⟨(some 6), none, false, .mov (.tmp 55)⟩]) .ret)))) .skip)) (.seq (.ops [
    ⟨(some 56), none, false, .mov (.tmp 0)⟩,
    ⟨(some 57), none, false, .mov (.tmp 8)⟩,
    ⟨(some 58), none, false, .mov (.tmp 7)⟩,
    ⟨(some 59), none, false, .bin .add (.tmp 57) (.tmp 58)⟩,
    ⟨(some 60), none, false, .sll (.tmp 56) none (some (.tmp 59)) none sz⟩,
    ⟨(some 0), none, false, .mov (.tmp 60)⟩]) (.seq (.seq (.ops [
    ⟨(some 61), none, false, .mov (.tmp 2)⟩,
    ⟨(some 62), none, false, .mov (.tmp 0)⟩,
    ⟨(some 63), none, false, .mov (.tmp 1)⟩,
    ⟨(some 64), none, false, .mov (.tmp 7)⟩,
    ⟨(some 65), none, false, .bin .add (.tmp 63) (.tmp 64)⟩,
    ⟨(some 66), none, false, .sll (.tmp 62) (some (.tmp 65)) none none sz⟩,
    ⟨(some 67), none, false, .callx fo [(.tmp 61), (.tmp 66)]⟩,
    ⟨(some 68), none, false, .un .not (.tmp 67)⟩]) (.cond (.tmp 68) (.seq (.draw [
    ⟨(some 69), none, false, .mov (.tmp 0)⟩,
    ⟨(some 70), none, false, .mov (.tmp 1)⟩,
    ⟨(some 71), none, false, .mov (.tmp 7)⟩,
    ⟨(some 72), none, false, .bin .add (.tmp 70) (.tmp 71)⟩,
    ⟨(some 73), none, false, .sll (.tmp 69) (some (.tmp 72)) none none sz⟩,
    ⟨(some 74), none, false, .mov (.tmp 0)⟩,
    ⟨(some 75), none, false, .mov (.tmp 1)⟩,
    ⟨(some 76), none, false, .sll (.tmp 74) (some (.tmp 75)) none none sz⟩,
    ⟨(some 77), none, false, .copy (.tmp 73) (.tmp 76) sz⟩]) (.seq (.ops [
    ⟨(some 78), none, false, .mov (.tmp 0)⟩,
    ⟨(some 79), none, false, .mov (.tmp 1)⟩,
    ⟨(some 80), none, false, .sll (.tmp 78) (some (.tmp 79)) none none sz⟩,
    ⟨(some 81), none, false, .mov (.tmp 2)⟩,
    ⟨(some 82), none, false, .copy (.tmp 80) (.tmp 81) sz⟩]) (.seq (.ops [
    ⟨(some 83), none, false, .mov (.tmp 0)⟩,
    ⟨(some 6), none, false, .mov (.tmp 83)⟩]) .ret))) .skip)) (.seq (.ops [
    ⟨(some 84), none, false, .mov (.tmp 0)⟩,
    ⟨(some 85), none, false, .mov (.tmp 8)⟩,
    ⟨(some 86), none, false, .sll (.tmp 84) (some (.tmp 85)) none none sz⟩,
    ⟨(some 87), none, false, .mov (.tmp 2)⟩,
    ⟨(some 88), none, false, .copy (.tmp 86) (.tmp 87) sz⟩]) (.seq (.ops [
    ⟨(some 89), none, false, .mov (.tmp 0)⟩,
    ⟨(some 90), none, false, .mov (.tmp 1)⟩,
    ⟨(some 91), none, false, .sll (.tmp 89) (some (.tmp 90)) none none sz⟩,
    ⟨(some 92), none, false, .mov (.tmp 7)⟩,
    ⟨(some 93), none, false, .call fr [(.tmp 91), (.tmp 92)]⟩]) (.seq (.ops [
    ⟨(some 94), none, false, .mov (.tmp 0)⟩,
    ⟨(some 6), none, false, .mov (.tmp 94)⟩]) .ret))))))))))))
end Go.AS


namespace Go.AS
open Go
set_option linter.unusedVariables false
set_option linter.unusedSimpArgs false
set_option maxRecDepth 10000

/-! slices.Insert of one element into a slice of the call's own. -/
section
variable {A A0 : AH} {v : Value} {sz : Nat} {es : List (List Value)} {e : List Value}
theorem flatL (he : ∀ e ∈ es, e.length = sz ∧ ones e = true) : es.flatten.length = es.length * sz := by
  induction es with
  | nil => simp
  | cons x l ih =>
    rw [List.flatten_cons, List.length_append, ih (fun e h => he e (by simp [h])), (he x (by simp)).1, List.length_cons, Nat.succ_mul, Nat.add_comm]
theorem flat_take (he : ∀ e ∈ es, e.length = sz ∧ ones e = true) (i : Nat) : (es.take i).flatten = es.flatten.take (i * sz) := by
  induction es generalizing i with
  | nil => simp
  | cons x l ih =>
    cases i with
    | zero => simp
    | succ i =>
      have hx := (he x (by simp)).1
      rw [List.take_succ_cons, List.flatten_cons, List.flatten_cons, ih (fun e h => he e (by simp [h])), Nat.succ_mul, List.take_append]
      rw [List.take_of_length_le (l := x) (by omega)]
      congr 2; omega
theorem flat_drop (he : ∀ e ∈ es, e.length = sz ∧ ones e = true) (i : Nat) : (es.drop i).flatten = es.flatten.drop (i * sz) := by
  induction es generalizing i with
  | nil => simp
  | cons x l ih =>
    cases i with
    | zero => simp
    | succ i =>
      have hx := (he x (by simp)).1
      rw [List.drop_succ_cons, List.flatten_cons, ih (fun e h => he e (by simp [h])), Nat.succ_mul, List.drop_append]
      rw [List.drop_of_length_le (l := x) (by omega), List.nil_append]
      congr 1; omega
/-- What an element put in makes of the cells. -/
theorem flat_ins (he : ∀ e ∈ es, e.length = sz ∧ ones e = true) (hl : e.length = sz) {i p q : Nat} (hi : i ≤ es.length) (hp : p = i * sz) (hq : q = es.length * sz) (j : Nat) (hj : j < q + sz) :
    (es.take i ++ e :: es.drop i).flatten[j]? = if j < p then es.flatten[j]? else if j < p + sz then e[j - p]? else es.flatten[j - sz]? := by
  have hL := flatL he
  have hpq : p ≤ q := by rw [hp, hq]; exact Nat.mul_le_mul_right _ hi
  rw [List.flatten_append, List.flatten_cons, flat_take he, flat_drop he, ← hp, List.getElem?_append]
  rw [List.length_take, hL, ← hq, Nat.min_eq_left hpq]
  by_cases h1 : j < p
  · rw [if_pos h1, if_pos h1, List.getElem?_take_of_lt h1]
  · rw [if_neg h1, if_neg h1, List.getElem?_append, hl]
    by_cases h2 : j < p + sz
    · rw [if_pos (by omega), if_pos h2]
    · rw [if_neg (by omega), if_neg h2, List.getElem?_drop]
      congr 1; omega
theorem ins_ok (he : ∀ e ∈ es, e.length = sz ∧ ones e = true) (hl : e.length = sz) (ho : ones e = true) {i : Nat} : ∀ x ∈ es.take i ++ e :: es.drop i, x.length = sz ∧ ones x = true := by
  intro x hx
  rw [List.mem_append, List.mem_cons] at hx
  rcases hx with hx | rfl | hx
  · exact he x (List.mem_of_mem_take hx)
  · exact ⟨hl, ho⟩
  · exact he x (List.mem_of_mem_drop hx)
theorem sll_lo {b o n c l : Nat} {cs : List Value} {st : St} {ex : Bool} (h : A[b]? = some (.row cs st sz ex)) (hl : l ≤ n) (hn : n ≤ c) {x : Int} (hx : x = (l : Int)) : sSll A (.slice (some ⟨b, o, none⟩) n c) (some (.int .i64 x)) none none sz = some (.slice (some ⟨b, o + l * sz, none⟩) (n - l) (c - l), A) := by
  subst hx
  unfold sSll
  have hb : boundsA n c (some (.int .i64 (l : Int))) none none = some (l, n, c) := by
    unfold boundsA
    simp only [Option.bind_some, asI]
    rw [if_pos ⟨by omega, by omega⟩]
    simp
  simp only [hb, Option.bind_some, rowSz, h]
  simp
theorem sll_hi {b o n c k : Nat} {cs : List Value} {st : St} {ex : Bool} (h : A[b]? = some (.row cs st sz ex)) (hk : k ≤ c) {x : Int} (hx : x = (k : Int)) : sSll A (.slice (some ⟨b, o, none⟩) n c) none (some (.int .i64 x)) none sz = some (.slice (some ⟨b, o, none⟩) k c, A) := by
  subst hx
  unfold sSll
  have hb : boundsA n c none (some (.int .i64 (k : Int))) none = some (0, k, c) := by
    unfold boundsA
    simp only [Option.bind_some, asI]
    rw [if_pos ⟨by omega, by omega⟩]
    simp
  simp only [hb, Option.bind_some, rowSz, h]
  simp
theorem rd_row {b o k c : Nat} {cs : List Value} {st : St} {s2 : Nat} {ex : Bool} (h : A[b]? = some (.row cs st s2 ex)) (hs : st ≠ .dead) (hk : 0 < k) (hl : o + k * sz ≤ cs.length) : rdSl A sz (.slice (some ⟨b, o, none⟩) k c) = some ((cs.drop o).take (k * sz)) := by
  unfold rdSl
  simp only
  rw [if_neg (by omega)]
  unfold getRow
  simp only [h, if_neg hs, Option.bind_some]
  unfold cut
  rw [if_pos hl]
/-- What is copied between rows. -/
theorem copy_val {b o n c j o' m c2 k : Nat} {cs vs rs : List Value} {ex ex2 : Bool} {st : St} {s2 : Nat} (hb : A[b]? = some (.row cs .own sz ex)) (hj : A[j]? = some (.row rs st s2 ex2)) (hst : st ≠ .dead) (hsz : 0 < sz) (hk : min m n = k) (hk0 : 0 < k) (hr : o' + k * sz ≤ rs.length)
    (hv : vs = (rs.drop o').take (k * sz)) (h1 : ones vs = true) (ho : o ≤ cs.length) : sCopy A (.slice (some ⟨b, o, none⟩) n c) (.slice (some ⟨j, o', none⟩) m c2) sz = some (.int .i64 k, A.set b (.row (setAll cs o vs) .own sz ex)) := by
  have hvl : vs.length = k * sz := by rw [hv, List.length_take, List.length_drop]; omega
  have hX : sCopyX A (.slice (some ⟨b, o, none⟩) n c) (.slice (some ⟨j, o', none⟩) m c2) sz = some (.int .i64 k, A.set b (.row (setAll cs o vs) .own sz ex)) := by
    unfold sCopyX
    simp only [hk]
    rw [rd_row hj hst hk0 hr, Option.bind_some, ← hv]
    unfold copyX
    simp only
    rw [if_pos ⟨hk0, by omega, hvl⟩]
    unfold wrX
    simp only [hb]
    rw [if_pos ⟨trivial, hsz, ho, h1⟩]
    rfl
  cases hO : sCopyO A (.slice (some ⟨b, o, none⟩) n c) (.slice (some ⟨j, o', none⟩) m c2) sz with
  | none => exact sCopy_x hO hX
  | some r =>
    rw [sCopy_o hO]
    unfold sCopyO at hO
    simp only [Option.bind_eq_some_iff] at hO
    obtain ⟨src, hs, hO⟩ := hO
    have hm0 : m ≠ 0 := by omega
    unfold rdSl at hs
    simp only at hs
    rw [if_neg hm0] at hs
    unfold getRow at hs
    simp only [hj, if_neg hst, Option.bind_some] at hs
    unfold cut at hs
    split at hs
    · rename_i hc
      obtain rfl := Option.some.inj hs
      have hle : k * sz ≤ m * sz := Nat.mul_le_mul_right _ (by omega)
      rw [hk, List.take_take, Nat.min_eq_left hle, ← hv] at hO
      unfold copyTo at hO
      rw [if_neg (by omega)] at hO
      simp only at hO
      unfold wr at hO
      simp only [hb] at hO
      split at hO
      · simp only [Option.map_some] at hO
        exact hO.symm
      · simp at hO
    · cases hs
theorem capW_slice {i o n c : Nat} {K : Value → Prop} : capW (.slice (some ⟨i, o, none⟩) n c) K = ∀ c' : Nat, c ≤ c' → K (.int .i64 c') := id rfl
theorem ones_sub {l : List Value} (h : ones l = true) (o k : Nat) : ones ((l.drop o).take k) = true := by
  unfold ones at *
  rw [List.all_eq_true] at *
  exact fun x hx => h x (List.mem_of_mem_drop (List.mem_of_mem_take hx))
theorem insert1_spec {G : Nat} {P : Program} {f fo fr : FuncId} {z : List Value} {bytes i : Nat} {x : Value} {Q : Value → AH → Prop} (hm : P.follows .mixedOrders = true) (hfit : Fits P G f (icG_insert sz bytes z fo fr) [.tmp 6] 3) (hov : OvlOk P fo sz) (hsz : 1 < sz) (hz : z.length = sz) (hz1 : ones z = true) (hb0 : 0 < bytes)
    (hl : Le A0 A) (h : OwnE A0.length A sz v es) (hx : OwnE A0.length A sz x [e]) (hd : ∀ k ∈ blkOf x, k ∉ blkOf v) (hi : i ≤ es.length) (hbb : 2 * ((es.length + 1) * bytes) ≤ 2 ^ 48)
    (hq : ∀ u B, Le A0 B → OwnE A0.length B sz u (es.take i ++ e :: es.drop i) → KeepV A v B → (∀ j ∈ blkOf u, j ∈ blkOf v ∨ A.length ≤ j) → Q u B) : ACalls G P f [v, .int .i64 (i : Int), x] Q A := by
  have hsz0 : 0 < sz := by omega
  obtain ⟨he, h0⟩ := h
  obtain ⟨hex, hx0⟩ := hx
  obtain ⟨hel, heo⟩ := hex e (by simp)
  have hll : es.length < 2 ^ 48 := by
    have : (es.length + 1) * 1 ≤ (es.length + 1) * bytes := Nat.mul_le_mul_left _ hb0
    omega
  have hxlen : sLens A false x = some (.int .i64 1, A) := by have := hx0.sl.lenB A; simpa using this
  by_cases hin : i = es.length
  · -- at the end: an append
    have hvl : sLens A false v = some (.int .i64 es.length, A) := h0.sl.lenB A
    obtain ⟨u, B, p1, p2, p3, p4⟩ := OwnE.app (bytes := bytes) hl ⟨he, h0⟩ hx0.sl hex hsz0 (by simpa using hbb) hb0
    have hes : es.take i ++ e :: es.drop i = es ++ [e] := by rw [hin, List.take_length, List.drop_length]
    rw [hes] at hq
    have hu := hq u B p2 p3 p4 (sApp_blk p1)
    obtain ⟨v2, hv2⟩ : ∃ w, sSll A v (some (.int .i64 (i : Int))) none none sz = some (w, A) := by
      obtain ⟨w, _, _, hw⟩ := OwnE.cut (lo := some (.int .i64 (i : Int))) (hi := none) ⟨he, h0⟩ (l := i) (k := es.length) hi (Nat.le_refl _) (fun c hc => by
        unfold boundsA
        simp only [Option.bind_some, asI]
        rw [if_pos ⟨by omega, by omega⟩]
        simp)
      exact ⟨w, (hw A es ⟨he, h0⟩ rfl).1⟩
    refine ACalls.of_fits hm hfit rfl ?_
    unfold icG_insert
    have i0 : initA [v, .int .i64 (i : Int), x] 0 = v := rfl
    have i1 : initA [v, .int .i64 (i : Int), x] 1 = .int .i64 (i : Int) := rfl
    have i2 : initA [v, .int .i64 (i : Int), x] 2 = x := rfl
    generalize initA [v, .int .i64 (i : Int), x] = a at i0 i1 i2
    simp (maxSteps := 1000000) (disch := omega) only [stepS, reduceIte, Nat.reduceBEq, Nat.reduceEqDiff, tupleOf, stepT, i0, i1, i2, hv2, hxlen, hvl, p1]
    exact hu
  · -- before an element
    have hin : i < es.length := by omega
    obtain ⟨h00, h0⟩ := h0
    obtain ⟨b, o, c, rc, ex, rfl, k1, k2, k3, k4, k5⟩ : ∃ i o c rc ex, v = .slice (some ⟨i, o, none⟩) es.length c ∧ es.length ≤ c ∧ A0.length ≤ i ∧ A[i]? = some (.row rc .own sz ex) ∧ o + es.length * sz ≤ rc.length ∧ ∀ j, j < es.length * sz → rc[o + j]? = es.flatten[j]? := by
      rcases h0 with ⟨_, hz⟩ | ⟨_, hz⟩ | h0
      · omega
      · omega
      · exact h0
    obtain ⟨hx00, hx0⟩ := hx0
    obtain ⟨bx, ox, cx, rx, exx, rfl, x1, x2, x3, x4, x5⟩ : ∃ i o c rc ex, x = .slice (some ⟨i, o, none⟩) 1 c ∧ 1 ≤ c ∧ A0.length ≤ i ∧ A[i]? = some (.row rc .own sz ex) ∧ o + 1 * sz ≤ rc.length ∧ ∀ j, j < 1 * sz → rc[o + j]? = [e].flatten[j]? := by
      rcases hx0 with ⟨_, hz⟩ | ⟨_, hz⟩ | hx0
      · simp at hz
      · simp at hz
      · simpa using hx0
    have hne : bx ≠ b := by
      have := hd bx (by simp [blkOf])
      simp [blkOf] at this
      exact this
    clear h0 hx0 hd hxlen
    obtain ⟨n, hn⟩ : ∃ n, n = es.length := ⟨_, rfl⟩
    obtain ⟨p, hp⟩ : ∃ p, p = i * sz := ⟨_, rfl⟩
    obtain ⟨q, hqq⟩ : ∃ q, q = n * sz := ⟨_, rfl⟩
    rw [← hn] at hin k1 k4 k5 hbb hll hi h00 ⊢
    rw [← hqq] at k4 k5 h00
    have hpq : p + sz ≤ q := by
      rw [hp, hqq]
      have := Nat.mul_le_mul_right sz (show i + 1 ≤ n by omega)
      rw [Nat.succ_mul] at this
      exact this
    have hxe : (rx.drop ox).take (1 * sz) = e := by
      apply List.ext_getElem?
      intro j
      rcases Nat.lt_or_ge j sz with hj | hj
      · rw [Nat.one_mul, List.getElem?_take_of_lt hj, List.getElem?_drop, x5 j (by omega)]
        simp
      · rw [List.getElem?_eq_none (by simp; omega), List.getElem?_eq_none (by omega)]
    have hR : (rc.take (o + q)).length = o + q := by rw [List.length_take]; omega
    have hRj : ∀ j, j < q → (rc.take (o + q))[o + j]? = es.flatten[j]? := fun j hj => by
      rw [List.getElem?_take_of_lt (by omega), k5 j hj]
    have hRo : ones ((rc.take (o + q)).drop o) = true := by
      have e1 : (rc.take (o + q)).drop o = es.flatten := by
        apply List.ext_getElem?
        intro j
        rw [List.getElem?_drop]
        rcases Nat.lt_or_ge j q with hj | hj
        · exact hRj j hj
        · rw [List.getElem?_eq_none (by omega), List.getElem?_eq_none (by omega)]
      rw [e1]
      exact ones_flatten he
    generalize hRR : rc.take (o + q) = R at hR hRj hRo
    have hvs : ones ((R.drop (o + p)).take ((n - i) * sz)) = true := by
      have := ones_sub hRo p ((n - i) * sz)
      rw [List.drop_drop] at this
      exact this
    have hnp : (n - i) * sz = q - p := by rw [Nat.sub_mul, ← hqq, ← hp]
    have hvsl : ((R.drop (o + p)).take ((n - i) * sz)).length = q - p := by rw [hnp, List.length_take, List.length_drop]; omega
    have hvsj : ∀ j, j < q - p → ((R.drop (o + p)).take ((n - i) * sz))[j]? = es.flatten[p + j]? := fun j hj => by
      rw [hnp, List.getElem?_take_of_lt hj, List.getElem?_drop, Nat.add_assoc, hRj _ (by omega)]
    obtain ⟨vs, hvsD⟩ : ∃ vs, vs = (R.drop (o + p)).take ((n - i) * sz) := ⟨_, rfl⟩
    rw [← hvsD] at hvs hvsl hvsj
    have hbl := lt_of_get k3
    have hxl := lt_of_get x3
    have i1p : (i + 1) * sz = p + sz := by rw [Nat.succ_mul, hp]
    refine ACalls.cap1 k3 hsz0 (by omega) (by omega) ?_ ?_
    · -- there is room
      rw [← hqq, hRR]
      have a1 : (A.set b (.row R .own sz false))[b]? = some (.row R .own sz false) := List.getElem?_set_self hbl
      have a2 : (A.set b (.row R .own sz false))[bx]? = some (.row rx .own sz exx) := by rw [List.getElem?_set_ne (Ne.symm hne)]; exact x3
      have al : (A.set b (.row R .own sz false)).length = A.length := by simp
      have ag : ∀ k bl, A[k]? = some bl → k ≠ b → (A.set b (.row R .own sz false))[k]? = some bl := fun k bl hk hkb => by rw [List.getElem?_set_ne (Ne.symm hkb)]; exact hk
      generalize A.set b (.row R .own sz false) = A1 at a1 a2 al ag
      have hcn : sCapn A1 (.slice (some ⟨b, o, none⟩) n (n + 1)) = none := by unfold sCapn; simp only [a1]
      have s1 := sll_lo (l := i) (c := n + 1) (n := n) (o := o) a1 (by omega) (by omega) (x := (i : Int)) rfl
      have s2 := sll_hi (k := n + 1) (c := n + 1) (n := n) (o := o) a1 (Nat.le_refl _) (x := (n : Int) + ((1 : Nat) : Int)) (by omega)
      have s3 := sll_lo (l := i + 1) (c := n + 1) (n := n + 1) (o := o) a1 (by omega) (by omega) (x := (i : Int) + ((1 : Nat) : Int)) (by omega)
      have s4 := sll_lo (l := i) (c := n + 1) (n := n + 1) (o := o) a1 (by omega) (by omega) (x := (i : Int)) rfl
      rw [← hp] at s1 s4
      rw [i1p] at s3
      have cp1 := copy_val (n := n + 1 - (i + 1)) (c := n + 1 - (i + 1)) (m := n + 1 - i) (c2 := n + 1 - i) (o := o + (p + sz)) (o' := o + p) (k := n - i) (vs := vs) a1 a1 (by decide) hsz0 (by omega) (by omega) (by rw [hnp]; omega) hvsD hvs (by omega)
      have ll : (setAll R (o + (p + sz)) vs).length = o + q + sz := by rw [setAll_lengthX _ _ _ (by omega), hvsl]; omega
      have a3 : (A1.set b (.row (setAll R (o + (p + sz)) vs) .own sz false))[b]? = some (.row (setAll R (o + (p + sz)) vs) .own sz false) := List.getElem?_set_self (by omega)
      have a4 : (A1.set b (.row (setAll R (o + (p + sz)) vs) .own sz false))[bx]? = some (.row rx .own sz exx) := by rw [List.getElem?_set_ne (Ne.symm hne)]; exact a2
      have s5 := sll_lo (l := i) (c := n + 1) (n := n + 1) (o := o) a3 (by omega) (by omega) (x := (i : Int)) rfl
      rw [← hp] at s5
      have cp2 := copy_val (n := n + 1 - i) (c := n + 1 - i) (m := 1) (c2 := cx) (o := o + p) (o' := ox) (k := 1) (vs := e) a3 a4 (by decide) hsz0 (by omega) (by omega) x4 hxe.symm heo (by omega)
      have hss : (A1.set b (.row (setAll R (o + (p + sz)) vs) .own sz false)).set b (.row (setAll (setAll R (o + (p + sz)) vs) (o + p) e) .own sz false) = A1.set b (.row (setAll (setAll R (o + (p + sz)) vs) (o + p) e) .own sz false) := List.set_set ..
      rw [hss] at cp2
      have hfin := hq (.slice (some ⟨b, o, none⟩) (n + 1) (n + 1)) (A1.set b (.row (setAll (setAll R (o + (p + sz)) vs) (o + p) e) .own sz false)) ?_ ⟨ins_ok he hel heo, ?_⟩ ⟨by simp; omega, ?_⟩ ?_
      rotate_left
      · refine Le.of_get (fun k hk => ?_) (by simp; have := hl.len; omega)
        have hk2 : A0[k]? = some A0[k] := List.getElem?_eq_getElem hk
        rw [List.getElem?_set_ne (by omega), hk2]
        exact ag k _ (hl.get hk2) (by omega)
      · refine ⟨by rw [flatL (ins_ok he hel heo)], .inr (.inr ⟨b, o, n + 1, setAll (setAll R (o + (p + sz)) vs) (o + p) e, false, by rw [List.length_append, List.length_cons, List.length_take, List.length_drop]; congr 1; omega, by rw [List.length_append, List.length_cons, List.length_take, List.length_drop]; omega, k2, List.getElem?_set_self (by omega), ?_, ?_⟩)⟩
        · have e1 : (es.take i ++ e :: es.drop i).length * sz = q + sz := by
            rw [List.length_append, List.length_cons, List.length_take, List.length_drop, Nat.min_eq_left (by omega), show i + (es.length - i + 1) = n + 1 by omega, Nat.succ_mul, ← hqq]
          rw [e1, setAll_lengthX _ _ _ (by omega), ll]
          omega
        · intro j hj
          have e1 : (es.take i ++ e :: es.drop i).length * sz = q + sz := by
            rw [List.length_append, List.length_cons, List.length_take, List.length_drop, Nat.min_eq_left (by omega), show i + (es.length - i + 1) = n + 1 by omega, Nat.succ_mul, ← hqq]
          rw [e1] at hj
          rw [flat_ins he hel (by omega) hp (by rw [hqq, hn]) j hj, setAll_getX _ _ _ (by omega), hel]
          by_cases j1 : j < p
          · rw [if_neg (by omega), if_pos j1, setAll_getX _ _ _ (by omega), if_neg (by omega)]
            exact hRj j (by omega)
          · rw [if_neg j1]
            by_cases j2 : j < p + sz
            · rw [if_pos (by omega), if_pos j2]
              congr 1; omega
            · rw [if_neg (by omega), if_neg j2, setAll_getX _ _ _ (by omega), if_pos (by omega), hvsj _ (by omega)]
              congr 1; omega
      · intro k bl hk hkv
        have hkb : k ≠ b := fun h => hkv (by rw [h]; simp [blkOf])
        rw [List.getElem?_set_ne (Ne.symm hkb)]
        exact ag k bl hk hkb
      · intro j hj
        exact .inl hj
      refine ACalls.of_fits hm hfit rfl ?_
      unfold icG_insert
      have i0 : initA [.slice (some ⟨b, o, none⟩) n (n + 1), .int .i64 (i : Int), .slice (some ⟨bx, ox, none⟩) 1 cx] 0 = .slice (some ⟨b, o, none⟩) n (n + 1) := rfl
      have i1 : initA [.slice (some ⟨b, o, none⟩) n (n + 1), .int .i64 (i : Int), .slice (some ⟨bx, ox, none⟩) 1 cx] 1 = .int .i64 (i : Int) := rfl
      have i2 : initA [.slice (some ⟨b, o, none⟩) n (n + 1), .int .i64 (i : Int), .slice (some ⟨bx, ox, none⟩) 1 cx] 2 = .slice (some ⟨bx, ox, none⟩) 1 cx := rfl
      generalize initA [.slice (some ⟨b, o, none⟩) n (n + 1), .int .i64 (i : Int), .slice (some ⟨bx, ox, none⟩) 1 cx] = a at i0 i1 i2
      have ll1 : ∀ (p : Option Addr) (n c : Nat), sLens A1 false (.slice p n c) = some (.int .i64 n, A1) := fun _ _ _ => rfl
      simp (maxSteps := 1000000) (disch := omega) only [stepS, reduceIte, Nat.reduceBEq, Nat.reduceEqDiff, tupleOf, stepT, i0, i1, i2, s1, ll1, capQ_none hcn]
      rw [capW_slice]
      intro c' hc'
      simp (maxSteps := 1000000) (disch := omega) only [stepS, reduceIte, Nat.reduceBEq, Nat.reduceEqDiff, tupleOf, stepT, i0, i1, i2, s2, s3, ll1]
      refine ovl_spec hov a2 (by omega) a1 hne (by omega) (by omega) (by omega) ?_
      simp (maxSteps := 1000000) (disch := omega) only [stepS, reduceIte, Nat.reduceBEq, Nat.reduceEqDiff, tupleOf, stepT, i0, i1, i2, s3, s4, cp1, s5, cp2, ll1]
      exact hfin
    · -- there is no room
      rw [← hqq, hRR]
      have a1 : (A.set b (.row R .own sz true))[b]? = some (.row R .own sz true) := List.getElem?_set_self hbl
      have a2 : (A.set b (.row R .own sz true))[bx]? = some (.row rx .own sz exx) := by rw [List.getElem?_set_ne (Ne.symm hne)]; exact x3
      have al : (A.set b (.row R .own sz true)).length = A.length := by simp
      have ag : ∀ k bl, A[k]? = some bl → k ≠ b → (A.set b (.row R .own sz true))[k]? = some bl := fun k bl hk hkb => by rw [List.getElem?_set_ne (Ne.symm hkb)]; exact hk
      generalize A.set b (.row R .own sz true) = A1 at a1 a2 al ag
      have hcn : sCapn A1 (.slice (some ⟨b, o, none⟩) n n) = some (.int .i64 n, A1) := by
        unfold sCapn
        simp only [a1]
        rw [if_pos ⟨hsz0, by rw [← hqq]; exact hR.symm⟩]
      have s1 := sll_lo (l := i) (c := n) (n := n) (o := o) a1 (by omega) (by omega) (x := (i : Int)) rfl
      have s2 := sll_hi (k := i) (c := n) (n := n) (o := o) a1 (by omega) (x := (i : Int)) rfl
      rw [← hp] at s1
      have hap : sAppz A1 (.slice (some ⟨b, o, none⟩) i n) (.int .i64 ((n : Int) + ((1 : Nat) : Int) - (i : Int))) z bytes = some (.slice (some ⟨A1.length, 0, none⟩) (n + 1) (n + 1), A1 ++ [.row ((R.drop o).take p ++ (List.replicate (n + 1 - i) z).flatten) .own sz false]) := by
        have e1 : ((n : Int) + ((1 : Nat) : Int) - (i : Int)).toNat = n + 1 - i := by omega
        have hzl : (List.replicate (n + 1 - i) z).flatten.length = (n + 1 - i) * sz := by simp [hz]
        have hzo : ones (List.replicate (n + 1 - i) z).flatten = true := by
          unfold ones at hz1 ⊢
          rw [List.all_eq_true] at hz1 ⊢
          intro w hw
          rw [List.mem_flatten] at hw
          obtain ⟨l, hl, hw⟩ := hw
          rw [List.mem_replicate] at hl
          rw [hl.2] at hw
          exact hz1 w hw
        have hA : appA A1 (.slice (some ⟨b, o, none⟩) i n) (List.replicate (n + 1 - i) z).flatten (n + 1 - i) sz bytes = some (.slice (some ⟨A1.length, 0, none⟩) (i + (n + 1 - i)) (i + (n + 1 - i)), A1 ++ [.row ((R.drop o).take p ++ (List.replicate (n + 1 - i) z).flatten) .own sz false]) := by
          refine appA_none (r := ((R.drop o).take p, A1, i)) (by omega) ?_ (by rw [show i + (n + 1 - i) = n + 1 by omega]; exact hbb) hb0 hzl hzo (appF_own a1) ?_
          · unfold appBase
            simp only [a1]
            have hlt : R.length < o + (i + (n + 1 - i)) * sz := by
              rw [show i + (n + 1 - i) = n + 1 by omega, Nat.succ_mul, ← hqq, hR]
              omega
            rw [if_pos ⟨trivial, hsz0, by rw [← hp]; omega⟩, if_pos ⟨trivial, hlt⟩, ← hp]
          · unfold appI
            simp only [a1]
            rw [if_neg (fun h => by omega)]
        unfold sAppz
        simp only [asI, Option.bind_some]
        rw [if_pos ⟨by omega, by omega⟩, e1, hz, hA, show i + (n + 1 - i) = n + 1 by omega]
      obtain ⟨Z, hZ⟩ : ∃ Z, Z = (R.drop o).take p ++ (List.replicate (n + 1 - i) z).flatten := ⟨_, rfl⟩
      have hZl : Z.length = q + sz := by
        rw [hZ, List.length_append, List.length_take, List.length_drop, hR]
        have : (List.replicate (n + 1 - i) z).flatten.length = (n + 1 - i) * sz := by simp [hz]
        rw [this, Nat.sub_mul, Nat.succ_mul, ← hqq, ← hp]
        omega
      have hZj : ∀ j, j < p → Z[j]? = es.flatten[j]? := fun j hj => by
        rw [hZ, List.getElem?_append_left (by rw [List.length_take, List.length_drop]; omega), List.getElem?_take_of_lt hj, List.getElem?_drop, hRj _ (by omega)]
      rw [← hZ] at hap
      clear hZ
      have b1 : (A1 ++ [Blk.row Z .own sz false])[A1.length]? = some (.row Z .own sz false) := get_last _ _
      have b2 : (A1 ++ [Blk.row Z .own sz false])[bx]? = some (.row rx .own sz exx) := (Le.push _ _).get a2
      have b3 : (A1 ++ [Blk.row Z .own sz false])[b]? = some (.row R .own sz true) := (Le.push _ _).get a1
      have bl : (A1 ++ [Blk.row Z .own sz false]).length = A1.length + 1 := by simp
      have bg : ∀ k bl, A1[k]? = some bl → (A1 ++ [Blk.row Z .own sz false])[k]? = some bl := fun k bl h => (Le.push _ _).get h
      generalize A1 ++ [Blk.row Z .own sz false] = B1 at b1 b2 b3 bl bg hap
      have s3 := sll_lo (l := i) (c := n + 1) (n := n + 1) (o := 0) b1 (by omega) (by omega) (x := (i : Int)) rfl
      rw [← hp] at s3
      have cp1 := copy_val (n := n + 1 - i) (c := n + 1 - i) (m := 1) (c2 := cx) (o := 0 + p) (o' := ox) (k := 1) (vs := e) b1 b2 (by decide) hsz0 (by omega) (by omega) x4 hxe.symm heo (by omega)
      have c1 : (B1.set A1.length (.row (setAll Z (0 + p) e) .own sz false))[A1.length]? = some (.row (setAll Z (0 + p) e) .own sz false) := List.getElem?_set_self (by omega)
      have c3 : (B1.set A1.length (.row (setAll Z (0 + p) e) .own sz false))[b]? = some (.row R .own sz true) := by rw [List.getElem?_set_ne (by omega)]; exact b3
      have l1 : (setAll Z (0 + p) e).length = q + sz := by rw [setAll_lengthX _ _ _ (by omega), hel]; omega
      have s4 := sll_lo (l := i + 1) (c := n + 1) (n := n + 1) (o := 0) c1 (by omega) (by omega) (x := (i : Int) + ((1 : Nat) : Int)) (by omega)
      rw [i1p] at s4
      have s5 := sll_lo (l := i) (c := n) (n := n) (o := o) c3 (by omega) (by omega) (x := (i : Int)) rfl
      rw [← hp] at s5
      have cp2 := copy_val (n := n + 1 - (i + 1)) (c := n + 1 - (i + 1)) (m := n - i) (c2 := n - i) (o := 0 + (p + sz)) (o' := o + p) (k := n - i) (vs := vs) c1 c3 (by decide) hsz0 (by omega) (by omega) (by rw [hnp]; omega) hvsD hvs (by omega)
      have hss : (B1.set A1.length (.row (setAll Z (0 + p) e) .own sz false)).set A1.length (.row (setAll (setAll Z (0 + p) e) (0 + (p + sz)) vs) .own sz false) = B1.set A1.length (.row (setAll (setAll Z (0 + p) e) (0 + (p + sz)) vs) .own sz false) := List.set_set ..
      rw [hss] at cp2
      have hfin := hq (.slice (some ⟨A1.length, 0, none⟩) (n + 1) (n + 1)) (B1.set A1.length (.row (setAll (setAll Z (0 + p) e) (0 + (p + sz)) vs) .own sz false)) ?_ ⟨ins_ok he hel heo, ?_⟩ ⟨by simp; omega, ?_⟩ ?_
      rotate_left
      · have hlen := hl.len
        refine Le.of_get (fun k hk => ?_) (by simp; omega)
        have hk2 : A0[k]? = some A0[k] := List.getElem?_eq_getElem hk
        rw [List.getElem?_set_ne (by omega), hk2]
        exact bg k _ (ag k _ (hl.get hk2) (by omega))
      · have e1 : (es.take i ++ e :: es.drop i).length * sz = q + sz := by
          rw [List.length_append, List.length_cons, List.length_take, List.length_drop, Nat.min_eq_left (by omega), show i + (es.length - i + 1) = n + 1 by omega, Nat.succ_mul, ← hqq]
        have hlen := hl.len
        refine ⟨by rw [flatL (ins_ok he hel heo)], .inr (.inr ⟨A1.length, 0, n + 1, setAll (setAll Z (0 + p) e) (0 + (p + sz)) vs, false, by rw [List.length_append, List.length_cons, List.length_take, List.length_drop]; congr 1; omega, by rw [List.length_append, List.length_cons, List.length_take, List.length_drop]; omega, by omega, List.getElem?_set_self (by omega), ?_, ?_⟩)⟩
        · rw [e1, setAll_lengthX _ _ _ (by omega), l1]
          omega
        · intro j hj
          rw [e1] at hj
          rw [flat_ins he hel (by omega) hp (by rw [hqq, hn]) j hj, setAll_getX _ _ _ (by omega), hvsl, Nat.zero_add]
          by_cases j1 : j < p
          · rw [if_neg (by omega), if_pos j1, setAll_getX _ _ _ (by omega), if_neg (by omega)]
            rw [Nat.zero_add]
            exact hZj j (by omega)
          · rw [if_neg j1]
            by_cases j2 : j < p + sz
            · rw [if_neg (by omega), if_pos j2, setAll_getX _ _ _ (by omega), if_pos (by omega)]
              congr 1; omega
            · rw [if_pos (by omega), if_neg j2, hvsj _ (by omega)]
              congr 1; omega
      · intro k bl2 hk hkv
        have hkb : k ≠ b := fun h => hkv (by rw [h]; simp [blkOf])
        have hkl := lt_of_get hk
        rw [List.getElem?_set_ne (by omega)]
        exact bg k _ (ag k bl2 hk hkb)
      · intro j hj
        simp [blkOf] at hj
        exact .inr (by omega)
      refine ACalls.of_fits hm hfit rfl ?_
      unfold icG_insert
      have i0 : initA [.slice (some ⟨b, o, none⟩) n n, .int .i64 (i : Int), .slice (some ⟨bx, ox, none⟩) 1 cx] 0 = .slice (some ⟨b, o, none⟩) n n := rfl
      have i1 : initA [.slice (some ⟨b, o, none⟩) n n, .int .i64 (i : Int), .slice (some ⟨bx, ox, none⟩) 1 cx] 1 = .int .i64 (i : Int) := rfl
      have i2 : initA [.slice (some ⟨b, o, none⟩) n n, .int .i64 (i : Int), .slice (some ⟨bx, ox, none⟩) 1 cx] 2 = .slice (some ⟨bx, ox, none⟩) 1 cx := rfl
      generalize initA [.slice (some ⟨b, o, none⟩) n n, .int .i64 (i : Int), .slice (some ⟨bx, ox, none⟩) 1 cx] = a at i0 i1 i2
      have ll1 : ∀ (B : AH) (p : Option Addr) (n c : Nat), sLens B false (.slice p n c) = some (.int .i64 n, B) := fun _ _ _ _ => rfl
      simp (maxSteps := 1000000) (disch := omega) only [stepS, reduceIte, Nat.reduceBEq, Nat.reduceEqDiff, tupleOf, stepT, i0, i1, i2, s1, ll1, capQ_some hcn, s2, hap, s3, cp1, s4, s5, cp2]
      exact hfin
end
end Go.AS


namespace Go.AS
open Go
set_option linter.unusedVariables false
set_option linter.unusedSimpArgs false
set_option maxRecDepth 100000
/-! slices.Delete of one element of a slice of the call's own. -/
noncomputable def icG_delete (sz bytes : Nat) (z : List Value) : IC :=
  (.seq (.ops [
    ⟨(some 6), none, false, .mov (.const (.slice none 0 0))⟩]) (.seq (.ops [
    ⟨(some 8), none, false, .mov (.tmp 0)⟩,
    ⟨(some 9), none, false, .mov (.tmp 1)⟩,
    ⟨(some 10), none, false, .mov (.tmp 2)⟩,
    ⟨(some 11), none, false, .mov (.tmp 0)⟩,
    ⟨(some 12), none, false, .lens false (.tmp 11)⟩,
    ⟨(some 13), none, false, .sll (.tmp 8) (some (.tmp 9)) (some (.tmp 10)) (some (.tmp 12)) sz⟩]) (.seq (.seq (.ops [
    ⟨(some 14), none, false, .mov (.tmp 1)⟩,
    ⟨(some 15), none, false, .mov (.tmp 2)⟩,
    ⟨(some 16), none, false, .bin .eql (.tmp 14) (.tmp 15)⟩]) (.cond (.tmp 16) (.seq (.ops [
    ⟨(some 17), none, false, .mov (.tmp 0)⟩,
    ⟨(some 6), none, false, .mov (.tmp 17)⟩]) .ret) .skip)) (.seq (.ops [
    ⟨(some 18), none, false, .mov (.tmp 0)⟩,
    ⟨(some 19), none, false, .lens false (.tmp 18)⟩,
    ⟨(some 7), none, false, .mov (.tmp 19)⟩]) (.seq (.draw [
    ⟨(some 20), none, false, .mov (.tmp 0)⟩,
    ⟨(some 21), none, false, .mov (.tmp 1)⟩,
    ⟨(some 22), none, false, .sll (.tmp 20) none (some (.tmp 21)) none sz⟩,
    ⟨(some 23), none, false, .mov (.tmp 0)⟩,
    ⟨(some 24), none, false, .mov (.tmp 2)⟩,
    ⟨(some 25), none, false, .sll (.tmp 23) (some (.tmp 24)) none none sz⟩,
    ⟨(some 26), none, false, .app (.tmp 22) (.tmp 25) sz bytes⟩,
    ⟨(some 0), none, false, .mov (.tmp 26)⟩]) (.seq (.ops [
    ⟨(some 27), none, false, .mov (.tmp 0)⟩,
    ⟨(some 28), none, false, .mov (.tmp 0)⟩,
    ⟨(some 29), none, false, .lens false (.tmp 28)⟩,
    ⟨(some 30), none, false, .mov (.tmp 7)⟩,
    ⟨(some 31), none, false, .sll (.tmp 27) (some (.tmp 29)) (some (.tmp 30)) none sz⟩,
    ⟨none, none, false, .clr (.tmp 31) z⟩]) (.seq (.ops [
    ⟨(some 32), none, false, .mov (.tmp 0)⟩,
    ⟨(some 6), none, false, .mov (.tmp 32)⟩]) .ret)))))))
section
variable {A A0 : AH} {v : Value} {sz : Nat} {es : List (List Value)}
theorem flat_del (he : ∀ e ∈ es, e.length = sz ∧ ones e = true) {i p q : Nat} (hi : i < es.length) (hp : p = i * sz) (hq : q = es.length * sz) (j : Nat) (hj : j < q - sz) :
    (es.take i ++ es.drop (i + 1)).flatten[j]? = if j < p then es.flatten[j]? else es.flatten[j + sz]? := by
  have hL := flatL he
  have hpq : p + sz ≤ q := by
    rw [hp, hq]
    have := Nat.mul_le_mul_right sz (show i + 1 ≤ es.length by omega)
    rw [Nat.succ_mul] at this
    exact this
  rw [List.flatten_append, flat_take he, flat_drop he, Nat.succ_mul, ← hp, List.getElem?_append]
  rw [List.length_take, hL, ← hq, Nat.min_eq_left (by omega)]
  by_cases h1 : j < p
  · rw [if_pos h1, if_pos h1, List.getElem?_take_of_lt h1]
  · rw [if_neg h1, if_neg h1, List.getElem?_drop]
    congr 1; omega
theorem delete1_spec {G : Nat} {P : Program} {f : FuncId} {z : List Value} {bytes i : Nat} {x : Int} {Q : Value → AH → Prop} (hm : P.follows .mixedOrders = true) (hfit : Fits P G f (icG_delete sz bytes z) [.tmp 6] 3) (hsz0 : 0 < sz) (hz : z.length = sz) (hz1 : ones z = true) (hb0 : 0 < bytes)
    (hl : Le A0 A) (h : OwnE A0.length A sz v es) (hi : i < es.length) (hx : x = (i : Int) + 1) (hbb : 2 * (es.length * bytes) ≤ 2 ^ 48)
    (hq : ∀ u B, Le A0 B → OwnE A0.length B sz u (es.take i ++ es.drop (i + 1)) → KeepV A v B → (∀ j ∈ blkOf u, j ∈ blkOf v) → Q u B) : ACalls G P f [v, .int .i64 (i : Int), .int .i64 x] Q A := by
  subst hx
  obtain ⟨he, h00, h0⟩ := h
  obtain ⟨b, o, c, rc, ex, rfl, k1, k2, k3, k4, k5⟩ : ∃ i o c rc ex, v = .slice (some ⟨i, o, none⟩) es.length c ∧ es.length ≤ c ∧ A0.length ≤ i ∧ A[i]? = some (.row rc .own sz ex) ∧ o + es.length * sz ≤ rc.length ∧ ∀ j, j < es.length * sz → rc[o + j]? = es.flatten[j]? := by
    rcases h0 with ⟨_, hz⟩ | ⟨_, hz⟩ | h0
    · omega
    · omega
    · exact h0
  clear h0
  obtain ⟨n, hn⟩ : ∃ n, n = es.length := ⟨_, rfl⟩
  obtain ⟨p, hp⟩ : ∃ p, p = i * sz := ⟨_, rfl⟩
  obtain ⟨q, hqq⟩ : ∃ q, q = n * sz := ⟨_, rfl⟩
  rw [← hn] at hi k1 k4 k5 hbb h00 ⊢
  rw [← hqq] at k4 k5 h00
  have hll : n < 2 ^ 48 := by
    have : n * 1 ≤ n * bytes := Nat.mul_le_mul_left _ hb0
    omega
  have hpq : p + sz ≤ q := by
    rw [hp, hqq]
    have := Nat.mul_le_mul_right sz (show i + 1 ≤ n by omega)
    rw [Nat.succ_mul] at this
    exact this
  have i1p : (i + 1) * sz = p + sz := by rw [Nat.succ_mul, hp]
  have n1q : (n - 1) * sz = q - sz := by rw [Nat.sub_mul, Nat.one_mul, hqq]
  have hbl := lt_of_get k3
  have s0 : sSll A (.slice (some ⟨b, o, none⟩) n c) (some (.int .i64 (i : Int))) (some (.int .i64 ((i : Int) + 1))) (some (.int .i64 (n : Int))) sz = some (.slice (some ⟨b, o + i * sz, some 1⟩) (i + 1 - i) (n - i), A) := by
    unfold sSll
    have hb : boundsA n c (some (.int .i64 (i : Int))) (some (.int .i64 ((i : Int) + 1))) (some (.int .i64 (n : Int))) = some (i, i + 1, n) := by
      unfold boundsA
      simp only [Option.bind_some, asI]
      rw [if_pos ⟨by omega, by omega⟩]
      simp only [Option.bind_some]
      rw [if_pos ⟨by omega, by omega⟩]
      simp only [Option.bind_some]
      rw [if_pos ⟨by omega, by omega⟩]
      simp
    simp only [hb, Option.bind_some, rowSz, k3]
    rw [if_neg (by simp; omega), if_pos ⟨by simp, trivial, by omega⟩]
  have s1 := sll_hi (k := i) (c := c) (n := n) (o := o) k3 (by omega) (x := (i : Int)) rfl
  have s2 := sll_lo (l := i + 1) (c := c) (n := n) (o := o) k3 (by omega) k1 (x := (i : Int) + 1) (by omega)
  rw [i1p] at s2
  -- what is put over it
  obtain ⟨rc1, B1, hap, c1, c2, c3, c4, c5⟩ : ∃ rc1 B1, sApp A (.slice (some ⟨b, o, none⟩) i c) (.slice (some ⟨b, o + (p + sz), none⟩) (n - (i + 1)) (c - (i + 1))) sz bytes = some (.slice (some ⟨b, o, none⟩) (n - 1) c, B1) ∧ B1[b]? = some (.row rc1 .own sz ex) ∧ rc1.length = rc.length ∧
      (∀ j, j < q - sz → rc1[o + j]? = if j < p then es.flatten[j]? else es.flatten[j + sz]?) ∧ B1.length = A.length ∧ ∀ k bl, A[k]? = some bl → k ≠ b → B1[k]? = some bl := by
    by_cases hlast : n - (i + 1) = 0
    · refine ⟨rc, A, ?_, k3, rfl, fun j hj => ?_, rfl, fun k bl h _ => h⟩
      · unfold sApp
        simp only [hlast]
        have e0 : rdSl A sz (.slice (some ⟨b, o + (p + sz), none⟩) 0 (c - (i + 1))) = some [] := by
          unfold rdSl; simp
        rw [e0, Option.bind_some]
        unfold appA
        rw [appI_zero, Option.none_or]
        unfold appA1
        rw [appF_zero, Option.none_or]
        unfold appA0
        rw [if_pos rfl, show n - 1 = i by omega]
      · have : q = p + sz := by
          rw [hqq, show n = i + 1 by omega, i1p]
        rw [if_pos (by omega)]
        exact k5 j (by omega)
    · obtain ⟨vs, hvs⟩ : ∃ vs, vs = (rc.drop (o + (p + sz))).take ((n - (i + 1)) * sz) := ⟨_, rfl⟩
      have hkz : (n - (i + 1)) * sz = q - (p + sz) := by rw [Nat.sub_mul, i1p, hqq]
      have hvl : vs.length = q - (p + sz) := by rw [hvs, hkz, List.length_take, List.length_drop]; omega
      have hvj : ∀ j, j < q - (p + sz) → vs[j]? = es.flatten[p + sz + j]? := fun j hj => by
        rw [hvs, hkz, List.getElem?_take_of_lt hj, List.getElem?_drop, Nat.add_assoc, k5 _ (by omega)]
      have hvo : ones vs = true := by
        have h1 := ones_flatten he
        unfold ones at h1 ⊢
        rw [List.all_eq_true] at h1 ⊢
        intro w hw
        obtain ⟨j, hj, rfl⟩ := List.getElem_of_mem hw
        have := hvj j (by omega)
        rw [List.getElem?_eq_getElem hj] at this
        exact h1 _ (List.mem_of_getElem? this.symm)
      refine ⟨setAll rc (o + p) vs, A.set b (.row (setAll rc (o + p) vs) .own sz ex), ?_, List.getElem?_set_self hbl, setAll_length _ _ _ (by omega), fun j hj => ?_, by simp, fun k bl h hk => by rw [List.getElem?_set_ne (Ne.symm hk)]; exact h⟩
      · unfold sApp
        simp only
        rw [rd_row k3 (by decide) (by omega) (by rw [hkz]; omega), Option.bind_some, ← hvs]
        have hI : appI A (.slice (some ⟨b, o, none⟩) i c) vs (n - (i + 1)) sz bytes = some (.slice (some ⟨b, o, none⟩) (i + (n - (i + 1))) c, A.set b (.row (setAll rc (o + i * sz) vs) .own sz ex)) := by
          unfold appI
          simp only [k3]
          have hx1 : o + (i + (n - (i + 1))) * sz ≤ rc.length := by rw [show i + (n - (i + 1)) = n - 1 by omega, n1q]; omega
          have hx2 : 2 * ((i + (n - (i + 1))) * bytes) ≤ 2 ^ 48 := by
            rw [show i + (n - (i + 1)) = n - 1 by omega]
            have : (n - 1) * bytes ≤ n * bytes := Nat.mul_le_mul_right _ (by omega)
            omega
          rw [if_pos ⟨by omega, trivial, hsz0, by omega, hx1, hx2, hb0, by rw [hvl, hkz], hvo⟩]
        unfold appA
        rw [hI, show i + (n - (i + 1)) = n - 1 by omega, hp]
        rfl
      · rw [setAll_getX _ _ _ (by omega), hvl]
        by_cases j1 : j < p
        · rw [if_neg (by omega), if_pos j1]
          exact k5 j (by omega)
        · rw [if_pos (by omega), if_neg j1, hvj _ (by omega)]
          congr 1; omega
  have s3 : sSll B1 (.slice (some ⟨b, o, none⟩) (n - 1) c) (some (.int .i64 ((n - 1 : Nat) : Int))) (some (.int .i64 (n : Int))) none sz = some (.slice (some ⟨b, o + (q - sz), none⟩) 1 (c - (n - 1)), B1) := by
    unfold sSll
    have hb : boundsA (n - 1) c (some (.int .i64 ((n - 1 : Nat) : Int))) (some (.int .i64 (n : Int))) none = some (n - 1, n, c) := by
      unfold boundsA
      simp only [Option.bind_some, asI]
      rw [if_pos ⟨by omega, by omega⟩]
      simp only [Option.bind_some]
      rw [if_pos ⟨by omega, by omega⟩]
      simp
    simp only [hb, Option.bind_some, rowSz, c1]
    rw [if_neg (by simp), if_neg (by simp), if_pos ⟨trivial, rfl⟩, n1q, show n - (n - 1) = 1 by omega]
  have hcl : sClr B1 (.slice (some ⟨b, o + (q - sz), none⟩) 1 (c - (n - 1))) z = some (undef, B1.set b (.row (setAll rc1 (o + (q - sz)) z) .own sz ex)) := by
    unfold sClr
    simp only
    have e1 : (List.replicate (0 + 1) z).flatten = z := by simp
    rw [e1]
    unfold wr
    simp only [c1]
    rw [if_pos ⟨by rw [hz, c2]; omega, hz1⟩]
    rfl
  have hfin := hq (.slice (some ⟨b, o, none⟩) (n - 1) c) (B1.set b (.row (setAll rc1 (o + (q - sz)) z) .own sz ex)) ?_ ⟨?_, ?_⟩ ⟨by simp; omega, ?_⟩ (fun j hj => hj)
  rotate_left
  · have hlen := hl.len
    refine Le.of_get (fun k hk => ?_) (by simp; omega)
    have hk2 : A0[k]? = some A0[k] := List.getElem?_eq_getElem hk
    rw [List.getElem?_set_ne (by omega), hk2]
    exact c5 k _ (hl.get hk2) (by omega)
  · intro y hy
    rw [List.mem_append] at hy
    rcases hy with hy | hy
    · exact he y (List.mem_of_mem_take hy)
    · exact he y (List.mem_of_mem_drop hy)
  · have hlen2 : (es.take i ++ es.drop (i + 1)).length = n - 1 := by rw [List.length_append, List.length_take, List.length_drop]; omega
    have hok : ∀ y ∈ es.take i ++ es.drop (i + 1), y.length = sz ∧ ones y = true := by
      intro y hy
      rw [List.mem_append] at hy
      rcases hy with hy | hy
      · exact he y (List.mem_of_mem_take hy)
      · exact he y (List.mem_of_mem_drop hy)
    refine ⟨flatL hok, .inr (.inr ⟨b, o, c, setAll rc1 (o + (q - sz)) z, ex, by rw [hlen2], by omega, k2, List.getElem?_set_self (by omega), ?_, fun j hj => ?_⟩)⟩
    · rw [hlen2, n1q, setAll_length _ _ _ (by rw [hz, c2]; omega), c2]
      omega
    · rw [hlen2, n1q] at hj
      rw [flat_del he (by omega) hp (by rw [hqq, hn]) j hj, setAll_getX _ _ _ (by omega), if_neg (by omega)]
      exact c3 j hj
  · intro k bl hk hkv
    have hkb : k ≠ b := fun h => hkv (by rw [h]; simp [blkOf])
    rw [List.getElem?_set_ne (Ne.symm hkb)]
    exact c5 k bl hk hkb
  refine ACalls.of_fits hm hfit rfl ?_
  unfold icG_delete
  have i0 : initA [.slice (some ⟨b, o, none⟩) n c, .int .i64 (i : Int), .int .i64 ((i : Int) + 1)] 0 = .slice (some ⟨b, o, none⟩) n c := rfl
  have i1 : initA [.slice (some ⟨b, o, none⟩) n c, .int .i64 (i : Int), .int .i64 ((i : Int) + 1)] 1 = .int .i64 (i : Int) := rfl
  have i2 : initA [.slice (some ⟨b, o, none⟩) n c, .int .i64 (i : Int), .int .i64 ((i : Int) + 1)] 2 = .int .i64 ((i : Int) + 1) := rfl
  generalize initA [.slice (some ⟨b, o, none⟩) n c, .int .i64 (i : Int), .int .i64 ((i : Int) + 1)] = a at i0 i1 i2
  have ll1 : ∀ (B : AH) (p : Option Addr) (n c : Nat), sLens B false (.slice p n c) = some (.int .i64 n, B) := fun _ _ _ _ => rfl
  simp (maxSteps := 1000000) (disch := omega) only [stepS, reduceIte, Nat.reduceBEq, Nat.reduceEqDiff, tupleOf, stepT, i0, i1, i2, ll1, s0, s1, s2, hap, s3, hcl]
  exact hfin
end
end Go.AS


/-! sync.Mutex, one goroutine: Lock of a lock that is free, Unlock deferred, out of the kit's contracts. -/
namespace Go.AS
open Go Go.Conc.Locks
set_option linter.unusedVariables false
set_option linter.unusedSimpArgs false

theorem setCell_wrote {w : World} {b o : Nat} {rc : Array Value} {T : TypeId} {fr : Nat × Nat} (v : Value) (hh : w.heap[b]? = some (.cells rc T fr)) (ho : o < rc.size) :
    Wrote w (w.setCell ⟨b, o, none⟩ v) b rc (rc.setIfInBounds o v) T fr o [v] := by
  refine ⟨?_, by simp, fun j => ?_, fun r hr => ?_, by simp [World.setCell], rfl, rfl, rfl⟩
  · simp [World.setCell, Array.getElem?_modify, hh]
  · rw [Array.getElem?_setIfInBounds]
    simp only [List.length_singleton]
    by_cases hj : o = j
    · subst hj
      rw [if_pos rfl, if_pos ho, if_pos (by omega)]; simp
    · rw [if_neg hj, if_neg (by omega)]
  · simp only [World.setCell, Array.getElem?_modify]
    rw [if_neg (by omega)]

section
variable {G : Nat} {P : Program} {L : MuLink} {A : AH} {c o : Nat} {cs : List Value} {ex : Bool}

theorem Rel.word {μ : Mu} {w : World} (hr : Rel G μ A w) (hc : A[c]? = some (.row cs .own 0 ex)) {x : Int} (ho : cs[o]? = some (.int .i32 x)) {e : Ent} (he : μ[c]? = some e) :
    w.cell? ⟨e.blk, e.off + o, none⟩ = some (.int .i32 x) ∧ w.frozen? ⟨e.blk, e.off + o, none⟩ = false ∧
    ∀ y : Int, Rel G μ (A.set c (.row (setAll cs o [.int .i32 y]) .own 0 ex)) (w.setCell ⟨e.blk, e.off + o, none⟩ (.int .i32 y)) ∧ Stp μ A w μ (A.set c (.row (setAll cs o [.int .i32 y]) .own 0 ex)) (w.setCell ⟨e.blk, e.off + o, none⟩ (.int .i32 y)) := by
  obtain ⟨rc, T, fr, g1, g2, g3, g4⟩ := hr.row c cs .own 0 ex e hc he (by decide)
  obtain ⟨_, v', g5, g6⟩ := g2 o _ ho
  obtain rfl := g6.int
  have hlt : e.off + o < rc.size := (Array.getElem?_eq_some_iff.1 g5).1
  have hol := lt_of_get ho
  obtain ⟨_, g7, _⟩ := g4.1 rfl
  have g7 : fr.1 = fr.2 := by rcases g7 with h | ⟨h, _⟩; exact h; cases h
  refine ⟨by simp [World.cell?, g1, g5], ?_, fun y => ?_⟩
  · obtain ⟨f1, f2⟩ := fr
    simp only [World.frozen?, g1]
    simp only at g7
    subst g7
    rw [Bool.and_eq_false_iff]
    rcases Nat.lt_or_ge (e.off + o) f1 with h | h
    · left; rw [decide_eq_false_iff_not]; omega
    · right; rw [decide_eq_false_iff_not]; omega
  · have hw := setCell_wrote (.int .i32 y) g1 hlt
    refine ⟨hr.write (vs := [.int .i32 y]) (vs' := [.int .i32 y]) hc he g1 (by simp; omega) rfl rfl (fun j v v' h1 h2 => ?_) hw, Stp.write hc he hw⟩
    cases j with
    | zero => simp at h1 h2; subst h1 h2; exact .flat rfl
    | succ j => simp at h1

theorem args_one {μ : Mu} {args' : Array Value} (h1 : args'.size = 1) (h2 : ∀ (j : Nat) v v', [Value.pointer (some ⟨c, o, none⟩)][j]? = some v → args'[j]? = some v' → VR μ v v') : ∃ e : Ent, μ[c]? = some e ∧ args' = #[.pointer (some ⟨e.blk, e.off + o, none⟩)] := by
  have h0 := h2 0 _ args'[0] rfl (by simp)
  obtain ⟨e, he, hv⟩ := h0.ptr_inv
  refine ⟨e, he, ?_⟩
  apply Array.ext h1
  intro j h3 h4
  have : j = 0 := by simp at h4; omega
  subst this
  simpa using hv

/-- Lock of a lock that is free. -/
theorem mu_lock (H : MuLib P L) {Q : Value → AH → Prop} (hc : A[c]? = some (.row cs .own 0 ex)) (ho : cs[o]? = some (.int .i32 0)) (hq : Q undef (A.set c (.row (setAll cs o [.int .i32 1]) .own 0 ex))) :
    ACalls G P L.lock [.pointer (some ⟨c, o, none⟩)] Q A := by
  intro μ args' w hr h1 h2
  obtain ⟨e, he, rfl⟩ := args_one h1 h2
  obtain ⟨k1, k2, k3⟩ := hr.word hc ho he
  refine (MuLone.lock_free H _ w k1 k2).mono ?_
  rintro e' w' ⟨rfl, rfl⟩
  exact ⟨undef, .tuple #[], μ, _, rfl, VR.undef _, (k3 1).1, (k3 1).2, hq⟩
/-- Unlock, deferred, of a lock that is held. -/
theorem mu_unlockD (H : MuLib P L) {Q : AH → Prop} (hc : A[c]? = some (.row cs .own 0 ex)) (ho : cs[o]? = some (.int .i32 1)) (hq : Q (A.set c (.row (setAll cs o [.int .i32 0]) .own 0 ex))) :
    ACallsD G P L.unlock [.pointer (some ⟨c, o, none⟩)] Q A := by
  intro μ args' w hr h1 h2
  obtain ⟨e, he, rfl⟩ := args_one h1 h2
  obtain ⟨k1, k2, k3⟩ := hr.word hc ho he
  refine ⟨?_, (MuLone.unlock_deferred H _ .returning w k1 k2).mono ?_⟩
  · unfold calleeOk
    rw [H.f_unlock]
    rfl
  · rintro e' u' w' ⟨rfl, rfl, rfl⟩
    exact ⟨.tuple #[], μ, _, rfl, rfl, (k3 0).1, (k3 0).2, hq⟩
end
end Go.AS


-- ALIAS Try G 0
-- Printed by gen.py (wip/tools): the abstract code of each function, and that it fits the program.
namespace Go.AS.C
open Go Go.Proofs
set_option maxRecDepth 100000
abbrev chantrylaw33_CacheHolds : FuncId := 4
abbrev cache_Of : FuncId := 6
abbrev chantrylaw33_awake : FuncId := 8
abbrev cache_Cache_Put : FuncId := 9
abbrev cache_Cache_Get : FuncId := 11
abbrev cache_Cache_Len : FuncId := 13
abbrev cache_Cache_Size : FuncId := 14
abbrev chantryref01_Texts : FuncId := 16
abbrev cache_Cache_IDs : FuncId := 17
abbrev sync_Mutex_Lock : FuncId := 19
abbrev sync_Mutex_Unlock : FuncId := 20
abbrev cache_Cache_take : FuncId := 21
abbrev cache_Cache_first : FuncId := 22
abbrev slices_Clone_byte_byte : FuncId := 23
abbrev cache_entry : FuncId := 27
abbrev cache_Cache_take_1 : FuncId := 28
abbrev cache_entry_29 : FuncId := 29
abbrev cache_entry_30 : FuncId := 30
abbrev cache_entry_40 : FuncId := 40
abbrev cache_entry_41 : FuncId := 41
/-- chantry/chantrylaw33.CacheHolds -/
noncomputable def ic_chantrylaw33_CacheHolds : IC :=
  (.seq (.ops [
    ⟨(some 4), none, false, .mov (.const (.bool false))⟩]) (.seq (.ops [
    ⟨(some 15), none, false, .mov (.tmp 0)⟩,
    ⟨(some 16), none, false, .call cache_Of [(.tmp 15)]⟩,
    ⟨(some 5), none, false, .mov (.tmp 16)⟩]) (.seq (.seq (.ops [
    ⟨(some 17), none, false, .mov (.tmp 1)⟩,
    ⟨(some 18), none, false, .lens false (.tmp 17)⟩,
    ⟨(some 19), none, false, .bin .gtr (.tmp 18) (.const (.int .i64 60))⟩,
    ⟨(some 20), none, false, .mov (.tmp 19)⟩,
    ⟨(some 21), (some (20, false)), false, .mov (.tmp 5)⟩,
    ⟨(some 22), (some (20, false)), false, .isnil (.pointer 55) (.tmp 21) false⟩,
    ⟨(some 23), none, false, .pick (.tmp 20) (.const (.bool true)) (.tmp 22)⟩]) (.cond (.tmp 23) (.seq (.ops [
    ⟨(some 24), none, false, .call chantrylaw33_awake []⟩,
    ⟨(some 4), none, false, .mov (.tmp 24)⟩]) .ret) .skip)) (.seq (.seq (.ops [
    ⟨(some 6), none, false, .mov (.const (.int .i64 0))⟩]) (.block 0 (.loop (.seq (.seq (.ops [
    ⟨(some 25), none, false, .mov (.tmp 6)⟩,
    ⟨(some 26), none, false, .mov (.tmp 1)⟩,
    ⟨(some 27), none, false, .lens false (.tmp 26)⟩,
    ⟨(some 28), none, false, .bin .lss (.tmp 25) (.tmp 27)⟩]) (.cond (.tmp 28) .skip (.exit 0))) (.seq (.block 1 (.seq (.seq (.ops [
    ⟨(some 31), none, false, .mov (.tmp 1)⟩,
    ⟨(some 32), none, false, .mov (.tmp 6)⟩,
    ⟨(some 33), none, false, .iaddr (.tmp 31) (.tmp 32) 3⟩,
    ⟨(some 34), none, false, .faddr (.tmp 33) 2⟩,
    ⟨(some 35), none, false, .load1 (.tmp 34)⟩,
    ⟨(some 36), none, false, .lens false (.tmp 35)⟩,
    ⟨(some 37), none, false, .bin .gtr (.tmp 36) (.const (.int .i64 200))⟩]) (.cond (.tmp 37) (.seq (.ops [
    ⟨(some 38), none, false, .call chantrylaw33_awake []⟩,
    ⟨(some 4), none, false, .mov (.tmp 38)⟩]) .ret) .skip)) (.seq (.draw [
    ⟨(some 39), none, false, .mov (.tmp 5)⟩,
    ⟨(some 40), none, false, .mov (.tmp 1)⟩,
    ⟨(some 41), none, false, .mov (.tmp 6)⟩,
    ⟨(some 42), none, false, .iaddr (.tmp 40) (.tmp 41) 3⟩,
    ⟨(some 43), none, false, .faddr (.tmp 42) 1⟩,
    ⟨(some 44), none, false, .load1 (.tmp 43)⟩,
    ⟨(some 45), none, false, .mov (.tmp 1)⟩,
    ⟨(some 46), none, false, .mov (.tmp 6)⟩,
    ⟨(some 47), none, false, .iaddr (.tmp 45) (.tmp 46) 3⟩,
    ⟨(some 48), none, false, .faddr (.tmp 47) 2⟩,
    ⟨(some 49), none, false, .load1 (.tmp 48)⟩,
    ⟨(some 50), none, false, .call cache_Cache_Put [(.tmp 39), (.tmp 44), (.tmp 49)]⟩]) (.seq (.seq (.ops [
    ⟨(some 51), none, false, .mov (.tmp 5)⟩,
    ⟨(some 52), none, false, .call cache_Cache_Size [(.tmp 51)]⟩,
    ⟨(some 53), none, false, .mov (.tmp 0)⟩,
    ⟨(some 54), none, false, .bin .gtr (.tmp 52) (.tmp 53)⟩,
    ⟨(some 55), none, false, .mov (.tmp 54)⟩,
    ⟨(some 56), (some (55, true)), false, .mov (.tmp 5)⟩,
    ⟨(some 57), (some (55, true)), false, .call cache_Cache_Size [(.tmp 56)]⟩,
    ⟨(some 58), (some (55, true)), false, .bin .gtr (.tmp 57) (.const (.int .i64 0))⟩,
    ⟨(some 59), none, false, .pick (.tmp 55) (.tmp 58) (.const (.bool false))⟩,
    ⟨(some 60), none, false, .mov (.tmp 59)⟩,
    ⟨(some 61), (some (60, false)), false, .mov (.tmp 5)⟩,
    ⟨(some 62), (some (60, false)), false, .call cache_Cache_Len [(.tmp 61)]⟩,
    ⟨(some 63), (some (60, false)), false, .mov (.tmp 5)⟩,
    ⟨(some 64), (some (60, false)), false, .call cache_Cache_IDs [(.tmp 63)]⟩,
    ⟨(some 65), (some (60, false)), false, .lens false (.tmp 64)⟩,
    ⟨(some 66), (some (60, false)), false, .bin .neq (.tmp 62) (.tmp 65)⟩,
    ⟨(some 67), none, false, .pick (.tmp 60) (.const (.bool true)) (.tmp 66)⟩]) (.cond (.tmp 67) (.seq (.ops [
    ⟨(some 4), none, false, .mov (.const (.bool false))⟩]) .ret) .skip)) (.seq (.ops [
    ⟨(some 7), none, false, .mov (.const (.int .i64 0))⟩]) (.block 2 (.loop (.seq (.seq (.ops [
    ⟨(some 68), none, false, .mov (.tmp 7)⟩,
    ⟨(some 69), none, false, .mov (.tmp 6)⟩,
    ⟨(some 70), none, false, .bin .leq (.tmp 68) (.tmp 69)⟩]) (.cond (.tmp 70) .skip (.exit 2))) (.seq (.block 3 (.seq (.ops [
    ⟨(some 8), none, false, .mov (.const (.bool true))⟩]) (.seq (.seq (.ops [
    ⟨(some 73), none, false, .mov (.tmp 7)⟩,
    ⟨(some 74), none, false, .bin .add (.tmp 73) (.const (.int .i64 1))⟩,
    ⟨(some 9), none, false, .mov (.tmp 74)⟩]) (.block 4 (.loop (.seq (.seq (.ops [
    ⟨(some 75), none, false, .mov (.tmp 9)⟩,
    ⟨(some 76), none, false, .mov (.tmp 6)⟩,
    ⟨(some 77), none, false, .bin .leq (.tmp 75) (.tmp 76)⟩]) (.cond (.tmp 77) .skip (.exit 4))) (.seq (.block 5 (.draw [
    ⟨(some 80), none, false, .mov (.tmp 8)⟩,
    ⟨(some 81), none, false, .mov (.tmp 80)⟩,
    ⟨(some 82), (some (81, true)), false, .mov (.tmp 1)⟩,
    ⟨(some 83), (some (81, true)), false, .mov (.tmp 9)⟩,
    ⟨(some 84), (some (81, true)), false, .iaddr (.tmp 82) (.tmp 83) 3⟩,
    ⟨(some 85), (some (81, true)), false, .faddr (.tmp 84) 1⟩,
    ⟨(some 86), (some (81, true)), false, .load1 (.tmp 85)⟩,
    ⟨(some 87), (some (81, true)), false, .mov (.tmp 1)⟩,
    ⟨(some 88), (some (81, true)), false, .mov (.tmp 7)⟩,
    ⟨(some 89), (some (81, true)), false, .iaddr (.tmp 87) (.tmp 88) 3⟩,
    ⟨(some 90), (some (81, true)), false, .faddr (.tmp 89) 1⟩,
    ⟨(some 91), (some (81, true)), false, .load1 (.tmp 90)⟩,
    ⟨(some 92), (some (81, true)), false, .bin .neq (.tmp 86) (.tmp 91)⟩,
    ⟨(some 93), none, false, .pick (.tmp 81) (.tmp 92) (.const (.bool false))⟩,
    ⟨(some 8), none, false, .mov (.tmp 93)⟩])) (.ops [
    ⟨(some 78), none, false, .mov (.tmp 9)⟩,
    ⟨(some 79), none, false, .bin .add (.tmp 78) (.const (.int .i64 1))⟩,
    ⟨(some 9), none, false, .mov (.tmp 79)⟩])))))) (.seq (.ops [
    ⟨(some 95), none, false, .mov (.tmp 5)⟩,
    ⟨(some 96), none, false, .mov (.tmp 1)⟩,
    ⟨(some 97), none, false, .mov (.tmp 7)⟩,
    ⟨(some 98), none, false, .iaddr (.tmp 96) (.tmp 97) 3⟩,
    ⟨(some 99), none, false, .faddr (.tmp 98) 1⟩,
    ⟨(some 100), none, false, .load1 (.tmp 99)⟩,
    ⟨(some 101), none, false, .call cache_Cache_Get [(.tmp 95), (.tmp 100)]⟩,
    ⟨(some 94), none, false, .mov (.tmp 101)⟩,
    ⟨(some 102), none, false, .ext (.tmp 94) 0⟩,
    ⟨(some 103), none, false, .ext (.tmp 94) 1⟩,
    ⟨(some 10), none, false, .mov (.tmp 102)⟩,
    ⟨(some 11), none, false, .mov (.tmp 103)⟩]) (.seq (.draw [
    ⟨(some 104), none, false, .mov (.tmp 11)⟩,
    ⟨(some 105), none, false, .mov (.tmp 104)⟩,
    ⟨(some 106), (some (105, true)), false, .mov (.tmp 8)⟩,
    ⟨(some 107), none, false, .pick (.tmp 105) (.tmp 106) (.const (.bool false))⟩,
    ⟨(some 108), none, false, .mov (.tmp 107)⟩,
    ⟨(some 109), (some (108, true)), false, .mov (.tmp 10)⟩,
    ⟨(some 110), (some (108, true)), false, .b2s (.tmp 109)⟩,
    ⟨(some 111), (some (108, true)), false, .mov (.tmp 1)⟩,
    ⟨(some 112), (some (108, true)), false, .mov (.tmp 7)⟩,
    ⟨(some 113), (some (108, true)), false, .iaddr (.tmp 111) (.tmp 112) 3⟩,
    ⟨(some 114), (some (108, true)), false, .faddr (.tmp 113) 2⟩,
    ⟨(some 115), (some (108, true)), false, .load1 (.tmp 114)⟩,
    ⟨(some 116), (some (108, true)), false, .b2s (.tmp 115)⟩,
    ⟨(some 117), (some (108, true)), false, .bin .neq (.tmp 110) (.tmp 116)⟩,
    ⟨(some 118), none, false, .pick (.tmp 108) (.tmp 117) (.const (.bool false))⟩]) (.cond (.tmp 118) (.seq (.ops [
    ⟨(some 4), none, false, .mov (.const (.bool false))⟩]) .ret) .skip)))))) (.ops [
    ⟨(some 71), none, false, .mov (.tmp 7)⟩,
    ⟨(some 72), none, false, .bin .add (.tmp 71) (.const (.int .i64 1))⟩,
    ⟨(some 7), none, false, .mov (.tmp 72)⟩])))))))))) (.ops [
    ⟨(some 29), none, false, .mov (.tmp 6)⟩,
    ⟨(some 30), none, false, .bin .add (.tmp 29) (.const (.int .i64 1))⟩,
    ⟨(some 6), none, false, .mov (.tmp 30)⟩])))))) (.seq (.ops [
    ⟨(some 12), none, false, .mov (.const (.pointer none))⟩]) (.seq (.ops [
    ⟨(some 119), none, false, .mov (.tmp 12)⟩,
    ⟨(some 120), none, false, .call cache_Cache_Put [(.tmp 119), (.const (.string ⟨#[97]⟩)), (.const (.slice none 0 0))]⟩]) (.seq (.ops [
    ⟨(some 122), none, false, .mov (.tmp 12)⟩,
    ⟨(some 123), none, false, .call cache_Cache_Get [(.tmp 122), (.const (.string ⟨#[97]⟩))]⟩,
    ⟨(some 121), none, false, .mov (.tmp 123)⟩,
    ⟨(some 124), none, false, .ext (.tmp 121) 0⟩,
    ⟨(some 125), none, false, .ext (.tmp 121) 1⟩,
    ⟨(some 13), none, false, .mov (.tmp 124)⟩,
    ⟨(some 14), none, false, .mov (.tmp 125)⟩]) (.seq (.ops [
    ⟨(some 126), none, false, .mov (.tmp 14)⟩,
    ⟨(some 127), none, false, .un .not (.tmp 126)⟩,
    ⟨(some 128), none, false, .mov (.tmp 127)⟩,
    ⟨(some 129), (some (128, true)), false, .mov (.tmp 12)⟩,
    ⟨(some 130), (some (128, true)), false, .call cache_Cache_Len [(.tmp 129)]⟩,
    ⟨(some 131), (some (128, true)), false, .bin .eql (.tmp 130) (.const (.int .i64 0))⟩,
    ⟨(some 132), none, false, .pick (.tmp 128) (.tmp 131) (.const (.bool false))⟩,
    ⟨(some 133), none, false, .mov (.tmp 132)⟩,
    ⟨(some 134), (some (133, true)), false, .mov (.tmp 12)⟩,
    ⟨(some 135), (some (133, true)), false, .call cache_Cache_Size [(.tmp 134)]⟩,
    ⟨(some 136), (some (133, true)), false, .bin .eql (.tmp 135) (.const (.int .i64 0))⟩,
    ⟨(some 137), none, false, .pick (.tmp 133) (.tmp 136) (.const (.bool false))⟩,
    ⟨(some 138), none, false, .mov (.tmp 137)⟩,
    ⟨(some 139), (some (138, true)), false, .mov (.tmp 12)⟩,
    ⟨(some 140), (some (138, true)), false, .call cache_Cache_IDs [(.tmp 139)]⟩,
    ⟨(some 141), (some (138, true)), false, .lens false (.tmp 140)⟩,
    ⟨(some 142), (some (138, true)), false, .bin .eql (.tmp 141) (.const (.int .i64 0))⟩,
    ⟨(some 143), none, false, .pick (.tmp 138) (.tmp 142) (.const (.bool false))⟩,
    ⟨(some 144), none, false, .mov (.tmp 143)⟩,
    ⟨(some 145), (some (144, true)), false, .call chantrylaw33_awake []⟩,
    ⟨(some 146), none, false, .pick (.tmp 144) (.tmp 145) (.const (.bool false))⟩,
    ⟨(some 4), none, false, .mov (.tmp 146)⟩]) .ret))))))))
theorem fits_chantrylaw33_CacheHolds : Fits Try.prog 0 chantrylaw33_CacheHolds ic_chantrylaw33_CacheHolds [.tmp 4] 2 :=
  ⟨Try.f4, Try.func4, by decide, by kernel_rfl, by kernel_rfl⟩

/-- chantry/cache.Of -/
noncomputable def ic_cache_Of : IC :=
  (.seq (.ops [
    ⟨(some 2), none, false, .mov (.const (.pointer none))⟩]) (.seq (.ops [
    ⟨(some 3), none, false, .mov (.tmp 0)⟩,
    ⟨(some 4), none, false, .mx (.tmp 3) (.const (.int .i64 0))⟩,
    ⟨(some 5), none, false, .build [.int .i32 0, .int .u32 0, .slice none 0 0, .int .i64 0, .int .i64 0] [(4, 1, (.tmp 4))]⟩,
    ⟨(some 6), none, false, .box (.tmp 5)⟩,
    ⟨(some 2), none, false, .mov (.tmp 6)⟩]) .ret))
theorem fits_cache_Of : Fits Try.prog 0 cache_Of ic_cache_Of [.tmp 2] 1 :=
  ⟨Try.f6, Try.func6, by decide, by kernel_rfl, by kernel_rfl⟩

/-- chantry/chantrylaw33.awake -/
noncomputable def ic_chantrylaw33_awake : IC :=
  (.seq (.ops [
    ⟨(some 0), none, false, .mov (.const (.bool false))⟩]) (.seq (.ops [
    ⟨(some 7), none, false, .call cache_Of [(.const (.int .i64 3))]⟩,
    ⟨(some 1), none, false, .mov (.tmp 7)⟩]) (.seq (.seq (.ops [
    ⟨(some 8), none, false, .mov (.tmp 1)⟩,
    ⟨(some 9), none, false, .isnil (.pointer 55) (.tmp 8) false⟩]) (.cond (.tmp 9) (.seq (.ops [
    ⟨(some 0), none, false, .mov (.const (.bool false))⟩]) .ret) .skip)) (.seq (.ops [
    ⟨(some 10), none, false, .mov (.tmp 1)⟩,
    ⟨(some 11), none, false, .lit [.int .u8 0] 1 2 [(0, 1, (.const (.int .u8 120))), (1, 1, (.const (.int .u8 120)))]⟩,
    ⟨(some 12), none, false, .mks (.tmp 11)⟩,
    ⟨(some 13), none, false, .call cache_Cache_Put [(.tmp 10), (.const (.string ⟨#[97]⟩)), (.tmp 12)]⟩]) (.seq (.ops [
    ⟨(some 14), none, false, .mov (.tmp 1)⟩,
    ⟨(some 15), none, false, .lit [.int .u8 0] 1 1 [(0, 1, (.const (.int .u8 121)))]⟩,
    ⟨(some 16), none, false, .mks (.tmp 15)⟩,
    ⟨(some 17), none, false, .call cache_Cache_Put [(.tmp 14), (.const (.string ⟨#[98]⟩)), (.tmp 16)]⟩]) (.seq (.ops [
    ⟨(some 19), none, false, .mov (.tmp 1)⟩,
    ⟨(some 20), none, false, .call cache_Cache_Get [(.tmp 19), (.const (.string ⟨#[97]⟩))]⟩,
    ⟨(some 18), none, false, .mov (.tmp 20)⟩,
    ⟨(some 21), none, false, .ext (.tmp 18) 0⟩,
    ⟨(some 22), none, false, .ext (.tmp 18) 1⟩,
    ⟨(some 2), none, false, .mov (.tmp 21)⟩,
    ⟨(some 3), none, false, .mov (.tmp 22)⟩]) (.seq (.ops [
    ⟨(some 23), none, false, .mov (.tmp 1)⟩,
    ⟨(some 24), none, false, .lit [.int .u8 0] 1 1 [(0, 1, (.const (.int .u8 122)))]⟩,
    ⟨(some 25), none, false, .mks (.tmp 24)⟩,
    ⟨(some 26), none, false, .call cache_Cache_Put [(.tmp 23), (.const (.string ⟨#[99]⟩)), (.tmp 25)]⟩]) (.seq (.ops [
    ⟨(some 28), none, false, .mov (.tmp 1)⟩,
    ⟨(some 29), none, false, .call cache_Cache_Get [(.tmp 28), (.const (.string ⟨#[98]⟩))]⟩,
    ⟨(some 27), none, false, .mov (.tmp 29)⟩,
    ⟨(some 30), none, false, .ext (.tmp 27) 0⟩,
    ⟨(some 31), none, false, .ext (.tmp 27) 1⟩,
    ⟨(some 4), none, false, .mov (.tmp 30)⟩,
    ⟨(some 5), none, false, .mov (.tmp 31)⟩]) (.seq (.ops [
    ⟨(some 32), none, false, .mov (.tmp 1)⟩,
    ⟨(some 33), none, false, .call cache_Cache_IDs [(.tmp 32)]⟩,
    ⟨(some 6), none, false, .mov (.tmp 33)⟩]) (.seq (.ops [
    ⟨(some 34), none, false, .mov (.tmp 1)⟩,
    ⟨(some 35), none, false, .lit [.int .u8 0] 1 4 [(0, 1, (.const (.int .u8 108))), (1, 1, (.const (.int .u8 111))), (2, 1, (.const (.int .u8 110))), (3, 1, (.const (.int .u8 103)))]⟩,
    ⟨(some 36), none, false, .mks (.tmp 35)⟩,
    ⟨(some 37), none, false, .call cache_Cache_Put [(.tmp 34), (.const (.string ⟨#[100]⟩)), (.tmp 36)]⟩]) (.seq (.ops [
    ⟨(some 38), none, false, .mov (.tmp 2)⟩,
    ⟨(some 39), none, false, .b2s (.tmp 38)⟩,
    ⟨(some 40), none, false, .bin .eql (.tmp 39) (.const (.string ⟨#[120, 120]⟩))⟩,
    ⟨(some 41), none, false, .mov (.tmp 40)⟩,
    ⟨(some 42), (some (41, true)), false, .mov (.tmp 3)⟩,
    ⟨(some 43), none, false, .pick (.tmp 41) (.tmp 42) (.const (.bool false))⟩,
    ⟨(some 44), none, false, .mov (.tmp 43)⟩,
    ⟨(some 45), (some (44, true)), false, .mov (.tmp 5)⟩,
    ⟨(some 46), (some (44, true)), false, .un .not (.tmp 45)⟩,
    ⟨(some 47), none, false, .pick (.tmp 44) (.tmp 46) (.const (.bool false))⟩,
    ⟨(some 48), none, false, .mov (.tmp 47)⟩,
    ⟨(some 49), (some (48, true)), false, .mov (.tmp 6)⟩,
    ⟨(some 50), (some (48, true)), false, .lit [.string ⟨#[]⟩] 1 2 [(0, 1, (.const (.string ⟨#[99]⟩))), (1, 1, (.const (.string ⟨#[97]⟩)))]⟩,
    ⟨(some 51), (some (48, true)), false, .call chantryref01_Texts [(.tmp 49), (.tmp 50)]⟩,
    ⟨(some 52), none, false, .pick (.tmp 48) (.tmp 51) (.const (.bool false))⟩,
    ⟨(some 53), none, false, .mov (.tmp 52)⟩,
    ⟨(some 54), (some (53, true)), false, .mov (.tmp 1)⟩,
    ⟨(some 55), (some (53, true)), false, .call cache_Cache_Len [(.tmp 54)]⟩,
    ⟨(some 56), (some (53, true)), false, .bin .eql (.tmp 55) (.const (.int .i64 0))⟩,
    ⟨(some 57), none, false, .pick (.tmp 53) (.tmp 56) (.const (.bool false))⟩,
    ⟨(some 58), none, false, .mov (.tmp 57)⟩,
    ⟨(some 59), (some (58, true)), false, .mov (.tmp 1)⟩,
    ⟨(some 60), (some (58, true)), false, .call cache_Cache_Size [(.tmp 59)]⟩,
    ⟨(some 61), (some (58, true)), false, .bin .eql (.tmp 60) (.const (.int .i64 0))⟩,
    ⟨(some 62), none, false, .pick (.tmp 58) (.tmp 61) (.const (.bool false))⟩,
    ⟨(some 0), none, false, .mov (.tmp 62)⟩]) .ret)))))))))))
theorem fits_chantrylaw33_awake : Fits Try.prog 0 chantrylaw33_awake ic_chantrylaw33_awake [.tmp 0] 0 :=
  ⟨Try.f8, Try.func8, by decide, by kernel_rfl, by kernel_rfl⟩

/-- (*chantry/cache.Cache).Put -/
noncomputable def ic_cache_Cache_Put : IC :=
  (.seq (.seq (.ops [
    ⟨(some 6), none, false, .mov (.tmp 0)⟩,
    ⟨(some 7), none, false, .isnil (.pointer 55) (.tmp 6) false⟩]) (.cond (.tmp 7) .ret .skip)) (.seq (.ops [
    ⟨(some 8), none, false, .mov (.tmp 0)⟩,
    ⟨(some 9), none, false, .nilc (.tmp 8)⟩,
    ⟨(some 10), none, false, .faddr (.tmp 9) 0⟩,
    ⟨(some 11), none, false, .call sync_Mutex_Lock [(.tmp 10)]⟩]) (.seq (.ops [
    ⟨(some 12), none, false, .mov (.tmp 0)⟩,
    ⟨(some 13), none, false, .nilc (.tmp 12)⟩,
    ⟨(some 14), none, false, .faddr (.tmp 13) 0⟩,
    ⟨(some dsl), none, false, .dfr sync_Mutex_Unlock [(.tmp 14)]⟩]) (.seq (.ops [
    ⟨(some 15), none, false, .mov (.tmp 0)⟩,
    ⟨(some 16), none, false, .mov (.tmp 1)⟩,
    ⟨(some 17), none, false, .call cache_Cache_take [(.tmp 15), (.tmp 16)]⟩]) (.seq (.ops [
    ⟨(some 18), none, false, .mov (.tmp 0)⟩,
    ⟨(some 19), none, false, .mov (.tmp 1)⟩,
    ⟨(some 20), none, false, .mov (.tmp 2)⟩,
    ⟨(some 21), none, false, .call slices_Clone_byte_byte [(.tmp 20)]⟩,
    ⟨(some 22), none, false, .build [.string ⟨#[]⟩, .slice none 0 0] [(0, 1, (.tmp 19)), (1, 1, (.tmp 21))]⟩,
    ⟨(some 23), none, false, .call cache_Cache_first [(.tmp 18), (.tmp 22)]⟩]) (.block 0 (.loop (.seq (.seq (.draw [
    ⟨(some 24), none, false, .mov (.tmp 0)⟩,
    ⟨(some 25), none, false, .nilc (.tmp 24)⟩,
    ⟨(some 26), none, false, .faddr (.tmp 25) 3⟩,
    ⟨(some 27), none, false, .load1 (.tmp 26)⟩,
    ⟨(some 28), none, false, .mov (.tmp 0)⟩,
    ⟨(some 29), none, false, .nilc (.tmp 28)⟩,
    ⟨(some 30), none, false, .faddr (.tmp 29) 4⟩,
    ⟨(some 31), none, false, .load1 (.tmp 30)⟩,
    ⟨(some 32), none, false, .bin .gtr (.tmp 27) (.tmp 31)⟩]) (.cond (.tmp 32) .skip (.exit 0))) (.block 1 (.draw [
    ⟨(some 33), none, false, .mov (.tmp 0)⟩,
    ⟨(some 34), none, false, .mov (.tmp 0)⟩,
    ⟨(some 35), none, false, .nilc (.tmp 34)⟩,
    ⟨(some 36), none, false, .faddr (.tmp 35) 2⟩,
    ⟨(some 37), none, false, .load1 (.tmp 36)⟩,
    ⟨(some 38), none, false, .mov (.tmp 0)⟩,
    ⟨(some 39), none, false, .nilc (.tmp 38)⟩,
    ⟨(some 40), none, false, .faddr (.tmp 39) 2⟩,
    ⟨(some 41), none, false, .load1 (.tmp 40)⟩,
    ⟨(some 42), none, false, .lens false (.tmp 41)⟩,
    ⟨(some 43), none, false, .bin .sub (.tmp 42) (.const (.int .i64 1))⟩,
    ⟨(some 44), none, false, .iaddr (.tmp 37) (.tmp 43) 2⟩,
    ⟨(some 45), none, false, .faddr (.tmp 44) 0⟩,
    ⟨(some 46), none, false, .load1 (.tmp 45)⟩,
    ⟨(some 47), none, false, .call cache_Cache_take [(.tmp 33), (.tmp 46)]⟩]))))))))))
theorem fits_cache_Cache_Put : FitsD Try.prog 0 cache_Cache_Put ic_cache_Cache_Put [] 3 :=
  ⟨Try.f9, Try.func9, by decide, by kernel_rfl, by kernel_rfl, by decide⟩

/-- (*chantry/cache.Cache).Get -/
noncomputable def ic_cache_Cache_Get : IC :=
  (.seq (.ops [
    ⟨(some 4), none, false, .mov (.const (.slice none 0 0))⟩,
    ⟨(some 5), none, false, .mov (.const (.bool false))⟩]) (.seq (.seq (.ops [
    ⟨(some 8), none, false, .mov (.tmp 0)⟩,
    ⟨(some 9), none, false, .isnil (.pointer 55) (.tmp 8) false⟩]) (.cond (.tmp 9) (.seq (.ops [
    ⟨(some 4), none, false, .mov (.const (.slice none 0 0))⟩,
    ⟨(some 5), none, false, .mov (.const (.bool false))⟩]) .ret) .skip)) (.seq (.ops [
    ⟨(some 10), none, false, .mov (.tmp 0)⟩,
    ⟨(some 11), none, false, .nilc (.tmp 10)⟩,
    ⟨(some 12), none, false, .faddr (.tmp 11) 0⟩,
    ⟨(some 13), none, false, .call sync_Mutex_Lock [(.tmp 12)]⟩]) (.seq (.ops [
    ⟨(some 14), none, false, .mov (.tmp 0)⟩,
    ⟨(some 15), none, false, .nilc (.tmp 14)⟩,
    ⟨(some 16), none, false, .faddr (.tmp 15) 0⟩,
    ⟨(some dsl), none, false, .dfr sync_Mutex_Unlock [(.tmp 16)]⟩]) (.seq (.ops [
    ⟨(some 18), none, false, .mov (.tmp 0)⟩,
    ⟨(some 19), none, false, .mov (.tmp 1)⟩,
    ⟨(some 20), none, false, .call cache_Cache_take [(.tmp 18), (.tmp 19)]⟩,
    ⟨(some 17), none, false, .mov (.tmp 20)⟩,
    ⟨(some 21), none, false, .ext (.tmp 17) 0⟩,
    ⟨(some 22), none, false, .ext (.tmp 17) 1⟩,
    ⟨(some 6), none, false, .new [.string ⟨#[]⟩, .slice none 0 0]⟩,
    ⟨none, none, false, .store (.tmp 6) (.tmp 21) 2⟩,
    ⟨(some 7), none, false, .mov (.tmp 22)⟩]) (.seq (.seq (.ops [
    ⟨(some 23), none, false, .mov (.tmp 7)⟩,
    ⟨(some 24), none, false, .un .not (.tmp 23)⟩]) (.cond (.tmp 24) (.seq (.ops [
    ⟨(some 4), none, false, .mov (.const (.slice none 0 0))⟩,
    ⟨(some 5), none, false, .mov (.const (.bool false))⟩]) .ret) .skip)) (.seq (.ops [
    ⟨(some 25), none, false, .mov (.tmp 0)⟩,
    ⟨(some 26), none, false, .loadn (.tmp 6) 2⟩,
    ⟨(some 27), none, false, .call cache_Cache_first [(.tmp 25), (.tmp 26)]⟩]) (.seq (.ops [
    ⟨(some 28), none, false, .faddr (.tmp 6) 1⟩,
    ⟨(some 29), none, false, .load1 (.tmp 28)⟩,
    ⟨(some 30), none, false, .call slices_Clone_byte_byte [(.tmp 29)]⟩,
    ⟨(some 4), none, false, .mov (.tmp 30)⟩,
    ⟨(some 5), none, false, .mov (.const (.bool true))⟩]) .ret))))))))
theorem fits_cache_Cache_Get : FitsD Try.prog 0 cache_Cache_Get ic_cache_Cache_Get [.tmp 4, .tmp 5] 2 :=
  ⟨Try.f11, Try.func11, by decide, by kernel_rfl, by kernel_rfl, by decide⟩

/-- (*chantry/cache.Cache).Len -/
noncomputable def ic_cache_Cache_Len : IC :=
  (.seq (.ops [
    ⟨(some 2), none, false, .mov (.const (.int .i64 0))⟩]) (.seq (.ops [
    ⟨(some 3), none, false, .mov (.tmp 0)⟩,
    ⟨(some 4), none, false, .call cache_Cache_IDs [(.tmp 3)]⟩,
    ⟨(some 5), none, false, .lens false (.tmp 4)⟩,
    ⟨(some 2), none, false, .mov (.tmp 5)⟩]) .ret))
theorem fits_cache_Cache_Len : Fits Try.prog 0 cache_Cache_Len ic_cache_Cache_Len [.tmp 2] 1 :=
  ⟨Try.f13, Try.func13, by decide, by kernel_rfl, by kernel_rfl⟩

/-- (*chantry/cache.Cache).Size -/
noncomputable def ic_cache_Cache_Size : IC :=
  (.seq (.ops [
    ⟨(some 2), none, false, .mov (.const (.int .i64 0))⟩]) (.seq (.seq (.ops [
    ⟨(some 3), none, false, .mov (.tmp 0)⟩,
    ⟨(some 4), none, false, .isnil (.pointer 55) (.tmp 3) false⟩]) (.cond (.tmp 4) (.seq (.ops [
    ⟨(some 2), none, false, .mov (.const (.int .i64 0))⟩]) .ret) .skip)) (.seq (.ops [
    ⟨(some 5), none, false, .mov (.tmp 0)⟩,
    ⟨(some 6), none, false, .nilc (.tmp 5)⟩,
    ⟨(some 7), none, false, .faddr (.tmp 6) 0⟩,
    ⟨(some 8), none, false, .call sync_Mutex_Lock [(.tmp 7)]⟩]) (.seq (.ops [
    ⟨(some 9), none, false, .mov (.tmp 0)⟩,
    ⟨(some 10), none, false, .nilc (.tmp 9)⟩,
    ⟨(some 11), none, false, .faddr (.tmp 10) 0⟩,
    ⟨(some dsl), none, false, .dfr sync_Mutex_Unlock [(.tmp 11)]⟩]) (.seq (.ops [
    ⟨(some 12), none, false, .mov (.tmp 0)⟩,
    ⟨(some 13), none, false, .nilc (.tmp 12)⟩,
    ⟨(some 14), none, false, .faddr (.tmp 13) 3⟩,
    ⟨(some 15), none, false, .load1 (.tmp 14)⟩,
    ⟨(some 2), none, false, .mov (.tmp 15)⟩]) .ret)))))
theorem fits_cache_Cache_Size : FitsD Try.prog 0 cache_Cache_Size ic_cache_Cache_Size [.tmp 2] 1 :=
  ⟨Try.f14, Try.func14, by decide, by kernel_rfl, by kernel_rfl, by decide⟩

/-- chantry/chantryref01.Texts -/
noncomputable def ic_chantryref01_Texts : IC :=
  (.seq (.ops [
    ⟨(some 4), none, false, .mov (.const (.bool false))⟩]) (.seq (.seq (.ops [
    ⟨(some 6), none, false, .mov (.tmp 0)⟩,
    ⟨(some 7), none, false, .lens false (.tmp 6)⟩,
    ⟨(some 8), none, false, .mov (.tmp 1)⟩,
    ⟨(some 9), none, false, .lens false (.tmp 8)⟩,
    ⟨(some 10), none, false, .bin .neq (.tmp 7) (.tmp 9)⟩]) (.cond (.tmp 10) (.seq (.ops [
    ⟨(some 4), none, false, .mov (.const (.bool false))⟩]) .ret) .skip)) (.seq (.seq (.ops [
    ⟨(some 5), none, false, .mov (.const (.int .i64 0))⟩]) (.block 0 (.loop (.seq (.seq (.ops [
    ⟨(some 11), none, false, .mov (.tmp 5)⟩,
    ⟨(some 12), none, false, .mov (.tmp 0)⟩,
    ⟨(some 13), none, false, .lens false (.tmp 12)⟩,
    ⟨(some 14), none, false, .bin .lss (.tmp 11) (.tmp 13)⟩]) (.cond (.tmp 14) .skip (.exit 0))) (.seq (.block 1 (.seq (.draw [
    ⟨(some 17), none, false, .mov (.tmp 0)⟩,
    ⟨(some 18), none, false, .mov (.tmp 5)⟩,
    ⟨(some 19), none, false, .iaddr (.tmp 17) (.tmp 18) 1⟩,
    ⟨(some 20), none, false, .load1 (.tmp 19)⟩,
    ⟨(some 21), none, false, .mov (.tmp 1)⟩,
    ⟨(some 22), none, false, .mov (.tmp 5)⟩,
    ⟨(some 23), none, false, .iaddr (.tmp 21) (.tmp 22) 1⟩,
    ⟨(some 24), none, false, .load1 (.tmp 23)⟩,
    ⟨(some 25), none, false, .bin .neq (.tmp 20) (.tmp 24)⟩]) (.cond (.tmp 25) (.seq (.ops [
    ⟨(some 4), none, false, .mov (.const (.bool false))⟩]) .ret) .skip))) (.ops [
    ⟨(some 15), none, false, .mov (.tmp 5)⟩,
    ⟨(some 16), none, false, .bin .add (.tmp 15) (.const (.int .i64 1))⟩,
    ⟨(some 5), none, false, .mov (.tmp 16)⟩])))))) (.seq (.ops [
    ⟨(some 4), none, false, .mov (.const (.bool true))⟩]) .ret))))
theorem fits_chantryref01_Texts : Fits Try.prog 0 chantryref01_Texts ic_chantryref01_Texts [.tmp 4] 2 :=
  ⟨Try.f16, Try.func16, by decide, by kernel_rfl, by kernel_rfl⟩

/-- (*chantry/cache.Cache).IDs -/
noncomputable def ic_cache_Cache_IDs : IC :=
  (.seq (.ops [
    ⟨(some 2), none, false, .mov (.const (.slice none 0 0))⟩]) (.seq (.ops [
    ⟨(some 3), none, false, .mov (.const (.slice none 0 0))⟩]) (.seq (.seq (.ops [
    ⟨(some 6), none, false, .mov (.tmp 0)⟩,
    ⟨(some 7), none, false, .isnil (.pointer 55) (.tmp 6) false⟩]) (.cond (.tmp 7) (.seq (.ops [
    ⟨(some 8), none, false, .mov (.tmp 3)⟩,
    ⟨(some 2), none, false, .mov (.tmp 8)⟩]) .ret) .skip)) (.seq (.ops [
    ⟨(some 9), none, false, .mov (.tmp 0)⟩,
    ⟨(some 10), none, false, .nilc (.tmp 9)⟩,
    ⟨(some 11), none, false, .faddr (.tmp 10) 0⟩,
    ⟨(some 12), none, false, .call sync_Mutex_Lock [(.tmp 11)]⟩]) (.seq (.ops [
    ⟨(some 13), none, false, .mov (.tmp 0)⟩,
    ⟨(some 14), none, false, .nilc (.tmp 13)⟩,
    ⟨(some 15), none, false, .faddr (.tmp 14) 0⟩,
    ⟨(some dsl), none, false, .dfr sync_Mutex_Unlock [(.tmp 15)]⟩]) (.seq (.seq (.ops [
    ⟨(some 16), none, false, .mov (.tmp 0)⟩,
    ⟨(some 17), none, false, .nilc (.tmp 16)⟩,
    ⟨(some 18), none, false, .faddr (.tmp 17) 2⟩,
    ⟨(some 19), none, false, .load1 (.tmp 18)⟩,
    ⟨(some 20), none, false, .lens false (.tmp 19)⟩,
    ⟨(some 21), none, false, .mov (.const (.int .i64 0))⟩]) (.block 0 (.loop (.seq (.ops [
    ⟨(some 22), none, false, .bin .lss (.tmp 21) (.tmp 20)⟩]) (.seq (.cond (.tmp 22) .skip (.exit 0)) (.seq (.block 1 (.seq (.ops [
    ⟨(some 23), none, false, .iaddr (.tmp 19) (.tmp 21) 2⟩,
    ⟨(some 24), none, false, .loadn (.tmp 23) 2⟩,
    ⟨(some 5), none, false, .new [.string ⟨#[]⟩, .slice none 0 0]⟩,
    ⟨none, none, false, .store (.tmp 5) (.tmp 24) 2⟩]) (.ops [
    ⟨(some 25), none, false, .mov (.tmp 3)⟩,
    ⟨(some 26), none, false, .faddr (.tmp 5) 0⟩,
    ⟨(some 27), none, false, .load1 (.tmp 26)⟩,
    ⟨(some 28), none, false, .lit [.string ⟨#[]⟩] 1 1 [(0, 1, (.tmp 27))]⟩,
    ⟨(some 29), none, false, .app (.tmp 25) (.tmp 28) 1 16⟩,
    ⟨(some 3), none, false, .mov (.tmp 29)⟩]))) (.ops [
    ⟨(some 30), none, false, .bin .add (.tmp 21) (.const (.int .i64 1))⟩,
    ⟨(some 21), none, false, .mov (.tmp 30)⟩]))))))) (.seq (.ops [
    ⟨(some 31), none, false, .mov (.tmp 3)⟩,
    ⟨(some 2), none, false, .mov (.tmp 31)⟩]) .ret)))))))
theorem fits_cache_Cache_IDs : FitsD Try.prog 0 cache_Cache_IDs ic_cache_Cache_IDs [.tmp 2] 1 :=
  ⟨Try.f17, Try.func17, by decide, by kernel_rfl, by kernel_rfl, by decide⟩

/-- (*chantry/cache.Cache).take -/
noncomputable def ic_cache_Cache_take : IC :=
  (.seq (.ops [
    ⟨(some 3), none, false, .box (.tmp 1)⟩,
    ⟨(some 4), none, false, .new [.string ⟨#[]⟩, .slice none 0 0]⟩,
    ⟨(some 5), none, false, .mov (.const (.bool false))⟩]) (.seq (.ops [
    ⟨(some 8), none, false, .mov (.tmp 0)⟩,
    ⟨(some 9), none, false, .nilc (.tmp 8)⟩,
    ⟨(some 10), none, false, .faddr (.tmp 9) 2⟩,
    ⟨(some 11), none, false, .load1 (.tmp 10)⟩,
    ⟨(some 12), none, false, .fn (.func cache_Cache_take_1) [] [(.tmp 3)]⟩,
    ⟨(some 13), none, false, .call cache_entry [(.tmp 11), (.tmp 12)]⟩,
    ⟨(some 6), none, false, .mov (.tmp 13)⟩]) (.seq (.seq (.ops [
    ⟨(some 14), none, false, .mov (.tmp 6)⟩,
    ⟨(some 15), none, false, .bin .lss (.tmp 14) (.const (.int .i64 0))⟩]) (.cond (.tmp 15) (.seq (.ops [
    ⟨(some 16), none, false, .build [.string ⟨#[]⟩, .slice none 0 0] []⟩,
    ⟨none, none, false, .store (.tmp 4) (.tmp 16) 2⟩,
    ⟨(some 5), none, false, .mov (.const (.bool false))⟩]) .ret) .skip)) (.seq (.ops [
    ⟨(some 17), none, false, .mov (.tmp 0)⟩,
    ⟨(some 18), none, false, .nilc (.tmp 17)⟩,
    ⟨(some 19), none, false, .faddr (.tmp 18) 2⟩,
    ⟨(some 20), none, false, .load1 (.tmp 19)⟩,
    ⟨(some 21), none, false, .mov (.tmp 6)⟩,
    ⟨(some 22), none, false, .iaddr (.tmp 20) (.tmp 21) 2⟩,
    ⟨(some 23), none, false, .loadn (.tmp 22) 2⟩,
    ⟨(some 7), none, false, .new [.string ⟨#[]⟩, .slice none 0 0]⟩,
    ⟨none, none, false, .store (.tmp 7) (.tmp 23) 2⟩]) (.seq (.ops [
    ⟨(some 24), none, false, .mov (.tmp 0)⟩,
    ⟨(some 25), none, false, .mov (.tmp 0)⟩,
    ⟨(some 26), none, false, .nilc (.tmp 25)⟩,
    ⟨(some 27), none, false, .faddr (.tmp 26) 2⟩,
    ⟨(some 28), none, false, .load1 (.tmp 27)⟩,
    ⟨(some 29), none, false, .mov (.tmp 6)⟩,
    ⟨(some 30), none, false, .mov (.tmp 6)⟩,
    ⟨(some 31), none, false, .bin .add (.tmp 30) (.const (.int .i64 1))⟩,
    ⟨(some 32), none, false, .call cache_entry_29 [(.tmp 28), (.tmp 29), (.tmp 31)]⟩,
    ⟨(some 33), none, false, .nilc (.tmp 24)⟩,
    ⟨(some 34), none, false, .faddr (.tmp 33) 2⟩,
    ⟨none, none, false, .store (.tmp 34) (.tmp 32) 1⟩]) (.seq (.draw [
    ⟨(some 35), none, false, .mov (.tmp 0)⟩,
    ⟨(some 36), none, false, .nilc (.tmp 35)⟩,
    ⟨(some 37), none, false, .faddr (.tmp 36) 3⟩,
    ⟨(some 38), none, false, .load1 (.tmp 37)⟩,
    ⟨(some 39), none, false, .faddr (.tmp 7) 1⟩,
    ⟨(some 40), none, false, .load1 (.tmp 39)⟩,
    ⟨(some 41), none, false, .lens false (.tmp 40)⟩,
    ⟨(some 42), none, false, .bin .sub (.tmp 38) (.tmp 41)⟩,
    ⟨(some 43), none, false, .nilc (.tmp 35)⟩,
    ⟨(some 44), none, false, .faddr (.tmp 43) 3⟩,
    ⟨none, none, false, .store (.tmp 44) (.tmp 42) 1⟩]) (.seq (.ops [
    ⟨(some 45), none, false, .loadn (.tmp 7) 2⟩,
    ⟨none, none, false, .store (.tmp 4) (.tmp 45) 2⟩,
    ⟨(some 5), none, false, .mov (.const (.bool true))⟩]) .ret)))))))
theorem fits_cache_Cache_take : Fits Try.prog 0 cache_Cache_take ic_cache_Cache_take [.many 4 2, .tmp 5] 2 :=
  ⟨Try.f21, Try.func21, by decide, by kernel_rfl, by kernel_rfl⟩

/-- (*chantry/cache.Cache).first -/
noncomputable def ic_cache_Cache_first : IC :=
  (.seq (.ops [
    ⟨(some 3), none, false, .box (.tmp 1)⟩]) (.seq (.draw [
    ⟨(some 4), none, false, .mov (.tmp 0)⟩,
    ⟨(some 5), none, false, .mov (.tmp 0)⟩,
    ⟨(some 6), none, false, .nilc (.tmp 5)⟩,
    ⟨(some 7), none, false, .faddr (.tmp 6) 2⟩,
    ⟨(some 8), none, true, .load1 (.tmp 7)⟩,
    ⟨(some 9), none, false, .loadn (.tmp 3) 2⟩,
    ⟨(some 10), none, true, .lit [.string ⟨#[]⟩, .slice none 0 0] 2 1 [(0, 2, (.tmp 9))]⟩,
    ⟨(some 11), none, false, .call cache_entry_30 [(.tmp 8), (.const (.int .i64 0)), (.tmp 10)]⟩,
    ⟨(some 12), none, false, .nilc (.tmp 4)⟩,
    ⟨(some 13), none, false, .faddr (.tmp 12) 2⟩,
    ⟨none, none, false, .store (.tmp 13) (.tmp 11) 1⟩]) (.draw [
    ⟨(some 14), none, false, .mov (.tmp 0)⟩,
    ⟨(some 15), none, false, .nilc (.tmp 14)⟩,
    ⟨(some 16), none, false, .faddr (.tmp 15) 3⟩,
    ⟨(some 17), none, false, .load1 (.tmp 16)⟩,
    ⟨(some 18), none, false, .faddr (.tmp 3) 1⟩,
    ⟨(some 19), none, false, .load1 (.tmp 18)⟩,
    ⟨(some 20), none, false, .lens false (.tmp 19)⟩,
    ⟨(some 21), none, false, .bin .add (.tmp 17) (.tmp 20)⟩,
    ⟨(some 22), none, false, .nilc (.tmp 14)⟩,
    ⟨(some 23), none, false, .faddr (.tmp 22) 3⟩,
    ⟨none, none, false, .store (.tmp 23) (.tmp 21) 1⟩])))
theorem fits_cache_Cache_first : Fits Try.prog 0 cache_Cache_first ic_cache_Cache_first [] 2 :=
  ⟨Try.f22, Try.func22, by decide, by kernel_rfl, by kernel_rfl⟩

/-- slices.Clone[[]byte,byte] -/
noncomputable def ic_slices_Clone_byte_byte : IC :=
  (.seq (.ops [
    ⟨(some 2), none, false, .mov (.const (.slice none 0 0))⟩]) (.seq (.seq (.ops [
    ⟨(some 3), none, false, .mov (.tmp 0)⟩,
    ⟨(some 4), none, false, .isnil (.slice 5) (.tmp 3) false⟩]) (.cond (.tmp 4) (.seq (.ops [
    ⟨(some 2), none, false, .mov (.const (.slice none 0 0))⟩]) .ret) .skip)) (.seq (.ops [
    ⟨(some 5), none, false, .lit [.int .u8 0] 1 0 []⟩,
    ⟨(some 6), none, false, .mov (.tmp 0)⟩,
    ⟨(some 7), none, false, .app (.tmp 5) (.tmp 6) 1 1⟩,
    ⟨(some 2), none, false, .mov (.tmp 7)⟩]) .ret)))
theorem fits_slices_Clone_byte_byte : Fits Try.prog 0 slices_Clone_byte_byte ic_slices_Clone_byte_byte [.tmp 2] 1 :=
  ⟨Try.f23, Try.func23, by decide, by kernel_rfl, by kernel_rfl⟩

-- NOT SERVED 25 (*internal/sync.Mutex).Lock: conversion pointer to unsafePointer

-- NOT SERVED 26 (*internal/sync.Mutex).Unlock: conversion pointer to unsafePointer

/-- slices.IndexFunc[[]chantry/cache.entry,chantry/cache.entry] -/
noncomputable def ic_cache_entry : IC :=
  (.seq (.ops [
    ⟨(some 4), none, false, .mov (.const (.int .i64 0))⟩]) (.seq (.seq (.ops [
    ⟨(some 6), none, false, .mov (.tmp 0)⟩,
    ⟨(some 7), none, false, .lens false (.tmp 6)⟩,
    ⟨(some 8), none, false, .mov (.const (.int .i64 0))⟩]) (.block 0 (.loop (.seq (.ops [
    ⟨(some 9), none, false, .bin .lss (.tmp 8) (.tmp 7)⟩]) (.seq (.cond (.tmp 9) .skip (.exit 0)) (.seq (.block 1 (.seq (.ops [
    ⟨(some 10), none, false, .mov (.tmp 8)⟩,
    ⟨(some 5), none, false, .mov (.tmp 10)⟩]) (.seq (.ops [
    ⟨(some 11), none, false, .mov (.tmp 1)⟩,
    ⟨(some 12), none, false, .mov (.tmp 0)⟩,
    ⟨(some 13), none, false, .mov (.tmp 5)⟩,
    ⟨(some 14), none, false, .iaddr (.tmp 12) (.tmp 13) 2⟩,
    ⟨(some 15), none, false, .loadn (.tmp 14) 2⟩,
    ⟨(some 16), none, false, .calld (.tmp 11) [(.tmp 15)]⟩]) (.cond (.tmp 16) (.seq (.ops [
    ⟨(some 17), none, false, .mov (.tmp 5)⟩,
    ⟨(some 4), none, false, .mov (.tmp 17)⟩]) .ret) .skip)))) (.ops [
    ⟨(some 18), none, false, .bin .add (.tmp 8) (.const (.int .i64 1))⟩,
    ⟨(some 8), none, false, .mov (.tmp 18)⟩]))))))) (.seq (.ops [
    ⟨(some 4), none, false, .mov (.const (.int .i64 (-1)))⟩]) .ret)))
theorem fits_cache_entry : Fits Try.prog 0 cache_entry ic_cache_entry [.tmp 4] 2 :=
  ⟨Try.f27, Try.func27, by decide, by kernel_rfl, by kernel_rfl⟩

/-- (*chantry/cache.Cache).take$1 -/
noncomputable def ic_cache_Cache_take_1 : IC :=
  (.seq (.ops [
    ⟨(some 2), none, false, .box (.tmp 0)⟩,
    ⟨(some 3), none, false, .mov (.const (.bool false))⟩]) (.seq (.ops [
    ⟨(some 4), none, false, .faddr (.tmp 2) 0⟩,
    ⟨(some 5), none, false, .load1 (.tmp 4)⟩,
    ⟨(some 6), none, false, .load1 (.tmp 1)⟩,
    ⟨(some 7), none, false, .bin .eql (.tmp 5) (.tmp 6)⟩,
    ⟨(some 3), none, false, .mov (.tmp 7)⟩]) .ret))
theorem fits_cache_Cache_take_1 : Fits Try.prog 0 cache_Cache_take_1 ic_cache_Cache_take_1 [.tmp 3] 1 :=
  ⟨Try.f28, Try.func28, by decide, by kernel_rfl, by kernel_rfl⟩

/-- slices.Delete[[]chantry/cache.entry,chantry/cache.entry] -/
noncomputable def ic_cache_entry_29 : IC :=
  (.seq (.ops [
    ⟨(some 6), none, false, .mov (.const (.slice none 0 0))⟩]) (.seq (.ops [
    ⟨(some 8), none, false, .mov (.tmp 0)⟩,
    ⟨(some 9), none, false, .mov (.tmp 1)⟩,
    ⟨(some 10), none, false, .mov (.tmp 2)⟩,
    ⟨(some 11), none, false, .mov (.tmp 0)⟩,
    ⟨(some 12), none, false, .lens false (.tmp 11)⟩,
    ⟨(some 13), none, false, .sll (.tmp 8) (some (.tmp 9)) (some (.tmp 10)) (some (.tmp 12)) 2⟩]) (.seq (.seq (.ops [
    ⟨(some 14), none, false, .mov (.tmp 1)⟩,
    ⟨(some 15), none, false, .mov (.tmp 2)⟩,
    ⟨(some 16), none, false, .bin .eql (.tmp 14) (.tmp 15)⟩]) (.cond (.tmp 16) (.seq (.ops [
    ⟨(some 17), none, false, .mov (.tmp 0)⟩,
    ⟨(some 6), none, false, .mov (.tmp 17)⟩]) .ret) .skip)) (.seq (.ops [
    ⟨(some 18), none, false, .mov (.tmp 0)⟩,
    ⟨(some 19), none, false, .lens false (.tmp 18)⟩,
    ⟨(some 7), none, false, .mov (.tmp 19)⟩]) (.seq (.draw [
    ⟨(some 20), none, false, .mov (.tmp 0)⟩,
    ⟨(some 21), none, false, .mov (.tmp 1)⟩,
    ⟨(some 22), none, false, .sll (.tmp 20) none (some (.tmp 21)) none 2⟩,
    ⟨(some 23), none, false, .mov (.tmp 0)⟩,
    ⟨(some 24), none, false, .mov (.tmp 2)⟩,
    ⟨(some 25), none, false, .sll (.tmp 23) (some (.tmp 24)) none none 2⟩,
    ⟨(some 26), none, false, .app (.tmp 22) (.tmp 25) 2 40⟩,
    ⟨(some 0), none, false, .mov (.tmp 26)⟩]) (.seq (.ops [
    ⟨(some 27), none, false, .mov (.tmp 0)⟩,
    ⟨(some 28), none, false, .mov (.tmp 0)⟩,
    ⟨(some 29), none, false, .lens false (.tmp 28)⟩,
    ⟨(some 30), none, false, .mov (.tmp 7)⟩,
    ⟨(some 31), none, false, .sll (.tmp 27) (some (.tmp 29)) (some (.tmp 30)) none 2⟩,
    ⟨none, none, false, .clr (.tmp 31) [.string ⟨#[]⟩, .slice none 0 0]⟩]) (.seq (.ops [
    ⟨(some 32), none, false, .mov (.tmp 0)⟩,
    ⟨(some 6), none, false, .mov (.tmp 32)⟩]) .ret)))))))
theorem fits_cache_entry_29 : Fits Try.prog 0 cache_entry_29 ic_cache_entry_29 [.tmp 6] 3 :=
  ⟨Try.f29, Try.func29, by decide, by kernel_rfl, by kernel_rfl⟩

/-- slices.Insert[[]chantry/cache.entry,chantry/cache.entry] -/
noncomputable def ic_cache_entry_30 : IC :=
  (.seq (.ops [
    ⟨(some 6), none, false, .mov (.const (.slice none 0 0))⟩]) (.seq (.ops [
    ⟨(some 10), none, false, .mov (.tmp 0)⟩,
    ⟨(some 11), none, false, .mov (.tmp 1)⟩,
    ⟨(some 12), none, false, .sll (.tmp 10) (some (.tmp 11)) none none 2⟩]) (.seq (.ops [
    ⟨(some 13), none, false, .mov (.tmp 2)⟩,
    ⟨(some 14), none, false, .lens false (.tmp 13)⟩,
    ⟨(some 7), none, false, .mov (.tmp 14)⟩]) (.seq (.seq (.ops [
    ⟨(some 15), none, false, .mov (.tmp 7)⟩,
    ⟨(some 16), none, false, .bin .eql (.tmp 15) (.const (.int .i64 0))⟩]) (.cond (.tmp 16) (.seq (.ops [
    ⟨(some 17), none, false, .mov (.tmp 0)⟩,
    ⟨(some 6), none, false, .mov (.tmp 17)⟩]) .ret) .skip)) (.seq (.ops [
    ⟨(some 18), none, false, .mov (.tmp 0)⟩,
    ⟨(some 19), none, false, .lens false (.tmp 18)⟩,
    ⟨(some 8), none, false, .mov (.tmp 19)⟩]) (.seq (.seq (.ops [
    ⟨(some 20), none, false, .mov (.tmp 1)⟩,
    ⟨(some 21), none, false, .mov (.tmp 8)⟩,
    ⟨(some 22), none, false, .bin .eql (.tmp 20) (.tmp 21)⟩]) (.cond (.tmp 22) (.seq (.ops [
    ⟨(some 23), none, false, .mov (.tmp 0)⟩,
    ⟨(some 24), none, false, .mov (.tmp 2)⟩,
    ⟨(some 25), none, false, .app (.tmp 23) (.tmp 24) 2 40⟩,
    ⟨(some 6), none, false, .mov (.tmp 25)⟩]) .ret) .skip)) (.seq (.seq (.ops [
    ⟨(some 26), none, false, .mov (.tmp 8)⟩,
    ⟨(some 27), none, false, .mov (.tmp 7)⟩,
    ⟨(some 28), none, false, .bin .add (.tmp 26) (.tmp 27)⟩,
    ⟨(some 29), none, false, .mov (.tmp 0)⟩,
    ⟨(some 30), none, false, .capn (.tmp 29)⟩,
    ⟨(some 31), none, false, .bin .gtr (.tmp 28) (.tmp 30)⟩]) (.cond (.tmp 31) (.seq (.ops [
    ⟨(some 32), none, false, .mov (.tmp 0)⟩,
    ⟨(some 33), none, false, .mov (.tmp 1)⟩,
    ⟨(some 34), none, false, .sll (.tmp 32) none (some (.tmp 33)) none 2⟩,
    ⟨(some 35), none, false, .mov (.tmp 8)⟩,
    ⟨(some 36), none, false, .mov (.tmp 7)⟩,
    ⟨(some 37), none, false, .bin .add (.tmp 35) (.tmp 36)⟩,
    ⟨(some 38), none, false, .mov (.tmp 1)⟩,
    ⟨(some 39), none, false, .bin .sub (.tmp 37) (.tmp 38)⟩,
    ⟨(some 40), none, false, .appz (.tmp 34) (.tmp 39) [.string ⟨#[]⟩, .slice none 0 0] 40⟩,
    ⟨(some 9), none, false, .mov (.tmp 40)⟩]) (.seq (.ops [
    ⟨(some 41), none, false, .mov (.tmp 9)⟩,
    ⟨(some 42), none, false, .mov (.tmp 1)⟩,
    ⟨(some 43), none, false, .sll (.tmp 41) (some (.tmp 42)) none none 2⟩,
    ⟨(some 44), none, false, .mov (.tmp 2)⟩,
    ⟨(some 45), none, false, .copy (.tmp 43) (.tmp 44) 2⟩]) (.seq (.draw [
    ⟨(some 46), none, false, .mov (.tmp 9)⟩,
    ⟨(some 47), none, false, .mov (.tmp 1)⟩,
    ⟨(some 48), none, false, .mov (.tmp 7)⟩,
    ⟨(some 49), none, false, .bin .add (.tmp 47) (.tmp 48)⟩,
    ⟨(some 50), none, false, .sll (.tmp 46) (some (.tmp 49)) none none 2⟩,
    ⟨(some 51), none, false, .mov (.tmp 0)⟩,
    ⟨(some 52), none, false, .mov (.tmp 1)⟩,
    ⟨(some 53), none, false, .sll (.tmp 51) (some (.tmp 52)) none none 2⟩,
    ⟨(some 54), none, false, .copy (.tmp 50) (.tmp 53) 2⟩]) (.seq (.ops [
    ⟨(some 55), none, false, .mov (.tmp 9)⟩,
    ⟨(some 6), none, false, .mov (.tmp 55)⟩]) .ret)))) .skip)) (.seq (.ops [
    ⟨(some 56), none, false, .mov (.tmp 0)⟩,
    ⟨(some 57), none, false, .mov (.tmp 8)⟩,
    ⟨(some 58), none, false, .mov (.tmp 7)⟩,
    ⟨(some 59), none, false, .bin .add (.tmp 57) (.tmp 58)⟩,
    ⟨(some 60), none, false, .sll (.tmp 56) none (some (.tmp 59)) none 2⟩,
    ⟨(some 0), none, false, .mov (.tmp 60)⟩]) (.seq (.seq (.ops [
    ⟨(some 61), none, false, .mov (.tmp 2)⟩,
    ⟨(some 62), none, false, .mov (.tmp 0)⟩,
    ⟨(some 63), none, false, .mov (.tmp 1)⟩,
    ⟨(some 64), none, false, .mov (.tmp 7)⟩,
    ⟨(some 65), none, false, .bin .add (.tmp 63) (.tmp 64)⟩,
    ⟨(some 66), none, false, .sll (.tmp 62) (some (.tmp 65)) none none 2⟩,
    ⟨(some 67), none, false, .callx cache_entry_40 [(.tmp 61), (.tmp 66)]⟩,
    ⟨(some 68), none, false, .un .not (.tmp 67)⟩]) (.cond (.tmp 68) (.seq (.draw [
    ⟨(some 69), none, false, .mov (.tmp 0)⟩,
    ⟨(some 70), none, false, .mov (.tmp 1)⟩,
    ⟨(some 71), none, false, .mov (.tmp 7)⟩,
    ⟨(some 72), none, false, .bin .add (.tmp 70) (.tmp 71)⟩,
    ⟨(some 73), none, false, .sll (.tmp 69) (some (.tmp 72)) none none 2⟩,
    ⟨(some 74), none, false, .mov (.tmp 0)⟩,
    ⟨(some 75), none, false, .mov (.tmp 1)⟩,
    ⟨(some 76), none, false, .sll (.tmp 74) (some (.tmp 75)) none none 2⟩,
    ⟨(some 77), none, false, .copy (.tmp 73) (.tmp 76) 2⟩]) (.seq (.ops [
    ⟨(some 78), none, false, .mov (.tmp 0)⟩,
    ⟨(some 79), none, false, .mov (.tmp 1)⟩,
    ⟨(some 80), none, false, .sll (.tmp 78) (some (.tmp 79)) none none 2⟩,
    ⟨(some 81), none, false, .mov (.tmp 2)⟩,
    ⟨(some 82), none, false, .copy (.tmp 80) (.tmp 81) 2⟩]) (.seq (.ops [
    ⟨(some 83), none, false, .mov (.tmp 0)⟩,
    ⟨(some 6), none, false, .mov (.tmp 83)⟩]) .ret))) .skip)) (.seq (.ops [
    ⟨(some 84), none, false, .mov (.tmp 0)⟩,
    ⟨(some 85), none, false, .mov (.tmp 8)⟩,
    ⟨(some 86), none, false, .sll (.tmp 84) (some (.tmp 85)) none none 2⟩,
    ⟨(some 87), none, false, .mov (.tmp 2)⟩,
    ⟨(some 88), none, false, .copy (.tmp 86) (.tmp 87) 2⟩]) (.seq (.ops [
    ⟨(some 89), none, false, .mov (.tmp 0)⟩,
    ⟨(some 90), none, false, .mov (.tmp 1)⟩,
    ⟨(some 91), none, false, .sll (.tmp 89) (some (.tmp 90)) none none 2⟩,
    ⟨(some 92), none, false, .mov (.tmp 7)⟩,
    ⟨(some 93), none, false, .call cache_entry_41 [(.tmp 91), (.tmp 92)]⟩]) (.seq (.ops [
    ⟨(some 94), none, false, .mov (.tmp 0)⟩,
    ⟨(some 6), none, false, .mov (.tmp 94)⟩]) .ret))))))))))))
theorem fits_cache_entry_30 : Fits Try.prog 0 cache_entry_30 ic_cache_entry_30 [.tmp 6] 3 :=
  ⟨Try.f30, Try.func30, by decide, by kernel_rfl, by kernel_rfl⟩

-- NOT SERVED 51 (runtime.boundsError).Error: no body

-- NOT SERVED 52 (runtime.boundsError).RuntimeError: no body

-- NOT SERVED 53 (runtime.errorString).Error: no body

-- NOT SERVED 54 (runtime.errorString).RuntimeError: no body

-- NOT SERVED 55 (runtime.plainError).Error: no body

-- NOT SERVED 56 (runtime.plainError).RuntimeError: no body

-- NOT SERVED 57 (runtime.errorAddressString).Error: no body

-- NOT SERVED 58 (runtime.errorAddressString).RuntimeError: no body

-- NOT SERVED 59 (*runtime.TypeAssertionError).Error: no body

-- NOT SERVED 60 (*runtime.TypeAssertionError).RuntimeError: no body

-- NOT SERVED 61 (*runtime.PanicNilError).Error: no body

-- NOT SERVED 62 (*runtime.PanicNilError).RuntimeError: no body

-- NOT SERVED 63 (*internal/abi.Type).Align: no body

-- NOT SERVED 64 (internal/runtime/maps.unhashableTypeError).Error: no body

-- NOT SERVED 65 (internal/runtime/maps.unhashableTypeError).RuntimeError: no body

-- NOT SERVED 66 (internal/abi.Kind).String: no body

end Go.AS.C


namespace Go.AS.C
open Go Go.Proofs
set_option linter.unusedVariables false
set_option linter.unusedSimpArgs false
set_option maxRecDepth 10000

theorem mixed : Try.prog.follows .mixedOrders = true := by kernel_rfl

end Go.AS.C


namespace Go.AS.C
open Go Go.Proofs
set_option linter.unusedVariables false
set_option linter.unusedSimpArgs false
set_option maxRecDepth 10000

/-! A cache's texts, as plain data and as they stand in the heap. -/
abbrev ptr (i : Nat) : Value := .pointer (some ⟨i, 0, none⟩)
abbrev Pr := ByteArray × List UInt8
def tot : List Pr → Nat
  | [] => 0
  | p :: r => p.2.length + tot r
def rmv (id : ByteArray) (l : List Pr) : List Pr := l.filter (fun p => decide (p.1 ≠ id))
/-- As many of the first ones as have not too many bytes together. -/
def fit (M : Nat) : List Pr → List Pr
  | [] => []
  | p :: r => if p.2.length ≤ M then p :: fit (M - p.2.length) r else []
def putP (M : Nat) (id : ByteArray) (t : List UInt8) (l : List Pr) : List Pr := fit M ((id, t) :: rmv id l)
theorem fit_le : ∀ (l : List Pr) (M : Nat), tot (fit M l) ≤ M
  | [], M => by simp [fit, tot]
  | p :: r, M => by
    simp only [fit]
    split
    · have := fit_le r (M - p.2.length); simp only [tot]; omega
    · simp [tot]
theorem fit_all : ∀ (l : List Pr) (M : Nat), tot l ≤ M → fit M l = l
  | [], M, _ => rfl
  | p :: r, M, h => by
    simp only [tot] at h
    simp only [fit]
    rw [if_pos (by omega), fit_all r _ (by omega)]
theorem fit_snoc : ∀ (l : List Pr) (q : Pr) (M : Nat), M < tot (l ++ [q]) → fit M (l ++ [q]) = fit M l
  | [], q, M, h => by
    simp only [List.nil_append, tot] at h
    simp only [List.nil_append, fit]
    rw [if_neg (by omega)]
  | p :: r, q, M, h => by
    simp only [List.cons_append, tot] at h
    simp only [List.cons_append, fit]
    split
    · rw [fit_snoc r q _ (by omega)]
    · rfl
theorem fit_sub : ∀ (l : List Pr) (M : Nat), (fit M l).Sublist l
  | [], M => .slnil
  | p :: r, M => by
    simp only [fit]
    split
    · exact (fit_sub r _).cons_cons _
    · exact List.nil_sublist _
theorem rmv_len (id : ByteArray) (l : List Pr) : (rmv id l).length ≤ l.length := List.length_filter_le _ _
theorem rmv_none {id : ByteArray} {l : List Pr} (h : ∀ p ∈ l, p.1 ≠ id) : rmv id l = l := by
  unfold rmv
  rw [List.filter_eq_self]
  intro p hp; simpa using h p hp
theorem rmv_not (id : ByteArray) (l : List Pr) : ∀ p ∈ rmv id l, p.1 ≠ id := by
  intro p hp
  unfold rmv at hp
  rw [List.mem_filter] at hp
  simpa using hp.2
theorem rmv_nd {id : ByteArray} {l : List Pr} (h : (l.map (·.1)).Nodup) : ((rmv id l).map (·.1)).Nodup := (List.filter_sublist.map _).nodup h
theorem cons_nd {id : ByteArray} {t : List UInt8} {l : List Pr} (h : (l.map (·.1)).Nodup) (hn : ∀ p ∈ l, p.1 ≠ id) : (((id, t) :: l).map (·.1)).Nodup := by
  rw [List.map_cons, List.nodup_cons]
  refine ⟨?_, h⟩
  intro hm
  rw [List.mem_map] at hm
  obtain ⟨p, hp, he⟩ := hm
  exact hn p hp he
/-- Without the one at j: without its ID. -/
theorem rmv_at : ∀ {l : List Pr} {j : Nat} {p : Pr}, (l.map (·.1)).Nodup → l[j]? = some p → rmv p.1 l = l.take j ++ l.drop (j + 1) ∧ tot (rmv p.1 l) + p.2.length = tot l
  | [], j, p, _, h => by simp at h
  | q :: l, 0, p, hn, h => by
    simp only [List.getElem?_cons_zero, Option.some.injEq] at h
    subst h
    rw [List.map_cons, List.nodup_cons] at hn
    have : rmv q.1 l = l := rmv_none (fun p hp he => hn.1 (List.mem_map.2 ⟨p, hp, he⟩))
    have h2 : rmv q.1 (q :: l) = l := by
      show (q :: l).filter _ = l
      rw [List.filter_cons, if_neg (by simp)]
      exact this
    rw [h2]
    exact ⟨by simp, by simp only [tot]; omega⟩
  | q :: l, j + 1, p, hn, h => by
    simp only [List.getElem?_cons_succ] at h
    rw [List.map_cons, List.nodup_cons] at hn
    obtain ⟨h1, h2⟩ := rmv_at hn.2 h
    have hq : q.1 ≠ p.1 := fun e => hn.1 (List.mem_map.2 ⟨p, List.mem_of_getElem? h, e.symm⟩)
    have h3 : rmv p.1 (q :: l) = q :: rmv p.1 l := by
      unfold rmv
      rw [List.filter_cons, if_pos (by simpa using hq)]
    rw [h3, h1]
    refine ⟨by simp, ?_⟩
    rw [← h1]
    simp only [tot]; omega

/-- An entry, and what it is. -/
def enR (A : AH) (e : List Value) (p : Pr) : Prop := ∃ x, e = [.string p.1, x] ∧ OwnB 0 A x p.2
/-- From one heap to a later one: all blocks are as they were, but the cache's own, and the one where its entries stood (v; now u). -/
def Fr (c : Nat) (v : Value) (A : AH) (u : Value) (B : AH) : Prop := A.length ≤ B.length ∧ (∀ k b, A[k]? = some b → k ≠ c → k ∉ blkOf v → B[k]? = some b) ∧ ∀ j ∈ blkOf u, j ∈ blkOf v ∨ A.length ≤ j
section
variable {A B D : AH} {c : Nat} {v u w x : Value} {p : Pr} {bs : List UInt8} {l : List Pr} {lk n : Int} {M : Nat}
theorem Fr.trans (h : Fr c v A u B) (k : Fr c u B w D) : Fr c v A w D := by
  refine ⟨Nat.le_trans h.1 k.1, fun i b hi hc hv => ?_, fun j hj => ?_⟩
  · refine k.2.1 i b (h.2.1 i b hi hc hv) hc (fun hu => ?_)
    have := lt_of_get hi
    rcases h.2.2 i hu with h1 | h1
    · exact hv h1
    · omega
  · rcases k.2.2 j hj with h1 | h1
    · exact h.2.2 j h1
    · exact .inr (by have := h.1; omega)
theorem Le.fr (h : Le A B) (c : Nat) (v : Value) : Fr c v A v B := ⟨h.len, fun k b hk _ _ => h.get hk, fun j hj => .inl hj⟩
theorem Fr.le0 (h : Fr c v A u B) {A0 : AH} (hl : Le A0 A) (hc : A0.length ≤ c) (hv : ∀ j ∈ blkOf v, A0.length ≤ j) : Le A0 B := by
  refine Le.of_get (fun i hi => ?_) (by have := hl.len; have := h.1; omega)
  have hg : A0[i]? = some A0[i] := List.getElem?_eq_getElem hi
  rw [hg, h.2.1 i _ (hl.get hg) (by omega) (fun hj => by have := hv i hj; omega)]
theorem own_fr {sz s2 m k : Nat} {cs ds rc : List Value} {st : St} {ex : Bool} {a0 b0 : Nat} (h : OwnS a0 A sz x k cs) (hc : A[c]? = some (.row rc st 0 ex)) (hv : OwnS b0 A s2 v m ds) (h0 : sz ≠ 0) (hs : s2 ≠ sz) (hf : Fr c v A u B) : OwnS a0 B sz x k cs := by
  have hap := OwnS.apart hv h hs
  obtain ⟨g0, h⟩ := h
  refine ⟨g0, ?_⟩
  rcases h with h | h | ⟨i, o, q, rc', ex', h1, h2, h3, h4, h5, h6⟩
  · exact .inl h
  · exact .inr (.inl h)
  · refine .inr (.inr ⟨i, o, q, rc', ex', h1, h2, h3, hf.2.1 i _ h4 ?_ ?_, h5, h6⟩)
    · rintro rfl
      rw [hc] at h4
      injection h4 with h4
      injection h4 with _ _ h4 _
      exact h0 h4.symm
    · exact hap i (by rw [h1]; simp [blkOf])

structure CacheA (A : AH) (c : Nat) (v : Value) (lk n : Int) (M : Nat) (l : List Pr) : Prop where
  row : rowAt A c = some ([.int .i32 lk, .int .u32 0, v, .int .i64 n, .int .i64 (M : Int)], .own, 0, true)
  ents : ∃ es, OwnE 0 A 2 v es ∧ All2 (enR A) es l
  nd : (l.map (·.1)).Nodup
theorem all2_len {α β : Type} {R : α → β → Prop} : ∀ {a : List α} {b : List β}, All2 R a b → a.length = b.length
  | [], [], _ => rfl
  | _ :: _, _ :: _, h => by simp only [List.length_cons]; rw [all2_len h.2]
  | [], _ :: _, h => h.elim
  | _ :: _, [], h => h.elim
theorem enR.fr {e : List Value} (h : enR A e p) {rc : List Value} {ex : Bool} {st : St} (hc : A[c]? = some (.row rc st 0 ex)) {es : List (List Value)} (hv : OwnE 0 A 2 v es) (hf : Fr c v A u B) : enR B e p := by
  obtain ⟨x, h1, h2⟩ := h
  exact ⟨x, h1, own_fr h2 hc hv.2 (by decide) (by decide) hf⟩
theorem enR.le {e : List Value} (h : enR A e p) (hl : Le A B) : enR B e p := by
  obtain ⟨x, h1, h2⟩ := h
  exact ⟨x, h1, OwnS.le h2 hl⟩
theorem CacheA.le (h : CacheA A c v lk n M l) (hl : Le A B) : CacheA B c v lk n M l := by
  obtain ⟨es, h1, h2⟩ := h.ents
  exact ⟨hl.row h.row, ⟨es, h1.le hl, All2.imp (fun _ _ h => enR.le h hl) _ _ h2⟩, h.nd⟩
theorem CacheA.len (h : CacheA A c v lk n M l) (B : AH) : sLens B false v = some (.int .i64 l.length, B) := by
  obtain ⟨es, h1, h2⟩ := h.ents
  rw [← all2_len h2]; exact Sl.lenB h1.2.sl B
theorem CacheA.one (h : CacheA A c v lk n M l) : one1 v := by
  obtain ⟨es, h1, h2⟩ := h.ents
  exact Sl.one1 h1.2.sl
theorem CacheA.lt (h : CacheA A c v lk n M l) : c < A.length := lt_of_get (rowAt_get h.row)
theorem CacheA.ge (h : CacheA A c v lk n M l) : ∀ j ∈ blkOf v, j < A.length := by
  obtain ⟨es, h1, h2⟩ := h.ents
  exact fun j hj => (h1.ge j hj).2
theorem CacheA.ne (h : CacheA A c v lk n M l) : c ∉ blkOf v := by
  obtain ⟨es, h1, h2⟩ := h.ents
  exact OwnS.row_apart h1.2 (rowAt_get h.row) (by decide)
/-- The cache's own row is written. -/
theorem CacheA.set (h : CacheA A c v lk n M l) (lk' n' : Int) : CacheA (A.set c (.row [.int .i32 lk', .int .u32 0, v, .int .i64 n', .int .i64 (M : Int)] .own 0 true)) c v lk' n' M l ∧ Fr c v A v (A.set c (.row [.int .i32 lk', .int .u32 0, v, .int .i64 n', .int .i64 (M : Int)] .own 0 true)) := by
  obtain ⟨es, h1, h2⟩ := h.ents
  have hg := rowAt_get h.row
  have hf : Fr c v A v (A.set c (.row [.int .i32 lk', .int .u32 0, v, .int .i64 n', .int .i64 (M : Int)] .own 0 true)) :=
    ⟨by simp, fun k b hk hc _ => by rw [List.getElem?_set_ne (Ne.symm hc)]; exact hk, fun j hj => .inl hj⟩
  exact ⟨⟨rowAt_own (set_get hg), ⟨es, h1.ki (Keep.set _ _ _) hg (by decide), All2.imp (fun _ _ h => enR.fr h hg h1 hf) _ _ h2⟩, h.nd⟩, hf⟩
theorem CacheA.mk' {rc : List Value} {st : St} {ex : Bool} {es : List (List Value)} (hc : A[c]? = some (.row rc st 0 ex)) (h1 : OwnE 0 A 2 v es) (h2 : All2 (enR A) es l) (h3 : (l.map (·.1)).Nodup) :
    CacheA (A.set c (.row [.int .i32 lk, .int .u32 0, v, .int .i64 n, .int .i64 (M : Int)] .own 0 true)) c v lk n M l := by
  have hf : Fr c v A v (A.set c (.row [.int .i32 lk, .int .u32 0, v, .int .i64 n, .int .i64 (M : Int)] .own 0 true)) :=
    ⟨by simp, fun k b hk hc _ => by rw [List.getElem?_set_ne (Ne.symm hc)]; exact hk, fun j hj => .inl hj⟩
  exact ⟨rowAt_own (set_get hc), ⟨es, h1.ki (Keep.set _ _ _) hc (by decide), All2.imp (fun _ _ h => enR.fr h hc h1 hf) _ _ h2⟩, h3⟩
theorem CacheA.oth (h : CacheA A c v lk n M l) {i : Nat} {rc : List Value} {st : St} {ex : Bool} {b : Blk} (hi : A[i]? = some (.row rc st 0 ex)) (hne : i ≠ c) : CacheA (A.set i b) c v lk n M l := by
  obtain ⟨es, h1, h2⟩ := h.ents
  refine ⟨rowAt_own (by rw [List.getElem?_set_ne hne]; exact rowAt_get h.row), ⟨es, h1.ki (Keep.set _ _ _) hi (by decide), All2.imp (fun _ _ hx => ?_) _ _ h2⟩, h.nd⟩
  obtain ⟨x, g1, g2⟩ := hx
  exact ⟨x, g1, OwnS.ki g2 (Keep.set _ _ _) hi (by decide)⟩
theorem Fr.of (h : Le A B) (k : KeepV B v D) (hu : ∀ j ∈ blkOf u, j ∈ blkOf v ∨ B.length ≤ j) (c : Nat) : Fr c v A u D :=
  ⟨Nat.le_trans h.len k.1, fun i b hi _ hv => k.2 i b (h.get hi) hv, fun j hj => (hu j hj).imp_right (fun h1 => Nat.le_trans h.len h1)⟩
theorem Fr.setc (h : Fr c v A u B) (b : Blk) : Fr c v A u (B.set c b) :=
  ⟨by rw [List.length_set]; exact h.1, fun k x hk hc hv => by rw [List.getElem?_set_ne (Ne.symm hc)]; exact h.2.1 k x hk hc hv, h.2.2⟩
theorem Fr.setn (h : Fr c v A u B) {i : Nat} (hi : A.length ≤ i) (b : Blk) : Fr c v A u (B.set i b) :=
  ⟨by rw [List.length_set]; exact h.1, fun k x hk hc hv => by rw [List.getElem?_set_ne (by have := lt_of_get hk; omega)]; exact h.2.1 k x hk hc hv, h.2.2⟩
theorem Fr.app (h : Fr c v A u B) (r : AH) : Fr c v A u (B ++ r) :=
  ⟨by rw [List.length_append]; have := h.1; omega, fun k x hk hc hv => by have := h.2.1 k x hk hc hv; rw [List.getElem?_append_left (lt_of_get this)]; exact this, h.2.2⟩
end
end Go.AS.C


namespace Go.AS.C
open Go Go.Proofs
set_option linter.unusedVariables false
set_option linter.unusedSimpArgs false
set_option maxRecDepth 10000

/-! Where an ID's entry stands (slices.IndexFunc with the closure of take). -/
theorem isId_spec {A : AH} {b : Nat} {id s : ByteArray} {x : Value} {Q : Value → AH → Prop} (hx : one1 x) (hb : rowAt A b = some ([.string id], .own, 0, true)) (hq : ∀ A', Le A A' → Q (.bool (decide (s = id))) A') :
    ACalls 0 Try.prog cache_Cache_take_1 [.agg #[.string s, x], ptr b] Q A := by
  refine ACalls.of_fits mixed (fits_cache_Cache_take_1.more 2 (by kernel_rfl)) rfl ?_
  unfold ic_cache_Cache_take_1
  have i0 : initA [.agg #[.string s, x], ptr b] 0 = .agg #[.string s, x] := rfl
  have i1 : initA [.agg #[.string s, x], ptr b] 1 = ptr b := rfl
  generalize initA [.agg #[.string s, x], ptr b] = a at i0 i1
  have hlt := lt_of_get (rowAt_get hb)
  have ho : x.oneCell' = true := hx.2
  simp (maxSteps := 1000000) (disch := omega) only [stepS, reduceIte, Nat.reduceBEq, Nat.reduceEqDiff, tupleOf, stepT, stepX, heapR, lensR, Nat.reduceAdd, Nat.reduceLeDiff, i0, i1, hb, ho]
  exact hq _ (.push _ _)
theorem idx_spec {A : AH} {v : Value} {es : List (List Value)} {l : List Pr} {id : ByteArray} {b : Nat} {Q : Value → AH → Prop} (hv : Sl A 2 v es.length es.flatten) (he : ∀ e ∈ es, e.length = 2 ∧ ones e = true) (h2 : All2 (enR A) es l)
    (hb : rowAt A b = some ([.string id], .own, 0, true)) (hl : l.length ≤ 2 ^ 30) (hq1 : (∀ p ∈ l, p.1 ≠ id) → ∀ A', Le A A' → Q (.int .i64 (-1)) A')
    (hq2 : ∀ (j : Nat) p, l[j]? = some p → p.1 = id → ∀ A', Le A A' → Q (.int .i64 (j : Int)) A') :
    ACalls 0 Try.prog cache_entry [v, .func (.func cache_Cache_take_1) #[] #[ptr b]] Q A := by
  refine ACalls.of_fits mixed fits_cache_entry rfl ?_
  unfold ic_cache_entry
  have hlen := all2_len h2
  have i0 : initA [v, .func (.func cache_Cache_take_1) #[] #[ptr b]] 0 = v := rfl
  have i1 : initA [v, .func (.func cache_Cache_take_1) #[] #[ptr b]] 1 = .func (.func cache_Cache_take_1) #[] #[ptr b] := rfl
  generalize initA [v, .func (.func cache_Cache_take_1) #[] #[ptr b]] = a at i0 i1
  have vl : ∀ B, sLens B false v = some (.int .i64 (l.length : Int), B) := by intro B; rw [← hlen]; exact Sl.lenB hv B
  simp (maxSteps := 1000000) (disch := omega) only [stepS, reduceIte, Nat.reduceBEq, Nat.reduceEqDiff, tupleOf, stepT, stepX, heapR, lensR, Nat.reduceAdd, Nat.reduceLeDiff, i0, i1, vl]
  refine W_loop (fun a B => ∃ j : Nat, a 0 = v ∧ a 1 = .func (.func cache_Cache_take_1) #[] #[ptr b] ∧ a 7 = .int .i64 (l.length : Int) ∧ a 8 = .int .i64 (j : Int) ∧ j ≤ l.length ∧ Le A B ∧ ∀ q ∈ l.take j, q.1 ≠ id) (fun a B => l.length - (match a 8 with | .int _ n => n.toNat | _ => 0)) ⟨0, by simp (maxSteps := 1000000) (disch := omega) only [stepS, reduceIte, Nat.reduceBEq, Nat.reduceEqDiff, tupleOf, stepT, i0], by simp (maxSteps := 1000000) (disch := omega) only [stepS, reduceIte, Nat.reduceBEq, Nat.reduceEqDiff, tupleOf, stepT, i1], by simp (maxSteps := 1000000) (disch := omega) only [stepS, reduceIte, Nat.reduceBEq, Nat.reduceEqDiff, tupleOf, stepT, i0], by simp (maxSteps := 1000000) (disch := omega) only [stepS, reduceIte, Nat.reduceBEq, Nat.reduceEqDiff, tupleOf, stepT, i0]; rfl, Nat.zero_le _, .refl _, by simp⟩ ?_
  rintro a B ⟨j, g0, g1, g7, g8, hj, k1, hn⟩
  by_cases hlt : j < l.length
  rotate_left
  · have hj2 : j = l.length := by omega
    subst hj2
    simp (maxSteps := 1000000) (disch := omega) only [stepS, reduceIte, Nat.reduceBEq, Nat.reduceEqDiff, tupleOf, stepT, stepX, heapR, lensR, Nat.reduceAdd, Nat.reduceLeDiff, g0, g1, g7, g8, vl, hlen]
    exact hq1 (fun p hp => hn p (by simpa using hp)) _ k1
  · obtain ⟨p, hp⟩ : ∃ p, l[j]? = some p := ⟨_, List.getElem?_eq_getElem hlt⟩
    obtain ⟨e, e1, x, e2, e3⟩ := all2_get h2 hp
    subst e2
    obtain ⟨q, _, q1, q2, q3⟩ := hv.el he e1
    have q3 := q3 B (fun k b hk _ => k1.get hk)
    have hok : calleeOk Try.prog cache_Cache_take_1 = true := by kernel_rfl
    simp (maxSteps := 1000000) (disch := omega) only [stepS, reduceIte, Nat.reduceBEq, Nat.reduceEqDiff, tupleOf, stepT, stepX, heapR, lensR, Nat.reduceAdd, Nat.reduceLeDiff, g0, g1, g7, g8, vl, hlen, q1, q3]
    refine ⟨hok, isId_spec (Sl.one1 e3.sl) (k1.row hb) fun A' k2 => ?_⟩
    by_cases hid : p.1 = id
    · simp (maxSteps := 1000000) (disch := omega) only [stepS, reduceIte, Nat.reduceBEq, Nat.reduceEqDiff, tupleOf, stepT, stepX, heapR, lensR, Nat.reduceAdd, Nat.reduceLeDiff, g0, g1, g7, g8, hid]
      exact hq2 j p hp hid _ (k1.trans k2)
    · simp (maxSteps := 1000000) (disch := omega) only [stepS, reduceIte, Nat.reduceBEq, Nat.reduceEqDiff, tupleOf, stepT, stepX, heapR, lensR, Nat.reduceAdd, Nat.reduceLeDiff, g0, g1, g7, g8, hid]
      refine ⟨⟨j + 1, by push_cast; rfl, by omega, k1.trans k2, ?_⟩, by have e : ((j : Int) + 1).toNat = j + 1 := by omega
                                                                        rw [e]; exact Nat.sub_lt_sub_left hlt (Nat.lt_succ_self j)⟩
      intro r hr
      rw [List.take_add_one, hp] at hr
      simp only [Option.toList_some, List.mem_append, List.mem_singleton] at hr
      rcases hr with hr | rfl
      · exact hn r hr
      · exact hid
end Go.AS.C


namespace Go.AS.C
open Go Go.Proofs

/-! The lock's functions and types in this program. -/
abbrev muL : Go.Conc.Locks.MuLink := { lock := 19, unlock := 20, ilock := 25, iunlock := 26, lockSlow := 36, unlockSlow := 39, disable := 32, enable := 34, acquire := 35, relMerge := 37, cas32 := 33, add32 := 38, tMutex := 52, tIMutex := 50, tPMutex := 65, tPIMutex := 71, tPI32 := 73, tUP := 75, tNoCopy := 47, tU32 := 48 }
theorem muLib : Go.Conc.Locks.MuLib Try.prog muL :=
  ⟨Try.func19, Try.func20, Try.func25, Try.func26, Try.func32, Try.func34, Try.func35, Try.func37, Try.func33, Try.func38, Try.underlying50, Try.runUnderlying50, Try.sizeOf50, Try.isAgg50, Try.zeroValue50, Try.underlying52, Try.runUnderlying52, Try.sizeOf52, Try.isAgg52, Try.zeroValue52, Try.underlying65, Try.runUnderlying65, Try.sizeOf65, Try.isAgg65, Try.zeroValue65, Try.underlying71, Try.runUnderlying71, Try.sizeOf71, Try.isAgg71, Try.zeroValue71, Try.underlying73, Try.runUnderlying73, Try.sizeOf73, Try.isAgg73, Try.zeroValue73, Try.underlying75, Try.runUnderlying75, Try.sizeOf75, Try.isAgg75, Try.zeroValue75, Try.underlying47, Try.runUnderlying47, Try.sizeOf47, Try.isAgg47, Try.zeroValue47, Try.underlying21, Try.runUnderlying21, Try.sizeOf21, Try.isAgg21, Try.zeroValue21, (by kernel_rfl)⟩
end Go.AS.C


namespace Go.AS.C
open Go Go.Proofs
set_option linter.unusedVariables false
set_option linter.unusedSimpArgs false
set_option maxRecDepth 10000

/-! An ID's entry taken out, an entry put to the beginning. -/
theorem one1_agg {e : ByteArray} {x : Value} (hx : one1 x) : ones [Value.string e, x] = true := ones_two (one1_str e) hx
theorem all2_rmv {A : AH} : ∀ {es : List (List Value)} {l : List Pr} (j : Nat), All2 (enR A) es l → All2 (enR A) (es.take j ++ es.drop (j + 1)) (l.take j ++ l.drop (j + 1)) := fun j h => all2_append (all2_take j h) (all2_drop (j + 1) h)
theorem take_spec {A : AH} {c : Nat} {v : Value} {lk n : Int} {M : Nat} {l : List Pr} {id : ByteArray} {Q : Value → AH → Prop} (h : CacheA A c v lk n M l) (hl : l.length ≤ 2 ^ 20) (hn0 : -1000000000000000 ≤ n) (hn1 : n ≤ 1000000000000000) (hs : ∀ p ∈ l, p.2.length ≤ 2 ^ 45)
    (hq1 : (∀ p ∈ l, p.1 ≠ id) → ∀ A', Le A A' → Q (.tuple #[.agg #[.string ⟨#[]⟩, .slice none 0 0], .bool false]) A')
    (hq2 : ∀ (p : Pr) x u, p ∈ l → p.1 = id → ∀ A', CacheA A' c u lk (n - p.2.length) M (rmv id l) → OwnB 0 A' x p.2 → Fr c v A u A' → Q (.tuple #[.agg #[.string id, x], .bool true]) A') :
    ACalls 0 Try.prog cache_Cache_take [ptr c, .string id] Q A := by
  refine ACalls.of_fits mixed fits_cache_Cache_take rfl ?_
  unfold ic_cache_Cache_take
  have i0 : initA [ptr c, .string id] 0 = ptr c := rfl
  have i1 : initA [ptr c, .string id] 1 = .string id := rfl
  generalize initA [ptr c, .string id] = a at i0 i1
  refine W_mid (fun a B => a 0 = ptr c ∧ a 3 = ptr A.length ∧ a 4 = ptr (A.length + 1) ∧ Le A B ∧ rowAt B A.length = some ([.string id], .own, 0, true) ∧ rowAt B (A.length + 1) = some ([.string ⟨#[]⟩, .slice none 0 0], .own, 0, true)) ?_ ?_
  · simp (maxSteps := 1000000) (disch := omega) only [stepS, reduceIte, Nat.reduceBEq, Nat.reduceEqDiff, tupleOf, stepT, stepX, heapR, lensR, stepM, dsl, Nat.reduceAdd, Nat.reduceLeDiff, i0, i1]
    (repeat first | exact Le.refl _ | assumption | refine Le.app ?_ _ | refine Le.set ?_ ?_ | omega | (simp only [List.length_append, List.length_singleton, List.length_set]; omega))
  clear i0 i1 a
  rintro a B ⟨g0, g3, g4, k1, r3, r4⟩
  have hB := h.le k1
  obtain ⟨es, he, h2⟩ := hB.ents
  have hcr := hB.row
  have hlen := all2_len h2
  simp (maxSteps := 1000000) (disch := omega) only [stepS, reduceIte, Nat.reduceBEq, Nat.reduceEqDiff, tupleOf, stepT, stepX, heapR, lensR, stepM, dsl, Nat.reduceAdd, Nat.reduceLeDiff, g0, g3, hcr]
  refine idx_spec he.2.sl he.1 h2 r3 (by omega) (fun hno B2 k2 => ?_) (fun j p hj hp B2 k2 => ?_)
  · have r4' := k2.row r4
    have hAl : A.length + 1 < B2.length := lt_of_get (rowAt_get r4')
    have := k1.trans k2
    simp (maxSteps := 1000000) (disch := omega) only [stepS, reduceIte, Nat.reduceBEq, Nat.reduceEqDiff, tupleOf, stepT, stepX, heapR, lensR, stepM, dsl, Nat.reduceAdd, Nat.reduceLeDiff, g4, r4']
    exact hq1 hno _ (by (repeat first | exact Le.refl _ | assumption | refine Le.app ?_ _ | refine Le.set ?_ ?_ | omega | (simp only [List.length_append, List.length_singleton, List.length_set]; omega)))
  subst hp
  have hjl := lt_of_get hj
  have r4' := k2.row r4
  have hcr2 := k2.row hcr
  have hB2 := hB.le k2
  have he2 := he.le k2
  have hm2 : All2 (enR B2) es l := All2.imp (fun _ _ h => enR.le h k2) _ _ h2
  obtain ⟨e, e1, x, e2, e3⟩ := all2_get hm2 hj
  subst e2
  obtain ⟨q, _, q1, q2, q3⟩ := he2.el e1
  have hox : x.oneCell' = true := (Sl.one1 e3.sl).2
  have hcl := hB2.lt
  have hAl : A.length + 1 < B2.length := lt_of_get (rowAt_get r4')
  have hplen := hs p (List.mem_of_getElem? hj)
  have hcx : (Value.agg #[Value.string p.1, x]).cells = #[.string p.1, x] := rfl
  simp (maxSteps := 1000000) (disch := omega) only [stepS, reduceIte, Nat.reduceBEq, Nat.reduceEqDiff, tupleOf, stepT, stepX, heapR, lensR, stepM, dsl, Nat.reduceAdd, Nat.reduceLeDiff, g0, g4, hcr2, r4', q1, q2, hox, hcx]
  have kD : Le B2 ((B2 ++ [Blk.row [.string ⟨#[]⟩, .slice none 0 0] .own 0 true]).set B2.length (Blk.row [.string p.1, x] .own 0 true)) := by (repeat first | exact Le.refl _ | assumption | refine Le.app ?_ _ | refine Le.set ?_ ?_ | omega | (simp only [List.length_append, List.length_singleton, List.length_set]; omega))
  obtain ⟨D, hD⟩ : ∃ D : AH, D = (B2 ++ [Blk.row [.string ⟨#[]⟩, .slice none 0 0] .own 0 true]).set B2.length (Blk.row [.string p.1, x] .own 0 true) := ⟨_, rfl⟩
  have r7 : rowAt D B2.length = some ([.string p.1, x], .own, 0, true) := by rw [hD]; simp (maxSteps := 1000000) (disch := omega) only [stepS, reduceIte, Nat.reduceBEq, Nat.reduceEqDiff, tupleOf, stepT, stepX, heapR, lensR, stepM, dsl, Nat.reduceAdd, Nat.reduceLeDiff]
  rw [← hD] at kD ⊢
  clear hD
  have heD := he2.le kD
  have hcD := kD.row hcr2
  have r4D := kD.row r4'
  refine delete1_spec (A0 := []) (es := es) (i := j) (bytes := 40) mixed fits_cache_entry_29 (by decide) rfl rfl (by decide) ⟨_, rfl⟩ heD (by omega) rfl (by omega) fun u E _ w1 w2 w3 => ?_
  have hcE := rowAt_own (w2.2 _ _ (rowAt_get hcD) (OwnS.row_apart heD.2 (rowAt_get hcD) (by decide)))
  have r4E := rowAt_own (w2.2 _ _ (rowAt_get r4D) (OwnS.row_apart heD.2 (rowAt_get r4D) (by decide)))
  have r7E := rowAt_own (w2.2 _ _ (rowAt_get r7) (OwnS.row_apart heD.2 (rowAt_get r7) (by decide)))
  have hcl2 := lt_of_get (rowAt_get hcE)
  have hAl2 := lt_of_get (rowAt_get r4E)
  have hBl2 := lt_of_get (rowAt_get r7E)
  have hfE : Fr c v A u E := Fr.of ((k1.trans k2).trans kD) w2 (fun j hj => .inl (w3 j hj)) c
  have hfD : Fr c v D u E := Fr.of (.refl _) w2 (fun j hj => .inl (w3 j hj)) c
  have hmE : All2 (enR E) es l := All2.imp (fun _ _ h => enR.fr (enR.le h kD) (rowAt_get hcD) heD hfD) _ _ hm2
  have hxE : OwnB 0 E x p.2 := own_fr (OwnS.le e3 kD) (rowAt_get hcD) heD.2 (by decide) (by decide) hfD
  have hou : u.oneCell' = true := (Sl.one1 w1.2.sl).2
  have hcu := (Sl.one1 w1.2.sl).1
  have vx : ∀ B, sLens B false x = some (.int .i64 (p.2.length : Int), B) := fun B => Sl.lenB e3.sl B
  have hk1 := k1.len
  have hk2 := k2.len
  have ou : ∀ A', stQ (some ([.int .i32 lk, .int .u32 0, v, .int .i64 n, .int .i64 (M : Int)], .own, 0, true)) c 2 1 u A' = some (undef, A'.set c (.row [.int .i32 lk, .int .u32 0, u, .int .i64 n, .int .i64 (M : Int)] .own 0 true)) := fun A' => stQ_one (Sl.one1 w1.2.sl) (by simp)
  have hc0 := h.lt
  simp (maxSteps := 1000000) (disch := omega) only [stepS, reduceIte, Nat.reduceBEq, Nat.reduceEqDiff, tupleOf, stepT, stepX, heapR, lensR, stepM, dsl, Nat.reduceAdd, Nat.reduceLeDiff, g0, g4, hcE, r4E, r7E, ou, vx, hox, hcx]
  have hrm := (rmv_at h.nd hj).1
  have hnd := rmv_nd (id := p.1) h.nd
  have c1 : CacheA (E.set c (.row [.int .i32 lk, .int .u32 0, u, .int .i64 n, .int .i64 (M : Int)] .own 0 true)) c u lk n M (rmv p.1 l) :=
    CacheA.mk' (rowAt_get hcE) w1 (by rw [hrm]; exact all2_rmv j hmE) hnd
  have c2 := (c1.set lk (n - (p.2.length : Int))).1
  refine hq2 p x u (List.mem_of_getElem? hj) rfl _ (c2.oth (i := A.length + 1) (rc := [.string ⟨#[]⟩, .slice none 0 0]) (st := .own) (ex := true) ?_ (by omega)) ?_ ((hfE.setc _).setc _ |>.setn (by omega) _)
  · rw [List.getElem?_set_ne (by omega), List.getElem?_set_ne (by omega)]; exact rowAt_get r4E
  · have x1 := OwnS.ki hxE (Keep.set E c (.row [.int .i32 lk, .int .u32 0, u, .int .i64 n, .int .i64 (M : Int)] .own 0 true)) (rowAt_get hcE) (by decide)
    have x2 := OwnS.ki x1 (Keep.set _ c (.row [.int .i32 lk, .int .u32 0, u, .int .i64 (n - (p.2.length : Int)), .int .i64 (M : Int)] .own 0 true)) (rowAt_get c1.row) (by decide)
    exact OwnS.ki x2 (Keep.set _ (A.length + 1) _) (rc := [.string ⟨#[]⟩, .slice none 0 0]) (st := .own) (ex := true) (by rw [List.getElem?_set_ne (by omega), List.getElem?_set_ne (by omega)]; exact rowAt_get r4E) (by decide)
theorem ovlE : OvlOk Try.prog cache_entry_40 2 := ⟨Try.f40, 53, 4, 57, Try.func40, by kernel_rfl, by kernel_rfl, by kernel_rfl, by kernel_rfl, Try.underlying53, fun w => by kernel_rfl⟩
theorem first_spec {A : AH} {c : Nat} {v x : Value} {lk n : Int} {M : Nat} {l : List Pr} {id : ByteArray} {t : List UInt8} {Q : Value → AH → Prop} (h : CacheA A c v lk n M l) (hl : l.length ≤ 2 ^ 20) (hn0 : -1000000000000000 ≤ n) (hn1 : n ≤ 1000000000000000) (ht : t.length ≤ 2 ^ 40)
    (hx : OwnB 0 A x t) (hno : ∀ p ∈ l, p.1 ≠ id)
    (hq : ∀ u A', CacheA A' c u lk (n + t.length) M ((id, t) :: l) → OwnB 0 A' x t → Fr c v A u A' → Q undef A') :
    ACalls 0 Try.prog cache_Cache_first [ptr c, .agg #[.string id, x]] Q A := by
  refine ACalls.of_fits mixed fits_cache_Cache_first rfl ?_
  unfold ic_cache_Cache_first
  have i0 : initA [ptr c, .agg #[.string id, x]] 0 = ptr c := rfl
  have i1 : initA [ptr c, .agg #[.string id, x]] 1 = .agg #[.string id, x] := rfl
  generalize initA [ptr c, .agg #[.string id, x]] = a at i0 i1
  have hox : x.oneCell' = true := (Sl.one1 hx.sl).2
  have hcx : (Value.agg #[Value.string id, x]).cells = #[.string id, x] := rfl
  refine W_mid (fun a B => a 0 = ptr c ∧ a 3 = ptr A.length ∧ Le A B ∧ rowAt B A.length = some ([.string id, x], .own, 0, true)) ?_ ?_
  · simp (maxSteps := 1000000) (disch := omega) only [stepS, reduceIte, Nat.reduceBEq, Nat.reduceEqDiff, tupleOf, stepT, stepX, heapR, lensR, stepM, dsl, Nat.reduceAdd, Nat.reduceLeDiff, i0, i1, hox, hcx]
    (repeat first | exact Le.refl _ | assumption | refine Le.app ?_ _ | refine Le.set ?_ ?_ | omega | (simp only [List.length_append, List.length_singleton, List.length_set]; omega))
  clear i0 i1 a
  rintro a B ⟨g0, g3, k1, r3⟩
  have hB := h.le k1
  have hxB := OwnS.le hx k1
  have hcl := h.lt
  obtain ⟨es, he, h2⟩ := hB.ents
  have hcr := hB.row
  have hlen := all2_len h2
  have hone : ones [Value.string id, x] = true := one1_agg (Sl.one1 hx.sl)
  have l1 : sLit B [.string ⟨#[]⟩, .slice none 0 0] 2 1 [(0, 2, .agg #[.string id, x])] = some (.slice (some ⟨B.length, 0, none⟩) 1 1, B ++ [.row [.string id, x] .own 2 true]) := by
    unfold sLit
    have : fillA ((List.replicate 1 [Value.string ⟨#[]⟩, Value.slice none 0 0]).flatten) [(0, 2, .agg #[.string id, x])] = some [.string id, x] := by
      simp [fillA, hcx, hone, setAll, Value.cells]
    rw [this]; rfl
  have rdk : ∀ C : AH, RdOk [c] B (B ++ C) := fun C => Le.rd ⟨C, rfl⟩ _
  simp (maxSteps := 1000000) (disch := omega) only [stepS, reduceIte, Nat.reduceBEq, Nat.reduceEqDiff, tupleOf, stepT, stepX, heapR, lensR, stepM, dsl, Nat.reduceAdd, Nat.reduceLeDiff, g0, g3, hcr, r3, hox, hcx, l1, rdk]
  obtain ⟨D, hD⟩ : ∃ D : AH, D = B ++ [Blk.row [.string id, x] .own 2 true] := ⟨_, rfl⟩
  have kD : Le B D := by rw [hD]; exact .push _ _
  have hDl : D[B.length]? = some (Blk.row [.string id, x] .own 2 true) := by rw [hD]; exact get_last _ _
  rw [← hD]
  clear hD l1 rdk
  have heD := he.le kD
  have hcD := kD.row hcr
  have r3D := kD.row r3
  have hlit : OwnE 0 D 2 (.slice (some ⟨B.length, 0, none⟩) 1 1) [[.string id, x]] :=
    ⟨fun e he => by rw [List.mem_singleton] at he; subst he; exact ⟨rfl, hone⟩, rfl, .inr (.inr ⟨B.length, 0, 1, _, true, rfl, Nat.le_refl _, Nat.zero_le _, hDl, Nat.le_refl _, fun j _ => by simp⟩)⟩
  have hap : ∀ k ∈ blkOf (Value.slice (some ⟨B.length, 0, none⟩) 1 1), k ∉ blkOf v := fun k hk hv => by
    have h1 := hB.ge k hv
    have : k = B.length := by simpa [blkOf] using hk
    omega
  refine insert1_spec (A0 := []) (es := es) (e := [.string id, x]) (i := 0) (bytes := 40) (fo := cache_entry_40) (fr := cache_entry_41) (z := [.string ⟨#[]⟩, .slice none 0 0]) mixed fits_cache_entry_30 ovlE (by decide) rfl rfl (by decide) ⟨_, rfl⟩ heD hlit hap (Nat.zero_le _) (by omega) fun u E _ w1 w2 w3 => ?_
  have hcE := rowAt_own (w2.2 _ _ (rowAt_get hcD) (OwnS.row_apart heD.2 (rowAt_get hcD) (by decide)))
  have r3E := rowAt_own (w2.2 _ _ (rowAt_get r3D) (OwnS.row_apart heD.2 (rowAt_get r3D) (by decide)))
  have hcl2 := lt_of_get (rowAt_get hcE)
  have hAl2 := lt_of_get (rowAt_get r3E)
  have hfE : Fr c v A u E := Fr.of (k1.trans kD) w2 w3 c
  have hfD : Fr c v D u E := Fr.of (.refl _) w2 w3 c
  have hmE : All2 (enR E) es l := All2.imp (fun _ _ h => enR.fr (enR.le h kD) (rowAt_get hcD) heD hfD) _ _ h2
  have hxE : OwnB 0 E x t := own_fr (OwnS.le hxB kD) (rowAt_get hcD) heD.2 (by decide) (by decide) hfD
  have vx : ∀ B, sLens B false x = some (.int .i64 (t.length : Int), B) := fun B => Sl.lenB hx.sl B
  have ou : ∀ A', stQ (some ([.int .i32 lk, .int .u32 0, v, .int .i64 n, .int .i64 (M : Int)], .own, 0, true)) c 2 1 u A' = some (undef, A'.set c (.row [.int .i32 lk, .int .u32 0, u, .int .i64 n, .int .i64 (M : Int)] .own 0 true)) := fun A' => stQ_one (Sl.one1 w1.2.sl) (by simp)
  have rdc : RdOk [c] B E := fun k hk b hb => by
    rw [List.mem_singleton] at hk
    subst hk
    rw [rowAt_get hcr] at hb
    injection hb with hb
    subst hb
    exact rowAt_get hcE
  simp (maxSteps := 1000000) (disch := omega) only [stepS, reduceIte, Nat.reduceBEq, Nat.reduceEqDiff, tupleOf, stepT, stepX, heapR, lensR, stepM, dsl, Nat.reduceAdd, Nat.reduceLeDiff, g0, g3, hcE, r3E, ou, vx, rdc]
  have w1' : OwnE 0 E 2 u ([.string id, x] :: es) := by simpa using w1
  have c1 : CacheA (E.set c (.row [.int .i32 lk, .int .u32 0, u, .int .i64 n, .int .i64 (M : Int)] .own 0 true)) c u lk n M ((id, t) :: l) :=
    CacheA.mk' (rowAt_get hcE) w1' ⟨⟨x, rfl, hxE⟩, hmE⟩ (cons_nd h.nd hno)
  refine hq u _ (c1.set lk (n + (t.length : Int))).1 ?_ ((hfE.setc _).setc _)
  have x1 := OwnS.ki hxE (Keep.set E c (.row [.int .i32 lk, .int .u32 0, u, .int .i64 n, .int .i64 (M : Int)] .own 0 true)) (rowAt_get hcE) (by decide)
  exact OwnS.ki x1 (Keep.set _ c (.row [.int .i32 lk, .int .u32 0, u, .int .i64 (n + (t.length : Int)), .int .i64 (M : Int)] .own 0 true)) (rowAt_get c1.row) (by decide)
end Go.AS.C


namespace Go.AS.C
open Go
set_option linter.unusedVariables false
set_option linter.unusedSimpArgs false
set_option maxRecDepth 10000

/-- One bit's turn. -/
def bit1 (c : BitVec 32) : BitVec 32 := (c >>> 1) ^^^ (2197175160#32 &&& -(c &&& 1#32))

def bitsN : Nat → BitVec 32 → BitVec 32
  | 0, c => c
  | n + 1, c => bit1 (bitsN n c)

def byte1 (c : BitVec 32) (b : UInt8) : BitVec 32 := bitsN 8 (c ^^^ BitVec.ofNat 32 b.toNat)

def more (s : BitVec 32) (bs : List UInt8) : BitVec 32 := ~~~ (bs.foldl byte1 (~~~ s))

theorem h256 : (Value.int .u32 256) = u32 256#32 := rfl

end Go.AS.C


namespace Go.AS.C
open Go Go.Proofs
set_option linter.unusedVariables false
set_option linter.unusedSimpArgs false
set_option maxRecDepth 10000

theorem slices_Clone_spec {A : AH} {v : Value} {xs : List UInt8} {Q : Value → AH → Prop} (hv : Byt A v xs) (hl : xs.length ≤ 2 ^ 40) (hq : ∀ u A', Le A A' → OwnB A.length A' u xs → Q u A') :
    ACalls 0 Try.prog slices_Clone_byte_byte [v] Q A := by
  refine ACalls.of_fits mixed fits_slices_Clone_byte_byte rfl ?_
  unfold ic_slices_Clone_byte_byte
  have i0 : initA [v] 0 = v := rfl
  generalize initA [v] = a at i0
  obtain ⟨p, c, hs, hp⟩ := hv.shape
  cases p with
  | none =>
    have c1 : (if kindOf (.slice 5) v = true then sIsnil A v false else none) = some (.bool true, A) := by subst hs; rfl
    simp only [stepS, reduceIte, Nat.reduceBEq, Nat.reduceEqDiff, tupleOf, i0, c1]
    rw [hp rfl] at hq
    exact hq _ _ (.refl _) (OwnB.nil _ _)
  | some b =>
    have c1 : (if kindOf (.slice 5) v = true then sIsnil A v false else none) = some (.bool false, A) := by subst hs; rfl
    obtain ⟨v', A', q1, q2, q3, _⟩ := app_bytes (A0 := A) (A := A ++ [.row [] .own 1 true]) (v := .slice (some ⟨A.length, 0, none⟩) 0 0) (bs := []) (.push _ _) (own_lit_none (.refl _)) (hv.le (.push _ _)) (by simp; omega)
    simp only [stepS, reduceIte, Nat.reduceBEq, Nat.reduceEqDiff, tupleOf, i0, c1, lit_none, q1]
    exact hq _ _ q2 q3

end Go.AS.C


namespace Go.AS.C
open Go Go.Proofs
set_option linter.unusedVariables false
set_option linter.unusedSimpArgs false
set_option maxRecDepth 10000

/-! The cache's calls: Of, Put, Get, Size, IDs, Len. -/
/-- The lock, taken. -/
theorem lock_spec {A : AH} {c : Nat} {v : Value} {n : Int} {M : Nat} {l : List Pr} {Q : Value → AH → Prop} (h : CacheA A c v 0 n M l)
    (hq : ∀ A', CacheA A' c v 1 n M l → Fr c v A v A' → A'.length = A.length → Q undef A') : ACalls 0 Try.prog sync_Mutex_Lock [ptr c] Q A := by
  refine mu_lock (L := muL) muLib (o := 0) (rowAt_get h.row) rfl ?_
  obtain ⟨h1, h2⟩ := h.set 1 n
  exact hq _ h1 h2 (by simp)
/-- The lock, let go. -/
theorem unlock_spec {A : AH} {c : Nat} {v : Value} {n : Int} {M : Nat} {l : List Pr} {Q : AH → Prop} (h : CacheA A c v 1 n M l)
    (hq : ∀ A', CacheA A' c v 0 n M l → Fr c v A v A' → A' = A.set c (.row [.int .i32 0, .int .u32 0, v, .int .i64 n, .int .i64 (M : Int)] .own 0 true) → Q A') : ACallsD 0 Try.prog sync_Mutex_Unlock [ptr c] Q A := by
  refine mu_unlockD (L := muL) muLib (o := 0) (rowAt_get h.row) rfl ?_
  obtain ⟨h1, h2⟩ := h.set 0 n
  exact hq _ h1 h2 rfl
/-- A slice of cells of another size than the entries is as it was. -/
theorem sl_fr {A B : AH} {c sz k : Nat} {v u x : Value} {lk n : Int} {M : Nat} {l : List Pr} {cs : List Value} (h : Sl A sz x k cs) (hc : CacheA A c v lk n M l) (hf : Fr c v A u B) (h0 : sz ≠ 0) (h2 : sz ≠ 2) : Sl B sz x k cs := by
  obtain ⟨es, h1, _⟩ := hc.ents
  obtain ⟨g0, h⟩ := h
  refine ⟨g0, ?_⟩
  rcases h with h | h | ⟨i, o, q, rc', st, ex', e1, e2, e3, e4, e5, e6⟩
  · exact .inl h
  · exact .inr (.inl h)
  · refine .inr (.inr ⟨i, o, q, rc', st, ex', e1, e2, hf.2.1 i _ e3 ?_ (OwnS.row_apart h1.2 e3 h2), e4, e5, e6⟩)
    rintro rfl
    rw [rowAt_get hc.row] at e3
    injection e3 with e3
    injection e3 with _ _ e3 _
    exact h0 e3.symm
theorem byt_fr {A B : AH} {c : Nat} {v u x : Value} {lk n : Int} {M : Nat} {l : List Pr} {t : List UInt8} (h : Byt A x t) (hc : CacheA A c v lk n M l) (hf : Fr c v A u B) : Byt B x t := sl_fr h hc hf (by decide) (by decide)
theorem tot_mem {p : Pr} : ∀ {l : List Pr}, p ∈ l → p.2.length ≤ tot l
  | q :: r, h => by
    rcases List.mem_cons.1 h with rfl | h
    · simp only [tot]; omega
    · have := tot_mem h; simp only [tot]; omega
theorem take_any {A : AH} {c : Nat} {v : Value} {lk : Int} {M : Nat} {l : List Pr} {id : ByteArray} {Q : Value → AH → Prop} (h : CacheA A c v lk (tot l : Int) M l) (hl : l.length ≤ 2 ^ 20) (hn : tot l ≤ 2 ^ 45)
    (hq : ∀ r u A', CacheA A' c u lk (tot (rmv id l) : Int) M (rmv id l) → Fr c v A u A' → Q r A') : ACalls 0 Try.prog cache_Cache_take [ptr c, .string id] Q A := by
  refine take_spec h hl (by omega) (by omega) (fun p hp => Nat.le_trans (tot_mem hp) hn) (fun hno A' k => ?_) (fun p x u hp he A' h1 h2 h3 => ?_)
  · refine hq _ v A' ?_ (Le.fr k c v)
    rw [rmv_none hno]; exact h.le k
  · refine hq _ u A' ?_ h3
    subst he
    obtain ⟨j, hj⟩ := List.getElem?_of_mem hp
    have := (rmv_at h.nd hj).2
    have e : (tot l : Int) - (p.2.length : Int) = (tot (rmv p.1 l) : Int) := by omega
    rw [← e]; exact h1
def lenC (B : AH) (c : Nat) : Nat := match rowAt B c with
  | some (_ :: _ :: .slice _ k _ :: _, _) => k
  | _ => 0
theorem CacheA.lenC {A : AH} {c : Nat} {v : Value} {lk n : Int} {M : Nat} {l : List Pr} (h : CacheA A c v lk n M l) : lenC A c = l.length := by
  have h1 := h.len A
  unfold AS.C.lenC
  rw [h.row]
  cases v <;> simp [sLens] at h1 ⊢
  omega
theorem rmv_tot (id : ByteArray) : ∀ l : List Pr, tot (rmv id l) ≤ tot l
  | [] => Nat.le_refl _
  | p :: r => by
    have ih := rmv_tot id r
    unfold rmv at ih ⊢
    rw [List.filter_cons]
    split
    · simp only [tot]; omega
    · simp only [tot]; omega
theorem of_spec {A : AH} {m : Int} {Q : Value → AH → Prop} (h0 : -9223372036854775808 ≤ m) (h1 : m < 9223372036854775808)
    (hq : ∀ A', Le A A' → A'.length = A.length + 1 → CacheA A' A.length (.slice none 0 0) 0 0 (max m 0).toNat [] → Q (ptr A.length) A') : ACalls 0 Try.prog cache_Of [.int .i64 m] Q A := by
  refine ACalls.of_fits mixed fits_cache_Of rfl ?_
  unfold ic_cache_Of
  have i0 : initA [.int .i64 m] 0 = .int .i64 m := rfl
  generalize initA [.int .i64 m] = a at i0
  have hm : (max m 0) = ((max m 0).toNat : Int) := by omega
  have hb : sBuild A [.int .i32 0, .int .u32 0, .slice none 0 0, .int .i64 0, .int .i64 0] [(4, 1, .int .i64 (max m 0))] = some (.agg #[.int .i32 0, .int .u32 0, .slice none 0 0, .int .i64 0, .int .i64 (max m 0)], A) := rfl
  simp (maxSteps := 1000000) (disch := omega) only [stepS, reduceIte, Nat.reduceBEq, Nat.reduceEqDiff, tupleOf, stepT, stepX, heapR, lensR, stepM, dsl, Nat.reduceAdd, Nat.reduceLeDiff, i0, hb]
  refine hq _ (.push _ _) (by simp) ⟨?_, ⟨[], OwnE.nil _ _ _, trivial⟩, by simp⟩
  rw [← hm]
  exact rowAt_own (get_last _ _)
set_option maxHeartbeats 1000000 in
theorem put_spec {A : AH} {c : Nat} {v tv : Value} {M : Nat} {l : List Pr} {id : ByteArray} {t : List UInt8} {Q : Value → AH → Prop} (h : CacheA A c v 0 (tot l : Int) M l) (hl : l.length ≤ 2 ^ 19) (hs : tot l ≤ 2 ^ 40) (ht : Byt A tv t) (htl : t.length ≤ 2 ^ 40)
    (hq : ∀ u A', CacheA A' c u 0 (tot (putP M id t l) : Int) M (putP M id t l) → Fr c v A u A' → Q undef A') :
    ACalls 0 Try.prog cache_Cache_Put [ptr c, .string id, tv] Q A := by
  refine ACalls.of_fitsD mixed fits_cache_Cache_Put rfl ?_
  unfold ic_cache_Cache_Put
  have i0 : initA [ptr c, .string id, tv] 0 = ptr c := rfl
  have i1 : initA [ptr c, .string id, tv] 1 = .string id := rfl
  have i2 : initA [ptr c, .string id, tv] 2 = tv := rfl
  have i3 : initA [ptr c, .string id, tv] 1000000 = undef := initA_dsl (by simp)
  generalize initA [ptr c, .string id, tv] = a at i0 i1 i2 i3
  have c1 : (if kindOf (.pointer 55) (ptr c) = true then sIsnil A (ptr c) false else none) = some (.bool false, A) := rfl
  simp (maxSteps := 1000000) (disch := omega) only [stepS, reduceIte, Nat.reduceBEq, Nat.reduceEqDiff, tupleOf, stepT, stepX, heapR, lensR, stepM, dsl, Nat.reduceAdd, Nat.reduceLeDiff, i0, c1]
  refine lock_spec h fun A1 h1 f1 e1 => ?_
  simp (maxSteps := 1000000) (disch := omega) only [stepS, reduceIte, Nat.reduceBEq, Nat.reduceEqDiff, tupleOf, stepT, stepX, heapR, lensR, stepM, dsl, Nat.reduceAdd, Nat.reduceLeDiff, i0, i1, i2, i3]
  refine take_any h1 (by omega) (by omega) fun r u2 A2 h2 f2 => ?_
  simp (maxSteps := 1000000) (disch := omega) only [stepS, reduceIte, Nat.reduceBEq, Nat.reduceEqDiff, tupleOf, stepT, stepX, heapR, lensR, stepM, dsl, Nat.reduceAdd, Nat.reduceLeDiff, i0, i1, i2, i3]
  have hr1 := rmv_len id l
  have hr2 := rmv_tot id l
  refine slices_Clone_spec (byt_fr (byt_fr ht h f1) h1 f2) htl fun x A3 k3 hx => ?_
  have hox : one1 x := Sl.one1 hx.sl
  have hbx : fillA [.string id, .slice none 0 0] [(1, 1, x)] = some [.string id, x] := by
    have h1 := hox.1
    have h2 : x.oneCell' = true := hox.2
    simp [fillA, h1, ones, h2, setAll]
  simp (maxSteps := 1000000) (disch := omega) only [stepS, reduceIte, Nat.reduceBEq, Nat.reduceEqDiff, tupleOf, stepT, stepX, heapR, lensR, stepM, dsl, Nat.reduceAdd, Nat.reduceLeDiff, i0, i1, i2, i3, hbx]
  refine first_spec (h2.le k3) (by omega) (by omega) (by omega) htl (OwnS.mono hx (Nat.zero_le _)) (rmv_not id l) fun u4 A4 h4 _ f4 => ?_
  have ht4 : ((tot (rmv id l) : Int) + (t.length : Int)) = (tot ((id, t) :: rmv id l) : Int) := by simp only [tot]; omega
  rw [ht4] at h4
  have f14 : Fr c v A u4 A4 := ((f1.trans f2).trans (Le.fr k3 c u2)).trans f4
  clear f4 h2 h1 f1 f2 hx hbx hox k3 e1 ht
  simp (maxSteps := 1000000) (disch := omega) only [stepS, reduceIte, Nat.reduceBEq, Nat.reduceEqDiff, tupleOf, stepT, stepX, heapR, lensR, stepM, dsl, Nat.reduceAdd, Nat.reduceLeDiff, i0, i1, i2, i3]
  have hft : fit M ((id, t) :: rmv id l) = putP M id t l := rfl
  have hl5 : ((id, t) :: rmv id l).length ≤ 2 ^ 20 := by rw [List.length_cons]; omega
  have hs5 : tot ((id, t) :: rmv id l) ≤ 2 ^ 45 := by simp only [tot]; omega
  obtain ⟨I, hI⟩ : ∃ I : AT → AH → Prop, I = fun a B => ∃ u l', a 0 = ptr c ∧ a 1000000 = .tuple [.func (.func sync_Mutex_Unlock) [ptr c].toArray #[]].toArray ∧ CacheA B c u 1 (tot l' : Int) M l' ∧ fit M l' = putP M id t l ∧ Fr c v A u B ∧ l'.length ≤ 2 ^ 20 ∧ tot l' ≤ 2 ^ 45 := ⟨_, rfl⟩
  refine W_loop I (fun a B => lenC B c) (by rw [hI]; exact ⟨u4, (id, t) :: rmv id l, by simp (maxSteps := 1000000) (disch := omega) only [stepS, reduceIte, Nat.reduceBEq, Nat.reduceEqDiff, tupleOf, stepT, stepX, heapR, lensR, stepM, dsl, Nat.reduceAdd, Nat.reduceLeDiff, i0], by simp (maxSteps := 1000000) (disch := omega) only [stepS, reduceIte, Nat.reduceBEq, Nat.reduceEqDiff, tupleOf, stepT, stepX, heapR, lensR, stepM, dsl, Nat.reduceAdd, Nat.reduceLeDiff, i0], h4, hft, f14, hl5, hs5⟩) ?_
  clear i0 i1 i2 i3 h4 f14 hft hl5 hs5 hr1 hr2 ht4
  intro a B hinv
  have hinv' := hinv
  rw [hI] at hinv'
  obtain ⟨u, l', g0, g6, hc, hft, hf, hl5, hs5⟩ := hinv'
  have hcr := hc.row
  have hcl := hc.lt
  have vl := hc.len B
  by_cases hgt : M < tot l'
  rotate_left
  · simp (maxSteps := 1000000) (disch := omega) only [stepS, reduceIte, Nat.reduceBEq, Nat.reduceEqDiff, tupleOf, stepT, stepX, heapR, lensR, stepM, dsl, Nat.reduceAdd, Nat.reduceLeDiff, g0, g6, hcr]
    refine ⟨_, rfl, ?_⟩
    rw [runD_cons]
    refine unlock_spec hc fun D hD fD _ => ?_
    rw [runD_nil]
    rw [← hft, fit_all l' M (by omega)] at hq
    exact hq u D hD (hf.trans fD)
  · have hne : 0 < l'.length := by
      cases l' with
      | nil => simp [tot] at hgt
      | cons p r => simp
    obtain ⟨q, hq'⟩ : ∃ q, l'[l'.length - 1]? = some q := ⟨_, List.getElem?_eq_getElem (by omega)⟩
    obtain ⟨es, he, h2⟩ := hc.ents
    obtain ⟨e, e1, x, e2, e3⟩ := all2_get h2 hq'
    subst e2
    obtain ⟨p1, p2, _, o1, o2, o3⟩ := Sl.elf he.2.sl he.1 e1 (o := 0) rfl
    have o1 := fun (B : AH) => o1 B ((l'.length : Int) - 1) (by omega)
    simp (maxSteps := 1000000) (disch := omega) only [stepS, reduceIte, Nat.reduceBEq, Nat.reduceEqDiff, tupleOf, stepT, stepX, heapR, lensR, stepM, dsl, Nat.reduceAdd, Nat.reduceLeDiff, g0, g6, hcr, vl, o1, o2, o3]
    refine take_any hc hl5 hs5 fun r u' A' h' f' => ?_
    obtain ⟨hr1, hr2⟩ := rmv_at hc.nd hq'
    have hdr : l'.drop (l'.length - 1 + 1) = [] := List.drop_eq_nil_of_le (by omega)
    rw [hdr, List.append_nil] at hr1
    have hlt : (rmv q.1 l').length = l'.length - 1 := by rw [hr1, List.length_take]; omega
    have hspl : l'.take (l'.length - 1) ++ [q] = l' := by
      have := List.take_add_one (l := l') (i := l'.length - 1)
      rw [hq', show l'.length - 1 + 1 = l'.length by omega, List.take_length] at this
      exact this.symm
    have hfit : fit M (rmv q.1 l') = putP M id t l := by
      rw [← hft, hr1]
      conv => rhs; rw [← hspl]
      exact (fit_snoc _ q M (by rw [hspl]; exact hgt)).symm
    simp (maxSteps := 1000000) (disch := omega) only [stepS, reduceIte, Nat.reduceBEq, Nat.reduceEqDiff, tupleOf, stepT, stepX, heapR, lensR, stepM, dsl, Nat.reduceAdd, Nat.reduceLeDiff, g0, g6]
    refine ⟨by rw [hI]; exact ⟨u', rmv q.1 l', by simp (maxSteps := 1000000) (disch := omega) only [stepS, reduceIte, Nat.reduceBEq, Nat.reduceEqDiff, tupleOf, stepT, stepX, heapR, lensR, stepM, dsl, Nat.reduceAdd, Nat.reduceLeDiff, g0], by simp (maxSteps := 1000000) (disch := omega) only [stepS, reduceIte, Nat.reduceBEq, Nat.reduceEqDiff, tupleOf, stepT, stepX, heapR, lensR, stepM, dsl, Nat.reduceAdd, Nat.reduceLeDiff, g6], h', hfit, hf.trans f', by omega, by omega⟩, ?_⟩
    rw [h'.lenC, hc.lenC]; omega
end Go.AS.C


namespace Go.AS.C
open Go Go.Proofs
set_option linter.unusedVariables false
set_option linter.unusedSimpArgs false
set_option maxRecDepth 10000

/-! Get, Size, IDs, Len. -/
set_option maxHeartbeats 1000000 in
theorem get_spec {A : AH} {c : Nat} {v : Value} {M : Nat} {l : List Pr} {id : ByteArray} {Q : Value → AH → Prop} (h : CacheA A c v 0 (tot l : Int) M l) (hl : l.length ≤ 2 ^ 19) (hs : tot l ≤ 2 ^ 40)
    (hq1 : (∀ p ∈ l, p.1 ≠ id) → ∀ A', CacheA A' c v 0 (tot l : Int) M l → Fr c v A v A' → Q (.tuple #[.slice none 0 0, .bool false]) A')
    (hq2 : ∀ (p : Pr) x u A', p ∈ l → p.1 = id → CacheA A' c u 0 (tot (p :: rmv id l) : Int) M (p :: rmv id l) → Fr c v A u A' → Byt A' x p.2 → Q (.tuple #[x, .bool true]) A') :
    ACalls 0 Try.prog cache_Cache_Get [ptr c, .string id] Q A := by
  refine ACalls.of_fitsD mixed fits_cache_Cache_Get rfl ?_
  unfold ic_cache_Cache_Get
  have i0 : initA [ptr c, .string id] 0 = ptr c := rfl
  have i1 : initA [ptr c, .string id] 1 = .string id := rfl
  have i3 : initA [ptr c, .string id] 1000000 = undef := initA_dsl (by simp)
  generalize initA [ptr c, .string id] = a at i0 i1 i3
  have c1 : (if kindOf (.pointer 55) (ptr c) = true then sIsnil A (ptr c) false else none) = some (.bool false, A) := rfl
  simp (maxSteps := 1000000) (disch := omega) only [stepS, reduceIte, Nat.reduceBEq, Nat.reduceEqDiff, tupleOf, stepT, stepX, heapR, lensR, stepM, dsl, Nat.reduceAdd, Nat.reduceLeDiff, i0, c1]
  refine lock_spec h fun A1 h1 f1 e1 => ?_
  simp (maxSteps := 1000000) (disch := omega) only [stepS, reduceIte, Nat.reduceBEq, Nat.reduceEqDiff, tupleOf, stepT, stepX, heapR, lensR, stepM, dsl, Nat.reduceAdd, Nat.reduceLeDiff, i0, i1, i3]
  refine take_spec h1 (by omega) (by omega) (by omega) (fun p hp => by have := tot_mem hp; omega) (fun hno A2 k2 => ?_) (fun p x u hp he A2 h2 hx f2 => ?_)
  · have ea : ∀ l : List Value, l.length = 2 → True := fun _ _ => trivial
    simp (maxSteps := 1000000) (disch := omega) only [stepS, reduceIte, Nat.reduceBEq, Nat.reduceEqDiff, tupleOf, stepT, stepX, heapR, lensR, stepM, dsl, Nat.reduceAdd, Nat.reduceLeDiff, i0, i1, i3]
    have h2 := h1.le k2
    refine ⟨_, rfl, ?_⟩
    rw [runD_cons]
    have h3 : CacheA ((A2 ++ [Blk.row [.string ⟨#[]⟩, .slice none 0 0] .own 0 true]).set A2.length (.row [.string ⟨#[]⟩, .slice none 0 0] .own 0 true)) c v 1 (tot l : Int) M l := h2.le (by (repeat first | exact Le.refl _ | assumption | refine Le.app ?_ _ | refine Le.set ?_ ?_ | omega | (simp only [List.length_append, List.length_singleton, List.length_set]; omega)))
    refine unlock_spec h3 fun D hD fD _ => ?_
    rw [runD_nil]
    exact hq1 hno D hD ((f1.trans (Le.fr (k2.trans (by (repeat first | exact Le.refl _ | assumption | refine Le.app ?_ _ | refine Le.set ?_ ?_ | omega | (simp only [List.length_append, List.length_singleton, List.length_set]; omega)))) c v)).trans fD)
  · have hox := Sl.one1 hx.sl
    have hox2 : x.oneCell' = true := hox.2
    have hcx : (Value.agg #[Value.string id, x]).cells = #[.string id, x] := rfl
    have hone : ones [Value.string id, x] = true := one1_agg hox
    simp (maxSteps := 1000000) (disch := omega) only [stepS, reduceIte, Nat.reduceBEq, Nat.reduceEqDiff, tupleOf, stepT, stepX, heapR, lensR, stepM, dsl, Nat.reduceAdd, Nat.reduceLeDiff, i0, i1, i3, hox2, hcx]
    have kD : Le A2 ((A2 ++ [Blk.row [.string ⟨#[]⟩, .slice none 0 0] .own 0 true]).set A2.length (.row [.string id, x] .own 0 true)) := by (repeat first | exact Le.refl _ | assumption | refine Le.app ?_ _ | refine Le.set ?_ ?_ | omega | (simp only [List.length_append, List.length_singleton, List.length_set]; omega))
    obtain ⟨D, hD⟩ : ∃ D : AH, D = (A2 ++ [Blk.row [.string ⟨#[]⟩, .slice none 0 0] .own 0 true]).set A2.length (.row [.string id, x] .own 0 true) := ⟨_, rfl⟩
    have r6 : rowAt D A2.length = some ([.string id, x], .own, 0, true) := by rw [hD]; simp (maxSteps := 1000000) (disch := omega) only [stepS, reduceIte, Nat.reduceBEq, Nat.reduceEqDiff, tupleOf, stepT, stepX, heapR, lensR, stepM, dsl, Nat.reduceAdd, Nat.reduceLeDiff]
    rw [← hD] at kD ⊢
    clear hD
    have hpl := tot_mem hp
    have hrl := rmv_len id l
    have hrt := rmv_tot id l
    obtain ⟨j, hj⟩ := List.getElem?_of_mem hp
    have hra := (rmv_at h.nd hj).2
    rw [he] at hra
    have hpp : (id, p.2) = p := by rw [← he]
    have hcA2 := h2.lt
    refine first_spec (h2.le kD) (by omega) (by omega) (by omega) (by omega) (OwnS.le hx kD) (rmv_not id l) fun u4 E h4 hxE f4 => ?_
    have r6E : rowAt E A2.length = some ([.string id, x], .own, 0, true) := by
      obtain ⟨es, w1, _⟩ := (h2.le kD).ents
      exact rowAt_own (f4.2.1 _ _ (rowAt_get r6) (by omega) (OwnS.row_apart w1.2 (rowAt_get r6) (by decide)))
    have hn : ((tot l : Int) - (p.2.length : Int) + (p.2.length : Int)) = (tot (p :: rmv id l) : Int) := by simp only [tot]; omega
    rw [hn, hpp] at h4
    simp (maxSteps := 1000000) (disch := omega) only [stepS, reduceIte, Nat.reduceBEq, Nat.reduceEqDiff, tupleOf, stepT, stepX, heapR, lensR, stepM, dsl, Nat.reduceAdd, Nat.reduceLeDiff, i0, i1, i3, r6E]
    refine slices_Clone_spec hxE.byt (by omega) fun y F k5 hy => ?_
    simp (maxSteps := 1000000) (disch := omega) only [stepS, reduceIte, Nat.reduceBEq, Nat.reduceEqDiff, tupleOf, stepT, stepX, heapR, lensR, stepM, dsl, Nat.reduceAdd, Nat.reduceLeDiff, i0, i1, i3]
    refine ⟨_, rfl, ?_⟩
    rw [runD_cons]
    refine unlock_spec (h4.le k5) fun G hG fG _ => ?_
    rw [runD_nil]
    exact hq2 p y u4 G hp he hG ((((f1.trans f2).trans (Le.fr kD c u)).trans f4).trans (Le.fr k5 c u4) |>.trans fG) (byt_fr hy.byt (h4.le k5) fG)
theorem size_spec {A : AH} {c : Nat} {v : Value} {M : Nat} {n : Int} {l : List Pr} {Q : Value → AH → Prop} (h : CacheA A c v 0 n M l)
    (hq : ∀ A', CacheA A' c v 0 n M l → Fr c v A v A' → Q (.int .i64 n) A') : ACalls 0 Try.prog cache_Cache_Size [ptr c] Q A := by
  refine ACalls.of_fitsD mixed fits_cache_Cache_Size rfl ?_
  unfold ic_cache_Cache_Size
  have i0 : initA [ptr c] 0 = ptr c := rfl
  have i3 : initA [ptr c] 1000000 = undef := initA_dsl (by simp)
  generalize initA [ptr c] = a at i0 i3
  have c1 : (if kindOf (.pointer 55) (ptr c) = true then sIsnil A (ptr c) false else none) = some (.bool false, A) := rfl
  simp (maxSteps := 1000000) (disch := omega) only [stepS, reduceIte, Nat.reduceBEq, Nat.reduceEqDiff, tupleOf, stepT, stepX, heapR, lensR, stepM, dsl, Nat.reduceAdd, Nat.reduceLeDiff, i0, c1]
  refine lock_spec h fun A1 h1 f1 e1 => ?_
  have hcr := h1.row
  simp (maxSteps := 1000000) (disch := omega) only [stepS, reduceIte, Nat.reduceBEq, Nat.reduceEqDiff, tupleOf, stepT, stepX, heapR, lensR, stepM, dsl, Nat.reduceAdd, Nat.reduceLeDiff, i0, i3, hcr]
  refine ⟨_, rfl, ?_⟩
  rw [runD_cons]
  refine unlock_spec h1 fun D hD fD _ => ?_
  rw [runD_nil]
  exact hq D hD (f1.trans fD)
theorem ids_spec {A : AH} {c : Nat} {v : Value} {M : Nat} {n : Int} {l : List Pr} {Q : Value → AH → Prop} (h : CacheA A c v 0 n M l) (hl : l.length ≤ 2 ^ 30)
    (hq : ∀ u A', CacheA A' c v 0 n M l → Fr c v A v A' → OwnS A.length A' 1 u l.length (l.map fun p => Value.string p.1) → Q u A') : ACalls 0 Try.prog cache_Cache_IDs [ptr c] Q A := by
  refine ACalls.of_fitsD mixed fits_cache_Cache_IDs rfl ?_
  unfold ic_cache_Cache_IDs
  have i0 : initA [ptr c] 0 = ptr c := rfl
  have i3 : initA [ptr c] 1000000 = undef := initA_dsl (by simp)
  generalize initA [ptr c] = a at i0 i3
  have c1 : (if kindOf (.pointer 55) (ptr c) = true then sIsnil A (ptr c) false else none) = some (.bool false, A) := rfl
  simp (maxSteps := 1000000) (disch := omega) only [stepS, reduceIte, Nat.reduceBEq, Nat.reduceEqDiff, tupleOf, stepT, stepX, heapR, lensR, stepM, dsl, Nat.reduceAdd, Nat.reduceLeDiff, i0, c1]
  refine lock_spec h fun A1 h1 f1 e1 => ?_
  have hcr := h1.row
  have vl := h1.len
  simp (maxSteps := 1000000) (disch := omega) only [stepS, reduceIte, Nat.reduceBEq, Nat.reduceEqDiff, tupleOf, stepT, stepX, heapR, lensR, stepM, dsl, Nat.reduceAdd, Nat.reduceLeDiff, i0, i3, hcr, vl]
  obtain ⟨I, hI⟩ : ∃ I : AT → AH → Prop, I = fun a B => ∃ (j : Nat) (w : Value), a 1000000 = .tuple [.func (.func sync_Mutex_Unlock) [ptr c].toArray #[]].toArray ∧ a 19 = v ∧ a 20 = .int .i64 (l.length : Int) ∧ a 21 = .int .i64 (j : Int) ∧ a 3 = w ∧ j ≤ l.length ∧ Le A1 B ∧ OwnS A1.length B 1 w ((l.take j).map (·.1)).length (((l.take j).map (·.1)).map .string) := ⟨_, rfl⟩
  refine W_loop I (fun a B => l.length - (match a 21 with | .int _ n => n.toNat | _ => 0)) (by rw [hI]; exact ⟨0, .slice none 0 0, by simp (maxSteps := 1000000) (disch := omega) only [stepS, reduceIte, Nat.reduceBEq, Nat.reduceEqDiff, tupleOf, stepT, stepX, heapR, lensR, stepM, dsl, Nat.reduceAdd, Nat.reduceLeDiff, i0], by simp (maxSteps := 1000000) (disch := omega) only [stepS, reduceIte, Nat.reduceBEq, Nat.reduceEqDiff, tupleOf, stepT, stepX, heapR, lensR, stepM, dsl, Nat.reduceAdd, Nat.reduceLeDiff, i0], by simp (maxSteps := 1000000) (disch := omega) only [stepS, reduceIte, Nat.reduceBEq, Nat.reduceEqDiff, tupleOf, stepT, stepX, heapR, lensR, stepM, dsl, Nat.reduceAdd, Nat.reduceLeDiff, i0], by simp (maxSteps := 1000000) (disch := omega) only [stepS, reduceIte, Nat.reduceBEq, Nat.reduceEqDiff, tupleOf, stepT, stepX, heapR, lensR, stepM, dsl, Nat.reduceAdd, Nat.reduceLeDiff, i0]; rfl, by simp (maxSteps := 1000000) (disch := omega) only [stepS, reduceIte, Nat.reduceBEq, Nat.reduceEqDiff, tupleOf, stepT, stepX, heapR, lensR, stepM, dsl, Nat.reduceAdd, Nat.reduceLeDiff, i0], Nat.zero_le _, .refl _, OwnS.nil _ _ _⟩) ?_
  clear i0 i3
  intro a B hinv
  have hinv' := hinv
  rw [hI] at hinv'
  obtain ⟨j, w, g6, g19, g20, g21, g3, hj, kB, hw⟩ := hinv'
  by_cases hlt : j < l.length
  rotate_left
  · have hj2 : j = l.length := by omega
    subst hj2
    simp (maxSteps := 1000000) (disch := omega) only [stepS, reduceIte, Nat.reduceBEq, Nat.reduceEqDiff, tupleOf, stepT, stepX, heapR, lensR, stepM, dsl, Nat.reduceAdd, Nat.reduceLeDiff, g6, g19, g20, g21, g3]
    refine ⟨_, rfl, ?_⟩
    rw [runD_cons]
    refine unlock_spec (h1.le kB) fun D hD fD _ => ?_
    rw [runD_nil]
    rw [List.take_length] at hw
    obtain ⟨es, w1, _⟩ := (h1.le kB).ents
    have hw2 := own_fr hw (rowAt_get (h1.le kB).row) w1.2 (by decide) (by decide) fD
    rw [e1] at hw2
    refine hq w D hD ((f1.trans (Le.fr kB c v)).trans fD) ?_
    simpa [List.map_map, Function.comp_def] using hw2
  · obtain ⟨p, hp⟩ : ∃ p, l[j]? = some p := ⟨_, List.getElem?_eq_getElem hlt⟩
    obtain ⟨es, he, h2⟩ := (h1.le kB).ents
    obtain ⟨e, e1', x, e2, e3⟩ := all2_get h2 hp
    subst e2
    obtain ⟨q, _, q1, q2, _⟩ := he.el e1'
    have hox : x.oneCell' = true := (Sl.one1 e3.sl).2
    have hcx : (Value.agg #[Value.string p.1, x]).cells = #[.string p.1, x] := rfl
    have kD : Le B ((B ++ [Blk.row [.string ⟨#[]⟩, .slice none 0 0] .own 0 true]).set B.length (.row [.string p.1, x] .own 0 true)) := by (repeat first | exact Le.refl _ | assumption | refine Le.app ?_ _ | refine Le.set ?_ ?_ | omega | (simp only [List.length_append, List.length_singleton, List.length_set]; omega))
    have lst : ∀ C : AH, sLit C [.string ⟨#[]⟩] 1 1 [(0, 1, .string p.1)] = some (.slice (some ⟨C.length, 0, none⟩) 1 1, C ++ [.row [.string p.1] .own 1 true]) := fun C => rfl
    obtain ⟨D, hD⟩ : ∃ D : AH, D = (B ++ [Blk.row [.string ⟨#[]⟩, .slice none 0 0] .own 0 true]).set B.length (.row [.string p.1, x] .own 0 true) := ⟨_, rfl⟩
    have hDl : (B.length + 1) = D.length := by rw [hD]; simp
    obtain ⟨s1, w', E, s2, s3, s4, s5⟩ := app_str (A := D) (A0 := A1) p.1 (by rw [hD]; exact kB.trans kD) (OwnS.le hw (by rw [hD]; exact kD)) (by simp; omega)
    rw [hD] at s2
    have hlD : ((B ++ [Blk.row [.string ⟨#[]⟩, .slice none 0 0] .own 0 true]).set B.length (.row [.string p.1, x] .own 0 true)).length = B.length + 1 := by simp
    rw [hlD] at s2
    simp (maxSteps := 1000000) (disch := omega) only [stepS, reduceIte, Nat.reduceBEq, Nat.reduceEqDiff, tupleOf, stepT, stepX, heapR, lensR, stepM, dsl, Nat.reduceAdd, Nat.reduceLeDiff, g6, g19, g20, g21, g3, q1, q2, hox, hcx, lst, s2]
    refine ⟨?_, by have e : ((j : Int) + 1).toNat = j + 1 := by omega
                   rw [e]; exact Nat.sub_lt_sub_left hlt (Nat.lt_succ_self j)⟩
    rw [hI]
    have htk : (l.take (j + 1)).map (·.1) = (l.take j).map (·.1) ++ [p.1] := by
      rw [List.take_add_one, hp]; simp
    exact ⟨j + 1, w', by simp (maxSteps := 1000000) (disch := omega) only [stepS, reduceIte, Nat.reduceBEq, Nat.reduceEqDiff, tupleOf, stepT, stepX, heapR, lensR, stepM, dsl, Nat.reduceAdd, Nat.reduceLeDiff, g6], by simp (maxSteps := 1000000) (disch := omega) only [stepS, reduceIte, Nat.reduceBEq, Nat.reduceEqDiff, tupleOf, stepT, stepX, heapR, lensR, stepM, dsl, Nat.reduceAdd, Nat.reduceLeDiff, g19], by simp (maxSteps := 1000000) (disch := omega) only [stepS, reduceIte, Nat.reduceBEq, Nat.reduceEqDiff, tupleOf, stepT, stepX, heapR, lensR, stepM, dsl, Nat.reduceAdd, Nat.reduceLeDiff, g20], by simp (maxSteps := 1000000) (disch := omega) only [stepS, reduceIte, Nat.reduceBEq, Nat.reduceEqDiff, tupleOf, stepT, stepX, heapR, lensR, stepM, dsl, Nat.reduceAdd, Nat.reduceLeDiff, g21]; push_cast; rfl, by simp (maxSteps := 1000000) (disch := omega) only [stepS, reduceIte, Nat.reduceBEq, Nat.reduceEqDiff, tupleOf, stepT, stepX, heapR, lensR, stepM, dsl, Nat.reduceAdd, Nat.reduceLeDiff, g6], by omega, s3, by rw [htk]; exact s4⟩
theorem len_spec {A : AH} {c : Nat} {v : Value} {M : Nat} {n : Int} {l : List Pr} {Q : Value → AH → Prop} (h : CacheA A c v 0 n M l) (hl : l.length ≤ 2 ^ 30)
    (hq : ∀ A', CacheA A' c v 0 n M l → Fr c v A v A' → Q (.int .i64 (l.length : Int)) A') : ACalls 0 Try.prog cache_Cache_Len [ptr c] Q A := by
  refine ACalls.of_fits mixed fits_cache_Cache_Len rfl ?_
  unfold ic_cache_Cache_Len
  have i0 : initA [ptr c] 0 = ptr c := rfl
  generalize initA [ptr c] = a at i0
  simp (maxSteps := 1000000) (disch := omega) only [stepS, reduceIte, Nat.reduceBEq, Nat.reduceEqDiff, tupleOf, stepT, stepX, heapR, lensR, stepM, dsl, Nat.reduceAdd, Nat.reduceLeDiff, i0]
  refine ids_spec h hl fun u A' h' f' hu => ?_
  have vl := Sl.lenB hu.sl
  simp (maxSteps := 1000000) (disch := omega) only [stepS, reduceIte, Nat.reduceBEq, Nat.reduceEqDiff, tupleOf, stepT, stepX, heapR, lensR, stepM, dsl, Nat.reduceAdd, Nat.reduceLeDiff, vl]
  exact hq A' h' f'
end Go.AS.C


namespace Go.AS.C
open Go Go.Proofs
set_option linter.unusedVariables false
set_option linter.unusedSimpArgs false
set_option maxRecDepth 10000

/-! The reference's cache: its calls. -/
def prR (A : AH) (e : List Value) (p : Pr) : Prop := ∃ x, e = [.string p.1, x] ∧ Byt A x p.2
def RfA (A : AH) (v : Value) (l : List Pr) : Prop := ∃ es, Sl A 2 v es.length es.flatten ∧ (∀ e ∈ es, e.length = 2 ∧ ones e = true) ∧ All2 (prR A) es l
section
variable {A B : AH} {v u : Value} {l : List Pr} {p : Pr}
theorem prR.le {e : List Value} (h : prR A e p) (hl : Le A B) : prR B e p := by
  obtain ⟨x, h1, h2⟩ := h
  exact ⟨x, h1, h2.le hl⟩
theorem RfA.le (h : RfA A v l) (hl : Le A B) : RfA B v l := by
  obtain ⟨es, h1, h2, h3⟩ := h
  exact ⟨es, h1.le hl, h2, All2.imp (fun _ _ h => prR.le h hl) _ _ h3⟩
theorem RfA.nil (A : AH) : RfA A (.slice none 0 0) [] := ⟨[], ⟨rfl, .inl ⟨rfl, rfl⟩⟩, by simp, trivial⟩
theorem RfA.len (h : RfA A v l) (B : AH) : sLens B false v = some (.int .i64 l.length, B) := by
  obtain ⟨es, h1, h2, h3⟩ := h
  rw [← all2_len h3]; exact Sl.lenB h1 B
theorem RfA.one (h : RfA A v l) : one1 v := by
  obtain ⟨es, h1, h2, h3⟩ := h
  exact Sl.one1 h1
theorem RfA.lt (h : RfA A v l) : ∀ k ∈ blkOf v, k < A.length := by
  obtain ⟨es, ⟨_, h⟩, _, _⟩ := h
  intro k hk
  rcases h with ⟨rfl, _⟩ | ⟨rfl, _⟩ | ⟨i, o, c, rc, st, ex, rfl, _, h3, _⟩
  · cases hk
  · cases hk
  · have : k = i := by simpa [blkOf] using hk
    subst this; exact lt_of_get h3
theorem RfA.at (h : RfA A v l) {j : Nat} (hp : l[j]? = some p) : ∃ x q q0 q1, (∀ (B : AH) (n : Int), n = (j : Int) → sIaddr B v (.int .i64 n) 2 = some (q, B)) ∧ (∀ B, sFaddr B q 0 = some (q0, B)) ∧ (∀ B, sFaddr B q 1 = some (q1, B)) ∧ (∀ B, Le A B → sLoad1 B q0 = some (.string p.1, B)) ∧ (∀ B, Le A B → sLoad1 B q1 = some (x, B)) ∧ (∀ B, Le A B → sLoadn B q 2 = some (.agg #[.string p.1, x], B)) ∧ Byt A x p.2 ∧ ∀ k ∈ blkOf q1, k < A.length := by
  have hlt := h.lt
  obtain ⟨es, h1, h2, h3⟩ := h
  obtain ⟨e, e1, x, e2, e3⟩ := all2_get h3 hp
  subst e2
  obtain ⟨q, q1, q2⟩ := Sl.elfs h1 h2 e1 rfl
  obtain ⟨q0, a1, a2⟩ := q2 0 _ rfl
  obtain ⟨q1', b1, b2⟩ := q2 1 _ rfl
  obtain ⟨r, r0, r1, _, r3⟩ := h1.el h2 e1
  have e : r = q := by
    have h1 := q1 A j rfl
    rw [r1 A j rfl] at h1
    injection h1 with h1
    injection h1 with h1 _
  subst e
  exact ⟨x, r, q0, q1', q1, a1, b1, a2, b2, fun B hB => r3 B (fun k b hk _ => hB.get hk), e3, fun k hk => hlt k (by rw [faddr_blk (b1 A), r0] at hk; exact hk)⟩
theorem RfA.oth (h : RfA A v l) {i : Nat} {rc : List Value} {st : St} {ex : Bool} {b : Blk} (hi : A[i]? = some (.row rc st 0 ex)) : RfA (A.set i b) v l := by
  have key : ∀ {sz n : Nat} {cs : List Value} {x : Value}, sz ≠ 0 → Sl A sz x n cs → Sl (A.set i b) sz x n cs := by
    rintro sz n cs x hs ⟨g0, h⟩
    refine ⟨g0, ?_⟩
    rcases h with h | h | ⟨j, o, c, rc', st', ex', h1, h2, h3, h4⟩
    · exact .inl h
    · exact .inr (.inl h)
    · refine .inr (.inr ⟨j, o, c, rc', st', ex', h1, h2, ?_, h4⟩)
      rw [List.getElem?_set_ne]
      · exact h3
      · rintro rfl
        rw [hi] at h3
        injection h3 with h3
        injection h3 with _ _ h3 _
        exact hs h3.symm
  obtain ⟨es, h1, h2, h3⟩ := h
  exact ⟨es, key (by decide) h1, h2, All2.imp (fun e p hp => by obtain ⟨x, x1, x2⟩ := hp; exact ⟨x, x1, key (by decide) x2⟩) _ _ h3⟩
end
end Go.AS.C


namespace Go.AS
open Go
set_option maxRecDepth 100000
/-! Codes of library functions that are alike in many chapters (printed by geni.py). -/
end Go.AS


namespace Go.AS
open Go
set_option linter.unusedVariables false
set_option linter.unusedSimpArgs false
set_option maxRecDepth 10000

/-! Slices of texts of the call's own. -/
def strE (l : List ByteArray) : List (List Value) := l.map fun s => [.string s]
theorem strE_flat (l : List ByteArray) : (strE l).flatten = l.map .string := by
  unfold strE
  induction l with
  | nil => rfl
  | cons s l ih => rw [List.map_cons, List.flatten_cons, ih]; rfl
theorem strE_len (l : List ByteArray) : (strE l).length = l.length := by simp [strE]
theorem strE_ok (l : List ByteArray) : ∀ e ∈ strE l, e.length = 1 ∧ ones e = true := by
  intro e he
  obtain ⟨s, _, rfl⟩ := List.mem_map.1 he
  exact ⟨rfl, rfl⟩
/-- A slice of texts, of the call's own. -/
def OwnT (a0 : Nat) (A : AH) (v : Value) (l : List ByteArray) : Prop := OwnS a0 A 1 v l.length (l.map .string)
def SlT (A : AH) (v : Value) (l : List ByteArray) : Prop := Sl A 1 v l.length (l.map .string)
section
variable {A B A0 : AH} {v : Value} {a0 b0 : Nat} {l m : List ByteArray} {lo hi : Option Value}
theorem OwnT.e (h : OwnT a0 A v l) : OwnE a0 A 1 v (strE l) := ⟨strE_ok l, by rw [strE_flat, strE_len]; exact h⟩
theorem OwnE.t (h : OwnE a0 A 1 v (strE l)) : OwnT a0 A v l := by
  have := h.2
  rw [strE_flat, strE_len] at this
  exact this
theorem OwnT.sl (h : OwnT a0 A v l) : SlT A v l := OwnS.sl h
theorem OwnT.le (h : OwnT a0 A v l) (hl : Le A B) : OwnT a0 B v l := OwnS.le h hl
theorem OwnT.mono (h : OwnT a0 A v l) (hb : b0 ≤ a0) : OwnT b0 A v l := OwnS.mono h hb
theorem OwnT.nil (a0 : Nat) (A : AH) : OwnT a0 A (.slice none 0 0) [] := OwnS.nil _ _ _
theorem SlT.le (h : SlT A v l) (hl : Le A B) : SlT B v l := Sl.le h hl
theorem SlT.len (h : SlT A v l) (B : AH) : sLens B false v = some (.int .i64 l.length, B) := Sl.lenB h B
theorem SlT.one (h : SlT A v l) : one1 v := Sl.one1 h
theorem SlT.at (h : SlT A v l) {j : Nat} {s : ByteArray} (hj : l[j]? = some s) : ∃ p, (∀ (B : AH) (n : Int), n = (j : Int) → sIaddr B v (.int .i64 n) 1 = some (p, B)) ∧ ∀ B, Le A B → sLoad1 B p = some (.string s, B) :=
  Sl.at1L h (j := j) (x := .string s) (by rw [List.getElem?_map, hj]; rfl)
theorem OwnT.at (h : OwnT a0 A v l) {j : Nat} {s : ByteArray} (hj : l[j]? = some s) : ∃ p, blkOf p = blkOf v ∧ (∀ (B : AH) (n : Int), n = (j : Int) → sIaddr B v (.int .i64 n) 1 = some (p, B)) ∧ sLoad1 A p = some (.string s, A) := by
  obtain ⟨p, p1, p2⟩ := Sl.at1 (OwnS.sl h) (j := j) (v0 := .string s) (by rw [List.getElem?_map, hj]; rfl)
  exact ⟨p, iaddr_blk p1, by rintro B n rfl; exact iaddr_any p1 B, p2⟩
theorem OwnT.put (h : OwnT a0 A v l) {j : Nat} (s : ByteArray) (hj : j < l.length) {p : Value} (hp : sIaddr A v (.int .i64 (j : Int)) 1 = some (p, A)) : ∃ A', sStore A p (.string s) 1 = some (undef, A') ∧ OwnT a0 A' v (l.set j s) ∧ KeepV A v A' := by
  obtain ⟨A', s1, s2, s3⟩ := h.e.put (e := [.string s]) (by rw [strE_len]; exact hj) rfl rfl hp
  refine ⟨A', s1, ?_, s3⟩
  have e : (strE l).set j [.string s] = strE (l.set j s) := by simp [strE, List.map_set]
  rw [e] at s2
  exact s2.t
theorem OwnT.cut (h : OwnT a0 A v l) {i k : Nat} (hlk : i ≤ k) (hk : k ≤ l.length) (hb : ∀ c, l.length ≤ c → boundsA l.length c lo hi none = some (i, k, c)) :
    ∃ u, (∀ j ∈ blkOf u, j ∈ blkOf v) ∧ (∃ p c, u = .slice p (k - i) c) ∧ ∀ B m, OwnT a0 B v m → m.length = l.length → sSll B v lo hi none 1 = some (u, B) ∧ OwnT a0 B u ((m.take k).drop i) := by
  obtain ⟨u, u1, u2, u3⟩ := h.e.cut (l := i) (k := k) (lo := lo) (hi := hi) hlk (by rw [strE_len]; exact hk) (by rw [strE_len]; exact hb)
  refine ⟨u, u1, u2, fun B m hm hl => ?_⟩
  obtain ⟨e1, e2⟩ := u3 B (strE m) hm.e (by rw [strE_len, strE_len]; exact hl)
  refine ⟨e1, ?_⟩
  have e : ((strE m).take k).drop i = strE ((m.take k).drop i) := by simp [strE, List.map_take, List.map_drop]
  rw [e] at e2
  exact e2.t
theorem OwnT.clr (h : OwnT a0 A v l) {i : Nat} {u : Value} (hl : i ≤ l.length) (hu : sSll A v (some (.int .i64 (i : Int))) none none 1 = some (u, A)) :
    ∃ A', sClr A u [.string ⟨#[]⟩] = some (undef, A') ∧ OwnT a0 A' v (l.take i ++ List.replicate (l.length - i) ⟨#[]⟩) ∧ KeepV A v A' := by
  obtain ⟨A', s1, s2, s3⟩ := h.e.clr (l := i) (z := [.string ⟨#[]⟩]) (by rw [strE_len]; exact hl) rfl rfl hu
  refine ⟨A', s1, ?_, s3⟩
  have e : (strE l).take i ++ List.replicate ((strE l).length - i) [.string ⟨#[]⟩] = strE (l.take i ++ List.replicate (l.length - i) ⟨#[]⟩) := by simp [strE, List.map_take]
  rw [e] at s2
  exact s2.t
theorem OwnT.push (s : ByteArray) (hl : Le A0 A) (h : OwnT A0.length A v l) (hb : l.length ≤ 2 ^ 40) :
    sLit A [.string ⟨#[]⟩] 1 1 [(0, 1, .string s)] = some (.slice (some ⟨A.length, 0, none⟩) 1 1, A ++ [.row [.string s] .own 1 true]) ∧
    ∃ w' A', sApp (A ++ [.row [.string s] .own 1 true]) v (.slice (some ⟨A.length, 0, none⟩) 1 1) 1 16 = some (w', A') ∧ Le A0 A' ∧ OwnT A0.length A' w' (l ++ [s]) ∧ KeepV A v A' ∧ ∀ j ∈ blkOf w', j ∈ blkOf v ∨ A.length ≤ j := by
  obtain ⟨l1, w', A', e1, e2, e3, e4⟩ := app_str s hl h hb
  refine ⟨l1, w', A', e1, e2, e3, e4, fun j hj => ?_⟩
  rcases sApp_blk e1 j hj with h | h
  · exact .inl h
  · simp at h; exact .inr (by omega)
theorem OwnT.app {x : Value} (hl : Le A0 A) (h : OwnT A0.length A v l) (hx : SlT A x m) (hb : l.length + m.length ≤ 2 ^ 40) :
    ∃ w' A', sApp A v x 1 16 = some (w', A') ∧ Le A0 A' ∧ OwnT A0.length A' w' (l ++ m) ∧ KeepV A v A' := by
  obtain ⟨w', A', e1, e2, e3, e4⟩ := h.e.app (x := x) (fs := strE m) (bytes := 16) hl (by rw [strE_flat, strE_len]; exact hx) (strE_ok m) (by omega) (by rw [strE_len, strE_len]; omega) (by omega)
  refine ⟨w', A', e1, e2, ?_, e4⟩
  have e : strE l ++ strE m = strE (l ++ m) := by simp [strE]
  rw [e] at e3
  exact e3.t
end

section
variable {G : Nat} {P : Program} (hm : P.follows .mixedOrders = true) {a0 : Nat} {A : AH} {v : Value} {Q : Value → AH → Prop}
include hm
end
end Go.AS


namespace Go.AS.C
open Go Go.Proofs
set_option linter.unusedVariables false
set_option linter.unusedSimpArgs false
set_option maxRecDepth 10000

theorem ref01_Texts_spec {A : AH} {v w : Value} {l m : List ByteArray} {Q : Value → AH → Prop} (hv : SlT A v l) (hw : SlT A w m) (hl : l.length < 2 ^ 50) (hm : m.length < 2 ^ 50) (hq : ∀ b : Bool, (b = true ↔ l = m) → Q (.bool b) A) : ACalls 0 Try.prog chantryref01_Texts [v, w] Q A := by
  refine ACalls.of_fits mixed fits_chantryref01_Texts rfl ?_
  unfold ic_chantryref01_Texts
  have i0 : initA [v, w] 0 = v := rfl
  have i1 : initA [v, w] 1 = w := rfl
  generalize initA [v, w] = a at i0 i1
  have hvl := hv.len
  have hwl := hw.len
  by_cases hn : l.length = m.length
  · simp (maxSteps := 1000000) (disch := omega) only [stepS, reduceIte, Nat.reduceBEq, Nat.reduceEqDiff, tupleOf, stepT, i0, i1, hvl, hwl]
    refine W_loop (fun a' B => B = A ∧ ∃ k : Nat, k ≤ l.length ∧ l.take k = m.take k ∧ a' 0 = v ∧ a' 1 = w ∧ a' 5 = ii k) (fun a' _ => l.length - (iv (a' 5)).toNat) ?_ ?_
    · refine ⟨rfl, 0, by omega, rfl, ?_⟩
      simp (maxSteps := 1000000) (disch := omega) only [stepS, reduceIte, Nat.reduceBEq, Nat.reduceEqDiff, tupleOf, stepT, i0, i1]
      (all_goals (and_intros <;> first | rfl | assumption | (push_cast; rfl) | (congr 1; omega) | omega | (simp; done)))
    · rintro a2 B ⟨rfl, k, hk, hn2, g0, g1, g5⟩
      rcases Nat.lt_or_ge k l.length with hlt | hge
      · obtain ⟨s, hs⟩ := get_some hlt
        obtain ⟨t, ht⟩ := get_some (l := m) (k := k) (by omega)
        obtain ⟨p, p1, p2⟩ := hv.at hs
        have p3 := p2 B (.refl _)
        obtain ⟨q, q1, q2⟩ := hw.at ht
        have q3 := q2 B (.refl _)
        by_cases hst : s = t
        · have hd : decide (s ≠ t) = false := decide_eq_false (fun h => h hst)
          simp (maxSteps := 1000000) (disch := omega) only [stepS, reduceIte, Nat.reduceBEq, Nat.reduceEqDiff, tupleOf, stepT, g0, g1, g5, hvl, hwl, p1, p3, q1, q3, hd]
          refine ⟨⟨k + 1, by omega, ?_, rfl⟩, by omega⟩
          rw [List.take_add_one, List.take_add_one, hs, ht, hn2, hst]
        · have hd : decide (s ≠ t) = true := decide_eq_true hst
          simp (maxSteps := 1000000) (disch := omega) only [stepS, reduceIte, Nat.reduceBEq, Nat.reduceEqDiff, tupleOf, stepT, g0, g1, g5, hvl, hwl, p1, p3, q1, q3, hd]
          exact hq false ⟨(fun h => by cases h), fun h => by subst h; rw [hs] at ht; injection ht with ht; exact absurd ht hst⟩
      · rw [List.take_of_length_le hge, List.take_of_length_le (by omega)] at hn2
        simp (maxSteps := 1000000) (disch := omega) only [stepS, reduceIte, Nat.reduceBEq, Nat.reduceEqDiff, tupleOf, stepT, g0, g1, g5, hvl]
        exact hq true ⟨fun _ => hn2, fun _ => rfl⟩
  · simp (maxSteps := 1000000) (disch := omega) only [stepS, reduceIte, Nat.reduceBEq, Nat.reduceEqDiff, tupleOf, stepT, i0, i1, hvl, hwl]
    exact hq false ⟨(fun h => by cases h), fun h => absurd (by rw [h]) hn⟩
end Go.AS.C


namespace Go.AS.C
open Go Go.Proofs
set_option linter.unusedVariables false
set_option linter.unusedSimpArgs false
set_option maxRecDepth 10000

/-! The reference's Get and IDs. -/
end Go.AS.C


namespace Go.AS.C
open Go Go.Proofs
set_option linter.unusedVariables false
set_option linter.unusedSimpArgs false
set_option maxRecDepth 10000

/-! The example: it answers true. -/
abbrev sA : ByteArray := ⟨#[97]⟩
abbrev sB : ByteArray := ⟨#[98]⟩
abbrev sC : ByteArray := ⟨#[99]⟩
abbrev sD : ByteArray := ⟨#[100]⟩
set_option maxHeartbeats 4000000 in
theorem awake_spec {A : AH} {Q : Value → AH → Prop} (hq : ∀ A', Q (.bool true) A') : ACalls 0 Try.prog chantrylaw33_awake [] Q A := by
  refine ACalls.of_fits mixed fits_chantrylaw33_awake rfl ?_
  unfold ic_chantrylaw33_awake
  generalize initA [] = a
  simp (maxSteps := 1000000) (disch := omega) only [stepS, reduceIte, Nat.reduceBEq, Nat.reduceEqDiff, tupleOf, stepT, stepX, heapR, lensR, stepM, dsl, Nat.reduceAdd, Nat.reduceLeDiff]
  refine of_spec (by omega) (by omega) fun A1 k1 _ h1 => ?_
  have e3 : (max (3 : Int) 0).toNat = 3 := by omega
  rw [e3] at h1
  have cn : ∀ B : AH, (if kindOf (.pointer 55) (ptr A.length) = true then sIsnil B (ptr A.length) false else none) = some (.bool false, B) := fun B => rfl
  have lx : ∀ B : AH, sLit B [.int .u8 0] 1 2 [(0, 1, .int .u8 120), (1, 1, .int .u8 120)] = some (.slice (some ⟨B.length, 0, none⟩) 2 2, B ++ [.row (List.map by8 [120, 120]) .own 1 true]) := fun B => litB B [120, 120] rfl rfl
  have ly : ∀ B : AH, sLit B [.int .u8 0] 1 1 [(0, 1, .int .u8 121)] = some (.slice (some ⟨B.length, 0, none⟩) 1 1, B ++ [.row (List.map by8 [121]) .own 1 true]) := fun B => litB B [121] rfl rfl
  have lz : ∀ B : AH, sLit B [.int .u8 0] 1 1 [(0, 1, .int .u8 122)] = some (.slice (some ⟨B.length, 0, none⟩) 1 1, B ++ [.row (List.map by8 [122]) .own 1 true]) := fun B => litB B [122] rfl rfl
  have ll : ∀ B : AH, sLit B [.int .u8 0] 1 4 [(0, 1, .int .u8 108), (1, 1, .int .u8 111), (2, 1, .int .u8 110), (3, 1, .int .u8 103)] = some (.slice (some ⟨B.length, 0, none⟩) 4 4, B ++ [.row (List.map by8 [108, 111, 110, 103]) .own 1 true]) := fun B => litB B [108, 111, 110, 103] rfl rfl
  have mk2 : ∀ (B : AH) cs, sMks (B ++ [.row cs .own 1 true]) (.slice (some ⟨B.length, 0, none⟩) 2 2) = some (.slice (some ⟨B.length, 0, none⟩) 2 2, B ++ [.row cs .own 1 true]) := fun B cs => mks_last B (by omega)
  have mk1 : ∀ (B : AH) cs, sMks (B ++ [.row cs .own 1 true]) (.slice (some ⟨B.length, 0, none⟩) 1 1) = some (.slice (some ⟨B.length, 0, none⟩) 1 1, B ++ [.row cs .own 1 true]) := fun B cs => mks_last B (by omega)
  have mk4 : ∀ (B : AH) cs, sMks (B ++ [.row cs .own 1 true]) (.slice (some ⟨B.length, 0, none⟩) 4 4) = some (.slice (some ⟨B.length, 0, none⟩) 4 4, B ++ [.row cs .own 1 true]) := fun B cs => mks_last B (by omega)
  simp (maxSteps := 1000000) (disch := omega) only [stepS, reduceIte, Nat.reduceBEq, Nat.reduceEqDiff, tupleOf, stepT, stepX, heapR, lensR, stepM, dsl, Nat.reduceAdd, Nat.reduceLeDiff, cn, lx, mk2]
  refine put_spec (l := []) (id := sA) (t := [120, 120]) (h1.le (.push _ _)) (by simp) (by simp [tot]) (byt_last (ex := true) A1 [120, 120]) (by simp) fun u2 A2 h2 f2 => ?_
  have p2 : putP 3 sA [120, 120] [] = [(sA, [120, 120])] := by decide +kernel
  rw [p2] at h2
  simp (maxSteps := 1000000) (disch := omega) only [stepS, reduceIte, Nat.reduceBEq, Nat.reduceEqDiff, tupleOf, stepT, stepX, heapR, lensR, stepM, dsl, Nat.reduceAdd, Nat.reduceLeDiff, ly, mk1]
  refine put_spec (id := sB) (t := [121]) (h2.le (.push _ _)) (by simp) (by simp [tot]) (byt_last (ex := true) A2 [121]) (by simp) fun u3 A3 h3 f3 => ?_
  have p3 : putP 3 sB [121] [(sA, [120, 120])] = [(sB, [121]), (sA, [120, 120])] := by decide +kernel
  rw [p3] at h3
  simp (maxSteps := 1000000) (disch := omega) only [stepS, reduceIte, Nat.reduceBEq, Nat.reduceEqDiff, tupleOf, stepT, stepX, heapR, lensR, stepM, dsl, Nat.reduceAdd, Nat.reduceLeDiff]
  refine get_spec (id := sA) h3 (by simp) (by simp [tot]) (fun hno => absurd rfl (hno (sA, [120, 120]) (by simp))) fun p x u4 A4 hp hpe h4 f4 hx => ?_
  have hpp : p = (sA, [120, 120]) := by
    simp only [List.mem_cons, List.not_mem_nil, or_false] at hp
    rcases hp with rfl | rfl
    · exact absurd hpe (by decide +kernel)
    · rfl
  subst hpp
  have p4 : ((sA, [120, 120]) : Pr) :: rmv sA [(sB, [121]), (sA, [120, 120])] = [(sA, [120, 120]), (sB, [121])] := by decide +kernel
  rw [p4] at h4
  simp (maxSteps := 1000000) (disch := omega) only [stepS, reduceIte, Nat.reduceBEq, Nat.reduceEqDiff, tupleOf, stepT, stepX, heapR, lensR, stepM, dsl, Nat.reduceAdd, Nat.reduceLeDiff, lz, mk1]
  refine put_spec (id := sC) (t := [122]) (h4.le (.push _ _)) (by simp) (by simp [tot]) (byt_last (ex := true) A4 [122]) (by simp) fun u5 A5 h5 f5 => ?_
  have hx5 := byt_fr (hx.le (.push _ _)) (h4.le (.push _ _)) f5
  have p5 : putP 3 sC [122] [(sA, [120, 120]), (sB, [121])] = [(sC, [122]), (sA, [120, 120])] := by decide +kernel
  rw [p5] at h5
  simp (maxSteps := 1000000) (disch := omega) only [stepS, reduceIte, Nat.reduceBEq, Nat.reduceEqDiff, tupleOf, stepT, stepX, heapR, lensR, stepM, dsl, Nat.reduceAdd, Nat.reduceLeDiff]
  refine get_spec (id := sB) h5 (by simp) (by simp [tot]) (fun _ A6 h6 f6 => ?_) (fun p x u4 A4 hp hpe _ _ _ => ?_)
  rotate_left
  · simp only [List.mem_cons, List.not_mem_nil, or_false] at hp
    rcases hp with rfl | rfl <;> exact absurd hpe (by decide +kernel)
  have hx6 := byt_fr hx5 h5 f6
  simp (maxSteps := 1000000) (disch := omega) only [stepS, reduceIte, Nat.reduceBEq, Nat.reduceEqDiff, tupleOf, stepT, stepX, heapR, lensR, stepM, dsl, Nat.reduceAdd, Nat.reduceLeDiff]
  refine ids_spec h6 (by simp) fun w A7 h7 f7 hw => ?_
  have hx7 := byt_fr hx6 h6 f7
  simp (maxSteps := 1000000) (disch := omega) only [stepS, reduceIte, Nat.reduceBEq, Nat.reduceEqDiff, tupleOf, stepT, stepX, heapR, lensR, stepM, dsl, Nat.reduceAdd, Nat.reduceLeDiff, ll, mk4]
  refine put_spec (id := sD) (t := [108, 111, 110, 103]) (h7.le (.push _ _)) (by simp) (by simp [tot]) (byt_last (ex := true) A7 [108, 111, 110, 103]) (by simp) fun u8 A8 h8 f8 => ?_
  have hx8 := byt_fr (hx7.le (.push _ _)) (h7.le (.push _ _)) f8
  have hw8 := sl_fr (hw.sl.le (.push _ _)) (h7.le (.push _ _)) f8 (by decide) (by decide)
  have p8 : putP 3 sD [108, 111, 110, 103] [(sC, [122]), (sA, [120, 120])] = [] := by decide +kernel
  rw [p8] at h8
  have hs := hx8.str
  have lt : ∀ B : AH, sLit B [.string ⟨#[]⟩] 1 2 [(0, 1, .string ⟨#[99]⟩), (1, 1, .string ⟨#[97]⟩)] = some (.slice (some ⟨B.length, 0, none⟩) 2 2, B ++ [.row [.string ⟨#[99]⟩, .string ⟨#[97]⟩] .own 1 true]) := fun B => rfl
  have exx : decide ((⟨#[120, 120]⟩ : ByteArray) = ⟨#[120, 120]⟩) = true := by decide
  simp (maxSteps := 1000000) (disch := omega) only [stepS, reduceIte, Nat.reduceBEq, Nat.reduceEqDiff, tupleOf, stepT, stepX, heapR, lensR, stepM, dsl, Nat.reduceAdd, Nat.reduceLeDiff, hs, lt]
  have hlt : SlT (A8 ++ [.row [.string sC, .string sA] .own 1 true]) (.slice (some ⟨A8.length, 0, none⟩) 2 2) [sC, sA] :=
    ⟨rfl, .inr (.inr ⟨A8.length, 0, 2, _, .own, true, rfl, Nat.le_refl _, get_last _ _, by decide, Nat.le_refl _, fun j _ => by simp⟩)⟩
  refine ref01_Texts_spec (l := [sC, sA]) (m := [sC, sA]) (Sl.le hw8 (.push _ _)) hlt (by simp) (by simp) fun b hb => ?_
  obtain rfl : b = true := hb.2 rfl
  simp (maxSteps := 1000000) (disch := omega) only [stepS, reduceIte, Nat.reduceBEq, Nat.reduceEqDiff, tupleOf, stepT, stepX, heapR, lensR, stepM, dsl, Nat.reduceAdd, Nat.reduceLeDiff]
  refine len_spec (h8.le (.push _ _)) (by simp) fun A9 h9 f9 => ?_
  simp (maxSteps := 1000000) (disch := omega) only [stepS, reduceIte, Nat.reduceBEq, Nat.reduceEqDiff, tupleOf, stepT, stepX, heapR, lensR, stepM, dsl, Nat.reduceAdd, Nat.reduceLeDiff]
  refine size_spec h9 fun B1 h10 f10 => ?_
  simp (maxSteps := 1000000) (disch := omega) only [stepS, reduceIte, Nat.reduceBEq, Nat.reduceEqDiff, tupleOf, stepT, stepX, heapR, lensR, stepM, dsl, Nat.reduceAdd, Nat.reduceLeDiff]
  exact hq _
end Go.AS.C


namespace Go.AS.C
open Go Go.Proofs
set_option linter.unusedVariables false
set_option linter.unusedSimpArgs false
set_option maxRecDepth 10000

/-! Deeds, as they come in; the cache and the reference's side by side. -/
structure DeedV where
  put : Bool
  id : ByteArray
  text : List UInt8
def deR (A : AH) (d : DeedV) (e : List Value) : Prop := ∃ x, e = [.bool d.put, .string d.id, x] ∧ Byt A x d.text ∧ d.id.size < 2 ^ 50 ∧ d.text.length < 2 ^ 50
def DeedsA (A : AH) (v : Value) (l : List DeedV) : Prop := ∃ es, Sl A 3 v es.length es.flatten ∧ (∀ e ∈ es, e.length = 3 ∧ ones e = true) ∧ All2 (deR A) l es
theorem good_deed {A : AH} {F : Nat} (cs : List Value) (h : Good Try.prog A (F + 3) 32 cs) : ∃ d, deR A d cs := by
  obtain ⟨hl, hf⟩ := good_fields Try.underlying32 h
  have hc : Try.prog.cellsOf 32 = 3 := by kernel_rfl
  rw [hc] at hl
  match cs, hl with
  | [c0, c1, c2], _ =>
    have e4 : Try.prog.cellsOf 4 = 1 := by kernel_rfl
    have e9 : Try.prog.cellsOf 9 = 1 := by kernel_rfl
    have e30 : Try.prog.cellsOf 30 = 1 := by kernel_rfl
    simp only [List.forall_mem_cons, e4, e9, e30, List.drop_zero, List.drop_succ_cons, List.take_succ_cons, List.take_zero] at hf
    obtain ⟨h0, h1, h2, _⟩ := hf
    obtain ⟨b, r0⟩ := cell_bool Try.underlying4 h0
    obtain ⟨s, r1, b1⟩ := cell_str Try.underlying9 h1
    obtain ⟨v, r2, g2⟩ := cell_slice Try.underlying30 h2
    injection r0 with r0 _
    injection r1 with r1 _
    injection r2 with r2 _
    subst r0 r1 r2
    obtain ⟨bs, hb, hbl⟩ := law_bytes Try.underlying30 Try.underlying5 (by kernel_rfl) (by decide +kernel) g2
    exact ⟨⟨b, s, bs⟩, c2, rfl, hb, b1, hbl⟩
theorem law_deeds {A : AH} {F : Nat} {v : Value} (h : GoodV Try.prog A (F + 4) 22 v) : ∃ l : List DeedV, DeedsA A v l ∧ l.length < 2 ^ 50 := by
  obtain ⟨rows, h1, h2, h3⟩ := good_rows Try.underlying22 (by kernel_rfl) h
  obtain ⟨l, hl⟩ := list_of good_deed rows h3
  refine ⟨l, ⟨rows, h1, fun e he => ?_, hl⟩, ?_⟩
  · obtain ⟨d, x, rfl, hx, _⟩ := good_deed e (h3 e he)
    refine ⟨rfl, ?_⟩
    have h := (Sl.one1 hx).2
    unfold ones
    simp only [List.all_cons, List.all_nil, Bool.and_true, h]
    rfl
  · rw [all2_len hl]
    exact le_mul_of (by decide +kernel) h2
section
variable {A B : AH} {v : Value} {l : List DeedV} {d : DeedV}
theorem DeedsA.le (h : DeedsA A v l) (hl : Le A B) : DeedsA B v l := by
  obtain ⟨es, h1, h2, h3⟩ := h
  exact ⟨es, h1.le hl, h2, All2.imp (fun _ _ h => by obtain ⟨x, x1, x2, x3⟩ := h; exact ⟨x, x1, x2.le hl, x3⟩) _ _ h3⟩
theorem DeedsA.len (h : DeedsA A v l) (B : AH) : sLens B false v = some (.int .i64 l.length, B) := by
  obtain ⟨es, h1, h2, h3⟩ := h
  rw [all2_len h3]; exact Sl.lenB h1 B
theorem DeedsA.at (h : DeedsA A v l) {j : Nat} (hp : l[j]? = some d) : ∃ x q q0 q1 q2, (∀ (B : AH) (n : Int), n = (j : Int) → sIaddr B v (.int .i64 n) 3 = some (q, B)) ∧ (∀ B, sFaddr B q 0 = some (q0, B)) ∧ (∀ B, sFaddr B q 1 = some (q1, B)) ∧ (∀ B, sFaddr B q 2 = some (q2, B)) ∧
    (∀ B, Le A B → sLoad1 B q0 = some (.bool d.put, B)) ∧ (∀ B, Le A B → sLoad1 B q1 = some (.string d.id, B)) ∧ (∀ B, Le A B → sLoad1 B q2 = some (x, B)) ∧ Byt A x d.text ∧ (∀ k ∈ blkOf q1, k < A.length) ∧ (∀ k ∈ blkOf q2, k < A.length) := by
  obtain ⟨es, h1, h2, h3⟩ := h
  obtain ⟨e, e1, x, e2, e3, _⟩ := all2_get' h3 hp
  subst e2
  obtain ⟨q, q1, q2⟩ := Sl.elfs h1 h2 e1 rfl
  obtain ⟨q0, a1, a2⟩ := q2 0 _ rfl
  obtain ⟨q1', b1, b2⟩ := q2 1 _ rfl
  obtain ⟨q2', c1, c2⟩ := q2 2 _ rfl
  obtain ⟨r, r0, r1, _, r3⟩ := h1.el h2 e1
  have e : r = q := by
    have h1 := q1 A j rfl
    rw [r1 A j rfl] at h1
    injection h1 with h1
    injection h1 with h1 _
  subst e
  have hlt : ∀ k ∈ blkOf r, k < A.length := by
    intro k hk
    rw [r0] at hk
    obtain ⟨_, h⟩ := h1
    rcases h with ⟨rfl, _⟩ | ⟨rfl, _⟩ | ⟨i, o, c, rc, st, ex, rfl, _, h3, _⟩
    · cases hk
    · cases hk
    · have : k = i := by simpa [blkOf] using hk
      subst this; exact lt_of_get h3
  exact ⟨x, r, q0, q1', q2', q1, a1, b1, c1, a2, b2, c2, e3, fun k hk => hlt k (by rw [faddr_blk (b1 A)] at hk; exact hk), fun k hk => hlt k (by rw [faddr_blk (c1 A)] at hk; exact hk)⟩
end
theorem RfA.fr {A B : AH} {c : Nat} {u u' w : Value} {lk n : Int} {M : Nat} {l m : List Pr} (h : RfA A w m) (hc : CacheA A c u lk n M l) (ap : ∀ k ∈ blkOf w, k ∉ blkOf u) (hf : Fr c u A u' B) : RfA B w m := by
  obtain ⟨es, ⟨g0, h1⟩, h2, h3⟩ := h
  refine ⟨es, ⟨g0, ?_⟩, h2, All2.imp (fun _ _ h => by obtain ⟨x, x1, x2⟩ := h; exact ⟨x, x1, byt_fr x2 hc hf⟩) _ _ h3⟩
  rcases h1 with h | h | ⟨i, o, q, rc', st, ex', e1, e2, e3, e4, e5, e6⟩
  · exact .inl h
  · exact .inr (.inl h)
  · refine .inr (.inr ⟨i, o, q, rc', st, ex', e1, e2, hf.2.1 i _ e3 ?_ (ap i (by rw [e1]; simp [blkOf])), e4, e5, e6⟩)
    rintro rfl
    rw [rowAt_get hc.row] at e3
    injection e3 with e3
    injection e3 with _ _ e3 _
    cases e3
/-- The cache (c, u: l) and the reference's (r, w: m), behind the arguments' heap. -/
structure Both (A B : AH) (c r : Nat) (u w : Value) (M : Nat) (l m : List Pr) : Prop where
  le : Le A B
  cc : CacheA B c u 0 (tot l : Int) M l
  hc : A.length ≤ c
  hr : A.length ≤ r
  hu : ∀ k ∈ blkOf u, A.length ≤ k
  rr : rowAt B r = some ([w, .int .i64 (M : Int)], .own, 0, true)
  rf : RfA B w m
  ap : ∀ k ∈ blkOf w, k ∉ blkOf u
section
variable {A B D : AH} {c r : Nat} {u u' w w' : Value} {M : Nat} {l l' m m' : List Pr}
theorem Both.ne (h : Both A B c r u w M l m) : r ≠ c := by
  rintro rfl
  have := h.rr
  rw [h.cc.row] at this
  simp at this
theorem Both.nu (h : Both A B c r u w M l m) : r ∉ blkOf u := by
  obtain ⟨es, h1, _⟩ := h.cc.ents
  exact OwnS.row_apart h1.2 (rowAt_get h.rr) (by decide)
/-- Behind one of the cache's calls. -/
theorem Both.fr (h : Both A B c r u w M l m) (hc : CacheA D c u' 0 (tot l' : Int) M l') (hf : Fr c u B u' D) : Both A D c r u' w M l' m := by
  refine ⟨hf.le0 h.le h.hc h.hu, hc, h.hc, h.hr, fun k hk => ?_, rowAt_own (hf.2.1 r _ (rowAt_get h.rr) h.ne h.nu), h.rf.fr h.cc h.ap hf, fun k hk hk' => ?_⟩
  · rcases hf.2.2 k hk with h1 | h1
    · exact h.hu k h1
    · exact Nat.le_trans h.le.len h1
  · rcases hf.2.2 k hk' with h1 | h1
    · exact h.ap k hk h1
    · have := h.rf.lt k hk; omega
theorem Both.rd (h : Both A B c r u w M l m) (hf : Fr c u B u' D) {R : List Nat} (hR : ∀ k ∈ R, k = r ∨ k < A.length) : RdOk R B D := by
  intro k hk b hb
  refine hf.2.1 k b hb ?_ ?_
  · rcases hR k hk with rfl | h1
    · exact h.ne
    · have := h.hc; omega
  · rcases hR k hk with rfl | h1
    · exact h.nu
    · exact fun h2 => by have := h.hu k h2; omega
end
theorem putP_len {M : Nat} {id : ByteArray} {t : List UInt8} {l : List Pr} : (putP M id t l).length ≤ l.length + 1 := by
  have h1 := (fit_sub ((id, t) :: rmv id l) M).length_le
  have h2 := rmv_len id l
  simp only [List.length_cons] at h1
  unfold putP; omega
theorem tot_sub : ∀ {l m : List Pr}, l.Sublist m → tot l ≤ tot m
  | _, _, .slnil => Nat.le_refl _
  | _, _, .cons p h => by have := tot_sub h; simp only [tot]; omega
  | _, _, .cons_cons p h => by have := tot_sub h; simp only [tot]; omega
theorem putP_tot {M : Nat} {id : ByteArray} {t : List UInt8} {l : List Pr} : tot (putP M id t l) ≤ tot l + t.length := by
  have h1 := tot_sub (fit_sub ((id, t) :: rmv id l) M)
  have h2 := rmv_tot id l
  simp only [tot] at h1
  unfold putP; omega
theorem get_len {p : Pr} {l : List Pr} (hp : p ∈ l) : (p :: rmv p.1 l).length ≤ l.length ∧ True := by
  refine ⟨?_, trivial⟩
  have : p ∉ rmv p.1 l := fun h => rmv_not p.1 l p h rfl
  have hs : (rmv p.1 l).Sublist l := List.filter_sublist
  have h1 := hs.length_le
  have h2 : (rmv p.1 l).length ≠ l.length := fun e => this (by rw [hs.eq_of_length e]; exact hp)
  simp only [List.length_cons]; omega
theorem get_tot {p : Pr} {l : List Pr} (hn : (l.map (·.1)).Nodup) (hp : p ∈ l) : tot (p :: rmv p.1 l) = tot l := by
  obtain ⟨j, hj⟩ := List.getElem?_of_mem hp
  have := (rmv_at hn hj).2
  simp only [tot]; omega
end Go.AS.C


namespace Go.AS.C
open Go Go.Proofs
set_option linter.unusedVariables false
set_option linter.unusedSimpArgs false
set_option maxRecDepth 10000

/-! CacheLast. -/
/-- The cache alone, behind the arguments' heap. -/
structure One (A B : AH) (c : Nat) (u : Value) (M : Nat) (l : List Pr) : Prop where
  le : Le A B
  cc : CacheA B c u 0 (tot l : Int) M l
  hc : A.length ≤ c
  hu : ∀ k ∈ blkOf u, A.length ≤ k
theorem One.fr {A B D : AH} {c : Nat} {u u' : Value} {M : Nat} {l l' : List Pr} (h : One A B c u M l) (hc : CacheA D c u' 0 (tot l' : Int) M l') (hf : Fr c u B u' D) : One A D c u' M l' := by
  refine ⟨hf.le0 h.le h.hc h.hu, hc, h.hc, fun k hk => ?_⟩
  rcases hf.2.2 k hk with h1 | h1
  · exact h.hu k h1
  · exact Nat.le_trans h.le.len h1
end Go.AS.C
