/- Lemmas for the proof of a given statement; no conditions. -/
import Derived.Test.YtjbmnlmjngegeaaDoorM3
set_option maxHeartbeats 1000000

namespace Go.AS
open Go
set_option linter.unusedVariables false
set_option linter.unusedSimpArgs false

/-! Slices of elements of some cells each, of the call's own: read, written, swapped. -/

/-- All but the row at which v leads is as it was. -/
def KeepV (A : AH) (v : Value) (A' : AH) : Prop := A.length ≤ A'.length ∧ ∀ k b, A[k]? = some b → k ∉ blkOf v → A'[k]? = some b
def OwnE (a0 : Nat) (A : AH) (sz : Nat) (v : Value) (es : List (List Value)) : Prop := (∀ e ∈ es, e.length = sz ∧ ones e = true) ∧ OwnS a0 A sz v es.length es.flatten

section
variable {A B C A0 : AH} {v w : Value} {sz n a0 : Nat} {cs : List Value} {es fs : List (List Value)}
theorem KeepV.refl (A : AH) (v : Value) : KeepV A v A := ⟨Nat.le_refl _, fun _ _ h _ => h⟩
theorem KeepV.trans (h : KeepV A v B) (k : KeepV B v C) : KeepV A v C := ⟨Nat.le_trans h.1 k.1, fun j b hb hj => k.2 j b (h.2 j b hb hj) hj⟩
theorem Le.kv (h : Le A B) (v : Value) : KeepV A v B := ⟨h.len, fun k b hb _ => h.get hb⟩
theorem KeepV.le (h : KeepV A v B) (hl : Le A0 A) (hi : ∀ k ∈ blkOf v, A0.length ≤ k) : Le A0 B := by
  refine Le.of_get (fun k hk => ?_) (Nat.le_trans hl.len h.1)
  have hb : A0[k]? = some A0[k] := List.getElem?_eq_getElem hk
  rw [hb, h.2 k _ (hl.get hb) (fun hm => by have := hi k hm; omega)]
theorem Sl.kv (h : Sl A sz w n cs) (hk : KeepV A v B) (hd : ∀ k ∈ blkOf w, k ∉ blkOf v) : Sl B sz w n cs :=
  h.keep fun i b hb ⟨o, c, e⟩ => hk.2 i b hb (hd i (by rw [e]; simp [blkOf]))
theorem Byt.kv {bs : List UInt8} (h : Byt A w bs) (hk : KeepV A v B) (hd : ∀ k ∈ blkOf w, k ∉ blkOf v) : Byt B w bs := Sl.kv h hk hd
theorem iaddr_any {x i p : Value} {A' : AH} (h : sIaddr A x i sz = some (p, A')) (B : AH) : sIaddr B x i sz = some (p, B) := by
  unfold sIaddr at h ⊢
  split at h
  · rw [Option.bind_eq_some_iff] at h
    obtain ⟨j, h1, h⟩ := h
    split at h
    · rename_i hc
      injection h with h; injection h with h2 h3; subst h2
      simp only [h1, Option.bind_some]
      rw [if_pos hc]
    · cases h
  · cases h
theorem ones_flatten (h : ∀ e ∈ es, e.length = sz ∧ ones e = true) : ones es.flatten = true := by
  unfold ones
  rw [List.all_eq_true]
  intro x hx
  obtain ⟨e, he, hx⟩ := List.mem_flatten.1 hx
  have := (h e he).2
  unfold ones at this
  rw [List.all_eq_true] at this
  exact this x hx
theorem flat_len' (h : ∀ e ∈ es, e.length = sz ∧ ones e = true) : es.flatten.length = es.length * sz := flat_len es sz (fun j c hc => (h c (List.mem_of_getElem? hc)).1)
theorem flat_cut (h : ∀ e ∈ es, e.length = sz ∧ ones e = true) {j : Nat} {e : List Value} (hj : es[j]? = some e) : (es.flatten.drop (j * sz)).take sz = e := by
  have h1 := flat_part es j e hj
  have h2 := flat_len_take es sz (fun j c hc => (h c (List.mem_of_getElem? hc)).1) j (Nat.le_of_lt (lt_of_get hj))
  rw [h2, (h e (List.mem_of_getElem? hj)).1] at h1
  exact h1
theorem flat_at (h : ∀ e ∈ es, e.length = sz ∧ ones e = true) {j o : Nat} {e : List Value} (hj : es[j]? = some e) (ho : o < sz) : es.flatten[j * sz + o]? = e[o]? := by
  have := flat_cut h hj
  rw [← this, List.getElem?_take_of_lt ho, List.getElem?_drop]
/-- An element is read. -/
theorem Sl.el (h : Sl A sz v es.length es.flatten) (he : ∀ e ∈ es, e.length = sz ∧ ones e = true) {j : Nat} {e : List Value} (hj : es[j]? = some e) :
    ∃ p, blkOf p = blkOf v ∧ (∀ (B : AH) (n : Int), n = (j : Int) → sIaddr B v (.int .i64 n) sz = some (p, B)) ∧ sLoadn A p sz = some (.agg e.toArray, A) ∧ ∀ B, (∀ k b, A[k]? = some b → k ∈ blkOf v → B[k]? = some b) → sLoadn B p sz = some (.agg e.toArray, B) := by
  obtain ⟨p, p1, p2⟩ := h.atn (lt_of_get hj)
  rw [flat_cut he hj] at p2
  refine ⟨p, iaddr_blk p1, ?_, p2, fun B hB => ?_⟩
  · rintro B n rfl; exact iaddr_any p1 B
  · have hb := iaddr_blk p1
    unfold sLoadn at p2 ⊢
    split at p2
    · rename_i i o
      rw [Option.bind_eq_some_iff] at p2
      obtain ⟨r, q1, q2⟩ := p2
      rw [Option.map_eq_some_iff] at q2
      obtain ⟨l, q2, q3⟩ := q2
      injection q3 with q3 q4
      obtain ⟨r1, r2, r3, r4⟩ := r
      obtain ⟨g1, g2⟩ := getRow_some q1
      have g3 := hB i _ g1 (by rw [← hb]; simp [blkOf])
      have : getRow B i = some (r1, r2, r3, r4) := by unfold getRow; simp only [g3, if_neg g2]
      simp only [this, Option.bind_some, q2, Option.map_some, q3]
    · cases p2
theorem OwnE.el (h : OwnE a0 A sz v es) {j : Nat} {e : List Value} (hj : es[j]? = some e) :
    ∃ p, blkOf p = blkOf v ∧ (∀ (B : AH) (n : Int), n = (j : Int) → sIaddr B v (.int .i64 n) sz = some (p, B)) ∧ sLoadn A p sz = some (.agg e.toArray, A) ∧ ∀ B, (∀ k b, A[k]? = some b → k ∈ blkOf v → B[k]? = some b) → sLoadn B p sz = some (.agg e.toArray, B) := Sl.el h.2.sl h.1 hj
/-- An element is written. -/
theorem OwnE.put (h : OwnE a0 A sz v es) {j : Nat} {e : List Value} (hj : j < es.length) (h1 : e.length = sz) (h2 : ones e = true) {p : Value} (hp : sIaddr A v (.int .i64 (j : Int)) sz = some (p, A)) :
    ∃ A', sStore A p (.agg e.toArray) sz = some (undef, A') ∧ OwnE a0 A' sz v (es.set j e) ∧ KeepV A v A' := by
  obtain ⟨he, hs⟩ := h
  have hfl := flat_len' he
  have hm : j * sz + sz ≤ es.length * sz := by
    have := Nat.mul_le_mul_right sz (show j + 1 ≤ es.length by omega)
    rw [Nat.add_mul, Nat.one_mul] at this
    exact this
  obtain ⟨h0, hs⟩ := hs
  rcases hs with ⟨rfl, hz⟩ | ⟨rfl, hz⟩ | ⟨i, o, c, rc, ex, rfl, k2, k3, k4, k5, k6⟩
  · omega
  · omega
  · have e1 : sIaddr A (.slice (some ⟨i, o, none⟩) es.length c) (.int .i64 (j : Int)) sz = some (.pointer (some ⟨i, o + j * sz, none⟩), A) := by
      unfold sIaddr
      simp only [asI, Option.bind_some]
      rw [if_pos ⟨by omega, by omega⟩]
      simp
    rw [e1] at hp
    injection hp with hp; injection hp with hp _; subst hp
    have ec : (Value.agg e.toArray).cells = e.toArray := rfl
    refine ⟨A.set i (.row (setAll rc (o + j * sz) e) .own sz ex), ?_, ⟨?_, ?_⟩, ?_⟩
    · unfold sStore
      rw [ec]
      simp only [List.size_toArray]
      rw [if_pos h1]
      unfold wr
      simp only [k4]
      rw [if_pos ⟨by omega, h2⟩]
      rfl
    · intro x hx
      rcases List.mem_or_eq_of_mem_set hx with hx | rfl
      · exact he x hx
      · exact ⟨h1, h2⟩
    · have he' : ∀ x ∈ es.set j e, x.length = sz ∧ ones x = true := by
        intro x hx
        rcases List.mem_or_eq_of_mem_set hx with hx | rfl
        · exact he x hx
        · exact ⟨h1, h2⟩
      have hl2 : (es.set j e).length = es.length := List.length_set ..
      refine ⟨by rw [flat_len' he'], .inr (.inr ⟨i, o, c, setAll rc (o + j * sz) e, ex, by rw [hl2], by rw [hl2]; exact k2, k3, by rw [List.getElem?_set_self (lt_of_get k4)], ?_, ?_⟩)⟩
      · rw [setAll_length _ _ _ (by omega), hl2]; exact k5
      · intro m hm2
        rw [hl2] at hm2
        have hsz : 0 < sz := by
          rcases Nat.eq_zero_or_pos sz with h | h
          · subst h; omega
          · exact h
        rw [setAll_get _ _ _ (by omega)]
        obtain ⟨q, r, rfl, hr⟩ : ∃ q r, m = q * sz + r ∧ r < sz := ⟨m / sz, m % sz, by rw [Nat.mul_comm]; exact (Nat.div_add_mod m sz).symm, Nat.mod_lt _ hsz⟩
        have hq : q < es.length := by
          rcases Nat.lt_or_ge q es.length with h | h
          · exact h
          · have := Nat.mul_le_mul_right sz h; omega
        by_cases hqj : q = j
        · subst hqj
          rw [if_pos ⟨by omega, by omega⟩, flat_at he' (j := q) (o := r) (e := e) (List.getElem?_set_self hq) hr]
          congr 1; omega
        · obtain ⟨x, hx⟩ : ∃ x, es[q]? = some x := ⟨_, List.getElem?_eq_getElem hq⟩
          have hne : ¬ (o + j * sz ≤ o + (q * sz + r) ∧ o + (q * sz + r) < o + j * sz + e.length) := by
            rintro ⟨u1, u2⟩
            rcases Nat.lt_or_gt_of_ne hqj with hlt | hgt
            · have := Nat.mul_le_mul_right sz (show q + 1 ≤ j by omega)
              rw [Nat.add_mul, Nat.one_mul] at this; omega
            · have := Nat.mul_le_mul_right sz (show j + 1 ≤ q by omega)
              rw [Nat.add_mul, Nat.one_mul] at this; omega
          rw [if_neg hne, k6 _ hm2, flat_at he hx hr, flat_at he' (e := x) (by rw [List.getElem?_set_ne (by omega)]; exact hx) hr]
    · refine ⟨by rw [List.length_set]; exact Nat.le_refl _, fun k b hb hk => ?_⟩
      rw [List.getElem?_set_ne (fun h => hk (by subst h; simp [blkOf]))]
      exact hb
/-- Two elements change places. -/
theorem OwnE.swap (h : OwnE a0 A sz v es) {i j : Nat} {x y : List Value} (hi : es[i]? = some x) (hj : es[j]? = some y) :
    ∃ p q A1 A2, (∀ (B : AH) (n : Int), n = (i : Int) → sIaddr B v (.int .i64 n) sz = some (p, B)) ∧ (∀ (B : AH) (n : Int), n = (j : Int) → sIaddr B v (.int .i64 n) sz = some (q, B)) ∧
      sLoadn A p sz = some (.agg x.toArray, A) ∧ sLoadn A q sz = some (.agg y.toArray, A) ∧ sStore A p (.agg y.toArray) sz = some (undef, A1) ∧ sStore A1 q (.agg x.toArray) sz = some (undef, A2) ∧
      OwnE a0 A2 sz v ((es.set i y).set j x) ∧ KeepV A v A2 := by
  obtain ⟨p, _, p1, p2, _⟩ := h.el hi
  obtain ⟨q, _, q1, q2, _⟩ := h.el hj
  have hx := h.1 x (List.mem_of_getElem? hi)
  have hy := h.1 y (List.mem_of_getElem? hj)
  obtain ⟨A1, s1, s2, s3⟩ := h.put (lt_of_get hi) hy.1 hy.2 (p1 A _ rfl)
  obtain ⟨A2, t1, t2, t3⟩ := s2.put (j := j) (by rw [List.length_set]; exact lt_of_get hj) hx.1 hx.2 (q1 A1 _ rfl)
  exact ⟨p, q, A1, A2, p1, q1, p2, q2, s1, t1, t2, s3.trans t3⟩
theorem OwnE.le (h : OwnE a0 A sz v es) (hl : Le A B) : OwnE a0 B sz v es := ⟨h.1, h.2.le hl⟩
theorem OwnE.ge (h : OwnE a0 A sz v es) : ∀ k ∈ blkOf v, a0 ≤ k ∧ k < A.length := h.2.ge
theorem OwnE.len (h : OwnE a0 A sz v es) : sLens A false v = some (.int .i64 es.length, A) := h.2.sl.len
theorem swap_lo {α : Type} (X M Y : List α) (x y : α) : ((X ++ x :: (M ++ y :: Y)).set X.length y).set (X.length + (M.length + 1)) x = X ++ y :: (M ++ x :: Y) := by
  rw [List.set_append_right _ _ (Nat.le_refl _), Nat.sub_self, List.set_cons_zero, List.set_append_right _ _ (by omega), Nat.add_sub_cancel_left, List.set_cons_succ, List.set_append_right _ _ (Nat.le_refl _), Nat.sub_self, List.set_cons_zero]
theorem swap_hi {α : Type} (X M Y : List α) (x y : α) : ((X ++ x :: (M ++ y :: Y)).set (X.length + (M.length + 1)) x).set X.length y = X ++ y :: (M ++ x :: Y) := by
  rw [List.set_comm _ _ (by omega)]; exact swap_lo X M Y x y
theorem get_lo {α : Type} (X Y : List α) (x : α) : (X ++ x :: Y)[X.length]? = some x := by simp
theorem get_hi {α : Type} (X M Y : List α) (x y : α) : (X ++ x :: (M ++ y :: Y))[X.length + (M.length + 1)]? = some y := by
  rw [List.getElem?_append_right (by omega), Nat.add_sub_cancel_left, List.getElem?_cons_succ, List.getElem?_append_right (Nat.le_refl _), Nat.sub_self]; rfl
theorem split_le {α : Type} {l : List α} {n : Nat} (h : n ≤ l.length) : ∃ X Y, l = X ++ Y ∧ X.length = n :=
  ⟨l.take n, l.drop n, (List.take_append_drop _ _).symm, by rw [List.length_take]; omega⟩

theorem convU (A : AH) (a : Int) (h0 : 0 ≤ a) (h1 : a < 9223372036854775808) : sConv A .u64 (.int .i64 a) = some (.int .u64 a, A) := by
  simp only [sConv, IntKind.wrap, IntKind.bits, IntKind.signed]
  congr 3
  simp
  omega
theorem convS (A : AH) (a : Int) (h0 : 0 ≤ a) (h1 : a < 9223372036854775808) : sConv A .i64 (.int .u64 a) = some (.int .i64 a, A) := by
  simp only [sConv]
  rw [wrap_i64 _ (by omega) (by omega)]
theorem half (a : Int) (h0 : 0 ≤ a) (k : IntKind) : binA .shr (.int .u64 a) (.int k 1) = some (.int .u64 (a / 2)) := by
  simp only [binA]
  rw [if_neg (by omega)]
  have : min (1 : Int).toNat IntKind.u64.bits = 1 := by decide
  rw [this, Int.fdiv_eq_ediv_of_nonneg _ (by omega)]
  rfl
end
end Go.AS


namespace Go.AS
open Go
set_option linter.unusedVariables false
set_option linter.unusedSimpArgs false

/-! Lists in order by a key; rearrangements that keep what has one key in its order. -/

theorem bytesLess_lt : ∀ (x y : List UInt8), Op.bytesLess x y = decide (x < y)
  | [], [] => by simp [Op.bytesLess]
  | _ :: _, [] => by simp [Op.bytesLess]
  | [], _ :: _ => by simp [Op.bytesLess]
  | a :: x, b :: y => by
    rw [Op.bytesLess, bytesLess_lt x y]
    simp only [List.cons_lt_cons_iff]
    by_cases h1 : a < b <;> by_cases h2 : a = b <;> by_cases h3 : x < y <;> simp [h1, h2, h3]

theorem kl_irr (a : List UInt8) : ¬ a < a := List.lt_irrefl a
theorem kl_tr {a b c : List UInt8} (h : a < b) (k : b < c) : a < c := List.lt_trans h k
theorem kl_asym {a b : List UInt8} (h : a < b) : ¬ b < a := fun k => kl_irr a (kl_tr h k)
theorem kl_tri (a b : List UInt8) : a < b ∨ a = b ∨ b < a := by
  by_cases h : a < b
  · exact .inl h
  · by_cases k : b < a
    · exact .inr (.inr k)
    · exact .inr (.inl (List.le_antisymm (List.not_lt.1 k) (List.not_lt.1 h)))
theorem kl_le_tr {a b c : List UInt8} (h : ¬ b < a) (k : ¬ c < b) : ¬ c < a := by
  intro hc
  rcases kl_tri a b with h1 | h1 | h1
  · exact k (kl_tr hc h1)
  · subst h1; exact k hc
  · exact h h1
theorem kl_lt_le {a b c : List UInt8} (h : a < b) (k : ¬ c < b) : a < c := by
  rcases kl_tri b c with h1 | h1 | h1
  · exact kl_tr h h1
  · subst h1; exact h
  · exact absurd h1 k
theorem kl_le_lt {a b c : List UInt8} (h : ¬ b < a) (k : b < c) : a < c := by
  rcases kl_tri a b with h1 | h1 | h1
  · exact kl_tr h1 k
  · subst h1; exact k
  · exact absurd h1 h

section
variable {α : Type} {key : α → List UInt8}
/-- A stable rearrangement. -/
def Rk (key : α → List UInt8) (l l' : List α) : Prop := l'.length = l.length ∧ ∀ k, l'.filter (fun e => decide (key e = k)) = l.filter (fun e => decide (key e = k))
/-- In order. -/
def Srt (key : α → List UInt8) (l : List α) : Prop := l.Pairwise fun a b => ¬ key b < key a

theorem Rk.refl (l : List α) : Rk key l l := ⟨rfl, fun _ => rfl⟩
theorem Rk.trans {a b c : List α} (h : Rk key a b) (k : Rk key b c) : Rk key a c := ⟨k.1.trans h.1, fun x => (k.2 x).trans (h.2 x)⟩
theorem Rk.app {a b c d : List α} (h : Rk key a b) (k : Rk key c d) : Rk key (a ++ c) (b ++ d) :=
  ⟨by simp [h.1, k.1], fun x => by simp [List.filter_append, h.2 x, k.2 x]⟩
theorem Rk.mem {a b : List α} (h : Rk key a b) {x : α} : x ∈ b ↔ x ∈ a := by
  have := h.2 (key x)
  have e : ∀ l : List α, x ∈ l.filter (fun e => decide (key e = key x)) ↔ x ∈ l := fun l => by simp
  rw [← e b, this, e a]
/-- Two parts change places whose keys are apart. -/
theorem Rk.swap {a b : List α} (h : ∀ x ∈ a, ∀ y ∈ b, key x ≠ key y) : Rk key (a ++ b) (b ++ a) := by
  refine ⟨by simp; omega, fun k => ?_⟩
  rw [List.filter_append, List.filter_append]
  by_cases ha : a.filter (fun e => decide (key e = k)) = []
  · rw [ha]; simp
  · have hb : b.filter (fun e => decide (key e = k)) = [] := by
      rw [List.filter_eq_nil_iff] at ha ⊢
      intro y hy hk
      apply ha
      intro x hx hkx
      simp only [decide_eq_true_eq] at hk hkx
      exact h x hx y hy (by rw [hk, hkx])
    rw [hb]; simp
theorem Srt.app {a b : List α} (ha : Srt key a) (hb : Srt key b) (h : ∀ x ∈ a, ∀ y ∈ b, ¬ key y < key x) : Srt key (a ++ b) :=
  List.pairwise_append.2 ⟨ha, hb, h⟩
theorem Srt.left {a b : List α} (h : Srt key (a ++ b)) : Srt key a := (List.pairwise_append.1 h).1
theorem Srt.right {a b : List α} (h : Srt key (a ++ b)) : Srt key b := (List.pairwise_append.1 h).2.1
theorem Srt.cross {a b : List α} (h : Srt key (a ++ b)) : ∀ x ∈ a, ∀ y ∈ b, ¬ key y < key x := (List.pairwise_append.1 h).2.2
theorem Srt.get {l : List α} (h : Srt key l) {i j : Nat} {x y : α} (hi : l[i]? = some x) (hj : l[j]? = some y) (hij : i ≤ j) : ¬ key y < key x := by
  rcases Nat.lt_or_ge i j with hlt | hge
  · obtain ⟨h1, h2⟩ := List.getElem?_eq_some_iff.1 hi
    obtain ⟨h3, h4⟩ := List.getElem?_eq_some_iff.1 hj
    have := List.pairwise_iff_getElem.1 h i j h1 h3 hlt
    rw [h2, h4] at this
    exact this
  · have : i = j := by omega
    subst this
    rw [hi] at hj
    obtain rfl := Option.some.inj hj
    exact kl_irr _
theorem Srt.one (x : α) : Srt key [x] := by simp [Srt]
theorem Srt.nil : Srt key ([] : List α) := by simp [Srt]
end
end Go.AS


namespace Go.AS
open Go
set_option maxRecDepth 100000
/-! Codes of library functions that are alike in many chapters (printed by geni.py). -/
noncomputable def icG_swapr (sz : Nat) : IC :=
  (.seq (.ops [
    ⟨(some 10), none, false, .mov (.const (.int .i64 0))⟩]) (.block 0 (.loop (.seq (.seq (.ops [
    ⟨(some 11), none, false, .mov (.tmp 10)⟩,
    ⟨(some 12), none, false, .mov (.tmp 3)⟩,
    ⟨(some 13), none, false, .bin .lss (.tmp 11) (.tmp 12)⟩]) (.cond (.tmp 13) .skip (.exit 0))) (.seq (.block 1 (.draw [
    ⟨(some 16), none, false, .mov (.tmp 0)⟩,
    ⟨(some 17), none, false, .mov (.tmp 1)⟩,
    ⟨(some 18), none, false, .mov (.tmp 10)⟩,
    ⟨(some 19), none, false, .bin .add (.tmp 17) (.tmp 18)⟩,
    ⟨(some 20), none, false, .mov (.tmp 0)⟩,
    ⟨(some 21), none, false, .mov (.tmp 2)⟩,
    ⟨(some 22), none, false, .mov (.tmp 10)⟩,
    ⟨(some 23), none, false, .bin .add (.tmp 21) (.tmp 22)⟩,
    ⟨(some 24), none, false, .mov (.tmp 0)⟩,
    ⟨(some 25), none, false, .mov (.tmp 2)⟩,
    ⟨(some 26), none, false, .mov (.tmp 10)⟩,
    ⟨(some 27), none, false, .bin .add (.tmp 25) (.tmp 26)⟩,
    ⟨(some 28), none, false, .iaddr (.tmp 24) (.tmp 27) sz⟩,
    ⟨(some 29), none, false, .loadn (.tmp 28) sz⟩,
    ⟨(some 30), none, false, .mov (.tmp 0)⟩,
    ⟨(some 31), none, false, .mov (.tmp 1)⟩,
    ⟨(some 32), none, false, .mov (.tmp 10)⟩,
    ⟨(some 33), none, false, .bin .add (.tmp 31) (.tmp 32)⟩,
    ⟨(some 34), none, false, .iaddr (.tmp 30) (.tmp 33) sz⟩,
    ⟨(some 35), none, false, .loadn (.tmp 34) sz⟩,
    ⟨(some 36), none, false, .iaddr (.tmp 16) (.tmp 19) sz⟩,
    ⟨none, none, false, .store (.tmp 36) (.tmp 29) sz⟩,
    ⟨(some 37), none, false, .iaddr (.tmp 20) (.tmp 23) sz⟩,
    ⟨none, none, false, .store (.tmp 37) (.tmp 35) sz⟩])) (.ops [
    ⟨(some 14), none, false, .mov (.tmp 10)⟩,
    ⟨(some 15), none, false, .bin .add (.tmp 14) (.const (.int .i64 1))⟩,
    ⟨(some 10), none, false, .mov (.tmp 15)⟩]))))))
noncomputable def icG_rotate (swapr : FuncId) : IC :=
  (.seq (.ops [
    ⟨(some 12), none, false, .mov (.tmp 2)⟩,
    ⟨(some 13), none, false, .mov (.tmp 1)⟩,
    ⟨(some 14), none, false, .bin .sub (.tmp 12) (.tmp 13)⟩,
    ⟨(some 10), none, false, .mov (.tmp 14)⟩]) (.seq (.ops [
    ⟨(some 15), none, false, .mov (.tmp 3)⟩,
    ⟨(some 16), none, false, .mov (.tmp 2)⟩,
    ⟨(some 17), none, false, .bin .sub (.tmp 15) (.tmp 16)⟩,
    ⟨(some 11), none, false, .mov (.tmp 17)⟩]) (.seq (.block 0 (.loop (.seq (.seq (.ops [
    ⟨(some 18), none, false, .mov (.tmp 10)⟩,
    ⟨(some 19), none, false, .mov (.tmp 11)⟩,
    ⟨(some 20), none, false, .bin .neq (.tmp 18) (.tmp 19)⟩]) (.cond (.tmp 20) .skip (.exit 0))) (.block 1 (.seq (.ops [
    ⟨(some 21), none, false, .mov (.tmp 10)⟩,
    ⟨(some 22), none, false, .mov (.tmp 11)⟩,
    ⟨(some 23), none, false, .bin .gtr (.tmp 21) (.tmp 22)⟩]) (.cond (.tmp 23) (.seq (.ops [
    ⟨(some 24), none, false, .mov (.tmp 0)⟩,
    ⟨(some 25), none, false, .mov (.tmp 2)⟩,
    ⟨(some 26), none, false, .mov (.tmp 10)⟩,
    ⟨(some 27), none, false, .bin .sub (.tmp 25) (.tmp 26)⟩,
    ⟨(some 28), none, false, .mov (.tmp 2)⟩,
    ⟨(some 29), none, false, .mov (.tmp 11)⟩,
    ⟨(some 30), none, false, .mov (.tmp 4)⟩,
    ⟨(some 31), none, false, .call swapr [(.tmp 24), (.tmp 27), (.tmp 28), (.tmp 29), (.tmp 30)]⟩]) (.ops [
    ⟨(some 32), none, false, .mov (.tmp 10)⟩,
    ⟨(some 33), none, false, .mov (.tmp 11)⟩,
    ⟨(some 34), none, false, .bin .sub (.tmp 32) (.tmp 33)⟩,
    ⟨(some 10), none, false, .mov (.tmp 34)⟩])) (.seq (.ops [
    ⟨(some 35), none, false, .mov (.tmp 0)⟩,
    ⟨(some 36), none, false, .mov (.tmp 2)⟩,
    ⟨(some 37), none, false, .mov (.tmp 10)⟩,
    ⟨(some 38), none, false, .bin .sub (.tmp 36) (.tmp 37)⟩,
    ⟨(some 39), none, false, .mov (.tmp 2)⟩,
    ⟨(some 40), none, false, .mov (.tmp 11)⟩,
    ⟨(some 41), none, false, .bin .add (.tmp 39) (.tmp 40)⟩,
    ⟨(some 42), none, false, .mov (.tmp 10)⟩,
    ⟨(some 43), none, false, .bin .sub (.tmp 41) (.tmp 42)⟩,
    ⟨(some 44), none, false, .mov (.tmp 10)⟩,
    ⟨(some 45), none, false, .mov (.tmp 4)⟩,
    ⟨(some 46), none, false, .call swapr [(.tmp 35), (.tmp 38), (.tmp 43), (.tmp 44), (.tmp 45)]⟩]) (.ops [
    ⟨(some 47), none, false, .mov (.tmp 11)⟩,
    ⟨(some 48), none, false, .mov (.tmp 10)⟩,
    ⟨(some 49), none, false, .bin .sub (.tmp 47) (.tmp 48)⟩,
    ⟨(some 11), none, false, .mov (.tmp 49)⟩])))))))) (.ops [
    ⟨(some 50), none, false, .mov (.tmp 0)⟩,
    ⟨(some 51), none, false, .mov (.tmp 2)⟩,
    ⟨(some 52), none, false, .mov (.tmp 10)⟩,
    ⟨(some 53), none, false, .bin .sub (.tmp 51) (.tmp 52)⟩,
    ⟨(some 54), none, false, .mov (.tmp 2)⟩,
    ⟨(some 55), none, false, .mov (.tmp 10)⟩,
    ⟨(some 56), none, false, .mov (.tmp 4)⟩,
    ⟨(some 57), none, false, .call swapr [(.tmp 50), (.tmp 53), (.tmp 54), (.tmp 55), (.tmp 56)]⟩]))))
noncomputable def icG_mrot (rotate : FuncId) : IC :=
  (.seq (.ops [
    ⟨(some 178), none, false, .mov (.tmp 20)⟩,
    ⟨(some 179), none, false, .mov (.tmp 2)⟩,
    ⟨(some 180), none, false, .bin .lss (.tmp 178) (.tmp 179)⟩,
    ⟨(some 181), none, false, .mov (.tmp 180)⟩,
    ⟨(some 182), (some (181, true)), false, .mov (.tmp 2)⟩,
    ⟨(some 183), (some (181, true)), false, .mov (.tmp 24)⟩,
    ⟨(some 184), (some (181, true)), false, .bin .lss (.tmp 182) (.tmp 183)⟩,
    ⟨(some 185), none, false, .pick (.tmp 181) (.tmp 184) (.const (.bool false))⟩]) (.cond (.tmp 185) (.ops [
    ⟨(some 186), none, false, .mov (.tmp 0)⟩,
    ⟨(some 187), none, false, .mov (.tmp 20)⟩,
    ⟨(some 188), none, false, .mov (.tmp 2)⟩,
    ⟨(some 189), none, false, .mov (.tmp 24)⟩,
    ⟨(some 190), none, false, .mov (.tmp 4)⟩,
    ⟨(some 191), none, false, .call rotate [(.tmp 186), (.tmp 187), (.tmp 188), (.tmp 189), (.tmp 190)]⟩]) .skip))
noncomputable def icG_mlow (self : FuncId) : IC :=
  (.seq (.ops [
    ⟨(some 192), none, false, .mov (.tmp 1)⟩,
    ⟨(some 193), none, false, .mov (.tmp 20)⟩,
    ⟨(some 194), none, false, .bin .lss (.tmp 192) (.tmp 193)⟩,
    ⟨(some 195), none, false, .mov (.tmp 194)⟩,
    ⟨(some 196), (some (195, true)), false, .mov (.tmp 20)⟩,
    ⟨(some 197), (some (195, true)), false, .mov (.tmp 18)⟩,
    ⟨(some 198), (some (195, true)), false, .bin .lss (.tmp 196) (.tmp 197)⟩,
    ⟨(some 199), none, false, .pick (.tmp 195) (.tmp 198) (.const (.bool false))⟩]) (.cond (.tmp 199) (.ops [
    ⟨(some 200), none, false, .mov (.tmp 0)⟩,
    ⟨(some 201), none, false, .mov (.tmp 1)⟩,
    ⟨(some 202), none, false, .mov (.tmp 20)⟩,
    ⟨(some 203), none, false, .mov (.tmp 18)⟩,
    ⟨(some 204), none, false, .mov (.tmp 4)⟩,
    ⟨(some 205), none, false, .call self [(.tmp 200), (.tmp 201), (.tmp 202), (.tmp 203), (.tmp 204)]⟩]) .skip))
noncomputable def icG_mhigh (self : FuncId) : IC :=
  (.seq (.ops [
    ⟨(some 206), none, false, .mov (.tmp 18)⟩,
    ⟨(some 207), none, false, .mov (.tmp 24)⟩,
    ⟨(some 208), none, false, .bin .lss (.tmp 206) (.tmp 207)⟩,
    ⟨(some 209), none, false, .mov (.tmp 208)⟩,
    ⟨(some 210), (some (209, true)), false, .mov (.tmp 24)⟩,
    ⟨(some 211), (some (209, true)), false, .mov (.tmp 3)⟩,
    ⟨(some 212), (some (209, true)), false, .bin .lss (.tmp 210) (.tmp 211)⟩,
    ⟨(some 213), none, false, .pick (.tmp 209) (.tmp 212) (.const (.bool false))⟩]) (.cond (.tmp 213) (.ops [
    ⟨(some 214), none, false, .mov (.tmp 0)⟩,
    ⟨(some 215), none, false, .mov (.tmp 18)⟩,
    ⟨(some 216), none, false, .mov (.tmp 24)⟩,
    ⟨(some 217), none, false, .mov (.tmp 3)⟩,
    ⟨(some 218), none, false, .mov (.tmp 4)⟩,
    ⟨(some 219), none, false, .call self [(.tmp 214), (.tmp 215), (.tmp 216), (.tmp 217), (.tmp 218)]⟩]) .skip))
noncomputable def icG_mfind (sz : Nat) : IC :=
  (.seq (.seq (.ops [
    ⟨(some 149), none, false, .mov (.tmp 20)⟩,
    ⟨(some 150), none, false, .mov (.tmp 21)⟩,
    ⟨(some 151), none, false, .bin .lss (.tmp 149) (.tmp 150)⟩]) (.cond (.tmp 151) .skip (.exit 8))) (.block 9 (.seq (.ops [
    ⟨(some 152), none, false, .mov (.tmp 20)⟩,
    ⟨(some 153), none, false, .mov (.tmp 21)⟩,
    ⟨(some 154), none, false, .bin .add (.tmp 152) (.tmp 153)⟩,
    ⟨(some 155), none, false, .conv .u64 (.tmp 154)⟩,
    ⟨(some 156), none, false, .bin .shr (.tmp 155) (.const (.int .u64 1))⟩,
    ⟨(some 157), none, false, .conv .i64 (.tmp 156)⟩,
    ⟨(some 23), none, false, .mov (.tmp 157)⟩]) (.seq (.draw [
    ⟨(some 158), none, false, .mov (.tmp 4)⟩,
    ⟨(some 159), none, false, .mov (.tmp 0)⟩,
    ⟨(some 160), none, false, .mov (.tmp 22)⟩,
    ⟨(some 161), none, false, .mov (.tmp 23)⟩,
    ⟨(some 162), none, false, .bin .sub (.tmp 160) (.tmp 161)⟩,
    ⟨(some 163), none, false, .iaddr (.tmp 159) (.tmp 162) sz⟩,
    ⟨(some 164), none, false, .loadn (.tmp 163) sz⟩,
    ⟨(some 165), none, false, .mov (.tmp 0)⟩,
    ⟨(some 166), none, false, .mov (.tmp 23)⟩,
    ⟨(some 167), none, false, .iaddr (.tmp 165) (.tmp 166) sz⟩,
    ⟨(some 168), none, false, .loadn (.tmp 167) sz⟩,
    ⟨(some 169), none, false, .calld (.tmp 158) [(.tmp 164), (.tmp 168)]⟩,
    ⟨(some 170), none, false, .bin .lss (.tmp 169) (.const (.int .i64 0))⟩,
    ⟨(some 171), none, false, .un .not (.tmp 170)⟩]) (.cond (.tmp 171) (.ops [
    ⟨(some 172), none, false, .mov (.tmp 23)⟩,
    ⟨(some 173), none, false, .bin .add (.tmp 172) (.const (.int .i64 1))⟩,
    ⟨(some 20), none, false, .mov (.tmp 173)⟩]) (.ops [
    ⟨(some 174), none, false, .mov (.tmp 23)⟩,
    ⟨(some 21), none, false, .mov (.tmp 174)⟩]))))))
noncomputable def icG_merge (sz : Nat) (rotate self : FuncId) : IC :=
  (.seq (.seq (.ops [
    ⟨(some 25), none, false, .mov (.tmp 2)⟩,
    ⟨(some 26), none, false, .mov (.tmp 1)⟩,
    ⟨(some 27), none, false, .bin .sub (.tmp 25) (.tmp 26)⟩,
    ⟨(some 28), none, false, .bin .eql (.tmp 27) (.const (.int .i64 1))⟩]) (.cond (.tmp 28) (.seq (.ops [
    ⟨(some 29), none, false, .mov (.tmp 2)⟩,
    ⟨(some 10), none, false, .mov (.tmp 29)⟩]) (.seq (.ops [
    ⟨(some 30), none, false, .mov (.tmp 3)⟩,
    ⟨(some 11), none, false, .mov (.tmp 30)⟩]) (.seq (.block 0 (.loop (.seq (.seq (.ops [
    ⟨(some 31), none, false, .mov (.tmp 10)⟩,
    ⟨(some 32), none, false, .mov (.tmp 11)⟩,
    ⟨(some 33), none, false, .bin .lss (.tmp 31) (.tmp 32)⟩]) (.cond (.tmp 33) .skip (.exit 0))) (.block 1 (.seq (.ops [
    ⟨(some 34), none, false, .mov (.tmp 10)⟩,
    ⟨(some 35), none, false, .mov (.tmp 11)⟩,
    ⟨(some 36), none, false, .bin .add (.tmp 34) (.tmp 35)⟩,
    ⟨(some 37), none, false, .conv .u64 (.tmp 36)⟩,
    ⟨(some 38), none, false, .bin .shr (.tmp 37) (.const (.int .u64 1))⟩,
    ⟨(some 39), none, false, .conv .i64 (.tmp 38)⟩,
    ⟨(some 12), none, false, .mov (.tmp 39)⟩]) (.seq (.draw [
    ⟨(some 40), none, false, .mov (.tmp 4)⟩,
    ⟨(some 41), none, false, .mov (.tmp 0)⟩,
    ⟨(some 42), none, false, .mov (.tmp 12)⟩,
    ⟨(some 43), none, false, .iaddr (.tmp 41) (.tmp 42) sz⟩,
    ⟨(some 44), none, false, .loadn (.tmp 43) sz⟩,
    ⟨(some 45), none, false, .mov (.tmp 0)⟩,
    ⟨(some 46), none, false, .mov (.tmp 1)⟩,
    ⟨(some 47), none, false, .iaddr (.tmp 45) (.tmp 46) sz⟩,
    ⟨(some 48), none, false, .loadn (.tmp 47) sz⟩,
    ⟨(some 49), none, false, .calld (.tmp 40) [(.tmp 44), (.tmp 48)]⟩,
    ⟨(some 50), none, false, .bin .lss (.tmp 49) (.const (.int .i64 0))⟩]) (.cond (.tmp 50) (.ops [
    ⟨(some 51), none, false, .mov (.tmp 12)⟩,
    ⟨(some 52), none, false, .bin .add (.tmp 51) (.const (.int .i64 1))⟩,
    ⟨(some 10), none, false, .mov (.tmp 52)⟩]) (.ops [
    ⟨(some 53), none, false, .mov (.tmp 12)⟩,
    ⟨(some 11), none, false, .mov (.tmp 53)⟩])))))))) (.seq (.seq (.ops [
    ⟨(some 54), none, false, .mov (.tmp 1)⟩,
    ⟨(some 13), none, false, .mov (.tmp 54)⟩]) (.block 2 (.loop (.seq (.seq (.ops [
    ⟨(some 55), none, false, .mov (.tmp 13)⟩,
    ⟨(some 56), none, false, .mov (.tmp 10)⟩,
    ⟨(some 57), none, false, .bin .sub (.tmp 56) (.const (.int .i64 1))⟩,
    ⟨(some 58), none, false, .bin .lss (.tmp 55) (.tmp 57)⟩]) (.cond (.tmp 58) .skip (.exit 2))) (.seq (.block 3 (.draw [
    ⟨(some 61), none, false, .mov (.tmp 0)⟩,
    ⟨(some 62), none, false, .mov (.tmp 13)⟩,
    ⟨(some 63), none, false, .mov (.tmp 0)⟩,
    ⟨(some 64), none, false, .mov (.tmp 13)⟩,
    ⟨(some 65), none, false, .bin .add (.tmp 64) (.const (.int .i64 1))⟩,
    ⟨(some 66), none, false, .mov (.tmp 0)⟩,
    ⟨(some 67), none, false, .mov (.tmp 13)⟩,
    ⟨(some 68), none, false, .bin .add (.tmp 67) (.const (.int .i64 1))⟩,
    ⟨(some 69), none, false, .iaddr (.tmp 66) (.tmp 68) sz⟩,
    ⟨(some 70), none, false, .loadn (.tmp 69) sz⟩,
    ⟨(some 71), none, false, .mov (.tmp 0)⟩,
    ⟨(some 72), none, false, .mov (.tmp 13)⟩,
    ⟨(some 73), none, false, .iaddr (.tmp 71) (.tmp 72) sz⟩,
    ⟨(some 74), none, false, .loadn (.tmp 73) sz⟩,
    ⟨(some 75), none, false, .iaddr (.tmp 61) (.tmp 62) sz⟩,
    ⟨none, none, false, .store (.tmp 75) (.tmp 70) sz⟩,
    ⟨(some 76), none, false, .iaddr (.tmp 63) (.tmp 65) sz⟩,
    ⟨none, none, false, .store (.tmp 76) (.tmp 74) sz⟩])) (.ops [
    ⟨(some 59), none, false, .mov (.tmp 13)⟩,
    ⟨(some 60), none, false, .bin .add (.tmp 59) (.const (.int .i64 1))⟩,
    ⟨(some 13), none, false, .mov (.tmp 60)⟩])))))) .ret)))) .skip)) (.seq (.seq (.ops [
    ⟨(some 77), none, false, .mov (.tmp 3)⟩,
    ⟨(some 78), none, false, .mov (.tmp 2)⟩,
    ⟨(some 79), none, false, .bin .sub (.tmp 77) (.tmp 78)⟩,
    ⟨(some 80), none, false, .bin .eql (.tmp 79) (.const (.int .i64 1))⟩]) (.cond (.tmp 80) (.seq (.ops [
    ⟨(some 81), none, false, .mov (.tmp 1)⟩,
    ⟨(some 14), none, false, .mov (.tmp 81)⟩]) (.seq (.ops [
    ⟨(some 82), none, false, .mov (.tmp 2)⟩,
    ⟨(some 15), none, false, .mov (.tmp 82)⟩]) (.seq (.block 4 (.loop (.seq (.seq (.ops [
    ⟨(some 83), none, false, .mov (.tmp 14)⟩,
    ⟨(some 84), none, false, .mov (.tmp 15)⟩,
    ⟨(some 85), none, false, .bin .lss (.tmp 83) (.tmp 84)⟩]) (.cond (.tmp 85) .skip (.exit 4))) (.block 5 (.seq (.ops [
    ⟨(some 86), none, false, .mov (.tmp 14)⟩,
    ⟨(some 87), none, false, .mov (.tmp 15)⟩,
    ⟨(some 88), none, false, .bin .add (.tmp 86) (.tmp 87)⟩,
    ⟨(some 89), none, false, .conv .u64 (.tmp 88)⟩,
    ⟨(some 90), none, false, .bin .shr (.tmp 89) (.const (.int .u64 1))⟩,
    ⟨(some 91), none, false, .conv .i64 (.tmp 90)⟩,
    ⟨(some 16), none, false, .mov (.tmp 91)⟩]) (.seq (.draw [
    ⟨(some 92), none, false, .mov (.tmp 4)⟩,
    ⟨(some 93), none, false, .mov (.tmp 0)⟩,
    ⟨(some 94), none, false, .mov (.tmp 2)⟩,
    ⟨(some 95), none, false, .iaddr (.tmp 93) (.tmp 94) sz⟩,
    ⟨(some 96), none, false, .loadn (.tmp 95) sz⟩,
    ⟨(some 97), none, false, .mov (.tmp 0)⟩,
    ⟨(some 98), none, false, .mov (.tmp 16)⟩,
    ⟨(some 99), none, false, .iaddr (.tmp 97) (.tmp 98) sz⟩,
    ⟨(some 100), none, false, .loadn (.tmp 99) sz⟩,
    ⟨(some 101), none, false, .calld (.tmp 92) [(.tmp 96), (.tmp 100)]⟩,
    ⟨(some 102), none, false, .bin .lss (.tmp 101) (.const (.int .i64 0))⟩,
    ⟨(some 103), none, false, .un .not (.tmp 102)⟩]) (.cond (.tmp 103) (.ops [
    ⟨(some 104), none, false, .mov (.tmp 16)⟩,
    ⟨(some 105), none, false, .bin .add (.tmp 104) (.const (.int .i64 1))⟩,
    ⟨(some 14), none, false, .mov (.tmp 105)⟩]) (.ops [
    ⟨(some 106), none, false, .mov (.tmp 16)⟩,
    ⟨(some 15), none, false, .mov (.tmp 106)⟩])))))))) (.seq (.seq (.ops [
    ⟨(some 107), none, false, .mov (.tmp 2)⟩,
    ⟨(some 17), none, false, .mov (.tmp 107)⟩]) (.block 6 (.loop (.seq (.seq (.ops [
    ⟨(some 108), none, false, .mov (.tmp 17)⟩,
    ⟨(some 109), none, false, .mov (.tmp 14)⟩,
    ⟨(some 110), none, false, .bin .gtr (.tmp 108) (.tmp 109)⟩]) (.cond (.tmp 110) .skip (.exit 6))) (.seq (.block 7 (.draw [
    ⟨(some 113), none, false, .mov (.tmp 0)⟩,
    ⟨(some 114), none, false, .mov (.tmp 17)⟩,
    ⟨(some 115), none, false, .mov (.tmp 0)⟩,
    ⟨(some 116), none, false, .mov (.tmp 17)⟩,
    ⟨(some 117), none, false, .bin .sub (.tmp 116) (.const (.int .i64 1))⟩,
    ⟨(some 118), none, false, .mov (.tmp 0)⟩,
    ⟨(some 119), none, false, .mov (.tmp 17)⟩,
    ⟨(some 120), none, false, .bin .sub (.tmp 119) (.const (.int .i64 1))⟩,
    ⟨(some 121), none, false, .iaddr (.tmp 118) (.tmp 120) sz⟩,
    ⟨(some 122), none, false, .loadn (.tmp 121) sz⟩,
    ⟨(some 123), none, false, .mov (.tmp 0)⟩,
    ⟨(some 124), none, false, .mov (.tmp 17)⟩,
    ⟨(some 125), none, false, .iaddr (.tmp 123) (.tmp 124) sz⟩,
    ⟨(some 126), none, false, .loadn (.tmp 125) sz⟩,
    ⟨(some 127), none, false, .iaddr (.tmp 113) (.tmp 114) sz⟩,
    ⟨none, none, false, .store (.tmp 127) (.tmp 122) sz⟩,
    ⟨(some 128), none, false, .iaddr (.tmp 115) (.tmp 117) sz⟩,
    ⟨none, none, false, .store (.tmp 128) (.tmp 126) sz⟩])) (.ops [
    ⟨(some 111), none, false, .mov (.tmp 17)⟩,
    ⟨(some 112), none, false, .bin .sub (.tmp 111) (.const (.int .i64 1))⟩,
    ⟨(some 17), none, false, .mov (.tmp 112)⟩])))))) .ret)))) .skip)) (.seq (.ops [
    ⟨(some 129), none, false, .mov (.tmp 1)⟩,
    ⟨(some 130), none, false, .mov (.tmp 3)⟩,
    ⟨(some 131), none, false, .bin .add (.tmp 129) (.tmp 130)⟩,
    ⟨(some 132), none, false, .conv .u64 (.tmp 131)⟩,
    ⟨(some 133), none, false, .bin .shr (.tmp 132) (.const (.int .u64 1))⟩,
    ⟨(some 134), none, false, .conv .i64 (.tmp 133)⟩,
    ⟨(some 18), none, false, .mov (.tmp 134)⟩]) (.seq (.ops [
    ⟨(some 135), none, false, .mov (.tmp 18)⟩,
    ⟨(some 136), none, false, .mov (.tmp 2)⟩,
    ⟨(some 137), none, false, .bin .add (.tmp 135) (.tmp 136)⟩,
    ⟨(some 19), none, false, .mov (.tmp 137)⟩]) (.seq (.ops [
    ⟨(some 20), none, false, .mov (.const (.int .i64 0))⟩,
    ⟨(some 21), none, false, .mov (.const (.int .i64 0))⟩]) (.seq (.seq (.ops [
    ⟨(some 138), none, false, .mov (.tmp 2)⟩,
    ⟨(some 139), none, false, .mov (.tmp 18)⟩,
    ⟨(some 140), none, false, .bin .gtr (.tmp 138) (.tmp 139)⟩]) (.cond (.tmp 140) (.seq (.ops [
    ⟨(some 141), none, false, .mov (.tmp 19)⟩,
    ⟨(some 142), none, false, .mov (.tmp 3)⟩,
    ⟨(some 143), none, false, .bin .sub (.tmp 141) (.tmp 142)⟩,
    ⟨(some 20), none, false, .mov (.tmp 143)⟩]) (.ops [
    ⟨(some 144), none, false, .mov (.tmp 18)⟩,
    ⟨(some 21), none, false, .mov (.tmp 144)⟩])) (.seq (.ops [
    ⟨(some 145), none, false, .mov (.tmp 1)⟩,
    ⟨(some 20), none, false, .mov (.tmp 145)⟩]) (.ops [
    ⟨(some 146), none, false, .mov (.tmp 2)⟩,
    ⟨(some 21), none, false, .mov (.tmp 146)⟩])))) (.seq (.ops [
    ⟨(some 147), none, false, .mov (.tmp 19)⟩,
    ⟨(some 148), none, false, .bin .sub (.tmp 147) (.const (.int .i64 1))⟩,
    ⟨(some 22), none, false, .mov (.tmp 148)⟩]) (.seq (.block 8 (.loop (icG_mfind sz))) (.seq (.ops [
    ⟨(some 175), none, false, .mov (.tmp 19)⟩,
    ⟨(some 176), none, false, .mov (.tmp 20)⟩,
    ⟨(some 177), none, false, .bin .sub (.tmp 175) (.tmp 176)⟩,
    ⟨(some 24), none, false, .mov (.tmp 177)⟩]) (.seq (icG_mrot rotate) (.seq (icG_mlow self) (icG_mhigh self))))))))))))
noncomputable def icG_ins (sz : Nat) : IC :=
  (.seq (.ops [
    ⟨(some 10), none, false, .mov (.tmp 1)⟩,
    ⟨(some 11), none, false, .bin .add (.tmp 10) (.const (.int .i64 1))⟩,
    ⟨(some 8), none, false, .mov (.tmp 11)⟩]) (.block 0 (.loop (.seq (.seq (.ops [
    ⟨(some 12), none, false, .mov (.tmp 8)⟩,
    ⟨(some 13), none, false, .mov (.tmp 2)⟩,
    ⟨(some 14), none, false, .bin .lss (.tmp 12) (.tmp 13)⟩]) (.cond (.tmp 14) .skip (.exit 0))) (.seq (.block 1 (.seq (.ops [
    ⟨(some 17), none, false, .mov (.tmp 8)⟩,
    ⟨(some 9), none, false, .mov (.tmp 17)⟩]) (.block 2 (.loop (.seq (.seq (.draw [
    ⟨(some 18), none, false, .mov (.tmp 9)⟩,
    ⟨(some 19), none, false, .mov (.tmp 1)⟩,
    ⟨(some 20), none, false, .bin .gtr (.tmp 18) (.tmp 19)⟩,
    ⟨(some 21), none, false, .mov (.tmp 20)⟩,
    ⟨(some 22), (some (21, true)), false, .mov (.tmp 3)⟩,
    ⟨(some 23), (some (21, true)), false, .mov (.tmp 0)⟩,
    ⟨(some 24), (some (21, true)), false, .mov (.tmp 9)⟩,
    ⟨(some 25), (some (21, true)), false, .iaddr (.tmp 23) (.tmp 24) sz⟩,
    ⟨(some 26), (some (21, true)), false, .loadn (.tmp 25) sz⟩,
    ⟨(some 27), (some (21, true)), false, .mov (.tmp 0)⟩,
    ⟨(some 28), (some (21, true)), false, .mov (.tmp 9)⟩,
    ⟨(some 29), (some (21, true)), false, .bin .sub (.tmp 28) (.const (.int .i64 1))⟩,
    ⟨(some 30), (some (21, true)), false, .iaddr (.tmp 27) (.tmp 29) sz⟩,
    ⟨(some 31), (some (21, true)), false, .loadn (.tmp 30) sz⟩,
    ⟨(some 32), (some (21, true)), false, .calld (.tmp 22) [(.tmp 26), (.tmp 31)]⟩,
    ⟨(some 33), (some (21, true)), false, .bin .lss (.tmp 32) (.const (.int .i64 0))⟩,
    ⟨(some 34), none, false, .pick (.tmp 21) (.tmp 33) (.const (.bool false))⟩]) (.cond (.tmp 34) .skip (.exit 2))) (.seq (.block 3 (.draw [
    ⟨(some 37), none, false, .mov (.tmp 0)⟩,
    ⟨(some 38), none, false, .mov (.tmp 9)⟩,
    ⟨(some 39), none, false, .mov (.tmp 0)⟩,
    ⟨(some 40), none, false, .mov (.tmp 9)⟩,
    ⟨(some 41), none, false, .bin .sub (.tmp 40) (.const (.int .i64 1))⟩,
    ⟨(some 42), none, false, .mov (.tmp 0)⟩,
    ⟨(some 43), none, false, .mov (.tmp 9)⟩,
    ⟨(some 44), none, false, .bin .sub (.tmp 43) (.const (.int .i64 1))⟩,
    ⟨(some 45), none, false, .iaddr (.tmp 42) (.tmp 44) sz⟩,
    ⟨(some 46), none, false, .loadn (.tmp 45) sz⟩,
    ⟨(some 47), none, false, .mov (.tmp 0)⟩,
    ⟨(some 48), none, false, .mov (.tmp 9)⟩,
    ⟨(some 49), none, false, .iaddr (.tmp 47) (.tmp 48) sz⟩,
    ⟨(some 50), none, false, .loadn (.tmp 49) sz⟩,
    ⟨(some 51), none, false, .iaddr (.tmp 37) (.tmp 38) sz⟩,
    ⟨none, none, false, .store (.tmp 51) (.tmp 46) sz⟩,
    ⟨(some 52), none, false, .iaddr (.tmp 39) (.tmp 41) sz⟩,
    ⟨none, none, false, .store (.tmp 52) (.tmp 50) sz⟩])) (.ops [
    ⟨(some 35), none, false, .mov (.tmp 9)⟩,
    ⟨(some 36), none, false, .bin .sub (.tmp 35) (.const (.int .i64 1))⟩,
    ⟨(some 9), none, false, .mov (.tmp 36)⟩]))))))) (.ops [
    ⟨(some 15), none, false, .mov (.tmp 8)⟩,
    ⟨(some 16), none, false, .bin .add (.tmp 15) (.const (.int .i64 1))⟩,
    ⟨(some 8), none, false, .mov (.tmp 16)⟩]))))))
noncomputable def icG_stabl (ins merge : FuncId) : IC :=
  (.seq (.ops [
    ⟨(some 6), none, false, .mov (.const (.int .i64 20))⟩]) (.seq (.ops [
    ⟨(some 10), none, false, .mov (.tmp 6)⟩,
    ⟨(some 7), none, false, .mov (.const (.int .i64 0))⟩,
    ⟨(some 8), none, false, .mov (.tmp 10)⟩]) (.seq (.block 0 (.loop (.seq (.seq (.ops [
    ⟨(some 11), none, false, .mov (.tmp 8)⟩,
    ⟨(some 12), none, false, .mov (.tmp 1)⟩,
    ⟨(some 13), none, false, .bin .leq (.tmp 11) (.tmp 12)⟩]) (.cond (.tmp 13) .skip (.exit 0))) (.block 1 (.seq (.ops [
    ⟨(some 14), none, false, .mov (.tmp 0)⟩,
    ⟨(some 15), none, false, .mov (.tmp 7)⟩,
    ⟨(some 16), none, false, .mov (.tmp 8)⟩,
    ⟨(some 17), none, false, .mov (.tmp 2)⟩,
    ⟨(some 18), none, false, .call ins [(.tmp 14), (.tmp 15), (.tmp 16), (.tmp 17)]⟩]) (.seq (.ops [
    ⟨(some 19), none, false, .mov (.tmp 8)⟩,
    ⟨(some 7), none, false, .mov (.tmp 19)⟩]) (.ops [
    ⟨(some 20), none, false, .mov (.tmp 8)⟩,
    ⟨(some 21), none, false, .mov (.tmp 6)⟩,
    ⟨(some 22), none, false, .bin .add (.tmp 20) (.tmp 21)⟩,
    ⟨(some 8), none, false, .mov (.tmp 22)⟩]))))))) (.seq (.ops [
    ⟨(some 23), none, false, .mov (.tmp 0)⟩,
    ⟨(some 24), none, false, .mov (.tmp 7)⟩,
    ⟨(some 25), none, false, .mov (.tmp 1)⟩,
    ⟨(some 26), none, false, .mov (.tmp 2)⟩,
    ⟨(some 27), none, false, .call ins [(.tmp 23), (.tmp 24), (.tmp 25), (.tmp 26)]⟩]) (.block 2 (.loop (.seq (.seq (.ops [
    ⟨(some 28), none, false, .mov (.tmp 6)⟩,
    ⟨(some 29), none, false, .mov (.tmp 1)⟩,
    ⟨(some 30), none, false, .bin .lss (.tmp 28) (.tmp 29)⟩]) (.cond (.tmp 30) .skip (.exit 2))) (.block 3 (.seq (.ops [
    ⟨(some 31), none, false, .mov (.tmp 6)⟩,
    ⟨(some 32), none, false, .bin .mul (.const (.int .i64 2)) (.tmp 31)⟩,
    ⟨(some 7), none, false, .mov (.const (.int .i64 0))⟩,
    ⟨(some 8), none, false, .mov (.tmp 32)⟩]) (.seq (.block 4 (.loop (.seq (.seq (.ops [
    ⟨(some 33), none, false, .mov (.tmp 8)⟩,
    ⟨(some 34), none, false, .mov (.tmp 1)⟩,
    ⟨(some 35), none, false, .bin .leq (.tmp 33) (.tmp 34)⟩]) (.cond (.tmp 35) .skip (.exit 4))) (.block 5 (.seq (.ops [
    ⟨(some 36), none, false, .mov (.tmp 0)⟩,
    ⟨(some 37), none, false, .mov (.tmp 7)⟩,
    ⟨(some 38), none, false, .mov (.tmp 7)⟩,
    ⟨(some 39), none, false, .mov (.tmp 6)⟩,
    ⟨(some 40), none, false, .bin .add (.tmp 38) (.tmp 39)⟩,
    ⟨(some 41), none, false, .mov (.tmp 8)⟩,
    ⟨(some 42), none, false, .mov (.tmp 2)⟩,
    ⟨(some 43), none, false, .call merge [(.tmp 36), (.tmp 37), (.tmp 40), (.tmp 41), (.tmp 42)]⟩]) (.seq (.ops [
    ⟨(some 44), none, false, .mov (.tmp 8)⟩,
    ⟨(some 7), none, false, .mov (.tmp 44)⟩]) (.ops [
    ⟨(some 45), none, false, .mov (.tmp 8)⟩,
    ⟨(some 46), none, false, .mov (.tmp 6)⟩,
    ⟨(some 47), none, false, .bin .mul (.const (.int .i64 2)) (.tmp 46)⟩,
    ⟨(some 48), none, false, .bin .add (.tmp 45) (.tmp 47)⟩,
    ⟨(some 8), none, false, .mov (.tmp 48)⟩]))))))) (.seq (.seq (.ops [
    ⟨(some 49), none, false, .mov (.tmp 7)⟩,
    ⟨(some 50), none, false, .mov (.tmp 6)⟩,
    ⟨(some 51), none, false, .bin .add (.tmp 49) (.tmp 50)⟩,
    ⟨(some 9), none, false, .mov (.tmp 51)⟩]) (.seq (.ops [
    ⟨(some 52), none, false, .mov (.tmp 9)⟩,
    ⟨(some 53), none, false, .mov (.tmp 1)⟩,
    ⟨(some 54), none, false, .bin .lss (.tmp 52) (.tmp 53)⟩]) (.cond (.tmp 54) (.ops [
    ⟨(some 55), none, false, .mov (.tmp 0)⟩,
    ⟨(some 56), none, false, .mov (.tmp 7)⟩,
    ⟨(some 57), none, false, .mov (.tmp 9)⟩,
    ⟨(some 58), none, false, .mov (.tmp 1)⟩,
    ⟨(some 59), none, false, .mov (.tmp 2)⟩,
    ⟨(some 60), none, false, .call merge [(.tmp 55), (.tmp 56), (.tmp 57), (.tmp 58), (.tmp 59)]⟩]) .skip))) (.ops [
    ⟨(some 61), none, false, .mov (.tmp 6)⟩,
    ⟨(some 62), none, false, .bin .mul (.tmp 61) (.const (.int .i64 2))⟩,
    ⟨(some 6), none, false, .mov (.tmp 62)⟩]))))))))))))
noncomputable def icG_sstab (stabl : FuncId) : IC :=
  (.ops [
    ⟨(some 4), none, false, .mov (.tmp 0)⟩,
    ⟨(some 5), none, false, .mov (.tmp 0)⟩,
    ⟨(some 6), none, false, .lens false (.tmp 5)⟩,
    ⟨(some 7), none, false, .mov (.tmp 1)⟩,
    ⟨(some 8), none, false, .call stabl [(.tmp 4), (.tmp 6), (.tmp 7)]⟩])
end Go.AS


namespace Go.AS
open Go
set_option linter.unusedVariables false
set_option linter.unusedSimpArgs false
set_option maxRecDepth 10000

theorem swap_res {α : Type} {l X M Y : List α} {x y : α} {i j : Nat} (hl : l = X ++ x :: (M ++ y :: Y)) (hi : i = X.length) (hj : j = X.length + (M.length + 1)) : l[i]? = some x ∧ l[j]? = some y ∧ (l.set i y).set j x = X ++ y :: (M ++ x :: Y) := by
  subst hl hi hj
  exact ⟨get_lo _ _ _, get_hi _ _ _ _ _, swap_lo _ _ _ _ _⟩
theorem swap_res' {α : Type} {l X M Y : List α} {x y : α} {i j : Nat} (hl : l = X ++ x :: (M ++ y :: Y)) (hi : i = X.length) (hj : j = X.length + (M.length + 1)) : l[i]? = some x ∧ l[j]? = some y ∧ (l.set j x).set i y = X ++ y :: (M ++ x :: Y) := by
  subst hl hi hj
  exact ⟨get_lo _ _ _, get_hi _ _ _ _ _, swap_hi _ _ _ _ _⟩

section
variable {G : Nat} {P : Program} (hm : P.follows .mixedOrders = true) {sz a0 : Nat} {A : AH} {v fv : Value} {Q : Value → AH → Prop}
include hm
theorem swapr_spec {f : FuncId} (hf : Fits P G f (icG_swapr sz) [] 5) {X U M V Y : List (List Value)} {a b n : Int} (h : OwnE a0 A sz v (X ++ (U ++ (M ++ (V ++ Y))))) (ha : a = X.length) (hb : b = X.length + U.length + M.length) (hn : n = U.length) (huv : V.length = U.length)
    (hl : X.length + U.length + M.length + V.length < 4611686018427387904) (hq : ∀ A', KeepV A v A' → OwnE a0 A' sz v (X ++ (V ++ (M ++ (U ++ Y)))) → Q (.tuple #[]) A') : ACalls G P f [v, ii a, ii b, ii n, fv] Q A := by
  refine ACalls.of_fits hm hf rfl ?_
  unfold icG_swapr
  have i0 : initA [v, ii a, ii b, ii n, fv] 0 = v := rfl
  have i1 : initA [v, ii a, ii b, ii n, fv] 1 = ii a := rfl
  have i2 : initA [v, ii a, ii b, ii n, fv] 2 = ii b := rfl
  have i3 : initA [v, ii a, ii b, ii n, fv] 3 = ii n := rfl
  generalize initA [v, ii a, ii b, ii n, fv] = r at i0 i1 i2 i3
  subst ha hb hn
  simp (maxSteps := 1000000) (disch := omega) only [stepS, reduceIte, Nat.reduceBEq, Nat.reduceEqDiff, tupleOf, stepT, i0, i1, i2, i3]
  refine W_loop (fun r' B => ∃ (V1 V2 U1 U2 : List (List Value)) (k : Nat), V = V1 ++ V2 ∧ U = U1 ++ U2 ∧ V1.length = k ∧ U1.length = k ∧ KeepV A v B ∧ OwnE a0 B sz v (X ++ (V1 ++ (U2 ++ (M ++ (U1 ++ (V2 ++ Y)))))) ∧ r' 0 = v ∧ r' 1 = ii (X.length : Nat) ∧ r' 2 = ii (X.length + U.length + M.length : Nat) ∧ r' 3 = ii (U.length : Nat) ∧ r' 10 = ii k) (fun r' _ => U.length - (iv (r' 10)).toNat) ?_ ?_
  · refine ⟨[], V, [], U, 0, rfl, rfl, rfl, rfl, .refl _ _, h, ?_⟩
    simp (maxSteps := 1000000) (disch := omega) only [stepS, reduceIte, Nat.reduceBEq, Nat.reduceEqDiff, tupleOf, stepT, i0, i1, i2, i3]
    (all_goals (and_intros <;> first | rfl | assumption | (push_cast; rfl) | (congr 1; omega) | omega | (simp; done)))
  · rintro r B ⟨V1, V2, U1, U2, k, hV, hU, hv1, hu1, hk, ho, g0, g1, g2, g3, g10⟩
    have lu : U.length = k + U2.length := by rw [hU, List.length_append, hu1]
    have lv : V.length = k + V2.length := by rw [hV, List.length_append, hv1]
    cases U2 with
    | nil =>
      have hv2 : V2 = [] := List.length_eq_zero_iff.1 (by simp only [List.length_nil] at lu; omega)
      subst hv2
      simp only [List.length_nil] at lu
      simp (maxSteps := 1000000) (disch := omega) only [stepS, reduceIte, Nat.reduceBEq, Nat.reduceEqDiff, tupleOf, stepT, g0, g1, g2, g3, g10]
      rw [List.append_nil] at hV hU
      subst hV hU
      exact hq _ hk (by simpa using ho)
    | cons u U2 =>
      cases V2 with
      | nil => simp only [List.length_nil, List.length_cons] at lu lv; omega
      | cons w V2 =>
        simp only [List.length_cons] at lu lv
        obtain ⟨e1, e2, e3⟩ := swap_res (l := X ++ (V1 ++ ((u :: U2) ++ (M ++ (U1 ++ ((w :: V2) ++ Y)))))) (X := X ++ V1) (M := U2 ++ (M ++ U1)) (Y := V2 ++ Y) (x := u) (y := w) (i := X.length + k) (j := X.length + U.length + M.length + k) (by simp) (by simp [hv1]) (by simp; omega)
        obtain ⟨p, q, B1, B2, p1, q1, p2, q2, s1, s2, s3, s4⟩ := ho.swap e1 e2
        rw [e3] at s3
        simp (maxSteps := 1000000) (disch := omega) only [stepS, reduceIte, Nat.reduceBEq, Nat.reduceEqDiff, tupleOf, stepT, g0, g1, g2, g3, g10, p1, q1, p2, q2, s1, s2]
        refine ⟨⟨V1 ++ [w], V2, U1 ++ [u], U2, k + 1, by rw [hV]; simp, by rw [hU]; simp, by simp [hv1], by simp [hu1], hk.trans s4, by simpa using s3, rfl⟩, by omega⟩
end
end Go.AS


namespace Go.AS
open Go
set_option linter.unusedVariables false
set_option linter.unusedSimpArgs false
set_option maxRecDepth 10000

/-- fv, called with two elements, tells how their keys compare. -/
def CmpS (G : Nat) (P : Program) (fv : Value) (dom : List Value → Prop) (key : List Value → List UInt8) : Prop :=
  ∀ (A : AH) (x y : List Value) (Q : Value → AH → Prop), dom x → dom y → (∀ A' n, Le A A' → (n < 0 ↔ key x < key y) → Q (ii n) A') → callD fv G P [.agg x.toArray, .agg y.toArray] Q A

theorem last_of {α : Type} {L : List α} (h : L ≠ []) : ∃ X x, L = X ++ [x] := ⟨L.dropLast, L.getLast h, (List.dropLast_concat_getLast h).symm⟩

section
variable {G : Nat} {P : Program} (hm : P.follows .mixedOrders = true) {sz a0 : Nat} {A : AH} {v fv : Value} {Q : Value → AH → Prop} {dom : List Value → Prop} {key : List Value → List UInt8}
include hm
theorem rotate_spec {f fs : FuncId} (hf : Fits P G f (icG_rotate fs) [] 5) (hs : Fits P G fs (icG_swapr sz) [] 5) {X U V Y : List (List Value)} {a m b : Int} (h : OwnE a0 A sz v (X ++ (U ++ (V ++ Y)))) (ha : a = X.length) (hmm : m = X.length + U.length) (hb : b = X.length + U.length + V.length)
    (hu : 1 ≤ U.length) (hv : 1 ≤ V.length) (hl : X.length + U.length + V.length < 2305843009213693952) (hq : ∀ A', KeepV A v A' → OwnE a0 A' sz v (X ++ (V ++ (U ++ Y))) → Q (.tuple #[]) A') : ACalls G P f [v, ii a, ii m, ii b, fv] Q A := by
  refine ACalls.of_fits hm hf rfl ?_
  unfold icG_rotate
  have i0 : initA [v, ii a, ii m, ii b, fv] 0 = v := rfl
  have i1 : initA [v, ii a, ii m, ii b, fv] 1 = ii a := rfl
  have i2 : initA [v, ii a, ii m, ii b, fv] 2 = ii m := rfl
  have i3 : initA [v, ii a, ii m, ii b, fv] 3 = ii b := rfl
  have i4 : initA [v, ii a, ii m, ii b, fv] 4 = fv := rfl
  generalize initA [v, ii a, ii m, ii b, fv] = r at i0 i1 i2 i3 i4
  subst ha hmm hb
  simp (maxSteps := 1000000) (disch := omega) only [stepS, reduceIte, Nat.reduceBEq, Nat.reduceEqDiff, tupleOf, stepT, i0, i1, i2, i3, i4]
  refine W_loop (fun r' B => ∃ (X' U' V' Y' : List (List Value)), 1 ≤ U'.length ∧ 1 ≤ V'.length ∧ X'.length + U'.length = U.length ∧ U'.length + V'.length + X'.length + Y'.length = U.length + V.length ∧ X' ++ (V' ++ (U' ++ Y')) = V ++ U ∧ KeepV A v B ∧ OwnE a0 B sz v (X ++ (X' ++ (U' ++ (V' ++ (Y' ++ Y))))) ∧ r' 0 = v ∧ r' 2 = ii (X.length + U.length : Int) ∧ r' 4 = fv ∧ r' 10 = ii (U'.length : Nat) ∧ r' 11 = ii (V'.length : Nat)) (fun r' _ => (iv (r' 10)).toNat + (iv (r' 11)).toNat) ?_ ?_
  · refine ⟨[], U, V, [], hu, hv, by simp, by simp, by simp, .refl _ _, by simpa using h, ?_⟩
    simp (maxSteps := 1000000) (disch := omega) only [stepS, reduceIte, Nat.reduceBEq, Nat.reduceEqDiff, tupleOf, stepT, i0, i1, i2, i3, i4]
    (all_goals (and_intros <;> first | rfl | assumption | (push_cast; rfl) | (congr 1; omega) | omega | (simp; done)))
  · rintro r B ⟨X', U', V', Y', hu', hv', hl1, hl2, he, hk, ho, g0, g2, g4, g10, g11⟩
    by_cases hij : U'.length = V'.length
    · have hij2 : ¬ ((U'.length : Int) ≠ (V'.length : Int)) := by omega
      simp (maxSteps := 1000000) (disch := omega) only [stepS, reduceIte, Nat.reduceBEq, Nat.reduceEqDiff, tupleOf, stepT, g0, g2, g4, g10, g11, hij2]
      refine swapr_spec hm hs (X := X ++ X') (U := U') (M := []) (V := V') (Y := Y' ++ Y) (by simpa using ho) (by simp; omega) (by simp; omega) rfl hij.symm (by simp; omega) fun A' k1 o1 => ?_
      simp (maxSteps := 1000000) (disch := omega) only [stepS, reduceIte, Nat.reduceBEq, Nat.reduceEqDiff, tupleOf, stepT, g0]
      refine hq _ (hk.trans k1) ?_
      have e : X ++ (V ++ (U ++ Y)) = X ++ X' ++ (V' ++ ([] ++ (U' ++ (Y' ++ Y)))) := by
        rw [← List.append_assoc V U Y, ← he]; simp
      rw [e]; exact o1
    · have hij2 : (U'.length : Int) ≠ (V'.length : Int) := by omega
      by_cases hlt : V'.length < U'.length
      · obtain ⟨U1, U2, rfl, h1⟩ := split_le (Nat.le_of_lt hlt)
        rw [List.length_append] at *
        simp (maxSteps := 1000000) (disch := omega) only [stepS, reduceIte, Nat.reduceBEq, Nat.reduceEqDiff, tupleOf, stepT, g0, g2, g4, g10, g11, hij2]
        refine swapr_spec hm hs (X := X ++ X') (U := U1) (M := U2) (V := V') (Y := Y' ++ Y) (by simpa using ho) (by simp; omega) (by simp; omega) (by omega) (by omega) (by simp; omega) fun A' k1 o1 => ?_
        simp (maxSteps := 1000000) (disch := omega) only [stepS, reduceIte, Nat.reduceBEq, Nat.reduceEqDiff, tupleOf, stepT, g0, g2, g4, g10, g11]
        refine ⟨⟨X' ++ V', U2, U1, Y', by omega, by omega, by simp; omega, by simp; omega, by rw [← he]; simp, hk.trans k1, by simpa using o1, ?_⟩, by omega⟩
        (all_goals (and_intros <;> first | rfl | assumption | (push_cast; rfl) | (congr 1; omega) | omega | (simp; done)))
      · obtain ⟨V1, V2, rfl, h1⟩ := split_le (l := V') (n := V'.length - U'.length) (by omega)
        rw [List.length_append] at *
        simp (maxSteps := 1000000) (disch := omega) only [stepS, reduceIte, Nat.reduceBEq, Nat.reduceEqDiff, tupleOf, stepT, g0, g2, g4, g10, g11, hij2]
        refine swapr_spec hm hs (X := X ++ X') (U := U') (M := V1) (V := V2) (Y := Y' ++ Y) (by simpa using ho) (by simp; omega) (by simp; omega) (by omega) (by omega) (by simp; omega) fun A' k1 o1 => ?_
        simp (maxSteps := 1000000) (disch := omega) only [stepS, reduceIte, Nat.reduceBEq, Nat.reduceEqDiff, tupleOf, stepT, g0, g2, g4, g10, g11]
        refine ⟨⟨X', V2, V1, U' ++ Y', by omega, by omega, by omega, by simp; omega, by rw [← he]; simp, hk.trans k1, by simpa using o1, ?_⟩, by omega⟩
        (all_goals (and_intros <;> first | rfl | assumption | (push_cast; rfl) | (congr 1; omega) | omega | (simp; done)))

theorem ins_spec {f : FuncId} (hf : Fits P G f (icG_ins sz) [] 4) (hc : CmpS G P fv dom key) {X S Y : List (List Value)} {a b : Int} (h : OwnE a0 A sz v (X ++ (S ++ Y))) (hd : ∀ x ∈ S, dom x) (ha : a = X.length) (hb : b = X.length + S.length)
    (hl : X.length + S.length < 2305843009213693952) (hq : ∀ A' S', KeepV A v A' → Rk key S S' → Srt key S' → OwnE a0 A' sz v (X ++ (S' ++ Y)) → Q (.tuple #[]) A') : ACalls G P f [v, ii a, ii b, fv] Q A := by
  refine ACalls.of_fits hm hf rfl ?_
  unfold icG_ins
  have i0 : initA [v, ii a, ii b, fv] 0 = v := rfl
  have i1 : initA [v, ii a, ii b, fv] 1 = ii a := rfl
  have i2 : initA [v, ii a, ii b, fv] 2 = ii b := rfl
  have i3 : initA [v, ii a, ii b, fv] 3 = fv := rfl
  generalize initA [v, ii a, ii b, fv] = r at i0 i1 i2 i3
  subst ha hb
  simp (maxSteps := 1000000) (disch := omega) only [stepS, reduceIte, Nat.reduceBEq, Nat.reduceEqDiff, tupleOf, stepT, i0, i1, i2, i3]
  refine W_loop (fun r' B => ∃ (S1 S2 S0 : List (List Value)), S = S0 ++ S2 ∧ Rk key S0 S1 ∧ Srt key S1 ∧ KeepV A v B ∧ OwnE a0 B sz v (X ++ (S1 ++ (S2 ++ Y))) ∧ (1 ≤ S1.length ∨ S = []) ∧ r' 0 = v ∧ r' 1 = ii (X.length : Nat) ∧ r' 2 = ii (X.length + S.length : Int) ∧ r' 3 = fv ∧ r' 8 = ii ((X.length + max 1 S1.length : Nat) : Int)) (fun r' _ => X.length + S.length - (iv (r' 8)).toNat) ?_ ?_
  · cases S with
    | nil =>
      refine ⟨[], [], [], rfl, .refl _, .nil, .refl _ _, h, .inr rfl, ?_⟩
      simp (maxSteps := 1000000) (disch := omega) only [stepS, reduceIte, Nat.reduceBEq, Nat.reduceEqDiff, tupleOf, stepT, i0, i1, i2, i3]
      (all_goals (and_intros <;> first | rfl | assumption | (push_cast; rfl) | (congr 1; omega) | omega | (simp; done)))
    | cons s S =>
      refine ⟨[s], S, [s], rfl, .refl _, .one _, .refl _ _, by simpa using h, .inl (by simp), ?_⟩
      simp (maxSteps := 1000000) (disch := omega) only [stepS, reduceIte, Nat.reduceBEq, Nat.reduceEqDiff, tupleOf, stepT, i0, i1, i2, i3]
      (all_goals (and_intros <;> first | rfl | assumption | (push_cast; rfl) | (congr 1; omega) | omega | (simp; done)))
  · rintro r B ⟨S1, S2, S0, hS, hr, hsrt, hk, ho, hne, g0, g1, g2, g3, g8⟩
    have lS : S.length = S1.length + S2.length := by rw [hS, List.length_append, hr.1]
    cases S2 with
    | nil =>
      simp only [List.length_nil] at lS
      rw [List.append_nil] at hS
      subst hS
      simp (maxSteps := 1000000) (disch := omega) only [stepS, reduceIte, Nat.reduceBEq, Nat.reduceEqDiff, tupleOf, stepT, g0, g1, g2, g3, g8]
      exact hq _ _ hk hr hsrt (by simpa using ho)
    | cons x S2 =>
      simp only [List.length_cons] at lS
      have h1 : 1 ≤ S1.length := by
        rcases hne with h | h
        · exact h
        · subst h; simp at lS
      have hmax : max 1 S1.length = S1.length := by omega
      rw [hmax] at g8
      simp (maxSteps := 1000000) (disch := omega) only [stepS, reduceIte, Nat.reduceBEq, Nat.reduceEqDiff, tupleOf, stepT, g0, g1, g2, g3, g8]
      have hdx : dom x := hd x (by rw [hS]; simp)
      refine W_loop (fun r' B' => ∃ (L R : List (List Value)), Rk key (S1 ++ [x]) (L ++ x :: R) ∧ Srt key (L ++ R) ∧ (∀ y ∈ R, key x < key y) ∧ KeepV A v B' ∧ OwnE a0 B' sz v (X ++ (L ++ (x :: (R ++ (S2 ++ Y))))) ∧ r' 0 = v ∧ r' 1 = ii (X.length : Nat) ∧ r' 2 = ii (X.length + S.length : Int) ∧ r' 3 = fv ∧ r' 8 = ii ((X.length + S1.length : Nat) : Int) ∧ r' 9 = ii ((X.length + L.length : Nat) : Int)) (fun r' _ => (iv (r' 9)).toNat) ?_ ?_
      · refine ⟨S1, [], .refl _, by simpa using hsrt, (fun y hy => by cases hy), hk, by simpa using ho, ?_⟩
        simp (maxSteps := 1000000) (disch := omega) only [stepS, reduceIte, Nat.reduceBEq, Nat.reduceEqDiff, tupleOf, stepT, g0, g1, g2, g3, g8]
        (all_goals (and_intros <;> first | rfl | assumption | (push_cast; rfl) | (congr 1; omega) | omega | (simp; done)))
      · rintro r B' ⟨L, R, hr', hsr, hxr, hk', ho', g0, g1, g2, g3, g8, g9⟩
        have lL : L.length + R.length = S1.length := by have := hr'.1; simp at this; omega
        have fin : Srt key (L ++ x :: R) → (OwnE a0 B' sz v (X ++ ((L ++ x :: R) ++ (S2 ++ Y))) ∧ S = (S0 ++ [x]) ++ S2 ∧ Rk key (S0 ++ [x]) (L ++ x :: R)) := fun _ => by
          refine ⟨by simpa using ho', by rw [hS]; simp, (hr.app (.refl [x])).trans hr'⟩
        by_cases hL : L = []
        · subst hL
          have hsx : Srt key ([] ++ x :: R) := by
            simp only [List.nil_append]
            exact List.pairwise_cons.2 ⟨fun y hy => kl_asym (hxr y hy), show Srt key R from by simpa using hsr⟩
          obtain ⟨f1, f2, f3⟩ := fin hsx
          simp (maxSteps := 1000000) (disch := omega) only [stepS, reduceIte, Nat.reduceBEq, Nat.reduceEqDiff, tupleOf, stepT, g0, g1, g2, g3, g8, g9, List.length_nil]
          refine ⟨⟨[] ++ x :: R, S2, S0 ++ [x], f2, f3, hsx, hk', f1, .inl (by simp), ?_⟩, by omega⟩
          simp only [List.nil_append, List.length_cons]
          simp only [List.length_nil] at lL
          (all_goals (and_intros <;> first | rfl | assumption | (push_cast; rfl) | (congr 1; omega) | omega | (simp; done)))
        · obtain ⟨L', y, rfl⟩ := last_of hL
          obtain ⟨e1, e2, e3⟩ := swap_res' (l := X ++ ((L' ++ [y]) ++ (x :: (R ++ (S2 ++ Y))))) (X := X ++ L') (M := []) (Y := R ++ (S2 ++ Y)) (x := y) (y := x) (i := X.length + L'.length) (j := X.length + L'.length + 1) (by simp) (by simp) (by simp)
          simp only [List.length_append, List.length_singleton] at lL g9
          have hyS : y ∈ S := by
            have := (hr'.mem (x := y)).1 (by simp)
            rw [hS]
            rcases List.mem_append.1 this with h | h
            · exact List.mem_append_left _ (hr.mem.1 h)
            · rw [List.mem_singleton.1 h]; simp
          obtain ⟨p, _, p1, p2, _⟩ := ho'.el e1
          obtain ⟨q, _, q1, q2, _⟩ := ho'.el e2
          simp (maxSteps := 1000000) (disch := omega) only [stepS, reduceIte, Nat.reduceBEq, Nat.reduceEqDiff, tupleOf, stepT, g0, g1, g2, g3, g8, g9, p1, p2, q1, q2]
          refine hc _ x y _ hdx (hd y hyS) fun B2 n k2 hn => ?_
          by_cases hxy : key x < key y
          · have hn0 : n < 0 := hn.2 hxy
            obtain ⟨q, p, B3, B4, q1, p1, q2, p2, s1, s2, s3, s4⟩ := (ho'.le k2).swap e2 e1
            rw [e3] at s3
            simp (maxSteps := 1000000) (disch := omega) only [stepS, reduceIte, Nat.reduceBEq, Nat.reduceEqDiff, tupleOf, stepT, g0, g1, g2, g3, g8, g9, p1, p2, q1, q2, hn0, s1, s2]
            refine ⟨⟨L', y :: R, ?_, by simpa using hsr, ?_, (hk'.trans (k2.kv v)).trans s4, by simpa using s3, ?_⟩, by omega⟩
            · refine hr'.trans ?_
              have e : L' ++ [y] ++ x :: R = L' ++ (([y] ++ [x]) ++ R) := by simp
              have e' : L' ++ x :: y :: R = L' ++ (([x] ++ [y]) ++ R) := by simp
              rw [e, e']
              exact (Rk.refl L').app ((Rk.swap (by
                intro u hu w hw
                simp only [List.mem_singleton] at hu hw
                subst hu hw
                intro he; rw [he] at hxy; exact kl_irr _ hxy)).app (.refl R))
            · intro z hz
              rcases List.mem_cons.1 hz with rfl | hz
              · exact hxy
              · exact hxr z hz
            · (all_goals (and_intros <;> first | rfl | assumption | (push_cast; rfl) | (congr 1; omega) | omega | (simp; done)))
          · have hn0 : ¬ n < 0 := fun h => hxy (hn.1 h)
            have hsx : Srt key ((L' ++ [y]) ++ x :: R) := by
              refine Srt.app hsr.left (List.pairwise_cons.2 ⟨fun z hz => kl_asym (hxr z hz), hsr.right⟩) ?_
              intro u hu w hw
              rcases List.mem_cons.1 hw with rfl | hw
              · have : ¬ key y < key u := by
                  rcases List.mem_append.1 hu with hu | hu
                  · exact (hsr.left).cross u hu y (by simp)
                  · simp only [List.mem_singleton] at hu; subst hu; exact kl_irr _
                exact kl_le_tr this hxy
              · exact hsr.cross u hu w hw
            obtain ⟨f1, f2, f3⟩ := fin hsx
            simp (maxSteps := 1000000) (disch := omega) only [stepS, reduceIte, Nat.reduceBEq, Nat.reduceEqDiff, tupleOf, stepT, g0, g1, g2, g3, g8, g9, hn0]
            refine ⟨⟨(L' ++ [y]) ++ x :: R, S2, S0 ++ [x], f2, f3, hsx, hk'.trans (k2.kv v), f1.le k2, .inl (by simp; omega), ?_⟩, by omega⟩
            simp only [List.length_append, List.length_cons, List.length_nil]
            (all_goals (and_intros <;> first | rfl | assumption | (push_cast; rfl) | (congr 1; omega) | omega | (simp; done)))
end
end Go.AS


namespace Go.AS
open Go
set_option linter.unusedVariables false
set_option linter.unusedSimpArgs false

section
variable {α : Type} {key : α → List UInt8}
theorem get3a {X S1 S2 Y : List α} {k : Nat} (h1 : X.length ≤ k) (h2 : k < X.length + S1.length) : (X ++ (S1 ++ (S2 ++ Y)))[k]? = S1[k - X.length]? := by
  rw [List.getElem?_append_right h1, List.getElem?_append_left (by omega)]
theorem get3b {X S1 S2 Y : List α} {k : Nat} (h1 : X.length + S1.length ≤ k) (h2 : k < X.length + S1.length + S2.length) : (X ++ (S1 ++ (S2 ++ Y)))[k]? = S2[k - X.length - S1.length]? := by
  rw [List.getElem?_append_right (by omega), List.getElem?_append_right (by omega), List.getElem?_append_left (by omega)]
theorem get_some {l : List α} {k : Nat} (h : k < l.length) : ∃ x, l[k]? = some x := ⟨_, List.getElem?_eq_getElem h⟩
/-- One ahead of a list in order: what is less goes ahead of it. -/
theorem merge_one {x : α} {S V W : List α} (hS : S = V ++ W) (hs : Srt key S) (h1 : ∀ y ∈ V, key y < key x) (h2 : ∀ y ∈ W, ¬ key y < key x) : Rk key (x :: S) (V ++ x :: W) ∧ Srt key (V ++ x :: W) := by
  subst hS
  constructor
  · have e : x :: (V ++ W) = (([x] ++ V) ++ W) := by simp
    have e' : V ++ x :: W = ((V ++ [x]) ++ W) := by simp
    rw [e, e']
    refine Rk.app (Rk.swap ?_) (.refl _)
    intro u hu w hw he
    rw [List.mem_singleton] at hu
    subst hu
    have := h1 w hw
    rw [← he] at this
    exact kl_irr _ this
  · refine Srt.app hs.left (List.pairwise_cons.2 ⟨h2, hs.right⟩) ?_
    intro u hu w hw
    rcases List.mem_cons.1 hw with rfl | hw
    · exact kl_asym (h1 u hu)
    · exact hs.cross u hu w hw
/-- One behind a list in order: it goes behind what is not greater. -/
theorem one_merge {x : α} {S V W : List α} (hS : S = V ++ W) (hs : Srt key S) (h1 : ∀ y ∈ V, ¬ key x < key y) (h2 : ∀ y ∈ W, key x < key y) : Rk key (S ++ [x]) (V ++ x :: W) ∧ Srt key (V ++ x :: W) := by
  subst hS
  constructor
  · have e : V ++ W ++ [x] = V ++ (W ++ [x]) := by simp
    have e' : V ++ x :: W = V ++ ([x] ++ W) := by simp
    rw [e, e']
    refine Rk.app (.refl _) (Rk.swap ?_)
    intro u hu w hw he
    rw [List.mem_singleton] at hw
    subst hw
    have := h2 u hu
    rw [← he] at this
    exact kl_irr _ this
  · refine Srt.app hs.left (List.pairwise_cons.2 ⟨fun y hy => kl_asym (h2 y hy), hs.right⟩) ?_
    intro u hu w hw
    rcases List.mem_cons.1 hw with rfl | hw
    · exact h1 u hu
    · exact hs.cross u hu w hw
/-- What is in the middle changes places. -/
theorem merge_mid {S1 S2 L U V H F' H' : List α} (h1 : S1 = L ++ U) (h2 : S2 = V ++ H) (s1 : Srt key S1) (s2 : Srt key S2) (hUV : ∀ u ∈ U, ∀ w ∈ V, key w < key u) (hLH : ∀ u ∈ L, ∀ w ∈ H, ¬ key w < key u)
    (rF : Rk key (L ++ V) F') (rH : Rk key (U ++ H) H') (sF : Srt key F') (sH : Srt key H') : Rk key (S1 ++ S2) (F' ++ H') ∧ Srt key (F' ++ H') := by
  subst h1 h2
  constructor
  · have e : L ++ U ++ (V ++ H) = L ++ ((U ++ V) ++ H) := by simp
    rw [e]
    refine Rk.trans (Rk.app (.refl _) (Rk.app (Rk.swap ?_) (.refl _))) (b := L ++ ((V ++ U) ++ H)) ?_
    · intro u hu w hw he
      have := hUV u hu w hw
      rw [he] at this
      exact kl_irr _ this
    · have e : L ++ (V ++ U ++ H) = (L ++ V) ++ (U ++ H) := by simp
      rw [e]
      exact rF.app rH
  · refine Srt.app sF sH fun x hx y hy => ?_
    have hx := rF.mem.1 hx
    have hy := rH.mem.1 hy
    rcases List.mem_append.1 hx with hx | hx <;> rcases List.mem_append.1 hy with hy | hy
    · exact s1.cross x hx y hy
    · exact hLH x hx y hy
    · exact kl_asym (hUV y hy x hx)
    · exact s2.cross x hx y hy
end
end Go.AS


namespace Go.AS
open Go
set_option linter.unusedVariables false
set_option linter.unusedSimpArgs false
set_option maxRecDepth 10000

section
variable {G : Nat} {P : Program} (hm : P.follows .mixedOrders = true) {sz : Nat} {fv : Value} {dom : List Value → Prop} {key : List Value → List UInt8}

/-- What symMerge is to do. -/
def MergeOk (G : Nat) (P : Program) (sz : Nat) (fv : Value) (dom : List Value → Prop) (key : List Value → List UInt8) (f : FuncId) (N : Nat) : Prop :=
  ∀ {A : AH} {v : Value} {a0 : Nat} {Q : Value → AH → Prop} {X S1 S2 Y : List (List Value)} {a m b : Int}, S1.length + S2.length ≤ N → OwnE a0 A sz v (X ++ (S1 ++ (S2 ++ Y))) → (∀ x ∈ S1 ++ S2, dom x) →
    a = X.length → m = X.length + S1.length → b = X.length + S1.length + S2.length → 1 ≤ S1.length → 1 ≤ S2.length → Srt key S1 → Srt key S2 → X.length + S1.length + S2.length < 1152921504606846976 →
    (∀ A' S', KeepV A v A' → Rk key (S1 ++ S2) S' → Srt key S' → OwnE a0 A' sz v (X ++ (S' ++ Y)) → Q (.tuple #[]) A') → ACalls G P f [v, ii a, ii m, ii b, fv] Q A

section
variable {A : AH} {v : Value} {a0 : Nat} {X Y : List (List Value)} {r : AT} {R : Exit → AT → AH → Prop}
include hm in
theorem mrot_piece {fr fs : FuncId} (hr : Fits P G fr (icG_rotate fs) [] 5) (hs : Fits P G fs (icG_swapr sz) [] 5) {U V : List (List Value)} {s : Nat} (ho : OwnE a0 A sz v (X ++ (U ++ (V ++ Y)))) (hl : X.length + U.length + V.length < 1152921504606846976)
    (g0 : r 0 = v) (g2 : r 2 = ii (X.length + U.length : Int)) (g4 : r 4 = fv) (g20 : r 20 = ii (X.length : Nat)) (g24 : r 24 = ii (X.length + U.length + V.length : Int))
    (h : ∀ r' A', (∀ k, k < 178 → r' k = r k) → KeepV A v A' → OwnE a0 A' sz v (X ++ (V ++ (U ++ Y))) → R .normal r' A') : W G P (icG_mrot fr) R r A := by
  unfold icG_mrot
  by_cases hU : U.length = 0
  · have hU' := List.length_eq_zero_iff.1 hU
    subst hU'
    simp only [List.nil_append] at h ho
    simp (maxSteps := 1000000) (disch := omega) only [stepS, reduceIte, Nat.reduceBEq, Nat.reduceEqDiff, tupleOf, stepT, g0, g2, g4, g20, g24]
    refine h _ _ (fun k hk => ?_) (.refl _ _) ho
    unfold upd
    repeat (first | rw [if_neg (by omega)] | rfl)
  · by_cases hV : V.length = 0
    · have hV' := List.length_eq_zero_iff.1 hV
      subst hV'
      simp only [List.nil_append] at h ho
      simp (maxSteps := 1000000) (disch := omega) only [stepS, reduceIte, Nat.reduceBEq, Nat.reduceEqDiff, tupleOf, stepT, g0, g2, g4, g20, g24]
      refine h _ _ (fun k hk => ?_) (.refl _ _) ho
      unfold upd
      repeat (first | rw [if_neg (by omega)] | rfl)
    · simp (maxSteps := 1000000) (disch := omega) only [stepS, reduceIte, Nat.reduceBEq, Nat.reduceEqDiff, tupleOf, stepT, g0, g2, g4, g20, g24]
      refine rotate_spec hm hr hs ho rfl rfl rfl (by omega) (by omega) (by omega) fun A' k1 o1 => ?_
      simp (maxSteps := 1000000) (disch := omega) only [stepS, reduceIte, Nat.reduceBEq, Nat.reduceEqDiff, tupleOf, stepT]
      refine h _ _ (fun k hk => ?_) k1 o1
      unfold upd
      repeat (first | rw [if_neg (by omega)] | rfl)

theorem mlow_piece {f : FuncId} {N : Nat} (ih : MergeOk G P sz fv dom key f N) {L V Z : List (List Value)} {M : Nat} (ho : OwnE a0 A sz v (X ++ (L ++ (V ++ Y)))) (hd : ∀ x ∈ L ++ V, dom x) (s1 : Srt key L) (s2 : Srt key V) (hN : L.length + V.length ≤ N) (hl : X.length + L.length + V.length < 1152921504606846976)
    (g0 : r 0 = v) (g1 : r 1 = ii (X.length : Nat)) (g4 : r 4 = fv) (g20 : r 20 = ii (X.length + L.length : Int)) (g18 : r 18 = ii (X.length + L.length + V.length : Int))
    (h : ∀ r' A' F, (∀ k, k < 178 → r' k = r k) → KeepV A v A' → Rk key (L ++ V) F → Srt key F → OwnE a0 A' sz v (X ++ (F ++ Y)) → R .normal r' A') : W G P (icG_mlow f) R r A := by
  unfold icG_mlow
  by_cases hU : L.length = 0
  · have hU' := List.length_eq_zero_iff.1 hU
    subst hU'
    simp only [List.nil_append] at h ho
    simp (maxSteps := 1000000) (disch := omega) only [stepS, reduceIte, Nat.reduceBEq, Nat.reduceEqDiff, tupleOf, stepT, g0, g1, g4, g20, g18]
    refine h _ _ V (fun k hk => ?_) (.refl _ _) (.refl _) s2 ho
    unfold upd
    repeat (first | rw [if_neg (by omega)] | rfl)
  · by_cases hV : V.length = 0
    · have hV' := List.length_eq_zero_iff.1 hV
      subst hV'
      simp only [List.nil_append, List.append_nil] at h ho
      simp (maxSteps := 1000000) (disch := omega) only [stepS, reduceIte, Nat.reduceBEq, Nat.reduceEqDiff, tupleOf, stepT, g0, g1, g4, g20, g18]
      refine h _ _ L (fun k hk => ?_) (.refl _ _) (.refl _) s1 ho
      unfold upd
      repeat (first | rw [if_neg (by omega)] | rfl)
    · simp (maxSteps := 1000000) (disch := omega) only [stepS, reduceIte, Nat.reduceBEq, Nat.reduceEqDiff, tupleOf, stepT, g0, g1, g4, g20, g18]
      refine ih hN ho hd rfl rfl rfl (by omega) (by omega) s1 s2 (by omega) fun A' F k1 p1 p2 o1 => ?_
      simp (maxSteps := 1000000) (disch := omega) only [stepS, reduceIte, Nat.reduceBEq, Nat.reduceEqDiff, tupleOf, stepT]
      refine h _ _ F (fun k hk => ?_) k1 p1 p2 o1
      unfold upd
      repeat (first | rw [if_neg (by omega)] | rfl)

theorem mhigh_piece {f : FuncId} {N : Nat} (ih : MergeOk G P sz fv dom key f N) {L V Z : List (List Value)} {M : Nat} (ho : OwnE a0 A sz v (X ++ (L ++ (V ++ Y)))) (hd : ∀ x ∈ L ++ V, dom x) (s1 : Srt key L) (s2 : Srt key V) (hN : L.length + V.length ≤ N) (hl : X.length + L.length + V.length < 1152921504606846976)
    (g0 : r 0 = v) (g3 : r 3 = ii (X.length + L.length + V.length : Int)) (g4 : r 4 = fv) (g24 : r 24 = ii (X.length + L.length : Int)) (g18 : r 18 = ii (X.length : Nat))
    (h : ∀ r' A' F, KeepV A v A' → Rk key (L ++ V) F → Srt key F → OwnE a0 A' sz v (X ++ (F ++ Y)) → R .normal r' A') : W G P (icG_mhigh f) R r A := by
  unfold icG_mhigh
  by_cases hU : L.length = 0
  · have hU' := List.length_eq_zero_iff.1 hU
    subst hU'
    simp only [List.nil_append] at h ho
    simp (maxSteps := 1000000) (disch := omega) only [stepS, reduceIte, Nat.reduceBEq, Nat.reduceEqDiff, tupleOf, stepT, g0, g3, g4, g24, g18]
    exact h _ _ V (.refl _ _) (.refl _) s2 ho
  · by_cases hV : V.length = 0
    · have hV' := List.length_eq_zero_iff.1 hV
      subst hV'
      simp only [List.nil_append, List.append_nil] at h ho
      simp (maxSteps := 1000000) (disch := omega) only [stepS, reduceIte, Nat.reduceBEq, Nat.reduceEqDiff, tupleOf, stepT, g0, g3, g4, g24, g18]
      exact h _ _ L (.refl _ _) (.refl _) s1 ho
    · simp (maxSteps := 1000000) (disch := omega) only [stepS, reduceIte, Nat.reduceBEq, Nat.reduceEqDiff, tupleOf, stepT, g0, g3, g4, g24, g18]
      refine ih hN ho hd rfl rfl rfl (by omega) (by omega) s1 s2 (by omega) fun A' F k1 p1 p2 o1 => ?_
      simp (maxSteps := 1000000) (disch := omega) only [stepS, reduceIte, Nat.reduceBEq, Nat.reduceEqDiff, tupleOf, stepT]
      exact h _ _ F k1 p1 p2 o1
end
end
end Go.AS


namespace Go.AS
open Go
set_option linter.unusedVariables false
set_option linter.unusedSimpArgs false
set_option maxRecDepth 10000

section
variable {G : Nat} {P : Program} (hm : P.follows .mixedOrders = true) {sz : Nat} {fv : Value} {dom : List Value → Prop} {key : List Value → List UInt8}
include hm in
theorem merge_spec {f fr fs : FuncId} (hf : Fits P G f (icG_merge sz fr f) [] 5) (hr : Fits P G fr (icG_rotate fs) [] 5) (hs : Fits P G fs (icG_swapr sz) [] 5) (hc : CmpS G P fv dom key) : ∀ N, MergeOk G P sz fv dom key f N := by
  intro N
  induction N with
  | zero => intro A v a0 Q X S1 S2 Y a m b hN _ _ _ _ _ h1 h2; omega
  | succ N ih =>
  intro A v a0 Q X S1 S2 Y a m b hN h hd ha hmm hb hS1 hS2 s1 s2 hl hq
  refine ACalls.of_fits hm hf rfl ?_
  unfold icG_merge
  have i0 : initA [v, ii a, ii m, ii b, fv] 0 = v := rfl
  have i1 : initA [v, ii a, ii m, ii b, fv] 1 = ii a := rfl
  have i2 : initA [v, ii a, ii m, ii b, fv] 2 = ii m := rfl
  have i3 : initA [v, ii a, ii m, ii b, fv] 3 = ii b := rfl
  have i4 : initA [v, ii a, ii m, ii b, fv] 4 = fv := rfl
  generalize initA [v, ii a, ii m, ii b, fv] = r at i0 i1 i2 i3 i4
  subst ha hmm hb
  by_cases c1 : S1.length = 1
  · obtain ⟨x, rfl⟩ := List.length_eq_one_iff.1 c1
    simp only [List.length_singleton] at *
    have hdx : dom x := hd x (by simp)
    simp (maxSteps := 1000000) (disch := omega) only [stepS, reduceIte, Nat.reduceBEq, Nat.reduceEqDiff, tupleOf, stepT, i0, i1, i2, i3, i4]
    refine W_loop (fun r' B => ∃ c d : Nat, c ≤ d ∧ d ≤ S2.length ∧ (∀ q y, q < c → S2[q]? = some y → key y < key x) ∧ (∀ q y, d ≤ q → S2[q]? = some y → ¬ key y < key x) ∧ KeepV A v B ∧ OwnE a0 B sz v (X ++ ([x] ++ (S2 ++ Y))) ∧
      r' 0 = v ∧ r' 1 = ii (X.length : Nat) ∧ r' 4 = fv ∧ r' 10 = ii ((X.length + 1 + c : Nat) : Int) ∧ r' 11 = ii ((X.length + 1 + d : Nat) : Int)) (fun r' _ => (iv (r' 11)).toNat - (iv (r' 10)).toNat) ?_ ?_
    · refine ⟨0, S2.length, by omega, by omega, fun q y hq => by omega, fun q y hq hy => by have := lt_of_get hy; omega, .refl _ _, h, ?_⟩
      simp (maxSteps := 1000000) (disch := omega) only [stepS, reduceIte, Nat.reduceBEq, Nat.reduceEqDiff, tupleOf, stepT, i0, i1, i2, i3, i4]
      (all_goals (and_intros <;> first | rfl | assumption | (push_cast; rfl) | (congr 1; omega) | omega | (simp; done)))
    · rintro r B ⟨c, d, hcd, hdl, hlo, hhi, hk, ho, g0, g1, g4, g10, g11⟩
      rcases Nat.lt_or_ge c d with hlt | hge
      · obtain ⟨y, hy⟩ := get_some (l := S2) (k := (c + d) / 2) (by omega)
        have e1 : (X ++ ([x] ++ (S2 ++ Y)))[X.length]? = some x := by rw [get3a (Nat.le_refl _) (by simp), Nat.sub_self]; rfl
        have e2 : (X ++ ([x] ++ (S2 ++ Y)))[X.length + 1 + (c + d) / 2]? = some y := by
          rw [get3b (by simp) (by simp; omega)]
          simp only [List.length_singleton]
          rw [← hy]; congr 1; omega
        obtain ⟨p, _, p1, p2, _⟩ := ho.el e1
        obtain ⟨q, _, q1, q2, _⟩ := ho.el e2
        simp (maxSteps := 1000000) (disch := omega) only [stepS, reduceIte, Nat.reduceBEq, Nat.reduceEqDiff, tupleOf, stepT, g0, g1, g4, g10, g11, convU, convS, half, p1, p2, q1, q2]
        refine hc _ y x _ (hd y (by simp [List.mem_of_getElem? hy])) hdx fun B2 n k2 hn => ?_
        by_cases hxy : key y < key x
        · have hn0 : n < 0 := hn.2 hxy
          simp (maxSteps := 1000000) (disch := omega) only [stepS, reduceIte, Nat.reduceBEq, Nat.reduceEqDiff, tupleOf, stepT, g0, g1, g4, g10, g11, hn0]
          refine ⟨⟨(c + d) / 2 + 1, d, by omega, hdl, ?_, hhi, hk.trans (k2.kv v), ho.le k2, ?_⟩, by omega⟩
          · intro k z hk hz
            exact kl_le_lt (s2.get hz hy (by omega)) hxy
          · (all_goals (and_intros <;> first | rfl | assumption | (push_cast; rfl) | (congr 1; omega) | omega | (simp; done)))
        · have hn0 : ¬ n < 0 := fun h => hxy (hn.1 h)
          simp (maxSteps := 1000000) (disch := omega) only [stepS, reduceIte, Nat.reduceBEq, Nat.reduceEqDiff, tupleOf, stepT, g0, g1, g4, g10, g11, hn0]
          refine ⟨⟨c, (c + d) / 2, by omega, by omega, hlo, ?_, hk.trans (k2.kv v), ho.le k2, ?_⟩, by omega⟩
          · intro k z hk hz hzx
            exact hxy (kl_le_lt (s2.get hy hz hk) hzx)
          · (all_goals (and_intros <;> first | rfl | assumption | (push_cast; rfl) | (congr 1; omega) | omega | (simp; done)))
      · have hcd' : c = d := by omega
        subst hcd'
        obtain ⟨V, W', hVW, hV⟩ := split_le (l := S2) (n := c) hdl
        obtain ⟨m1, m2⟩ := merge_one hVW s2 (fun y hy => by
          obtain ⟨k, hk⟩ := List.mem_iff_getElem?.1 hy
          have := lt_of_get hk
          exact hlo k y (by omega) (by rw [hVW, List.getElem?_append_left this]; exact hk)) (fun y hy => by
          obtain ⟨k, hk⟩ := List.mem_iff_getElem?.1 hy
          exact hhi (c + k) y (by omega) (by rw [hVW, List.getElem?_append_right (by omega), hV, Nat.add_sub_cancel_left]; exact hk))
        simp (maxSteps := 1000000) (disch := omega) only [stepS, reduceIte, Nat.reduceBEq, Nat.reduceEqDiff, tupleOf, stepT, g0, g1, g4, g10, g11]
        refine W_loop (fun r' B' => ∃ V1 V2 : List (List Value), V = V1 ++ V2 ∧ KeepV A v B' ∧ OwnE a0 B' sz v (X ++ (V1 ++ (x :: (V2 ++ (W' ++ Y))))) ∧ r' 0 = v ∧ r' 10 = ii ((X.length + 1 + c : Nat) : Int) ∧ r' 13 = ii ((X.length + V1.length : Nat) : Int)) (fun r' _ => X.length + c - (iv (r' 13)).toNat) ?_ ?_
        · refine ⟨[], V, rfl, hk, by rw [hVW] at ho; simpa using ho, ?_⟩
          simp (maxSteps := 1000000) (disch := omega) only [stepS, reduceIte, Nat.reduceBEq, Nat.reduceEqDiff, tupleOf, stepT, g0, g1, g4, g10, g11]
          (all_goals (and_intros <;> first | rfl | assumption | (push_cast; rfl) | (congr 1; omega) | omega | (simp; done)))
        · rintro r B' ⟨V1, V2, hV12, hk', ho', g0, g10, g13⟩
          have lV : V1.length + V2.length = c := by rw [← hV, hV12, List.length_append]
          cases V2 with
          | nil =>
            simp only [List.length_nil] at lV
            simp (maxSteps := 1000000) (disch := omega) only [stepS, reduceIte, Nat.reduceBEq, Nat.reduceEqDiff, tupleOf, stepT, g0, g10, g13]
            rw [List.append_nil] at hV12
            subst hV12
            exact hq _ _ hk' m1 m2 (by simpa using ho')
          | cons w V2 =>
            simp only [List.length_cons] at lV
            obtain ⟨e1, e2, e3⟩ := swap_res (l := X ++ (V1 ++ (x :: ((w :: V2) ++ (W' ++ Y))))) (X := X ++ V1) (M := []) (Y := V2 ++ (W' ++ Y)) (x := x) (y := w) (i := X.length + V1.length) (j := X.length + V1.length + 1) (by simp) (by simp) (by simp)
            obtain ⟨p, q, B3, B4, p1, q1, p2, q2, t1, t2, t3, t4⟩ := ho'.swap e1 e2
            rw [e3] at t3
            simp (maxSteps := 1000000) (disch := omega) only [stepS, reduceIte, Nat.reduceBEq, Nat.reduceEqDiff, tupleOf, stepT, g0, g10, g13, p1, p2, q1, q2, t1, t2]
            refine ⟨⟨V1 ++ [w], V2, by rw [hV12]; simp, hk'.trans t4, by simpa using t3, ?_⟩, by omega⟩
            simp only [List.length_append, List.length_singleton]
            (all_goals (and_intros <;> first | rfl | assumption | (push_cast; rfl) | (congr 1; omega) | omega | (simp; done)))
  · by_cases c2 : S2.length = 1
    · obtain ⟨y, rfl⟩ := List.length_eq_one_iff.1 c2
      simp only [List.length_singleton] at *
      have hdy : dom y := hd y (by simp)
      simp (maxSteps := 1000000) (disch := omega) only [stepS, reduceIte, Nat.reduceBEq, Nat.reduceEqDiff, tupleOf, stepT, i0, i1, i2, i3, i4]
      refine W_loop (fun r' B => ∃ c d : Nat, c ≤ d ∧ d ≤ S1.length ∧ (∀ q z, q < c → S1[q]? = some z → ¬ key y < key z) ∧ (∀ q z, d ≤ q → S1[q]? = some z → key y < key z) ∧ KeepV A v B ∧ OwnE a0 B sz v (X ++ (S1 ++ ([y] ++ Y))) ∧
        r' 0 = v ∧ r' 2 = ii (X.length + S1.length : Int) ∧ r' 4 = fv ∧ r' 14 = ii ((X.length + c : Nat) : Int) ∧ r' 15 = ii ((X.length + d : Nat) : Int)) (fun r' _ => (iv (r' 15)).toNat - (iv (r' 14)).toNat) ?_ ?_
      · refine ⟨0, S1.length, by omega, by omega, fun q y hq => by omega, fun q y hq hy => by have := lt_of_get hy; omega, .refl _ _, h, ?_⟩
        simp (maxSteps := 1000000) (disch := omega) only [stepS, reduceIte, Nat.reduceBEq, Nat.reduceEqDiff, tupleOf, stepT, i0, i1, i2, i3, i4]
        (all_goals (and_intros <;> first | rfl | assumption | (push_cast; rfl) | (congr 1; omega) | omega | (simp; done)))
      · rintro r B ⟨c, d, hcd, hdl, hlo, hhi, hk, ho, g0, g2, g4, g14, g15⟩
        rcases Nat.lt_or_ge c d with hlt | hge
        · obtain ⟨z, hz⟩ := get_some (l := S1) (k := (c + d) / 2) (by omega)
          have e1 : (X ++ (S1 ++ ([y] ++ Y)))[X.length + S1.length]? = some y := by
            rw [get3b (Nat.le_refl _) (by simp)]
            rw [show X.length + S1.length - X.length - S1.length = 0 by omega]; rfl
          have e2 : (X ++ (S1 ++ ([y] ++ Y)))[X.length + (c + d) / 2]? = some z := by
            rw [get3a (by omega) (by omega), ← hz]; congr 1; omega
          obtain ⟨p, _, p1, p2, _⟩ := ho.el e1
          obtain ⟨q, _, q1, q2, _⟩ := ho.el e2
          simp (maxSteps := 1000000) (disch := omega) only [stepS, reduceIte, Nat.reduceBEq, Nat.reduceEqDiff, tupleOf, stepT, g0, g2, g4, g14, g15, convU, convS, half, p1, p2, q1, q2]
          refine hc _ y z _ hdy (hd z (by simp [List.mem_of_getElem? hz])) fun B2 n k2 hn => ?_
          by_cases hxy : key y < key z
          · have hn0 : n < 0 := hn.2 hxy
            simp (maxSteps := 1000000) (disch := omega) only [stepS, reduceIte, Nat.reduceBEq, Nat.reduceEqDiff, tupleOf, stepT, g0, g2, g4, g14, g15, hn0]
            refine ⟨⟨c, (c + d) / 2, by omega, by omega, hlo, ?_, hk.trans (k2.kv v), ho.le k2, ?_⟩, by omega⟩
            · intro k w hk hw
              exact kl_lt_le hxy (s1.get hz hw hk)
            · (all_goals (and_intros <;> first | rfl | assumption | (push_cast; rfl) | (congr 1; omega) | omega | (simp; done)))
          · have hn0 : ¬ n < 0 := fun h => hxy (hn.1 h)
            simp (maxSteps := 1000000) (disch := omega) only [stepS, reduceIte, Nat.reduceBEq, Nat.reduceEqDiff, tupleOf, stepT, g0, g2, g4, g14, g15, hn0]
            refine ⟨⟨(c + d) / 2 + 1, d, by omega, hdl, ?_, hhi, hk.trans (k2.kv v), ho.le k2, ?_⟩, by omega⟩
            · intro k w hk hw hyw
              exact hxy (kl_lt_le hyw (s1.get hw hz (by omega)))
            · (all_goals (and_intros <;> first | rfl | assumption | (push_cast; rfl) | (congr 1; omega) | omega | (simp; done)))
        · have hcd' : c = d := by omega
          subst hcd'
          obtain ⟨V, W', hVW, hV⟩ := split_le (l := S1) (n := c) hdl
          have lS : S1.length = c + W'.length := by rw [hVW, List.length_append, hV]
          obtain ⟨m1, m2⟩ := one_merge hVW s1 (fun w hw => by
            obtain ⟨k, hk⟩ := List.mem_iff_getElem?.1 hw
            have := lt_of_get hk
            exact hlo k w (by omega) (by rw [hVW, List.getElem?_append_left this]; exact hk)) (fun w hw => by
            obtain ⟨k, hk⟩ := List.mem_iff_getElem?.1 hw
            exact hhi (c + k) w (by omega) (by rw [hVW, List.getElem?_append_right (by omega), hV, Nat.add_sub_cancel_left]; exact hk))
          simp (maxSteps := 1000000) (disch := omega) only [stepS, reduceIte, Nat.reduceBEq, Nat.reduceEqDiff, tupleOf, stepT, g0, g2, g4, g14, g15]
          refine W_loop (fun r' B' => ∃ W1 W2 : List (List Value), W' = W1 ++ W2 ∧ KeepV A v B' ∧ OwnE a0 B' sz v (X ++ (V ++ (W1 ++ (y :: (W2 ++ Y))))) ∧ r' 0 = v ∧ r' 14 = ii ((X.length + c : Nat) : Int) ∧ r' 17 = ii ((X.length + c + W1.length : Nat) : Int)) (fun r' _ => (iv (r' 17)).toNat) ?_ ?_
          · refine ⟨W', [], by simp, hk, by rw [hVW] at ho; simpa using ho, ?_⟩
            simp (maxSteps := 1000000) (disch := omega) only [stepS, reduceIte, Nat.reduceBEq, Nat.reduceEqDiff, tupleOf, stepT, g0, g2, g4, g14, g15]
            (all_goals (and_intros <;> first | rfl | assumption | (push_cast; rfl) | (congr 1; omega) | omega | (simp; done)))
          · rintro r B' ⟨W1, W2, hV12, hk', ho', g0, g14, g17⟩
            by_cases hW : W1 = []
            · subst hW
              simp (maxSteps := 1000000) (disch := omega) only [stepS, reduceIte, Nat.reduceBEq, Nat.reduceEqDiff, tupleOf, stepT, g0, g14, g17, List.length_nil]
              simp only [List.nil_append] at hV12
              subst hV12
              exact hq _ _ hk' m1 m2 (by simpa using ho')
            · obtain ⟨W0, w, rfl⟩ := last_of hW
              obtain ⟨e1, e2, e3⟩ := swap_res' (l := X ++ (V ++ ((W0 ++ [w]) ++ (y :: (W2 ++ Y))))) (X := X ++ (V ++ W0)) (M := []) (Y := W2 ++ Y) (x := w) (y := y) (i := X.length + c + W0.length) (j := X.length + c + W0.length + 1) (by simp) (by simp [hV]; omega) (by simp [hV]; omega)
              obtain ⟨q, p, B3, B4, q1, p1, q2, p2, t1, t2, t3, t4⟩ := ho'.swap e2 e1
              rw [e3] at t3
              simp only [List.length_append, List.length_singleton] at g17
              have lW : W'.length = W0.length + 1 + W2.length := by rw [hV12]; simp; omega
              simp (maxSteps := 1000000) (disch := omega) only [stepS, reduceIte, Nat.reduceBEq, Nat.reduceEqDiff, tupleOf, stepT, g0, g14, g17, p1, p2, q1, q2, t1, t2]
              refine ⟨⟨W0, w :: W2, by rw [hV12]; simp, hk'.trans t4, by simpa using t3, ?_⟩, by omega⟩
              (all_goals (and_intros <;> first | rfl | assumption | (push_cast; rfl) | (congr 1; omega) | omega | (simp; done)))
    · obtain ⟨M, hM⟩ : ∃ M : Nat, M = (X.length + X.length + S1.length + S2.length) / 2 := ⟨_, rfl⟩
      have hMi : (↑X.length + (↑X.length + ↑S1.length + ↑S2.length) : Int) / 2 = (M : Int) := by omega
      by_cases hcase : M < X.length + S1.length
      · obtain ⟨lo, hi, hlo0, hhi0⟩ : ∃ lo hi : Nat, lo + X.length + S1.length + S2.length = M + (X.length + S1.length) ∧ hi = M := ⟨M + (X.length + S1.length) - (X.length + S1.length + S2.length), M, by omega, rfl⟩
        simp (maxSteps := 1000000) (disch := omega) only [stepS, reduceIte, Nat.reduceBEq, Nat.reduceEqDiff, tupleOf, stepT, i0, i1, i2, i3, i4, convU, convS, half, hMi]
        refine W_loop (fun r' B => ∃ s q : Nat, lo ≤ s ∧ s ≤ q ∧ q ≤ hi ∧ (∀ c x y, lo ≤ c → c < s → S1[c - X.length]? = some x → S2[M - 1 - c]? = some y → ¬ key y < key x) ∧ (∀ c x y, q ≤ c → c < hi → S1[c - X.length]? = some x → S2[M - 1 - c]? = some y → key y < key x) ∧
          KeepV A v B ∧ OwnE a0 B sz v (X ++ (S1 ++ (S2 ++ Y))) ∧ r' 0 = v ∧ r' 1 = ii (X.length : Nat) ∧ r' 2 = ii (X.length + S1.length : Int) ∧ r' 3 = ii (X.length + S1.length + S2.length : Int) ∧ r' 4 = fv ∧ r' 18 = ii (M : Nat) ∧ r' 19 = ii (M + (X.length + S1.length) : Int) ∧ r' 22 = ii (M + (X.length + S1.length) - 1 : Int) ∧
          r' 20 = ii (s : Nat) ∧ r' 21 = ii (q : Nat)) (fun r' _ => (iv (r' 21)).toNat - (iv (r' 20)).toNat) ?_ ?_
        · refine ⟨lo, hi, Nat.le_refl _, by omega, Nat.le_refl _, fun c x y h1 h2 => by omega, fun c x y h1 h2 => by omega, .refl _ _, h, ?_⟩
          simp (maxSteps := 1000000) (disch := omega) only [stepS, reduceIte, Nat.reduceBEq, Nat.reduceEqDiff, tupleOf, stepT, i0, i1, i2, i3, i4]
          (all_goals (and_intros <;> first | rfl | assumption | (push_cast; rfl) | (congr 1; omega) | omega | (simp; done)))
        · rintro r B ⟨s, q, hs1, hs2, hs3, hlo, hhi, hk, ho, g0, g1, g2, g3, g4, g18, g19, g22, g20, g21⟩
          rcases Nat.lt_or_ge s q with hlt | hge
          · have hsq : ((s : Int) + (q : Int)) / 2 = ((s + q) / 2 : Nat) := by omega
            obtain ⟨z, hz⟩ := get_some (l := S1) (k := (s + q) / 2 - X.length) (by omega)
            obtain ⟨y, hy⟩ := get_some (l := S2) (k := M - 1 - (s + q) / 2) (by omega)
            have e1 : (X ++ (S1 ++ (S2 ++ Y)))[(s + q) / 2]? = some z := by
              rw [get3a (by omega) (by omega)]; exact hz
            have e2 : (X ++ (S1 ++ (S2 ++ Y)))[X.length + S1.length + (M - 1 - (s + q) / 2)]? = some y := by
              rw [get3b (by omega) (by omega), ← hy]; congr 1; omega
            obtain ⟨p, _, p1, p2, _⟩ := ho.el e1
            obtain ⟨q', _, q1, q2, _⟩ := ho.el e2
            unfold icG_mfind
            simp (maxSteps := 1000000) (disch := omega) only [stepS, reduceIte, Nat.reduceBEq, Nat.reduceEqDiff, tupleOf, stepT, g0, g1, g2, g3, g4, g18, g19, g22, g20, g21, convU, convS, half, p1, p2, q1, q2]
            refine hc _ y z _ (hd y (by simp [List.mem_of_getElem? hy])) (hd z (by simp [List.mem_of_getElem? hz])) fun B2 n k2 hn => ?_
            by_cases hxy : key y < key z
            · have hn0 : n < 0 := hn.2 hxy
              simp (maxSteps := 1000000) (disch := omega) only [stepS, reduceIte, Nat.reduceBEq, Nat.reduceEqDiff, tupleOf, stepT, g0, g1, g2, g3, g4, g18, g19, g22, g20, g21, hn0]
              refine ⟨⟨s, (s + q) / 2, hs1, by omega, by omega, hlo, ?_, hk.trans (k2.kv v), ho.le k2, ?_⟩, by omega⟩
              · intro c x w h1 h2 hx hw
                have a1 := s1.get hz hx (by omega)
                have a2 := s2.get hw hy (by omega)
                exact kl_le_lt a2 (kl_lt_le hxy a1)
              · (all_goals (and_intros <;> first | rfl | assumption | (push_cast; rfl) | (congr 1; omega) | omega | (simp; done)))
            · have hn0 : ¬ n < 0 := fun h => hxy (hn.1 h)
              simp (maxSteps := 1000000) (disch := omega) only [stepS, reduceIte, Nat.reduceBEq, Nat.reduceEqDiff, tupleOf, stepT, g0, g1, g2, g3, g4, g18, g19, g22, g20, g21, hn0]
              refine ⟨⟨(s + q) / 2 + 1, q, by omega, by omega, hs3, ?_, hhi, hk.trans (k2.kv v), ho.le k2, ?_⟩, by omega⟩
              · intro c x w h1 h2 hx hw
                have a1 := s1.get hx hz (by omega)
                have a2 := s2.get hy hw (by omega)
                exact kl_le_tr (kl_le_tr a1 hxy) a2
              · (all_goals (and_intros <;> first | rfl | assumption | (push_cast; rfl) | (congr 1; omega) | omega | (simp; done)))
          · have hsq : s = q := by omega
            subst hsq
            obtain ⟨L, U, hLU, hL⟩ := split_le (l := S1) (n := s - X.length) (by omega)
            obtain ⟨V, H, hVH, hV⟩ := split_le (l := S2) (n := M - s) (by omega)
            have l1 : S1.length = L.length + U.length := by rw [hLU, List.length_append]
            have l2 : S2.length = V.length + H.length := by rw [hVH, List.length_append]
            have hUV : ∀ u ∈ U, ∀ w ∈ V, key w < key u := by
              intro u hu w hw
              obtain ⟨j, hj⟩ := List.mem_iff_getElem?.1 hu
              obtain ⟨k, hk⟩ := List.mem_iff_getElem?.1 hw
              have hj1 := lt_of_get hj
              have hk1 := lt_of_get hk
              have fj : S1[s - X.length + j]? = some u := by rw [hLU, List.getElem?_append_right (by omega), hL, Nat.add_sub_cancel_left]; exact hj
              have fk : S2[k]? = some w := by rw [hVH, List.getElem?_append_left hk1]; exact hk
              obtain ⟨x0, hx0⟩ := get_some (l := S1) (k := s - X.length) (by omega)
              obtain ⟨y0, hy0⟩ := get_some (l := S2) (k := M - 1 - s) (by omega)
              have := hhi s x0 y0 (Nat.le_refl _) (by omega) hx0 hy0
              exact kl_le_lt (s2.get fk hy0 (by omega)) (kl_lt_le this (s1.get hx0 fj (by omega)))
            have hLH : ∀ u ∈ L, ∀ w ∈ H, ¬ key w < key u := by
              intro u hu w hw
              obtain ⟨j, hj⟩ := List.mem_iff_getElem?.1 hu
              obtain ⟨k, hk⟩ := List.mem_iff_getElem?.1 hw
              have hj1 := lt_of_get hj
              have hk1 := lt_of_get hk
              have fj : S1[j]? = some u := by rw [hLU, List.getElem?_append_left hj1]; exact hj
              have fk : S2[M - s + k]? = some w := by rw [hVH, List.getElem?_append_right (by omega), hV, Nat.add_sub_cancel_left]; exact hk
              obtain ⟨x0, hx0⟩ := get_some (l := S1) (k := s - 1 - X.length) (by omega)
              obtain ⟨y0, hy0⟩ := get_some (l := S2) (k := M - 1 - (s - 1)) (by omega)
              have := hlo (s - 1) x0 y0 (by omega) (by omega) hx0 hy0
              exact kl_le_tr (kl_le_tr (s1.get fj hx0 (by omega)) this) (s2.get hy0 fk (by omega))
            have sL := s1; have sH := s2
            rw [hLU] at sL; rw [hVH] at sH
            unfold icG_mfind
            simp (maxSteps := 1000000) (disch := omega) only [stepS, reduceIte, Nat.reduceBEq, Nat.reduceEqDiff, tupleOf, stepT, g0, g1, g2, g3, g4, g18, g19, g22, g20, g21]
            refine mrot_piece hm hr hs (fv := fv) (X := X ++ L) (U := U) (V := V) (Y := H ++ Y) (s := s) (by rw [hLU, hVH] at ho; simpa using ho) (by simp; omega) ?_ ?_ ?_ ?_ ?_ fun r1 B1 f1 k1 o1 => ?_
            · simp (maxSteps := 1000000) (disch := omega) only [stepS, reduceIte, Nat.reduceBEq, Nat.reduceEqDiff, tupleOf, stepT, g0]
            · simp (maxSteps := 1000000) (disch := omega) only [stepS, reduceIte, Nat.reduceBEq, Nat.reduceEqDiff, tupleOf, stepT, g2]
              simp only [List.length_append]
              congr 1; omega
            · simp (maxSteps := 1000000) (disch := omega) only [stepS, reduceIte, Nat.reduceBEq, Nat.reduceEqDiff, tupleOf, stepT, g4]
            · simp (maxSteps := 1000000) (disch := omega) only [stepS, reduceIte, Nat.reduceBEq, Nat.reduceEqDiff, tupleOf, stepT, g20]
              simp only [List.length_append]
              congr 1; omega
            · simp (maxSteps := 1000000) (disch := omega) only [stepS, reduceIte, Nat.reduceBEq, Nat.reduceEqDiff, tupleOf, stepT, g19, g20]
              simp only [List.length_append]
              congr 1; omega
            have j0 : r1 0 = v := by rw [f1 0 (by omega)]; simp (maxSteps := 1000000) (disch := omega) only [stepS, reduceIte, Nat.reduceBEq, Nat.reduceEqDiff, tupleOf, stepT, g0]
            have j1 : r1 1 = ii (X.length : Nat) := by rw [f1 1 (by omega)]; simp (maxSteps := 1000000) (disch := omega) only [stepS, reduceIte, Nat.reduceBEq, Nat.reduceEqDiff, tupleOf, stepT, g1]
            have j3 : r1 3 = ii (X.length + S1.length + S2.length : Int) := by rw [f1 3 (by omega)]; simp (maxSteps := 1000000) (disch := omega) only [stepS, reduceIte, Nat.reduceBEq, Nat.reduceEqDiff, tupleOf, stepT, g3]
            have j4 : r1 4 = fv := by rw [f1 4 (by omega)]; simp (maxSteps := 1000000) (disch := omega) only [stepS, reduceIte, Nat.reduceBEq, Nat.reduceEqDiff, tupleOf, stepT, g4]
            have j18 : r1 18 = ii (M : Nat) := by rw [f1 18 (by omega)]; simp (maxSteps := 1000000) (disch := omega) only [stepS, reduceIte, Nat.reduceBEq, Nat.reduceEqDiff, tupleOf, stepT, g18]
            have j20 : r1 20 = ii (s : Nat) := by rw [f1 20 (by omega)]; simp (maxSteps := 1000000) (disch := omega) only [stepS, reduceIte, Nat.reduceBEq, Nat.reduceEqDiff, tupleOf, stepT, g20]
            have j24 : r1 24 = ii (M + (X.length + S1.length) - s : Int) := by rw [f1 24 (by omega)]; simp (maxSteps := 1000000) (disch := omega) only [stepS, reduceIte, Nat.reduceBEq, Nat.reduceEqDiff, tupleOf, stepT, g19, g20]
            simp (maxSteps := 1000000) (disch := omega) only [stepS, reduceIte, Nat.reduceBEq, Nat.reduceEqDiff, tupleOf, stepT]
            refine mlow_piece (fv := fv) (@ih) (X := X) (L := L) (V := V) (Y := U ++ (H ++ Y)) (Z := []) (M := 0) (by simpa using o1) (fun x hx => hd x (by rw [hLU, hVH]; simp only [List.mem_append] at hx ⊢; rcases hx with hx | hx <;> simp [hx])) sL.left sH.left (by omega) (by omega) j0 j1 j4 (by rw [j20]; congr 1; omega) (by rw [j18]; congr 1; omega) fun r2 B2 F f2 k2 p1 p2 o2 => ?_
            have lF := p1.1
            rw [List.length_append] at lF
            simp (maxSteps := 1000000) (disch := omega) only [stepS, reduceIte, Nat.reduceBEq, Nat.reduceEqDiff, tupleOf, stepT]
            refine mhigh_piece (fv := fv) (@ih) (X := X ++ F) (L := U) (V := H) (Y := Y) (Z := []) (M := 0) (by simpa using o2) (fun x hx => hd x (by rw [hLU, hVH]; simp only [List.mem_append] at hx ⊢; rcases hx with hx | hx <;> simp [hx])) sL.right sH.right (by omega) (by simp; omega) (by rw [f2 0 (by omega)]; exact j0) (by rw [f2 3 (by omega), j3]; simp only [List.length_append]; congr 1; omega) (by rw [f2 4 (by omega)]; exact j4) (by rw [f2 24 (by omega), j24]; simp only [List.length_append]; congr 1; omega) (by rw [f2 18 (by omega), j18]; simp only [List.length_append]; congr 1; omega) fun r3 B3 H' k3 p3 p4 o3 => ?_
            simp (maxSteps := 1000000) (disch := omega) only [stepS, reduceIte, Nat.reduceBEq, Nat.reduceEqDiff, tupleOf, stepT]
            obtain ⟨z1, z2⟩ := merge_mid hLU hVH s1 s2 hUV hLH p1 p3 p2 p4
            exact hq _ _ (((hk.trans k1).trans k2).trans k3) z1 z2 (by simpa using o3)
      · obtain ⟨lo, hi, hlo0, hhi0⟩ : ∃ lo hi : Nat, lo = X.length ∧ hi = X.length + S1.length := ⟨_, _, rfl, rfl⟩
        simp (maxSteps := 1000000) (disch := omega) only [stepS, reduceIte, Nat.reduceBEq, Nat.reduceEqDiff, tupleOf, stepT, i0, i1, i2, i3, i4, convU, convS, half, hMi]
        refine W_loop (fun r' B => ∃ s q : Nat, lo ≤ s ∧ s ≤ q ∧ q ≤ hi ∧ (∀ c x y, lo ≤ c → c < s → S1[c - X.length]? = some x → S2[M - 1 - c]? = some y → ¬ key y < key x) ∧ (∀ c x y, q ≤ c → c < hi → S1[c - X.length]? = some x → S2[M - 1 - c]? = some y → key y < key x) ∧
          KeepV A v B ∧ OwnE a0 B sz v (X ++ (S1 ++ (S2 ++ Y))) ∧ r' 0 = v ∧ r' 1 = ii (X.length : Nat) ∧ r' 2 = ii (X.length + S1.length : Int) ∧ r' 3 = ii (X.length + S1.length + S2.length : Int) ∧ r' 4 = fv ∧ r' 18 = ii (M : Nat) ∧ r' 19 = ii (M + (X.length + S1.length) : Int) ∧ r' 22 = ii (M + (X.length + S1.length) - 1 : Int) ∧
          r' 20 = ii (s : Nat) ∧ r' 21 = ii (q : Nat)) (fun r' _ => (iv (r' 21)).toNat - (iv (r' 20)).toNat) ?_ ?_
        · refine ⟨lo, hi, Nat.le_refl _, by omega, Nat.le_refl _, fun c x y h1 h2 => by omega, fun c x y h1 h2 => by omega, .refl _ _, h, ?_⟩
          simp (maxSteps := 1000000) (disch := omega) only [stepS, reduceIte, Nat.reduceBEq, Nat.reduceEqDiff, tupleOf, stepT, i0, i1, i2, i3, i4]
          (all_goals (and_intros <;> first | rfl | assumption | (push_cast; rfl) | (congr 1; omega) | omega | (simp; done)))
        · rintro r B ⟨s, q, hs1, hs2, hs3, hlo, hhi, hk, ho, g0, g1, g2, g3, g4, g18, g19, g22, g20, g21⟩
          rcases Nat.lt_or_ge s q with hlt | hge
          · have hsq : ((s : Int) + (q : Int)) / 2 = ((s + q) / 2 : Nat) := by omega
            obtain ⟨z, hz⟩ := get_some (l := S1) (k := (s + q) / 2 - X.length) (by omega)
            obtain ⟨y, hy⟩ := get_some (l := S2) (k := M - 1 - (s + q) / 2) (by omega)
            have e1 : (X ++ (S1 ++ (S2 ++ Y)))[(s + q) / 2]? = some z := by
              rw [get3a (by omega) (by omega)]; exact hz
            have e2 : (X ++ (S1 ++ (S2 ++ Y)))[X.length + S1.length + (M - 1 - (s + q) / 2)]? = some y := by
              rw [get3b (by omega) (by omega), ← hy]; congr 1; omega
            obtain ⟨p, _, p1, p2, _⟩ := ho.el e1
            obtain ⟨q', _, q1, q2, _⟩ := ho.el e2
            unfold icG_mfind
            simp (maxSteps := 1000000) (disch := omega) only [stepS, reduceIte, Nat.reduceBEq, Nat.reduceEqDiff, tupleOf, stepT, g0, g1, g2, g3, g4, g18, g19, g22, g20, g21, convU, convS, half, p1, p2, q1, q2]
            refine hc _ y z _ (hd y (by simp [List.mem_of_getElem? hy])) (hd z (by simp [List.mem_of_getElem? hz])) fun B2 n k2 hn => ?_
            by_cases hxy : key y < key z
            · have hn0 : n < 0 := hn.2 hxy
              simp (maxSteps := 1000000) (disch := omega) only [stepS, reduceIte, Nat.reduceBEq, Nat.reduceEqDiff, tupleOf, stepT, g0, g1, g2, g3, g4, g18, g19, g22, g20, g21, hn0]
              refine ⟨⟨s, (s + q) / 2, hs1, by omega, by omega, hlo, ?_, hk.trans (k2.kv v), ho.le k2, ?_⟩, by omega⟩
              · intro c x w h1 h2 hx hw
                have a1 := s1.get hz hx (by omega)
                have a2 := s2.get hw hy (by omega)
                exact kl_le_lt a2 (kl_lt_le hxy a1)
              · (all_goals (and_intros <;> first | rfl | assumption | (push_cast; rfl) | (congr 1; omega) | omega | (simp; done)))
            · have hn0 : ¬ n < 0 := fun h => hxy (hn.1 h)
              simp (maxSteps := 1000000) (disch := omega) only [stepS, reduceIte, Nat.reduceBEq, Nat.reduceEqDiff, tupleOf, stepT, g0, g1, g2, g3, g4, g18, g19, g22, g20, g21, hn0]
              refine ⟨⟨(s + q) / 2 + 1, q, by omega, by omega, hs3, ?_, hhi, hk.trans (k2.kv v), ho.le k2, ?_⟩, by omega⟩
              · intro c x w h1 h2 hx hw
                have a1 := s1.get hx hz (by omega)
                have a2 := s2.get hy hw (by omega)
                exact kl_le_tr (kl_le_tr a1 hxy) a2
              · (all_goals (and_intros <;> first | rfl | assumption | (push_cast; rfl) | (congr 1; omega) | omega | (simp; done)))
          · have hsq : s = q := by omega
            subst hsq
            obtain ⟨L, U, hLU, hL⟩ := split_le (l := S1) (n := s - X.length) (by omega)
            obtain ⟨V, H, hVH, hV⟩ := split_le (l := S2) (n := M - s) (by omega)
            have l1 : S1.length = L.length + U.length := by rw [hLU, List.length_append]
            have l2 : S2.length = V.length + H.length := by rw [hVH, List.length_append]
            have hUV : ∀ u ∈ U, ∀ w ∈ V, key w < key u := by
              intro u hu w hw
              obtain ⟨j, hj⟩ := List.mem_iff_getElem?.1 hu
              obtain ⟨k, hk⟩ := List.mem_iff_getElem?.1 hw
              have hj1 := lt_of_get hj
              have hk1 := lt_of_get hk
              have fj : S1[s - X.length + j]? = some u := by rw [hLU, List.getElem?_append_right (by omega), hL, Nat.add_sub_cancel_left]; exact hj
              have fk : S2[k]? = some w := by rw [hVH, List.getElem?_append_left hk1]; exact hk
              obtain ⟨x0, hx0⟩ := get_some (l := S1) (k := s - X.length) (by omega)
              obtain ⟨y0, hy0⟩ := get_some (l := S2) (k := M - 1 - s) (by omega)
              have := hhi s x0 y0 (Nat.le_refl _) (by omega) hx0 hy0
              exact kl_le_lt (s2.get fk hy0 (by omega)) (kl_lt_le this (s1.get hx0 fj (by omega)))
            have hLH : ∀ u ∈ L, ∀ w ∈ H, ¬ key w < key u := by
              intro u hu w hw
              obtain ⟨j, hj⟩ := List.mem_iff_getElem?.1 hu
              obtain ⟨k, hk⟩ := List.mem_iff_getElem?.1 hw
              have hj1 := lt_of_get hj
              have hk1 := lt_of_get hk
              have fj : S1[j]? = some u := by rw [hLU, List.getElem?_append_left hj1]; exact hj
              have fk : S2[M - s + k]? = some w := by rw [hVH, List.getElem?_append_right (by omega), hV, Nat.add_sub_cancel_left]; exact hk
              obtain ⟨x0, hx0⟩ := get_some (l := S1) (k := s - 1 - X.length) (by omega)
              obtain ⟨y0, hy0⟩ := get_some (l := S2) (k := M - 1 - (s - 1)) (by omega)
              have := hlo (s - 1) x0 y0 (by omega) (by omega) hx0 hy0
              exact kl_le_tr (kl_le_tr (s1.get fj hx0 (by omega)) this) (s2.get hy0 fk (by omega))
            have sL := s1; have sH := s2
            rw [hLU] at sL; rw [hVH] at sH
            unfold icG_mfind
            simp (maxSteps := 1000000) (disch := omega) only [stepS, reduceIte, Nat.reduceBEq, Nat.reduceEqDiff, tupleOf, stepT, g0, g1, g2, g3, g4, g18, g19, g22, g20, g21]
            refine mrot_piece hm hr hs (fv := fv) (X := X ++ L) (U := U) (V := V) (Y := H ++ Y) (s := s) (by rw [hLU, hVH] at ho; simpa using ho) (by simp; omega) ?_ ?_ ?_ ?_ ?_ fun r1 B1 f1 k1 o1 => ?_
            · simp (maxSteps := 1000000) (disch := omega) only [stepS, reduceIte, Nat.reduceBEq, Nat.reduceEqDiff, tupleOf, stepT, g0]
            · simp (maxSteps := 1000000) (disch := omega) only [stepS, reduceIte, Nat.reduceBEq, Nat.reduceEqDiff, tupleOf, stepT, g2]
              simp only [List.length_append]
              congr 1; omega
            · simp (maxSteps := 1000000) (disch := omega) only [stepS, reduceIte, Nat.reduceBEq, Nat.reduceEqDiff, tupleOf, stepT, g4]
            · simp (maxSteps := 1000000) (disch := omega) only [stepS, reduceIte, Nat.reduceBEq, Nat.reduceEqDiff, tupleOf, stepT, g20]
              simp only [List.length_append]
              congr 1; omega
            · simp (maxSteps := 1000000) (disch := omega) only [stepS, reduceIte, Nat.reduceBEq, Nat.reduceEqDiff, tupleOf, stepT, g19, g20]
              simp only [List.length_append]
              congr 1; omega
            have j0 : r1 0 = v := by rw [f1 0 (by omega)]; simp (maxSteps := 1000000) (disch := omega) only [stepS, reduceIte, Nat.reduceBEq, Nat.reduceEqDiff, tupleOf, stepT, g0]
            have j1 : r1 1 = ii (X.length : Nat) := by rw [f1 1 (by omega)]; simp (maxSteps := 1000000) (disch := omega) only [stepS, reduceIte, Nat.reduceBEq, Nat.reduceEqDiff, tupleOf, stepT, g1]
            have j3 : r1 3 = ii (X.length + S1.length + S2.length : Int) := by rw [f1 3 (by omega)]; simp (maxSteps := 1000000) (disch := omega) only [stepS, reduceIte, Nat.reduceBEq, Nat.reduceEqDiff, tupleOf, stepT, g3]
            have j4 : r1 4 = fv := by rw [f1 4 (by omega)]; simp (maxSteps := 1000000) (disch := omega) only [stepS, reduceIte, Nat.reduceBEq, Nat.reduceEqDiff, tupleOf, stepT, g4]
            have j18 : r1 18 = ii (M : Nat) := by rw [f1 18 (by omega)]; simp (maxSteps := 1000000) (disch := omega) only [stepS, reduceIte, Nat.reduceBEq, Nat.reduceEqDiff, tupleOf, stepT, g18]
            have j20 : r1 20 = ii (s : Nat) := by rw [f1 20 (by omega)]; simp (maxSteps := 1000000) (disch := omega) only [stepS, reduceIte, Nat.reduceBEq, Nat.reduceEqDiff, tupleOf, stepT, g20]
            have j24 : r1 24 = ii (M + (X.length + S1.length) - s : Int) := by rw [f1 24 (by omega)]; simp (maxSteps := 1000000) (disch := omega) only [stepS, reduceIte, Nat.reduceBEq, Nat.reduceEqDiff, tupleOf, stepT, g19, g20]
            simp (maxSteps := 1000000) (disch := omega) only [stepS, reduceIte, Nat.reduceBEq, Nat.reduceEqDiff, tupleOf, stepT]
            refine mlow_piece (fv := fv) (@ih) (X := X) (L := L) (V := V) (Y := U ++ (H ++ Y)) (Z := []) (M := 0) (by simpa using o1) (fun x hx => hd x (by rw [hLU, hVH]; simp only [List.mem_append] at hx ⊢; rcases hx with hx | hx <;> simp [hx])) sL.left sH.left (by omega) (by omega) j0 j1 j4 (by rw [j20]; congr 1; omega) (by rw [j18]; congr 1; omega) fun r2 B2 F f2 k2 p1 p2 o2 => ?_
            have lF := p1.1
            rw [List.length_append] at lF
            simp (maxSteps := 1000000) (disch := omega) only [stepS, reduceIte, Nat.reduceBEq, Nat.reduceEqDiff, tupleOf, stepT]
            refine mhigh_piece (fv := fv) (@ih) (X := X ++ F) (L := U) (V := H) (Y := Y) (Z := []) (M := 0) (by simpa using o2) (fun x hx => hd x (by rw [hLU, hVH]; simp only [List.mem_append] at hx ⊢; rcases hx with hx | hx <;> simp [hx])) sL.right sH.right (by omega) (by simp; omega) (by rw [f2 0 (by omega)]; exact j0) (by rw [f2 3 (by omega), j3]; simp only [List.length_append]; congr 1; omega) (by rw [f2 4 (by omega)]; exact j4) (by rw [f2 24 (by omega), j24]; simp only [List.length_append]; congr 1; omega) (by rw [f2 18 (by omega), j18]; simp only [List.length_append]; congr 1; omega) fun r3 B3 H' k3 p3 p4 o3 => ?_
            simp (maxSteps := 1000000) (disch := omega) only [stepS, reduceIte, Nat.reduceBEq, Nat.reduceEqDiff, tupleOf, stepT]
            obtain ⟨z1, z2⟩ := merge_mid hLU hVH s1 s2 hUV hLH p1 p3 p2 p4
            exact hq _ _ (((hk.trans k1).trans k2).trans k3) z1 z2 (by simpa using o3)
end
end Go.AS


namespace Go.AS
open Go
set_option linter.unusedVariables false
set_option linter.unusedSimpArgs false
set_option maxRecDepth 10000

section
variable {α : Type} {key : α → List UInt8}
/-- In order in parts of so many. -/
def ChS (key : α → List UInt8) (bs : Nat) (l : List α) : Prop := ∀ i, Srt key ((l.drop (i * bs)).take bs)
theorem ChS.nil {bs : Nat} : ChS key bs ([] : List α) := fun i => by simp [Srt]
theorem ChS.push {bs i : Nat} {D S : List α} (h : ChS key bs D) (hD : D.length = i * bs) (hS : S.length ≤ bs) (hs : Srt key S) : ChS key bs (D ++ S) := by
  intro j
  rcases Nat.lt_trichotomy j i with hj | hj | hj
  · have : j * bs + bs ≤ D.length := by
      rw [hD]
      have := Nat.mul_le_mul_right bs (show j + 1 ≤ i by omega)
      rw [Nat.add_mul, Nat.one_mul] at this; exact this
    rw [List.drop_append_of_le_length (by omega), List.take_append_of_le_length (by rw [List.length_drop]; omega)]
    exact h j
  · subst hj
    rw [← hD, List.drop_left, List.take_of_length_le hS]
    exact hs
  · have : (D ++ S).length ≤ j * bs := by
      rw [List.length_append, hD]
      have := Nat.mul_le_mul_right bs (show i + 1 ≤ j by omega)
      rw [Nat.add_mul, Nat.one_mul] at this; omega
    rw [List.drop_of_length_le this]
    simp [Srt]
theorem ChS.all {bs : Nat} {l : List α} (h : ChS key bs l) (hl : l.length ≤ bs) : Srt key l := by
  have := h 0
  rw [Nat.zero_mul, List.drop_zero, List.take_of_length_le hl] at this
  exact this
end

section
variable {G : Nat} {P : Program} (hm : P.follows .mixedOrders = true) {sz a0 : Nat} {A : AH} {v fv : Value} {Q : Value → AH → Prop} {dom : List Value → Prop} {key : List Value → List UInt8}
include hm
theorem stabl_spec {f fi fg fr fs : FuncId} (hf : Fits P G f (icG_stabl fi fg) [] 3) (hi : Fits P G fi (icG_ins sz) [] 4) (hg : Fits P G fg (icG_merge sz fr fg) [] 5) (hr : Fits P G fr (icG_rotate fs) [] 5) (hs : Fits P G fs (icG_swapr sz) [] 5) (hc : CmpS G P fv dom key)
    {es : List (List Value)} (h : OwnE a0 A sz v es) (hd : ∀ x ∈ es, dom x) (hl : es.length < 288230376151711744) (hq : ∀ A' S', KeepV A v A' → Rk key es S' → Srt key S' → OwnE a0 A' sz v S' → Q (.tuple #[]) A') : ACalls G P f [v, ii (es.length : Nat), fv] Q A := by
  refine ACalls.of_fits hm hf rfl ?_
  unfold icG_stabl
  have i0 : initA [v, ii (es.length : Nat), fv] 0 = v := rfl
  have i1 : initA [v, ii (es.length : Nat), fv] 1 = ii (es.length : Nat) := rfl
  have i2 : initA [v, ii (es.length : Nat), fv] 2 = fv := rfl
  generalize initA [v, ii (es.length : Nat), fv] = r at i0 i1 i2
  simp (maxSteps := 1000000) (disch := omega) only [stepS, reduceIte, Nat.reduceBEq, Nat.reduceEqDiff, tupleOf, stepT, i0, i1, i2]
  refine W_loop (fun r' B => ∃ (D : List (List Value)) (i : Nat), D.length = i * 20 ∧ D.length ≤ es.length ∧ Rk key (es.take (i * 20)) D ∧ ChS key 20 D ∧ KeepV A v B ∧ OwnE a0 B sz v (D ++ es.drop (i * 20)) ∧ r' 0 = v ∧ r' 1 = ii (es.length : Nat) ∧ r' 2 = fv ∧ r' 6 = ii 20 ∧ r' 7 = ii ((i * 20 : Nat) : Int) ∧ r' 8 = ii ((i * 20 + 20 : Nat) : Int)) (fun r' _ => es.length + 40 - (iv (r' 8)).toNat) ?_ ?_
  · refine ⟨[], 0, rfl, by simp, .refl _, .nil, .refl _ _, by simpa using h, ?_⟩
    simp (maxSteps := 1000000) (disch := omega) only [stepS, reduceIte, Nat.reduceBEq, Nat.reduceEqDiff, tupleOf, stepT, i0, i1, i2]
    (all_goals (and_intros <;> first | rfl | assumption | (push_cast; rfl) | (congr 1; omega) | omega | (simp; done)))
  · rintro r B ⟨D, i, hD, hDl, hrk, hch, hk, ho, g0, g1, g2, g6, g7, g8⟩
    rcases Nat.lt_or_ge es.length (i * 20 + 20) with hlt | hge
    rotate_left
    · obtain ⟨S, R, hSR, hS⟩ := split_le (l := es.drop (i * 20)) (n := 20) (by rw [List.length_drop]; omega)
      have ee : es = (es.take (i * 20) ++ S) ++ R := by rw [List.append_assoc, ← hSR, List.take_append_drop]
      have lt : (es.take (i * 20)).length = i * 20 := by rw [List.length_take]; omega
      rw [hSR] at ho
      simp (maxSteps := 1000000) (disch := omega) only [stepS, reduceIte, Nat.reduceBEq, Nat.reduceEqDiff, tupleOf, stepT, g0, g1, g2, g6, g7, g8]
      refine ins_spec hm hi hc (X := D) (S := S) (Y := R) ho (fun x hx => hd x (by rw [ee]; simp [hx])) (by omega) (by omega) (by omega) fun B2 S' k2 r2 s2 o2 => ?_
      simp (maxSteps := 1000000) (disch := omega) only [stepS, reduceIte, Nat.reduceBEq, Nat.reduceEqDiff, tupleOf, stepT, g0, g1, g2, g6, g7, g8]
      have e1 : es.take ((i + 1) * 20) = es.take (i * 20) ++ S := by
        conv => lhs; rw [ee]
        rw [List.take_append_of_le_length (by simp; omega), List.take_of_length_le (by simp; omega)]
      have e2 : es.drop ((i + 1) * 20) = R := by
        conv => lhs; rw [ee]
        rw [List.drop_append, List.drop_of_length_le (by simp; omega)]
        rw [show (i + 1) * 20 - (es.take (i * 20) ++ S).length = 0 by simp; omega]; simp
      have lS := r2.1
      refine ⟨⟨D ++ S', i + 1, by rw [List.length_append]; omega, by rw [List.length_append]; omega, by rw [e1]; exact hrk.app r2, hch.push hD (by omega) s2, hk.trans k2, by rw [e2]; simpa using o2, ?_⟩, by omega⟩
      (all_goals (and_intros <;> first | rfl | assumption | (push_cast; rfl) | (congr 1; omega) | omega | (simp; done)))
    · simp (maxSteps := 1000000) (disch := omega) only [stepS, reduceIte, Nat.reduceBEq, Nat.reduceEqDiff, tupleOf, stepT, g0, g1, g2, g6, g7, g8]
      refine ins_spec hm hi hc (X := D) (S := es.drop (i * 20)) (Y := []) (by simpa using ho) (fun x hx => hd x (List.mem_of_mem_drop hx)) (by omega) (by rw [List.length_drop]; omega) (by rw [List.length_drop]; omega) fun B2 S' k2 r2 s2 o2 => ?_
      have rk2 : Rk key es (D ++ S') := by
        have := hrk.app r2
        rw [List.take_append_drop] at this; exact this
      have ch2 : ChS key 20 (D ++ S') := hch.push hD (by rw [r2.1, List.length_drop]; omega) s2
      rw [List.append_nil] at o2
      simp (maxSteps := 1000000) (disch := omega) only [stepS, reduceIte, Nat.reduceBEq, Nat.reduceEqDiff, tupleOf, stepT, g0, g1, g2, g6]
      refine W_loop (fun r' B => ∃ (L : List (List Value)) (b : Nat), 1 ≤ b ∧ Rk key es L ∧ ChS key b L ∧ KeepV A v B ∧ OwnE a0 B sz v L ∧ r' 0 = v ∧ r' 1 = ii (es.length : Nat) ∧ r' 2 = fv ∧ r' 6 = ii (b : Nat)) (fun r' _ => es.length - (iv (r' 6)).toNat) ?_ ?_
      · refine ⟨D ++ S', 20, by omega, rk2, ch2, hk.trans k2, o2, ?_⟩
        simp (maxSteps := 1000000) (disch := omega) only [stepS, reduceIte, Nat.reduceBEq, Nat.reduceEqDiff, tupleOf, stepT, g0, g1, g2, g6]
        (all_goals (and_intros <;> first | rfl | assumption | (push_cast; rfl) | (congr 1; omega) | omega | (simp; done)))
      · rintro r B ⟨L, b, hb1, hrL, hcL, hkL, hoL, g0, g1, g2, g6⟩
        have lL := hrL.1
        rcases Nat.lt_or_ge b es.length with hlt | hge
        · simp (maxSteps := 1000000) (disch := omega) only [stepS, reduceIte, Nat.reduceBEq, Nat.reduceEqDiff, tupleOf, stepT, g0, g1, g2, g6]
          refine W_loop (fun r' B => ∃ (D : List (List Value)) (i : Nat), D.length = i * (2 * b) ∧ D.length ≤ L.length ∧ Rk key (L.take (i * (2 * b))) D ∧ ChS key (2 * b) D ∧ KeepV A v B ∧ OwnE a0 B sz v (D ++ L.drop (i * (2 * b))) ∧ r' 0 = v ∧ r' 1 = ii (es.length : Nat) ∧ r' 2 = fv ∧ r' 6 = ii (b : Nat) ∧ r' 7 = ii ((i * (2 * b) : Nat) : Int) ∧ r' 8 = ii ((i * (2 * b) + 2 * b : Nat) : Int)) (fun r' _ => es.length + 4 * b - (iv (r' 8)).toNat) ?_ ?_
          · refine ⟨[], 0, by simp, by simp, by simpa using Rk.refl [], .nil, hkL, by simpa using hoL, ?_⟩
            simp (maxSteps := 1000000) (disch := omega) only [stepS, reduceIte, Nat.reduceBEq, Nat.reduceEqDiff, tupleOf, stepT, g0, g1, g2, g6]
            (all_goals (and_intros <;> first | rfl | assumption | (push_cast; rfl) | (congr 1; omega) | omega | (simp; done)))
          · rintro r B ⟨D, i, hD, hDl, hrk, hch, hk, ho, g0, g1, g2, g6, g7, g8⟩
            obtain ⟨q, hq'⟩ : ∃ q, q = i * (2 * b) := ⟨_, rfl⟩
            rw [← hq'] at hD hrk ho g7 g8
            have lt : (L.take q).length = q := by rw [List.length_take]; omega
            have hA : ∀ S, (∃ Z, L.drop q = S ++ Z) → S.length = b → Srt key S := by
              rintro S ⟨Z, hZ⟩ hS
              have := hcL (2 * i)
              rw [show 2 * i * b = q by rw [hq', ← Nat.mul_assoc, Nat.mul_comm i 2], hZ, ← hS, List.take_left] at this
              exact this
            have hB : ∀ S Z, L.drop q = S ++ Z → S.length = b → Srt key (Z.take b) := by
              intro S Z hZ hS
              have := hcL (2 * i + 1)
              rw [show (2 * i + 1) * b = q + b by rw [hq', Nat.add_mul, ← Nat.mul_assoc, Nat.mul_comm i 2]; omega, ← List.drop_drop, hZ, ← hS, List.drop_left, hS] at this
              exact this
            have hq2 : (i + 1) * (2 * b) = q + 2 * b := by rw [hq', Nat.add_mul, Nat.one_mul]
            rcases Nat.lt_or_ge es.length (q + 2 * b) with hlt2 | hge2
            rotate_left
            · obtain ⟨S1, R1, hSR, hS1⟩ := split_le (l := L.drop q) (n := b) (by rw [List.length_drop]; omega)
              have lR1 : R1.length = L.length - q - b := by
                have := congrArg List.length hSR
                rw [List.length_drop, List.length_append] at this; omega
              obtain ⟨S2, R, hSR2, hS2⟩ := split_le (l := R1) (n := b) (by omega)
              have s1 := hA S1 ⟨_, hSR⟩ hS1
              have s2 := hB S1 R1 hSR hS1
              rw [hSR2, ← hS2, List.take_left] at s2
              have ee : L = (L.take q ++ (S1 ++ S2)) ++ R := by rw [List.append_assoc, List.append_assoc, ← hSR2, ← hSR, List.take_append_drop]
              have hmem : ∀ x ∈ S1 ++ S2, dom x := fun x hx => hd x (hrL.mem.1 (by rw [ee]; simp at hx ⊢; rcases hx with hx | hx <;> simp [hx]))
              rw [hSR, hSR2] at ho
              simp (maxSteps := 1000000) (disch := omega) only [stepS, reduceIte, Nat.reduceBEq, Nat.reduceEqDiff, tupleOf, stepT, g0, g1, g2, g6, g7, g8]
              refine merge_spec hm hg hr hs hc (S1.length + S2.length) (X := D) (S1 := S1) (S2 := S2) (Y := R) (Nat.le_refl _) ho hmem (by omega) (by omega) (by omega) (by omega) (by omega) s1 s2 (by omega) fun B2 S' k2 r2 s2 o2 => ?_
              simp (maxSteps := 1000000) (disch := omega) only [stepS, reduceIte, Nat.reduceBEq, Nat.reduceEqDiff, tupleOf, stepT, g0, g1, g2, g6, g7, g8]
              have e1 : L.take (q + 2 * b) = L.take q ++ (S1 ++ S2) := by
                conv => lhs; rw [ee]
                rw [List.take_append_of_le_length (by simp; omega), List.take_of_length_le (by simp; omega)]
              have e2 : L.drop (q + 2 * b) = R := by
                conv => lhs; rw [ee]
                rw [List.drop_append, List.drop_of_length_le (by simp; omega)]
                rw [show q + 2 * b - (L.take q ++ (S1 ++ S2)).length = 0 by simp; omega]; simp
              have lS := r2.1
              rw [List.length_append] at lS
              refine ⟨⟨D ++ S', i + 1, by rw [hq2, List.length_append]; omega, by rw [List.length_append]; omega, by rw [hq2, e1]; exact hrk.app r2, hch.push (i := i) (by rw [hD, hq']) (by omega) s2, hk.trans k2, by rw [hq2, e2]; simpa using o2, ?_⟩, by omega⟩
              rw [hq2]
              (all_goals (and_intros <;> first | rfl | assumption | (push_cast; rfl) | (congr 1; omega) | omega | (simp; done)))
            · rcases Nat.lt_or_ge (q + b) es.length with hlt3 | hge3
              · obtain ⟨S1, R1, hSR, hS1⟩ := split_le (l := L.drop q) (n := b) (by rw [List.length_drop]; omega)
                have lR1 : R1.length = L.length - q - b := by
                  have := congrArg List.length hSR
                  rw [List.length_drop, List.length_append] at this; omega
                have s1 := hA S1 ⟨_, hSR⟩ hS1
                have s2 := hB S1 R1 hSR hS1
                rw [List.take_of_length_le (by omega)] at s2
                have hmem : ∀ x ∈ S1 ++ R1, dom x := fun x hx => hd x (hrL.mem.1 (List.mem_of_mem_drop (i := q) (by rw [hSR]; exact hx)))
                rw [hSR] at ho
                simp (maxSteps := 1000000) (disch := omega) only [stepS, reduceIte, Nat.reduceBEq, Nat.reduceEqDiff, tupleOf, stepT, g0, g1, g2, g6, g7, g8]
                refine merge_spec hm hg hr hs hc (S1.length + R1.length) (X := D) (S1 := S1) (S2 := R1) (Y := []) (Nat.le_refl _) (by simpa using ho) hmem (by omega) (by omega) (by omega) (by omega) (by omega) s1 s2 (by omega) fun B2 S' k2 r2 s2 o2 => ?_
                simp (maxSteps := 1000000) (disch := omega) only [stepS, reduceIte, Nat.reduceBEq, Nat.reduceEqDiff, tupleOf, stepT, g0, g1, g2, g6, g7, g8]
                have lS := r2.1
                rw [List.length_append] at lS
                have rk' : Rk key L (D ++ S') := by
                  have := hrk.app r2
                  rw [← hSR, List.take_append_drop] at this; exact this
                refine ⟨⟨D ++ S', 2 * b, by omega, hrL.trans rk', hch.push (i := i) (by rw [hD, hq']) (by omega) s2, hk.trans k2, by simpa using o2, ?_⟩, by omega⟩
                (all_goals (and_intros <;> first | rfl | assumption | (push_cast; rfl) | (congr 1; omega) | omega | (simp; done)))
              · simp (maxSteps := 1000000) (disch := omega) only [stepS, reduceIte, Nat.reduceBEq, Nat.reduceEqDiff, tupleOf, stepT, g0, g1, g2, g6, g7, g8]
                have s1 : Srt key (L.drop q) := by
                  have := hcL (2 * i)
                  rw [show 2 * i * b = q by rw [hq', ← Nat.mul_assoc, Nat.mul_comm i 2], List.take_of_length_le (by rw [List.length_drop]; omega)] at this
                  exact this
                have rk' : Rk key L (D ++ L.drop q) := by
                  have := hrk.app (Rk.refl (key := key) (L.drop q))
                  rw [List.take_append_drop] at this; exact this
                refine ⟨⟨D ++ L.drop q, 2 * b, by omega, hrL.trans rk', hch.push (i := i) (by rw [hD, hq']) (by rw [List.length_drop]; omega) s1, hk, ho, ?_⟩, by omega⟩
                (all_goals (and_intros <;> first | rfl | assumption | (push_cast; rfl) | (congr 1; omega) | omega | (simp; done)))
        · simp (maxSteps := 1000000) (disch := omega) only [stepS, reduceIte, Nat.reduceBEq, Nat.reduceEqDiff, tupleOf, stepT, g0, g1, g2, g6]
          exact hq _ _ hkL hrL (hcL.all (by omega)) hoL
/-- slices.SortStableFunc. -/
theorem sstab_spec {f ft fi fg fr fs : FuncId} (hf : Fits P G f (icG_sstab ft) [] 2) (ht : Fits P G ft (icG_stabl fi fg) [] 3) (hi : Fits P G fi (icG_ins sz) [] 4) (hg : Fits P G fg (icG_merge sz fr fg) [] 5) (hr : Fits P G fr (icG_rotate fs) [] 5) (hs : Fits P G fs (icG_swapr sz) [] 5) (hc : CmpS G P fv dom key)
    {es : List (List Value)} (h : OwnE a0 A sz v es) (hd : ∀ x ∈ es, dom x) (hl : es.length < 288230376151711744) (hq : ∀ A' S', KeepV A v A' → Rk key es S' → Srt key S' → OwnE a0 A' sz v S' → Q (.tuple #[]) A') : ACalls G P f [v, fv] Q A := by
  refine ACalls.of_fits hm hf rfl ?_
  unfold icG_sstab
  have i0 : initA [v, fv] 0 = v := rfl
  have i1 : initA [v, fv] 1 = fv := rfl
  generalize initA [v, fv] = r at i0 i1
  simp (maxSteps := 1000000) (disch := omega) only [stepS, reduceIte, Nat.reduceBEq, Nat.reduceEqDiff, tupleOf, stepT, i0, i1, h.len]
  refine stabl_spec hm ht hi hg hr hs hc h hd hl fun A' S' k1 r1 s1 o1 => ?_
  simp (maxSteps := 1000000) (disch := omega) only [stepS, reduceIte, Nat.reduceBEq, Nat.reduceEqDiff, tupleOf, stepT]
  exact hq _ _ k1 r1 s1 o1
end
end Go.AS


namespace Go.AS
open Go
set_option linter.unusedVariables false
set_option linter.unusedSimpArgs false

/-! Slices of elements: cut, cleared, appended to. -/
section
variable {A B C A0 : AH} {v w u : Value} {sz n a0 l k : Nat} {cs e z : List Value} {es fs : List (List Value)} {lo hi : Option Value}

theorem flatten_cut (h : ∀ e ∈ es, e.length = sz ∧ ones e = true) (hlk : l ≤ k) (hk : k ≤ es.length) : ((es.take k).drop l).flatten = (es.flatten.drop (l * sz)).take ((k - l) * sz) := by
  have ht : ∀ j, j ≤ es.length → (es.take j).flatten.length = j * sz := fun j hj => flat_len_take es sz (fun j c hc => (h c (List.mem_of_getElem? hc)).1) j hj
  have e1 : es.flatten = ((es.take k).take l).flatten ++ (((es.take k).drop l).flatten ++ (es.drop k).flatten) := by
    rw [← List.append_assoc, ← List.flatten_append, List.take_append_drop, ← List.flatten_append, List.take_append_drop]
  have l1 : ((es.take k).take l).flatten.length = l * sz := by
    rw [List.take_take, Nat.min_eq_left hlk]; exact ht l (by omega)
  have l2 : ((es.take k).drop l).flatten.length = (k - l) * sz := by
    have := ht k hk
    rw [← List.take_append_drop l (es.take k), List.flatten_append, List.length_append, l1] at this
    rw [Nat.sub_mul]; omega
  rw [e1, ← l1, List.drop_left, ← l2, List.take_left]
/-- A part of a slice. -/
theorem OwnE.cut (h : OwnE a0 A sz v es) (hlk : l ≤ k) (hk : k ≤ es.length) (hb : ∀ c, es.length ≤ c → boundsA es.length c lo hi none = some (l, k, c)) :
    ∃ u, (∀ j ∈ blkOf u, j ∈ blkOf v) ∧ (∃ p c, u = .slice p (k - l) c) ∧ ∀ B fs, OwnE a0 B sz v fs → fs.length = es.length → sSll B v lo hi none sz = some (u, B) ∧ OwnE a0 B sz u ((fs.take k).drop l) := by
  obtain ⟨he, h0, h⟩ := h
  have mem : ∀ fs : List (List Value), (∀ e ∈ fs, e.length = sz ∧ ones e = true) → ∀ e ∈ (fs.take k).drop l, e.length = sz ∧ ones e = true := fun fs hf e hx => hf e (List.mem_of_mem_take (List.mem_of_mem_drop hx))
  rcases h with ⟨rfl, hz⟩ | ⟨rfl, hz⟩ | ⟨i, o, c, rc, ex, rfl, h2, h3, h4, h5, h6⟩
  · have : l = 0 := by omega
    have : k = 0 := by omega
    subst l k
    refine ⟨.slice none 0 0, fun j hj => hj, ⟨_, _, rfl⟩, fun B fs hf hl => ⟨?_, ?_⟩⟩
    · rw [hz] at hb
      unfold sSll
      simp only [hb 0 (Nat.le_refl _)]
      rfl
    · exact ⟨fun e hx => by simp at hx, OwnS.nil _ _ _⟩
  · have : l = 0 := by omega
    have : k = 0 := by omega
    subst l k
    refine ⟨.slice (some zmk) 0 0, fun j hj => hj, ⟨_, _, rfl⟩, fun B fs hf hl => ⟨?_, ?_⟩⟩
    · rw [hz] at hb
      unfold sSll zmk
      simp only [hb 0 (Nat.le_refl _)]
      rfl
    · exact ⟨fun e hx => by simp at hx, by simp, .inr (.inl ⟨rfl, rfl⟩)⟩
  · refine ⟨.slice (some ⟨i, o + l * sz, none⟩) (k - l) (c - l), fun j hj => hj, ⟨_, _, rfl⟩, fun B fs hf hl => ?_⟩
    obtain ⟨hf1, hf0, hf⟩ := hf
    have hlen : ((fs.take k).drop l).length = k - l := by rw [List.length_drop, List.length_take]; omega
    have hmul : l * sz + (k - l) * sz ≤ es.length * sz := by rw [← Nat.add_mul]; exact Nat.mul_le_mul_right _ (by omega)
    rcases hf with ⟨q, _⟩ | ⟨q, _⟩ | ⟨i', o', c', rc', ex', q, q2, q3, q4, q5, q6⟩
    · cases q
    · cases q
    · injection q with q q7 q8
      injection q with q
      injection q with q9 q10
      subst q9 q10 q8
      constructor
      · unfold sSll
        simp only [hb c h2, Option.bind_some]
        unfold rowSz
        rw [q4]
        simp
      · refine ⟨mem fs hf1, by rw [flat_len' (mem fs hf1)], .inr (.inr ⟨i, o + l * sz, c - l, rc', ex', by rw [hlen], by rw [hlen]; omega, q3, q4, by rw [hlen]; rw [hl] at q5; omega, ?_⟩)⟩
        intro j hj
        rw [hlen] at hj
        rw [flatten_cut hf1 hlk (by omega), List.getElem?_take_of_lt hj, List.getElem?_drop, Nat.add_assoc, q6 _ (by rw [hl]; omega)]
theorem ones_rep (hz : ones z = true) (m : Nat) : ones ((List.replicate m z).flatten) = true := by
  unfold ones at *
  rw [List.all_eq_true] at *
  intro x hx
  obtain ⟨l, h1, h2⟩ := List.mem_flatten.1 hx
  rw [List.mem_replicate] at h1
  rw [h1.2] at h2
  exact hz x h2
/-- What stands from l on is cleared. -/
theorem OwnE.clr (h : OwnE a0 A sz v es) (hl : l ≤ es.length) (hz : z.length = sz) (hz1 : ones z = true) (hu : sSll A v (some (.int .i64 (l : Int))) none none sz = some (u, A)) :
    ∃ A', sClr A u z = some (undef, A') ∧ OwnE a0 A' sz v (es.take l ++ List.replicate (es.length - l) z) ∧ KeepV A v A' := by
  have hE := h
  obtain ⟨he, h0, h⟩ := h
  have hb : ∀ c, es.length ≤ c → boundsA es.length c (some (ii l)) none none = some (l, es.length, c) := fun c hc => bnd_lo hl hc
  rcases h with ⟨rfl, hzz⟩ | ⟨rfl, hzz⟩ | ⟨i, o, c, rc, ex, rfl, h2, h3, h4, h5, h6⟩
  · have : l = 0 := by omega
    subst l
    have hes : es = [] := List.length_eq_zero_iff.1 hzz
    subst hes
    have : sSll A (.slice none 0 0) (some (ii (0 : Nat))) none none sz = some (.slice none 0 0, A) := rfl
    rw [show (Value.int .i64 ((0 : Nat) : Int)) = ii (0 : Nat) from rfl, this] at hu
    injection hu with hu; injection hu with hu; subst hu
    exact ⟨A, rfl, hE, .refl _ _⟩
  · have : l = 0 := by omega
    subst l
    have hes : es = [] := List.length_eq_zero_iff.1 hzz
    subst hes
    have : sSll A (.slice (some zmk) 0 0) (some (ii (0 : Nat))) none none sz = some (.slice (some zmk) 0 0, A) := rfl
    rw [show (Value.int .i64 ((0 : Nat) : Int)) = ii (0 : Nat) from rfl, this] at hu
    injection hu with hu; injection hu with hu; subst hu
    exact ⟨A, rfl, hE, .refl _ _⟩
  · have e : sSll A (.slice (some ⟨i, o, none⟩) es.length c) (some (.int .i64 (l : Int))) none none sz = some (.slice (some ⟨i, o + l * sz, none⟩) (es.length - l) (c - l), A) := by
      unfold sSll
      have := hb c h2
      unfold ii at this
      simp only [this, Option.bind_some]
      unfold rowSz
      rw [h4]
      simp
    rw [e] at hu
    injection hu with hu; injection hu with hu _; subst hu
    by_cases hm : es.length - l = 0
    · rw [hm]
      have : l = es.length := by omega
      subst this
      refine ⟨A, rfl, ?_, .refl _ _⟩
      rw [List.take_length]
      simpa using hE
    · obtain ⟨m, hm'⟩ : ∃ m, es.length - l = m + 1 := ⟨es.length - l - 1, by omega⟩
      have hmul : l * sz + (es.length - l) * sz = es.length * sz := by rw [← Nat.add_mul]; congr 1; omega
      have hrl : ((List.replicate (m + 1) z).flatten).length = (m + 1) * sz := by rw [rep_length, hz]
      rw [hm'] at hmul ⊢
      refine ⟨A.set i (.row (setAll rc (o + l * sz) ((List.replicate (m + 1) z).flatten)) .own sz ex), ?_, ⟨?_, ?_⟩, ?_⟩
      · show (wr A i (o + l * sz) _).map _ = _
        unfold wr
        simp only [h4]
        rw [if_pos ⟨by rw [hrl]; omega, ones_rep hz1 _⟩]
        rfl
      · intro x hx
        rcases List.mem_append.1 hx with hx | hx
        · exact he x (List.mem_of_mem_take hx)
        · rw [(List.mem_replicate.1 hx).2]; exact ⟨hz, hz1⟩
      · have hll : (es.take l ++ List.replicate (m + 1) z).length = es.length := by simp; omega
        have hfl : (es.take l).flatten.length = l * sz := flat_len_take es sz (fun j c hc => (he c (List.mem_of_getElem? hc)).1) l hl
        refine ⟨by rw [hll, List.flatten_append, List.length_append, hfl, hrl]; omega, .inr (.inr ⟨i, o, c, _, ex, by rw [hll], by rw [hll]; exact h2, h3, by rw [List.getElem?_set_self (lt_of_get h4)], ?_, ?_⟩)⟩
        · rw [setAll_length _ _ _ (by rw [hrl]; omega), hll]; exact h5
        · intro j hj
          rw [hll] at hj
          rw [setAll_get _ _ _ (by rw [hrl]; omega), List.flatten_append, hrl]
          rcases Nat.lt_or_ge j (l * sz) with hlt | hge
          · rw [if_neg (by omega), h6 _ hj, List.getElem?_append_left (by omega)]
            conv => lhs; rw [← List.take_append_drop l es, List.flatten_append]
            rw [List.getElem?_append_left (by omega)]
          · rw [if_pos (by omega), List.getElem?_append_right (by omega), hfl]
            congr 1; omega
      · refine ⟨by rw [List.length_set]; exact Nat.le_refl _, fun k b hb' hk => ?_⟩
        rw [List.getElem?_set_ne (fun h => hk (by subst h; simp [blkOf]))]
        exact hb'
theorem OwnE.nil (a0 : Nat) (A : AH) (sz : Nat) : OwnE a0 A sz (.slice none 0 0) [] := ⟨(fun e h => by cases h), OwnS.nil _ _ _⟩
theorem litE (A : AH) (hz : z.length = sz) (he : e.length = sz) (ho : ones e = true) : sLit A z sz 1 [(0, sz, .agg e.toArray)] = some (.slice (some ⟨A.length, 0, none⟩) 1 1, A ++ [.row e .own sz true]) := by
  unfold sLit
  have ec : (Value.agg e.toArray).cells = e.toArray := rfl
  have e1 : (List.replicate 1 z).flatten = z := by simp
  rw [e1]
  unfold fillA
  rw [ec]
  rw [if_pos ⟨by simpa using he, by omega, by simpa using ho⟩]
  unfold fillA
  simp only [Option.map_some]
  congr 4
  unfold setAll
  simp [he, hz]
/-- One more element. -/
theorem OwnE.push {bytes : Nat} (hl : Le A0 A) (h : OwnE A0.length A sz v es) (hsz : 0 < sz) (he : e.length = sz) (ho : ones e = true) (hb : 2 * ((es.length + 1) * bytes) ≤ 2 ^ 48) (hb0 : 0 < bytes) :
    ∃ v' A', sApp (A ++ [.row e .own sz true]) v (.slice (some ⟨A.length, 0, none⟩) 1 1) sz bytes = some (v', A') ∧ Le A0 A' ∧ OwnE A0.length A' sz v' (es ++ [e]) ∧ KeepV A v A' ∧ (blkOf v' = [A.length + 1] ∨ blkOf v' = blkOf v) := by
  have k1 : Le A (A ++ [.row e .own sz true]) := .push _ _
  have hs : Sl (A ++ [.row e .own sz true]) sz (.slice (some ⟨A.length, 0, none⟩) 1 1) 1 e :=
    ⟨by simp [he], .inr (.inr ⟨A.length, 0, 1, e, .own, true, rfl, by omega, by simp, by simp, by simp [he], fun j _ => by rw [Nat.zero_add]⟩)⟩
  obtain ⟨v', A', e1, e2, e3, e4⟩ := app_cells (bytes := bytes) (hl.trans k1) (h.2.le k1) hs ho hsz hb hb0
  have hf := app_fresh rfl (by simp) e1
  have hle := k1.len
  refine ⟨v', A', e1, e2, ⟨?_, ?_⟩, ⟨?_, fun i b hb hi => e4 i b (k1.get hb) (fun o c q => hi (by rw [q]; simp [blkOf]))⟩, by simpa using hf⟩
  · intro x hx
    rcases List.mem_append.1 hx with hx | hx
    · exact h.1 x hx
    · rw [List.mem_singleton.1 hx]; exact ⟨he, ho⟩
  · simpa using e3
  · refine Nat.le_trans hle ?_
    have : ∀ i, i < (A ++ [Blk.row e .own sz true]).length → i ∉ blkOf v → i < A'.length := by
      intro i hi hv
      exact lt_of_get (e4 i _ (List.getElem?_eq_getElem hi) (fun o c q => hv (by rw [q]; simp [blkOf])))
    have hlast := this A.length (by simp) (fun hv => by have := (h.2.ge A.length hv).2; omega)
    simp
    omega
end
end Go.AS


namespace Go.AS
open Go
set_option maxRecDepth 100000
/-! Codes of library functions that are alike in many chapters (printed by geni.py). -/
noncomputable def icG_compact (sz : Nat) (z : List Value) : IC :=
  (.seq (.ops [
    ⟨(some 4), none, false, .mov (.const (.slice none 0 0))⟩]) (.seq (.seq (.ops [
    ⟨(some 8), none, false, .mov (.tmp 0)⟩,
    ⟨(some 9), none, false, .lens false (.tmp 8)⟩,
    ⟨(some 10), none, false, .bin .lss (.tmp 9) (.const (.int .i64 2))⟩]) (.cond (.tmp 10) (.seq (.ops [
    ⟨(some 11), none, false, .mov (.tmp 0)⟩,
    ⟨(some 4), none, false, .mov (.tmp 11)⟩]) .ret) .skip)) (.seq (.seq (.ops [
    ⟨(some 5), none, false, .mov (.const (.int .i64 1))⟩]) (.block 0 (.loop (.seq (.seq (.ops [
    ⟨(some 12), none, false, .mov (.tmp 5)⟩,
    ⟨(some 13), none, false, .mov (.tmp 0)⟩,
    ⟨(some 14), none, false, .lens false (.tmp 13)⟩,
    ⟨(some 15), none, false, .bin .lss (.tmp 12) (.tmp 14)⟩]) (.cond (.tmp 15) .skip (.exit 0))) (.seq (.block 1 (.seq (.draw [
    ⟨(some 18), none, false, .mov (.tmp 1)⟩,
    ⟨(some 19), none, false, .mov (.tmp 0)⟩,
    ⟨(some 20), none, false, .mov (.tmp 5)⟩,
    ⟨(some 21), none, false, .iaddr (.tmp 19) (.tmp 20) sz⟩,
    ⟨(some 22), none, false, .loadn (.tmp 21) sz⟩,
    ⟨(some 23), none, false, .mov (.tmp 0)⟩,
    ⟨(some 24), none, false, .mov (.tmp 5)⟩,
    ⟨(some 25), none, false, .bin .sub (.tmp 24) (.const (.int .i64 1))⟩,
    ⟨(some 26), none, false, .iaddr (.tmp 23) (.tmp 25) sz⟩,
    ⟨(some 27), none, false, .loadn (.tmp 26) sz⟩,
    ⟨(some 28), none, false, .calld (.tmp 18) [(.tmp 22), (.tmp 27)]⟩]) (.cond (.tmp 28) (.seq (.ops [
    ⟨(some 29), none, false, .mov (.tmp 0)⟩,
    ⟨(some 30), none, false, .mov (.tmp 5)⟩,
    ⟨(some 31), none, false, .sll (.tmp 29) (some (.tmp 30)) none none sz⟩,
    ⟨(some 6), none, false, .mov (.tmp 31)⟩]) (.seq (.seq (.ops [
    ⟨(some 7), none, false, .mov (.const (.int .i64 1))⟩]) (.block 2 (.loop (.seq (.seq (.ops [
    ⟨(some 32), none, false, .mov (.tmp 7)⟩,
    ⟨(some 33), none, false, .mov (.tmp 6)⟩,
    ⟨(some 34), none, false, .lens false (.tmp 33)⟩,
    ⟨(some 35), none, false, .bin .lss (.tmp 32) (.tmp 34)⟩]) (.cond (.tmp 35) .skip (.exit 2))) (.seq (.block 3 (.seq (.draw [
    ⟨(some 38), none, false, .mov (.tmp 1)⟩,
    ⟨(some 39), none, false, .mov (.tmp 6)⟩,
    ⟨(some 40), none, false, .mov (.tmp 7)⟩,
    ⟨(some 41), none, false, .iaddr (.tmp 39) (.tmp 40) sz⟩,
    ⟨(some 42), none, false, .loadn (.tmp 41) sz⟩,
    ⟨(some 43), none, false, .mov (.tmp 6)⟩,
    ⟨(some 44), none, false, .mov (.tmp 7)⟩,
    ⟨(some 45), none, false, .bin .sub (.tmp 44) (.const (.int .i64 1))⟩,
    ⟨(some 46), none, false, .iaddr (.tmp 43) (.tmp 45) sz⟩,
    ⟨(some 47), none, false, .loadn (.tmp 46) sz⟩,
    ⟨(some 48), none, false, .calld (.tmp 38) [(.tmp 42), (.tmp 47)]⟩,
    ⟨(some 49), none, false, .un .not (.tmp 48)⟩]) (.cond (.tmp 49) (.seq (.ops [
    ⟨(some 50), none, false, .mov (.tmp 0)⟩,
    ⟨(some 51), none, false, .mov (.tmp 5)⟩,
    ⟨(some 52), none, false, .mov (.tmp 6)⟩,
    ⟨(some 53), none, false, .mov (.tmp 7)⟩,
    ⟨(some 54), none, false, .iaddr (.tmp 52) (.tmp 53) sz⟩,
    ⟨(some 55), none, false, .loadn (.tmp 54) sz⟩,
    ⟨(some 56), none, false, .iaddr (.tmp 50) (.tmp 51) sz⟩,
    ⟨none, none, false, .store (.tmp 56) (.tmp 55) sz⟩]) (.ops [
    ⟨(some 57), none, false, .mov (.tmp 5)⟩,
    ⟨(some 58), none, false, .bin .add (.tmp 57) (.const (.int .i64 1))⟩,
    ⟨(some 5), none, false, .mov (.tmp 58)⟩])) .skip))) (.ops [
    ⟨(some 36), none, false, .mov (.tmp 7)⟩,
    ⟨(some 37), none, false, .bin .add (.tmp 36) (.const (.int .i64 1))⟩,
    ⟨(some 7), none, false, .mov (.tmp 37)⟩])))))) (.seq (.ops [
    ⟨(some 59), none, false, .mov (.tmp 0)⟩,
    ⟨(some 60), none, false, .mov (.tmp 5)⟩,
    ⟨(some 61), none, false, .sll (.tmp 59) (some (.tmp 60)) none none sz⟩,
    ⟨none, none, false, .clr (.tmp 61) z⟩]) (.seq (.ops [
    ⟨(some 62), none, false, .mov (.tmp 0)⟩,
    ⟨(some 63), none, false, .mov (.tmp 5)⟩,
    ⟨(some 64), none, false, .sll (.tmp 62) none (some (.tmp 63)) none sz⟩,
    ⟨(some 4), none, false, .mov (.tmp 64)⟩]) .ret)))) .skip))) (.ops [
    ⟨(some 16), none, false, .mov (.tmp 5)⟩,
    ⟨(some 17), none, false, .bin .add (.tmp 16) (.const (.int .i64 1))⟩,
    ⟨(some 5), none, false, .mov (.tmp 17)⟩])))))) (.seq (.ops [
    ⟨(some 65), none, false, .mov (.tmp 0)⟩,
    ⟨(some 4), none, false, .mov (.tmp 65)⟩]) .ret))))
end Go.AS


namespace Go.AS
open Go
set_option linter.unusedVariables false
set_option linter.unusedSimpArgs false
set_option maxRecDepth 10000

section
variable {α : Type} {key : α → List UInt8}
/-- What is left behind k, where what has the key of the one ahead goes. -/
def dedA (key : α → List UInt8) : List UInt8 → List α → List α
  | _, [] => []
  | k, y :: l => if key y = k then dedA key k l else y :: dedA key (key y) l
def dedup (key : α → List UInt8) : List α → List α
  | [] => []
  | x :: l => x :: dedA key (key x) l
theorem dedA_same {k : List UInt8} {y : α} {l : List α} (h : key y = k) : dedA key k (y :: l) = dedA key k l := by simp [dedA, h]
theorem dedA_other {k : List UInt8} {y : α} {l : List α} (h : key y ≠ k) : dedA key k (y :: l) = y :: dedA key (key y) l := by simp [dedA, h]
theorem dedup_small {l : List α} (h : l.length < 2) : dedup key l = l := by
  match l, h with
  | [], _ => rfl
  | [x], _ => rfl
/-- Of what is in order: what is left rises, and each is the first with its key. -/
theorem dedA_rise : ∀ (l : List α) (k : List UInt8), Srt key l → (∀ x ∈ l, ¬ key x < k) → (dedA key k l).Pairwise (fun a b => key a < key b) ∧ (∀ x ∈ dedA key k l, k < key x) ∧
    ∀ x, x ∈ dedA key k l ↔ k < key x ∧ l.find? (fun e => decide (key e = key x)) = some x
  | [], k, _, _ => by simp [dedA]
  | y :: l, k, hs, hk => by
    have hs' : Srt key l := (List.pairwise_cons.1 hs).2
    have hy := (List.pairwise_cons.1 hs).1
    by_cases h : key y = k
    · obtain ⟨h1, h2, h3⟩ := dedA_rise l k hs' (fun x hx => hk x (List.mem_cons_of_mem _ hx))
      rw [dedA_same h]
      refine ⟨h1, h2, fun x => ?_⟩
      rw [h3 x, List.find?_cons]
      constructor
      · rintro ⟨a, b⟩
        have : decide (key y = key x) = false := decide_eq_false (fun e => by rw [← e, h] at a; exact kl_irr _ a)
        rw [this]; exact ⟨a, b⟩
      · rintro ⟨a, b⟩
        have : decide (key y = key x) = false := decide_eq_false (fun e => by rw [← e, h] at a; exact kl_irr _ a)
        rw [this] at b; exact ⟨a, b⟩
    · have hky : k < key y := by
        rcases kl_tri k (key y) with h1 | h1 | h1
        · exact h1
        · exact absurd h1.symm h
        · exact absurd h1 (hk y (List.mem_cons_self ..))
      obtain ⟨h1, h2, h3⟩ := dedA_rise l (key y) hs' (fun x hx => hy x hx)
      rw [dedA_other h]
      refine ⟨List.pairwise_cons.2 ⟨h2, h1⟩, fun x hx => ?_, fun x => ?_⟩
      · rcases List.mem_cons.1 hx with rfl | hx
        · exact hky
        · exact kl_tr hky (h2 x hx)
      · rw [List.mem_cons, h3 x, List.find?_cons]
        constructor
        · rintro (rfl | ⟨a, b⟩)
          · simp [hky]
          · have : decide (key y = key x) = false := decide_eq_false (fun e => by rw [← e] at a; exact kl_irr _ a)
            rw [this]; exact ⟨kl_tr hky a, b⟩
        · rintro ⟨a, b⟩
          by_cases e : key y = key x
          · rw [decide_eq_true e] at b
            left; injection b with b; exact b.symm
          · rw [decide_eq_false e] at b
            right
            refine ⟨?_, b⟩
            have hm := List.mem_of_find?_eq_some b
            rcases kl_tri (key y) (key x) with h1 | h1 | h1
            · exact h1
            · exact absurd h1 e
            · exact absurd h1 (hy x hm)
theorem dedup_rise {l : List α} (hs : Srt key l) : (dedup key l).Pairwise (fun a b => key a < key b) ∧ ∀ x, x ∈ dedup key l ↔ l.find? (fun e => decide (key e = key x)) = some x := by
  cases l with
  | nil => simp [dedup]
  | cons y l =>
    have hs' : Srt key l := (List.pairwise_cons.1 hs).2
    have hy := (List.pairwise_cons.1 hs).1
    obtain ⟨h1, h2, h3⟩ := dedA_rise l (key y) hs' (fun x hx => hy x hx)
    refine ⟨List.pairwise_cons.2 ⟨h2, h1⟩, fun x => ?_⟩
    show x ∈ y :: dedA key (key y) l ↔ _
    rw [List.mem_cons, h3 x, List.find?_cons]
    constructor
    · rintro (rfl | ⟨a, b⟩)
      · simp
      · have : decide (key y = key x) = false := decide_eq_false (fun e => by rw [← e] at a; exact kl_irr _ a)
        rw [this]; exact b
    · intro b
      by_cases e : key y = key x
      · rw [decide_eq_true e] at b
        left; injection b with b; exact b.symm
      · rw [decide_eq_false e] at b
        right
        refine ⟨?_, b⟩
        have hm := List.mem_of_find?_eq_some b
        rcases kl_tri (key y) (key x) with h1 | h1 | h1
        · exact h1
        · exact absurd h1 e
        · exact absurd h1 (hy x hm)
/-- What keeps the order of what has one key keeps the first with each. -/
theorem Rk.find {a b : List α} (h : Rk key a b) (k : List UInt8) : b.find? (fun e => decide (key e = k)) = a.find? (fun e => decide (key e = k)) := by
  rw [← List.head?_filter, ← List.head?_filter, h.2 k]
/-- Two lists that rise and have the same are the same. -/
theorem rise_ext : ∀ {a b : List α}, a.Pairwise (fun x y => key x < key y) → b.Pairwise (fun x y => key x < key y) → (∀ x, x ∈ a ↔ x ∈ b) → a = b
  | [], [], _, _, _ => rfl
  | [], y :: b, _, _, h => by have := (h y).2 (List.mem_cons_self ..); cases this
  | x :: a, [], _, _, h => by have := (h x).1 (List.mem_cons_self ..); cases this
  | x :: a, y :: b, ha, hb, h => by
    obtain ⟨ha1, ha2⟩ := List.pairwise_cons.1 ha
    obtain ⟨hb1, hb2⟩ := List.pairwise_cons.1 hb
    have hxy : x = y := by
      rcases List.mem_cons.1 ((h x).1 (List.mem_cons_self ..)) with e | e
      · exact e
      · rcases List.mem_cons.1 ((h y).2 (List.mem_cons_self ..)) with e' | e'
        · exact e'.symm
        · exact absurd (ha1 y e') (kl_asym (hb1 x e))
    subst hxy
    rw [rise_ext ha2 hb2 fun z => ?_]
    have hz := h z
    constructor
    · intro hm
      rcases List.mem_cons.1 (hz.1 (List.mem_cons_of_mem _ hm)) with e | e
      · subst e; exact absurd (ha1 z hm) (kl_irr _)
      · exact e
    · intro hm
      rcases List.mem_cons.1 (hz.2 (List.mem_cons_of_mem _ hm)) with e | e
      · subst e; exact absurd (hb1 z hm) (kl_irr _)
      · exact e
end

/-- fv, called with two elements, tells whether their keys are the same. -/
def EqS (G : Nat) (P : Program) (fv : Value) (dom : List Value → Prop) (key : List Value → List UInt8) : Prop :=
  ∀ (A : AH) (x y : List Value) (Q : Value → AH → Prop), dom x → dom y → (∀ A', Le A A' → Q (.bool (decide (key x = key y))) A') → callD fv G P [.agg x.toArray, .agg y.toArray] Q A

section
variable {G : Nat} {P : Program} (hm : P.follows .mixedOrders = true) {sz a0 : Nat} {A : AH} {v fv : Value} {Q : Value → AH → Prop} {dom : List Value → Prop} {key : List Value → List UInt8}
include hm
/-- slices.CompactFunc. -/
theorem compact_spec {f : FuncId} {z : List Value} (hf : Fits P G f (icG_compact sz z) [.tmp 4] 2) (hz : z.length = sz) (hz1 : ones z = true) (hc : EqS G P fv dom key) {es : List (List Value)} (h : OwnE a0 A sz v es) (hd : ∀ x ∈ es, dom x) (hl : es.length < 1152921504606846976)
    (hq : ∀ A' u, KeepV A v A' → OwnE a0 A' sz u (dedup key es) → (∀ j ∈ blkOf u, j ∈ blkOf v) → Q u A') : ACalls G P f [v, fv] Q A := by
  refine ACalls.of_fits hm hf rfl ?_
  unfold icG_compact
  have i0 : initA [v, fv] 0 = v := rfl
  have i1 : initA [v, fv] 1 = fv := rfl
  generalize initA [v, fv] = r at i0 i1
  by_cases h2 : es.length < 2
  · simp (maxSteps := 1000000) (disch := omega) only [stepS, reduceIte, Nat.reduceBEq, Nat.reduceEqDiff, tupleOf, stepT, i0, i1, h.len]
    refine hq _ _ (.refl _ _) ?_ (fun j hj => hj)
    rw [dedup_small h2]; exact h
  · simp (maxSteps := 1000000) (disch := omega) only [stepS, reduceIte, Nat.reduceBEq, Nat.reduceEqDiff, tupleOf, stepT, i0, i1, h.len]
    refine W_loop (fun r' B => ∃ (D R : List (List Value)) (p : List Value), es = D ++ p :: R ∧ dedup key es = (D ++ [p]) ++ dedA key (key p) R ∧ Le A B ∧ r' 0 = v ∧ r' 1 = fv ∧ r' 5 = ii ((D.length + 1 : Nat) : Int)) (fun r' _ => es.length - (iv (r' 5)).toNat) ?_ ?_
    · cases es with
      | nil => simp at h2
      | cons p R =>
        refine ⟨[], R, p, rfl, rfl, .refl _, ?_⟩
        simp (maxSteps := 1000000) (disch := omega) only [stepS, reduceIte, Nat.reduceBEq, Nat.reduceEqDiff, tupleOf, stepT, i0, i1]
        (all_goals (and_intros <;> first | rfl | assumption | (push_cast; rfl) | (congr 1; omega) | omega | (simp; done)))
    · rintro r B ⟨D, R, p, hes, hde, hle, g0, g1, g5⟩
      have hB := h.le hle
      have lD : es.length = D.length + 1 + R.length := by rw [hes]; simp; omega
      cases R with
      | nil =>
        simp only [List.length_nil] at lD
        simp (maxSteps := 1000000) (disch := omega) only [stepS, reduceIte, Nat.reduceBEq, Nat.reduceEqDiff, tupleOf, stepT, g0, g1, g5, hB.len]
        refine hq _ _ (hle.kv v) ?_ (fun j hj => hj)
        rw [hde]
        simp only [dedA, List.append_nil]
        rw [← hes]; exact hB
      | cons y R =>
        simp only [List.length_cons] at lD
        obtain ⟨p1, _, a1, b1, _⟩ := hB.el (j := D.length) (e := p) (by rw [hes]; exact get_lo _ _ _)
        obtain ⟨p2, _, a2, b2, _⟩ := hB.el (j := D.length + 1) (e := y) (by rw [hes]; simp)
        simp (maxSteps := 1000000) (disch := omega) only [stepS, reduceIte, Nat.reduceBEq, Nat.reduceEqDiff, tupleOf, stepT, g0, g1, g5, hB.len, a1, b1, a2, b2]
        refine hc _ y p _ (hd y (by rw [hes]; simp)) (hd p (by rw [hes]; simp)) fun B2 k2 => ?_
        by_cases hyp : key y = key p
        · have hB2 := hB.le k2
          have hdt : decide (key y = key p) = true := decide_eq_true hyp
          obtain ⟨u, ub, ⟨up, uc, us⟩, hu⟩ := hB2.cut (l := D.length + 1) (k := es.length) (lo := some (ii (D.length + 1 : Nat))) (hi := none) (by omega) (Nat.le_refl _) (fun c hc => bnd_lo (by omega) hc)
          have u1 := (hu B2 es hB2 rfl).1
          simp (maxSteps := 1000000) (disch := omega) only [stepS, reduceIte, Nat.reduceBEq, Nat.reduceEqDiff, tupleOf, stepT, g0, g1, g5, hdt, u1]
          refine W_loop (fun r' C => ∃ (K J : List (List Value)) (q : List Value) (rest : List (List Value)) (k2 : Nat), 1 ≤ k2 ∧ k2 + rest.length = R.length + 1 ∧ K.length + J.length = D.length + k2 ∧ dedup key es = K ++ dedA key (key q) rest ∧ (∀ x ∈ q :: rest, dom x) ∧
            KeepV A v C ∧ OwnE a0 C sz v (K ++ (J ++ (q :: rest))) ∧ r' 0 = v ∧ r' 1 = fv ∧ r' 5 = ii (K.length : Nat) ∧ r' 6 = u ∧ r' 7 = ii (k2 : Nat)) (fun r' _ => es.length + 1 - (iv (r' 7)).toNat) ?_ ?_
          · refine ⟨D ++ [p], [], y, R, 1, by omega, by omega, by simp, ?_, ?_, (hle.trans k2).kv v, ?_, ?_⟩
            · rw [hde, dedA_same hyp, hyp]
            · intro x hx
              exact hd x (by rw [hes]; simp at hx ⊢; rcases hx with hx | hx <;> simp [hx])
            · rw [hes] at hB2; simpa using hB2
            · simp (maxSteps := 1000000) (disch := omega) only [stepS, reduceIte, Nat.reduceBEq, Nat.reduceEqDiff, tupleOf, stepT, g0, g1, g5]
              simp only [List.length_append, List.length_singleton]
              (all_goals (and_intros <;> first | rfl | assumption | (push_cast; rfl) | (congr 1; omega) | omega | (simp; done)))
          · rintro r C ⟨K, J, q, rest, k, hk1, hk2, hk3, hded, hdq, hkp, hC, g0, g1, g5, g6, g7⟩
            have ln : (K ++ (J ++ (q :: rest))).length = es.length := by simp; omega
            have ul : ∀ H : AH, sLens H false u = some (.int .i64 ((es.length - (D.length + 1) : Nat) : Int), H) := fun H => by rw [us]; rfl
            cases rest with
            | nil =>
              simp only [List.length_nil] at hk2
              simp only [dedA, List.append_nil] at hded
              obtain ⟨u2, _, ⟨_, _, _⟩, hu2⟩ := hC.cut (l := K.length) (k := (K ++ (J ++ (q :: []))).length) (lo := some (ii (K.length : Nat))) (hi := none) (by simp) (Nat.le_refl _) (fun c hc => bnd_lo (by simp) hc)
              have u21 := (hu2 C _ hC rfl).1
              obtain ⟨C2, c1, c2, c3⟩ := hC.clr (l := K.length) (by simp) hz hz1 u21
              obtain ⟨u3, u3b, ⟨_, _, _⟩, hu3⟩ := c2.cut (l := 0) (k := K.length) (lo := none) (hi := some (ii (K.length : Nat))) (by omega) (by simp) (fun c hc => bnd_hi (by simp at hc; omega))
              obtain ⟨u31, u32⟩ := hu3 C2 _ c2 rfl
              simp (maxSteps := 1000000) (disch := omega) only [stepS, reduceIte, Nat.reduceBEq, Nat.reduceEqDiff, tupleOf, stepT, g0, g1, g5, g6, g7, ul, u21, c1, u31]
              refine hq _ _ (hkp.trans c3) ?_ u3b
              rw [hded]
              simpa using u32
            | cons x rest =>
              simp only [List.length_cons] at hk2
              obtain ⟨_, hue⟩ := hu C _ hC ln
              obtain ⟨p1, _, a1, b1, _⟩ := hue.el (j := k - 1) (e := q) (by
                rw [List.getElem?_drop, List.getElem?_take_of_lt (by omega), List.getElem?_append_right (by omega), List.getElem?_append_right (by omega)]
                rw [show D.length + 1 + (k - 1) - K.length - J.length = 0 by omega]; rfl)
              obtain ⟨p2, _, a2, b2, b2'⟩ := hue.el (j := k) (e := x) (by
                rw [List.getElem?_drop, List.getElem?_take_of_lt (by omega), List.getElem?_append_right (by omega), List.getElem?_append_right (by omega)]
                rw [show D.length + 1 + k - K.length - J.length = 1 by omega]; rfl)
              simp (maxSteps := 1000000) (disch := omega) only [stepS, reduceIte, Nat.reduceBEq, Nat.reduceEqDiff, tupleOf, stepT, g0, g1, g5, g6, g7, ul, a1, b1, a2, b2]
              refine hc _ x q _ (hdq x (by simp)) (hdq q (by simp)) fun C2 k2 => ?_
              by_cases hxq : key x = key q
              · have hdt : decide (key x = key q) = true := decide_eq_true hxq
                simp (maxSteps := 1000000) (disch := omega) only [stepS, reduceIte, Nat.reduceBEq, Nat.reduceEqDiff, tupleOf, stepT, g0, g1, g5, g6, g7, hdt]
                refine ⟨⟨K, J ++ [q], x, rest, k + 1, by omega, by omega, by simp; omega, by rw [hded, dedA_same hxq, hxq], fun z hz => hdq z (List.mem_cons_of_mem _ hz), hkp.trans (k2.kv v), by simpa using hC.le k2, ?_⟩, by omega⟩
                (all_goals (and_intros <;> first | rfl | assumption | (push_cast; rfl) | (congr 1; omega) | omega | (simp; done)))
              · have hdt : decide (key x = key q) = false := decide_eq_false hxq
                obtain ⟨j, J2, hJ⟩ : ∃ j J2, J ++ [q] = j :: J2 := by
                  cases J with
                  | nil => exact ⟨q, [], rfl⟩
                  | cons j J => exact ⟨j, J ++ [q], rfl⟩
                have lJ := congrArg List.length hJ
                simp at lJ
                have hC2 := hC.le k2
                have hx := hC2.1 x (by simp)
                have hpl : K.length < (K ++ (J ++ (q :: x :: rest))).length := by simp; omega
                obtain ⟨p3, _, a3, _, _⟩ := hC2.el (j := K.length) (e := j) (by
                  rw [List.getElem?_append_right (Nat.le_refl _), Nat.sub_self]
                  have : J ++ q :: x :: rest = (J ++ [q]) ++ x :: rest := by simp
                  rw [this, hJ]; rfl)
                obtain ⟨C3, s1, s2, s3⟩ := hC2.put hpl hx.1 hx.2 (a3 C2 _ rfl)
                have e3 : (K ++ (J ++ (q :: x :: rest))).set K.length x = (K ++ [x]) ++ (J2 ++ (x :: rest)) := by
                  have : J ++ q :: x :: rest = (J ++ [q]) ++ x :: rest := by simp
                  rw [this, hJ, List.set_append_right _ _ (Nat.le_refl _), Nat.sub_self]
                  simp
                rw [e3] at s2
                have b2c := b2' C2 (fun k b hb _ => k2.get hb)
                simp (maxSteps := 1000000) (disch := omega) only [stepS, reduceIte, Nat.reduceBEq, Nat.reduceEqDiff, tupleOf, stepT, g0, g1, g5, g6, g7, hdt, a2, b2c, a3, s1]
                refine ⟨⟨K ++ [x], J2, x, rest, k + 1, by omega, by omega, by simp; omega, by rw [hded, dedA_other hxq]; simp, fun z hz => hdq z (List.mem_cons_of_mem _ hz), (hkp.trans (k2.kv v)).trans s3, s2, ?_⟩, by omega⟩
                simp only [List.length_append, List.length_singleton]
                (all_goals (and_intros <;> first | rfl | assumption | (push_cast; rfl) | (congr 1; omega) | omega | (simp; done)))
        · have hdt : decide (key y = key p) = false := decide_eq_false hyp
          simp (maxSteps := 1000000) (disch := omega) only [stepS, reduceIte, Nat.reduceBEq, Nat.reduceEqDiff, tupleOf, stepT, g0, g1, g5, hdt]
          refine ⟨⟨D ++ [p], R, y, by rw [hes]; simp, by rw [hde, dedA_other hyp]; simp, hle.trans k2, ?_⟩, by omega⟩
          simp only [List.length_append, List.length_singleton]
          (all_goals (and_intros <;> first | rfl | assumption | (push_cast; rfl) | (congr 1; omega) | omega | (simp; done)))
end
end Go.AS


namespace Go.AS
open Go
set_option linter.unusedVariables false
set_option linter.unusedSimpArgs false

/-! One by one into a list that rises; what has the key of one that is there goes. -/
section
variable {α β : Type} {key : α → List UInt8}
def ltW (key : α → List UInt8) (k : List UInt8) (e : α) : Bool := decide (key e < k)
def insT (key : α → List UInt8) (l : List α) (t : α) : List α :=
  match l.dropWhile (ltW key (key t)) with
  | r :: R => if key r = key t then l else l.takeWhile (ltW key (key t)) ++ t :: r :: R
  | [] => l ++ [t]
def srtT (key : α → List UInt8) (l : List α) : List α := l.foldl (insT key) []
theorem srtT_nil : srtT key ([] : List α) = [] := rfl
theorem srtT_push (l : List α) (t : α) : srtT key (l ++ [t]) = insT key (srtT key l) t := by simp [srtT]
theorem rise_get {l : List α} (h : l.Pairwise (fun a b => key a < key b)) {x y : α} (hx : x ∈ l) (hy : y ∈ l) (he : key x = key y) : x = y := by
  induction l with
  | nil => cases hx
  | cons z l ih =>
    obtain ⟨h1, h2⟩ := List.pairwise_cons.1 h
    rcases List.mem_cons.1 hx with rfl | hx <;> rcases List.mem_cons.1 hy with rfl | hy
    · rfl
    · have := h1 y ‹y ∈ l›; rw [he] at this; exact absurd this (kl_irr _)
    · have := h1 x ‹x ∈ l›; rw [he] at this; exact absurd this (kl_irr _)
    · exact ih h2 hx hy
theorem insT_spec {l : List α} (h : l.Pairwise (fun a b => key a < key b)) (t : α) : (insT key l t).Pairwise (fun a b => key a < key b) ∧ ∀ x, x ∈ insT key l t ↔ x ∈ l ∨ (x = t ∧ ∀ y ∈ l, key y ≠ key t) := by
  have hsplit := List.takeWhile_append_dropWhile (p := ltW key (key t)) (l := l)
  have hL : ∀ x ∈ l.takeWhile (ltW key (key t)), key x < key t := fun x hx => by
    have := List.all_takeWhile (p := ltW key (key t)) (l := l)
    rw [List.all_eq_true] at this
    have := this x hx
    simpa [ltW] using this
  cases hR : l.dropWhile (ltW key (key t)) with
  | nil =>
    have he : insT key l t = l ++ [t] := by unfold insT; rw [hR]
    rw [hR, List.append_nil] at hsplit
    rw [he]
    rw [hsplit] at hL
    refine ⟨List.pairwise_append.2 ⟨h, by simp, fun a ha b hb => by rw [List.mem_singleton.1 hb]; exact hL a ha⟩, fun x => ?_⟩
    rw [List.mem_append, List.mem_singleton]
    constructor
    · rintro (h1 | h1)
      · exact .inl h1
      · exact .inr ⟨h1, fun y hy e => by have := hL y hy; rw [e] at this; exact kl_irr _ this⟩
    · rintro (h1 | ⟨h1, _⟩)
      · exact .inl h1
      · exact .inr h1
  | cons r R =>
    have hr : ¬ key r < key t := by
      have := List.head?_dropWhile_not (ltW key (key t)) l
      rw [hR] at this
      simpa [ltW] using this
    rw [hR] at hsplit
    by_cases he : key r = key t
    · have hi : insT key l t = l := by unfold insT; rw [hR]; simp [he]
      rw [hi]
      refine ⟨h, fun x => ⟨fun hx => .inl hx, ?_⟩⟩
      rintro (h1 | ⟨_, h1⟩)
      · exact h1
      · exact absurd he (h1 r (by rw [← hsplit]; simp))
    · have hi : insT key l t = l.takeWhile (ltW key (key t)) ++ t :: r :: R := by unfold insT; rw [hR]; simp [he]
      have htr : key t < key r := by
        rcases kl_tri (key t) (key r) with h1 | h1 | h1
        · exact h1
        · exact absurd h1.symm he
        · exact absurd h1 hr
      have hpw := h
      rw [← hsplit] at hpw
      obtain ⟨p1, p2, p3⟩ := List.pairwise_append.1 hpw
      obtain ⟨p4, p5⟩ := List.pairwise_cons.1 p2
      have htR : ∀ b ∈ r :: R, key t < key b := fun b hb => by
        rcases List.mem_cons.1 hb with rfl | hb
        · exact htr
        · exact kl_tr htr (p4 b hb)
      rw [hi]
      refine ⟨List.pairwise_append.2 ⟨p1, List.pairwise_cons.2 ⟨htR, p2⟩, fun a ha b hb => ?_⟩, fun x => ?_⟩
      · rcases List.mem_cons.1 hb with rfl | hb
        · exact hL a ha
        · exact p3 a ha b hb
      · have hmem : x ∈ l ↔ x ∈ l.takeWhile (ltW key (key t)) ∨ x ∈ r :: R := by rw [← List.mem_append, hsplit]
        rw [hmem, List.mem_append, List.mem_cons]
        constructor
        · rintro (h1 | h1 | h1)
          · exact .inl (.inl h1)
          · refine .inr ⟨h1, fun y hy e => ?_⟩
            rw [← hsplit] at hy
            rcases List.mem_append.1 hy with hy | hy
            · have := hL y hy; rw [e] at this; exact kl_irr _ this
            · have := htR y hy; rw [e] at this; exact kl_irr _ this
          · exact .inl (.inr h1)
        · rintro ((h1 | h1) | ⟨h1, _⟩)
          · exact .inl h1
          · exact .inr (.inr h1)
          · exact .inr (.inl h1)
theorem rec_snoc {motive : List α → Prop} (nil : motive []) (snoc : ∀ l t, motive l → motive (l ++ [t])) (l : List α) : motive l := by
  have : ∀ n (l : List α), l.length = n → motive l := by
    intro n
    induction n with
    | zero => intro l hl; rw [List.length_eq_zero_iff.1 hl]; exact nil
    | succ n ih =>
      intro l hl
      obtain ⟨X, x, rfl⟩ := last_of (L := l) (by rintro rfl; simp at hl)
      exact snoc X x (ih X (by simpa using hl))
  exact this _ l rfl
theorem srtT_spec : ∀ (l : List α), (srtT key l).Pairwise (fun a b => key a < key b) ∧ ∀ x, x ∈ srtT key l ↔ l.find? (fun e => decide (key e = key x)) = some x := by
  intro l
  induction l using rec_snoc with
  | nil => simp [srtT_nil]
  | snoc l t ih =>
    obtain ⟨h1, h2⟩ := ih
    obtain ⟨g1, g2⟩ := insT_spec h1 t
    rw [srtT_push]
    refine ⟨g1, fun x => ?_⟩
    rw [g2 x, h2 x, List.find?_append]
    constructor
    · rintro (h | ⟨rfl, h⟩)
      · rw [h]; rfl
      · have hn : l.find? (fun e => decide (key e = key x)) = none := by
          rw [List.find?_eq_none]
          intro y hy hk
          simp only [decide_eq_true_eq] at hk
          have hsome : (l.find? (fun e => decide (key e = key x))).isSome := by rw [List.find?_isSome]; exact ⟨y, hy, by simpa using hk⟩
          obtain ⟨z, hz⟩ := Option.isSome_iff_exists.1 hsome
          have hkz : key z = key x := by have := List.find?_some hz; simpa using this
          refine h z ((h2 z).2 ?_) hkz
          rw [hkz]; exact hz
        rw [hn]; simp
    · intro h
      cases hf : l.find? (fun e => decide (key e = key x)) with
      | some z => rw [hf] at h; simp at h; subst h; exact .inl rfl
      | none =>
        rw [hf] at h
        simp only [Option.none_or, List.find?_cons] at h
        split at h
        · injection h with h
          subst h
          refine .inr ⟨rfl, fun y hy e => ?_⟩
          have := (h2 y).1 hy
          rw [e] at this; rw [this] at hf; cases hf
        · cases h
/-- Sorted stably, and each key once: as one by one. -/
theorem dedup_srtT {l l' : List α} (hr : Rk key l l') (hs : Srt key l') : dedup key l' = srtT key l := by
  obtain ⟨a1, a2⟩ := dedup_rise hs
  obtain ⟨b1, b2⟩ := srtT_spec (key := key) l
  exact rise_ext a1 b1 fun x => by rw [a2 x, b2 x, hr.find]
theorem dedA_map {f : β → α} {kb : β → List UInt8} : ∀ (l : List β) (k : List UInt8), (∀ x ∈ l, kb x = key (f x)) → (dedA kb k l).map f = dedA key k (l.map f)
  | [], _, _ => rfl
  | y :: l, k, h => by
    have hy := h y (List.mem_cons_self ..)
    have hl := fun x hx => h x (List.mem_cons_of_mem _ hx)
    by_cases hk : kb y = k
    · rw [dedA_same hk, List.map_cons, dedA_same (by rw [← hy]; exact hk)]; exact dedA_map l k hl
    · rw [dedA_other hk, List.map_cons, List.map_cons, dedA_other (by rw [← hy]; exact hk), dedA_map l _ hl, hy]
theorem dedup_map {f : β → α} {kb : β → List UInt8} {l : List β} (h : ∀ x ∈ l, kb x = key (f x)) : (dedup kb l).map f = dedup key (l.map f) := by
  cases l with
  | nil => rfl
  | cons y l =>
    show f y :: (dedA kb (kb y) l).map f = f y :: dedA key (key (f y)) (l.map f)
    rw [dedA_map l _ (fun x hx => h x (List.mem_cons_of_mem _ hx)), h y (List.mem_cons_self ..)]
theorem Rk.map {f : β → α} {kb : β → List UInt8} {a b : List β} (h : Rk kb a b) (hk : ∀ x ∈ a, kb x = key (f x)) : Rk key (a.map f) (b.map f) := by
  refine ⟨by simp [h.1], fun k => ?_⟩
  have aux : ∀ l : List β, (∀ x ∈ l, kb x = key (f x)) → (l.map f).filter (fun e => decide (key e = k)) = (l.filter (fun e => decide (kb e = k))).map f := by
    intro l hl
    rw [List.filter_map]
    congr 1
    apply List.filter_congr
    intro x hx
    simp [hl x hx]
  rw [aux b (fun x hx => hk x (h.mem.1 hx)), aux a hk, h.2 k]
theorem Srt.map {f : β → α} {kb : β → List UInt8} {a : List β} (h : Srt kb a) (hk : ∀ x ∈ a, kb x = key (f x)) : Srt key (a.map f) := by
  unfold Srt at *
  rw [List.pairwise_map]
  exact h.imp_of_mem (fun {x y} hx hy hxy => by rw [← hk x hx, ← hk y hy]; exact hxy)
theorem dedup_mem {l : List α} : ∀ x ∈ dedup key l, x ∈ l := by
  have aux : ∀ (l : List α) (k : List UInt8), ∀ x ∈ dedA key k l, x ∈ l := by
    intro l
    induction l with
    | nil => intro k x hx; cases hx
    | cons y l ih =>
      intro k x hx
      by_cases hk : key y = k
      · rw [dedA_same hk] at hx; exact List.mem_cons_of_mem _ (ih k x hx)
      · rw [dedA_other hk] at hx
        rcases List.mem_cons.1 hx with rfl | hx
        · exact List.mem_cons_self ..
        · exact List.mem_cons_of_mem _ (ih _ x hx)
  intro x hx
  cases l with
  | nil => cases hx
  | cons y l =>
    rcases List.mem_cons.1 hx with rfl | hx
    · exact List.mem_cons_self ..
    · exact List.mem_cons_of_mem _ (aux _ _ x hx)
end
end Go.AS


namespace Go.AS
open Go
set_option linter.unusedVariables false
set_option linter.unusedSimpArgs false

/-! Texts: their order. -/
abbrev bl (s : ByteArray) : List UInt8 := s.data.toList
theorem bl_inj {a b : ByteArray} : bl a = bl b ↔ a = b := by
  constructor
  · intro h; cases a; cases b; congr; exact Array.toList_inj.1 h
  · rintro rfl; rfl
theorem ltS (a b : ByteArray) : binA .lss (.string a) (.string b) = some (.bool (decide (bl a < bl b))) := by
  simp only [binA, toList_data, bytesLess_lt]
theorem leS (a b : ByteArray) : binA .leq (.string a) (.string b) = some (.bool (decide (¬ bl b < bl a))) := by
  simp only [binA, toList_data, bytesLess_lt]
  congr 2
  rw [Bool.eq_iff_iff]
  simp only [Bool.or_eq_true, decide_eq_true_eq, beq_iff_eq]
  constructor
  · rintro (h | h)
    · exact kl_asym h
    · rw [show bl a = bl b from h]; exact kl_irr _
  · intro h
    rcases kl_tri (bl a) (bl b) with h1 | h1 | h1
    · exact .inl h1
    · exact .inr h1
    · exact absurd h1 h
theorem gtS (a b : ByteArray) : binA .gtr (.string a) (.string b) = some (.bool (decide (bl b < bl a))) := by
  have := leS a b
  simp only [binA, Option.some.injEq, Value.bool.injEq] at this ⊢
  rw [this]
  by_cases h : bl b < bl a <;> simp [h]
theorem decS {a b : ByteArray} : decide (a = b) = decide (bl a = bl b) := by
  rw [Bool.eq_iff_iff]; simp only [decide_eq_true_eq]; exact bl_inj.symm

section
variable {A B : AH} {sz n : Nat} {v x : Value} {cs : List Value}
theorem get_snoc {b : Blk} : (A ++ [b])[A.length]? = some b := by simp
theorem load_row {i o : Nat} {cs : List Value} {st : St} {ex : Bool} {v : Value} (h : A[i]? = some (.row cs st sz ex)) (hst : st ≠ .dead) (hv : cs[o]? = some v) : sLoad1 A (.pointer (some ⟨i, o, none⟩)) = some (v, A) := row_load h hst hv
end
end Go.AS
