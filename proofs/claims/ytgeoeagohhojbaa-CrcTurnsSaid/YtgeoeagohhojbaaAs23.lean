import Derived.Test.YtgeoeagohhojbaaAs22
namespace Go.AS
open Go
set_option linter.unusedVariables false
set_option linter.unusedSimpArgs false

/-- A slice whose row is the call's own, and stands behind block a0. -/
def OwnS (a0 : Nat) (A : AH) (sz : Nat) (v : Value) (n : Nat) (cs : List Value) : Prop :=
  cs.length = n * sz ∧ ((v = .slice none 0 0 ∧ n = 0) ∨ (v = .slice (some zmk) 0 0 ∧ n = 0) ∨
  ∃ i o c rc ex, v = .slice (some ⟨i, o, none⟩) n c ∧ n ≤ c ∧ a0 ≤ i ∧ A[i]? = some (.row rc .own sz ex) ∧ o + n * sz ≤ rc.length ∧ ∀ j, j < n * sz → rc[o + j]? = cs[j]?)
def OwnB (a0 : Nat) (A : AH) (v : Value) (bs : List UInt8) : Prop := OwnS a0 A 1 v bs.length (bs.map by8)

section
variable {A A0 B : AH} {v : Value} {sz n a0 : Nat} {cs : List Value}

theorem OwnS.sl (h : OwnS a0 A sz v n cs) : Sl A sz v n cs := by
  obtain ⟨h0, h⟩ := h
  refine ⟨h0, ?_⟩
  rcases h with h | h | ⟨i, o, c, rc, ex, h1, h2, h3, h4, h5, h6⟩
  · exact .inl h
  · exact .inr (.inl h)
  · exact .inr (.inr ⟨i, o, c, rc, .own, ex, h1, h2, h4, by simp, h5, h6⟩)
theorem OwnB.byt {bs : List UInt8} (h : OwnB a0 A v bs) : Byt A v bs := OwnS.sl h
theorem OwnS.nil (a0 : Nat) (A : AH) (sz : Nat) : OwnS a0 A sz (.slice none 0 0) 0 [] := ⟨by simp, .inl ⟨rfl, rfl⟩⟩
theorem OwnB.nil (a0 : Nat) (A : AH) : OwnB a0 A (.slice none 0 0) [] := OwnS.nil a0 A 1
theorem OwnS.le (h : OwnS a0 A sz v n cs) (hl : Le A B) : OwnS a0 B sz v n cs := by
  obtain ⟨h0, h⟩ := h
  refine ⟨h0, ?_⟩
  rcases h with h | h | ⟨i, o, c, rc, ex, h1, h2, h3, h4, h5, h6⟩
  · exact .inl h
  · exact .inr (.inl h)
  · exact .inr (.inr ⟨i, o, c, rc, ex, h1, h2, h3, hl.get h4, h5, h6⟩)
theorem OwnS.mono {b0 : Nat} (h : OwnS a0 A sz v n cs) (hb : b0 ≤ a0) : OwnS b0 A sz v n cs := by
  obtain ⟨h0, h⟩ := h
  refine ⟨h0, ?_⟩
  rcases h with h | h | ⟨i, o, c, rc, ex, h1, h2, h3, h4, h5, h6⟩
  · exact .inl h
  · exact .inr (.inl h)
  · exact .inr (.inr ⟨i, o, c, rc, ex, h1, h2, by omega, h4, h5, h6⟩)

theorem Le.of_get {A B : AH} (h : ∀ i, i < A.length → B[i]? = A[i]?) (hl : A.length ≤ B.length) : Le A B := by
  refine ⟨B.drop A.length, ?_⟩
  apply List.ext_getElem?
  intro i
  rcases Nat.lt_or_ge i A.length with hi | hi
  · rw [List.getElem?_append_left hi, h i hi]
  · rw [List.getElem?_append_right hi, List.getElem?_drop, Nat.add_sub_cancel' hi]
theorem Le.set {A B : AH} (h : Le A B) {i : Nat} {b : Blk} (hi : A.length ≤ i) : Le A (B.set i b) := by
  refine Le.of_get (fun j hj => ?_) (by rw [List.length_set]; exact h.len)
  rw [List.getElem?_set_ne (by omega)]
  obtain ⟨r, rfl⟩ := h
  rw [List.getElem?_append_left hj]
theorem Le.app {A B : AH} (h : Le A B) (r : AH) : Le A (B ++ r) := h.trans ⟨r, rfl⟩

theorem appA_none {A : AH} {s : Value} {k sz bytes : Nat} {new : List Value} (hk : 0 < k) {r : List Value × AH × Nat} (h : appBase A s sz = some r) (hb : 2 * ((r.2.2 + k) * bytes) ≤ 2 ^ 48) (hb0 : 0 < bytes)
    (hn : new.length = k * sz) (ho : ones new = true) : appA A s new k sz bytes = some (.slice (some ⟨r.2.1.length, 0, none⟩) (r.2.2 + k) (r.2.2 + k), r.2.1 ++ [Blk.row (r.1 ++ new) .own sz false]) := by
  unfold appA
  rw [if_neg (by omega), h]
  simp only [Option.bind_some]
  rw [if_pos ⟨hb, hb0, hn, ho⟩]

/-- APPEND to a slice of the call's own. -/
theorem app_own (hl : Le A0 A) (h : OwnS A0.length A sz v n cs) {new : List Value} {k bytes : Nat} (hsz : 0 < sz) (hb : 2 * ((n + k) * bytes) ≤ 2 ^ 48) (hb0 : 0 < bytes) (hn : new.length = k * sz) (ho : ones new = true) :
    ∃ v' A', appA A v new k sz bytes = some (v', A') ∧ Le A0 A' ∧ OwnS A0.length A' sz v' (n + k) (cs ++ new) ∧ (∀ i b, A[i]? = some b → (∀ o c, v ≠ .slice (some ⟨i, o, none⟩) n c) → A'[i]? = some b) := by
  obtain ⟨h0, h⟩ := h
  by_cases hk : k = 0
  · subst hk
    have hnew : new = [] := by simpa using hn
    subst hnew
    refine ⟨v, A, ?_, hl, ⟨by simp [h0], ?_⟩, fun i b hb _ => hb⟩
    · unfold appA
      rw [if_pos rfl]
      rcases h with ⟨rfl, _⟩ | ⟨rfl, _⟩ | ⟨i, o, c, rc, ex, rfl, _⟩ <;> rfl
    · rw [List.append_nil]; exact h
  · have fin : ∀ (old : List Value) (A1 : AH), appBase A v sz = some (old, A1, n) → old = cs → Le A0 A1 → A.length ≤ A1.length → (∀ i b, A[i]? = some b → (∀ o c, v ≠ .slice (some ⟨i, o, none⟩) n c) → A1[i]? = some b) →
        ∃ v' A', appA A v new k sz bytes = some (v', A') ∧ Le A0 A' ∧ OwnS A0.length A' sz v' (n + k) (cs ++ new) ∧ (∀ i b, A[i]? = some b → (∀ o c, v ≠ .slice (some ⟨i, o, none⟩) n c) → A'[i]? = some b) := by
      intro old A1 hbase ho1 hle hlen hkeep
      subst ho1
      refine ⟨_, _, appA_none (by omega) hbase hb hb0 hn ho, hle.app _, ⟨by simp [h0, hn, Nat.add_mul], .inr (.inr ⟨A1.length, 0, n + k, old ++ new, false, rfl, Nat.le_refl _, hle.len, by simp, by simp [h0, hn, Nat.add_mul], fun j _ => by rw [Nat.zero_add]⟩)⟩, ?_⟩
      intro i b hb hv
      have := hkeep i b hb hv
      rw [List.getElem?_append_left (lt_of_get this)]
      exact this
    rcases h with ⟨rfl, rfl⟩ | ⟨rfl, rfl⟩ | ⟨i, o, c, rc, ex, rfl, h1, h2, h3, h4, h5⟩
    · have : cs = [] := by simpa using h0
      exact fin [] A rfl this.symm hl (Nat.le_refl _) (fun i b hb _ => hb)
    · have : cs = [] := by simpa using h0
      exact fin [] A rfl this.symm hl (Nat.le_refl _) (fun i b hb _ => hb)
    · have hold : (rc.drop o).take (n * sz) = cs := by
        apply List.ext_getElem?
        intro j
        rcases Nat.lt_or_ge j (n * sz) with hj | hj
        · rw [List.getElem?_take_of_lt hj, List.getElem?_drop, h5 j hj]
        · rw [List.getElem?_eq_none (by simp; omega), List.getElem?_eq_none (by omega)]
      have hbase : appBase A (.slice (some ⟨i, o, none⟩) n c) sz = some ((rc.drop o).take (n * sz), (if ex = true ∧ o + n * sz = rc.length then A else A.set i (Blk.row rc .dead sz ex)), n) := by
        unfold appBase
        simp only [h3]
        rw [if_pos ⟨trivial, hsz, h4⟩]
      refine fin _ _ hbase hold ?_ ?_ ?_
      · split
        · exact hl
        · exact hl.set h2
      · split
        · exact Nat.le_refl _
        · rw [List.length_set]; exact Nat.le_refl _
      · intro k b hb hv
        split
        · exact hb
        · rw [List.getElem?_set_ne ?_]
          · exact hb
          · rintro rfl
            exact hv o c rfl

theorem Byt.ones8 (bs : List UInt8) : ones (bs.map by8) = true := by
  unfold ones
  rw [List.all_eq_true]
  intro v hv
  rw [List.mem_map] at hv
  obtain ⟨b, _, rfl⟩ := hv
  rfl

/-- append(v, x...): bytes. -/
theorem app_bytes {bs xs : List UInt8} {x : Value} (hl : Le A0 A) (h : OwnB A0.length A v bs) (hx : Byt A x xs) (hb : bs.length + xs.length ≤ 2 ^ 47) :
    ∃ v' A', sApp A v x 1 1 = some (v', A') ∧ Le A0 A' ∧ OwnB A0.length A' v' (bs ++ xs) ∧ (∀ i b, A[i]? = some b → (∀ o c, v ≠ .slice (some ⟨i, o, none⟩) bs.length c) → A'[i]? = some b) := by
  obtain ⟨v', A', h1, h2, h3, h4⟩ := app_own (new := xs.map by8) (k := xs.length) (bytes := 1) hl h (by omega) (by omega) (by omega) (by simp) (Byt.ones8 xs)
  refine ⟨v', A', ?_, h2, ?_, h4⟩
  · have hr := hx.rd
    obtain ⟨_, hx⟩ := hx
    have : ∃ p c, x = .slice p xs.length c := by
      rcases hx with ⟨rfl, h⟩ | ⟨rfl, h⟩ | ⟨i, o, c, rc, st, ex, rfl, _⟩
      · exact ⟨_, _, by rw [h]⟩
      · exact ⟨_, _, by rw [h]⟩
      · exact ⟨_, _, rfl⟩
    obtain ⟨p, c, rfl⟩ := this
    unfold sApp
    simp only [hr, Option.bind_some, h1]
  · unfold OwnB
    rw [List.length_append, List.map_append]
    exact h3

/-- A literal of nothing. -/
theorem lit_none (A : AH) (z : List Value) (sz : Nat) : sLit A z sz 0 [] = some (.slice (some ⟨A.length, 0, none⟩) 0 0, A ++ [.row [] .own sz true]) := rfl
theorem own_lit_none {A : AH} (hl : Le A0 A) : OwnB A0.length (A ++ [.row [] .own 1 true]) (.slice (some ⟨A.length, 0, none⟩) 0 0) [] :=
  ⟨rfl, .inr (.inr ⟨A.length, 0, 0, [], true, rfl, Nat.le_refl _, hl.len, by simp, by simp, fun j hj => by simp at hj⟩)⟩

/-- A store of one cell. -/
theorem store1 {i o : Nat} {rc : List Value} {ex : Bool} {x : Value} (h : A[i]? = some (.row rc .own sz ex)) (ho : o < rc.length) (hx : x.cells = #[x]) (hx1 : x.oneCell' = true) :
    sStore A (.pointer (some ⟨i, o, none⟩)) x 1 = some (undef, A.set i (.row (rc.set o x) .own sz ex)) := by
  unfold sStore
  simp only [hx]
  rw [if_pos (by simp)]
  unfold wr
  simp only [h]
  have : ones [x] = true := by simp [ones, hx1]
  rw [if_pos ⟨by simp; omega, by simpa using this⟩]
  simp only [Option.map_some]
  congr 3
  unfold setAll
  apply congrArg (Blk.row · St.own sz ex)
  apply List.ext_getElem?
  intro j
  simp only [List.getElem?_append, List.getElem?_set, List.length_append, List.length_take, List.getElem?_drop, List.getElem?_take]
  simp
  rcases Nat.lt_trichotomy j o with hj | hj | hj
  · rw [if_pos (by omega), if_pos (by omega), if_pos hj, if_neg (by omega)]
  · subst hj
    simp [ho, Nat.min_eq_left (Nat.le_of_lt ho)]
  · rw [if_neg (by omega), if_neg (by omega)]
    congr 1
    omega
theorem iaddr1 {i o n c j : Nat} (h : j < n) : sIaddr A (.slice (some ⟨i, o, none⟩) n c) (ii j) 1 = some (.pointer (some ⟨i, o + j, none⟩), A) := by
  unfold sIaddr
  simp only [ii, asI, Option.bind_some]
  rw [if_pos ⟨by omega, by omega⟩]
  simp
theorem mk_bytes (A : AH) (w : Nat) (h : w ≤ 2 ^ 40) : sMk A [.int .u8 0] 1 (ii w) (ii w) = some (.slice (some ⟨A.length, 0, none⟩) w w, A ++ [.row ((List.replicate w (0 : UInt8)).map by8) .own 1 true]) := by
  unfold sMk
  simp only [ii, asI, Option.bind_some]
  rw [if_pos ⟨by omega, by omega, by omega, by omega, by simp⟩]
  simp only [Int.toNat_natCast, decide_true, List.length_singleton]
  congr 5
  induction w with
  | zero => rfl
  | succ w ih => rw [List.replicate_succ, List.flatten_cons, ih (by omega), List.replicate_succ, List.map_cons]; rfl
theorem store_by8 {i o : Nat} {rc : List UInt8} {ex : Bool} {x : UInt8} (h : A[i]? = some (.row (rc.map by8) .own sz ex)) (ho : o < rc.length) :
    sStore A (.pointer (some ⟨i, o, none⟩)) (by8 x) 1 = some (undef, A.set i (.row ((rc.set o x).map by8) .own sz ex)) := by
  rw [store1 h (by simpa using ho) rfl rfl, List.map_set]
theorem appz_eq {n : Int} {z : List Value} {s : Value} {b : Nat} (h : 0 ≤ n ∧ n < 2 ^ 62) : sAppz A s (.int .i64 n) z b = appA A s ((List.replicate n.toNat z).flatten) n.toNat z.length b := by
  unfold sAppz
  show (if 0 ≤ n ∧ n < 2 ^ 62 then appA A s ((List.replicate n.toNat z).flatten) n.toNat z.length b else none) = _
  rw [if_pos h]
theorem set_last (A : AH) (b b' : Blk) : (A ++ [b]).set A.length b' = A ++ [b'] := by
  rw [List.set_append_right _ _ (Nat.le_refl _)]
  simp
theorem get_last (A : AH) (b : Blk) : (A ++ [b])[A.length]? = some b := by simp
theorem fill_step {α : Type} (l : List α) (z x : α) {w k : Nat} (hl : l.length = w) (hk : k < w) (hx : l[k]? = some x) :
    (l.take k ++ List.replicate (w - k) z).set k x = l.take (k + 1) ++ List.replicate (w - (k + 1)) z := by
  apply List.ext_getElem?
  intro j
  simp only [List.getElem?_set, List.getElem?_append, List.length_append, List.length_take, List.length_replicate, List.getElem?_take, List.getElem?_replicate]
  rw [Nat.min_eq_left (by omega), Nat.min_eq_left (by omega)]
  rcases Nat.lt_trichotomy j k with h | h | h
  · rw [if_neg (by omega), if_pos h, if_pos h, if_pos (by omega), if_pos (by omega)]
  · subst h
    rw [if_pos rfl, if_pos (by omega), if_pos (by omega), if_pos (by omega), hx]
  · have e1 : ¬ (k = j) := by omega
    have e2 : ¬ (j < k) := by omega
    have e3 : ¬ (j < k + 1) := by omega
    simp only [e1, e2, e3, if_false]
    by_cases h2 : j < w
    · have f1 : j - k < w - k := by omega
      have f2 : j - (k + 1) < w - (k + 1) := by omega
      simp only [f1, f2, if_true]
    · have f1 : ¬ (j - k < w - k) := by omega
      have f2 : ¬ (j - (k + 1) < w - (k + 1)) := by omega
      simp only [f1, f2, if_false]
theorem shr_ii (n : Nat) (k : IntKind) (m : Nat) (h : m ≤ 64) : binA .shr (ii n) (.int k m) = some (ii ((n / 2 ^ m : Nat) : Int)) := by
  simp only [binA]
  have hn : ¬ ((m : Int) < 0) := by omega
  rw [if_neg hn]
  have : min ((m : Int).toNat) IntKind.i64.bits = m := by
    show min ((m : Int).toNat) 64 = m
    simp; omega
  rw [this, show ((2 : Int) ^ m) = ((2 ^ m : Nat) : Int) by simp, Int.fdiv_eq_ediv_of_nonneg _ (Int.natCast_nonneg _)]
  simp
theorem mul_ii (a b : Nat) (h : a * b < 2 ^ 62) : binA .mul (ii a) (ii b) = some (ii ((a * b : Nat) : Int)) := by
  rw [binA_muli _ _ (by rw [← Int.natCast_mul]; omega) (by rw [← Int.natCast_mul]; omega)]
  simp

end
end Go.AS
