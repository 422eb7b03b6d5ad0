/- Lemmas for the proof of a given statement; no conditions. -/
import Derived.Test.YtjbmnlmjngegeaaDoorM6
set_option maxHeartbeats 1000000

namespace Go.AS
open Go
set_option linter.unusedVariables false
set_option linter.unusedSimpArgs false

section
variable {A B C A0 : AH} {v w u x : Value} {sz s2 n m a0 b0 i k : Nat} {cs ds e z : List Value} {es fs : List (List Value)}
theorem faddr_any {p q : Value} {o : Nat} {A' : AH} (h : sFaddr A p o = some (q, A')) (B : AH) : sFaddr B p o = some (q, B) := by
  unfold sFaddr at h ⊢
  split at h
  · injection h with h; injection h with h _; subst h; rfl
  · cases h
theorem faddr_blk {p q : Value} {o : Nat} {A' : AH} (h : sFaddr A p o = some (q, A')) : blkOf q = blkOf p := by
  unfold sFaddr at h
  split at h
  · injection h with h; injection h with h _; subst h; rfl
  · cases h
theorem load1_keep {p x : Value} (h : sLoad1 A p = some (x, A)) (hB : ∀ k b, A[k]? = some b → k ∈ blkOf p → B[k]? = some b) : sLoad1 B p = some (x, B) := by
  unfold sLoad1 at h ⊢
  split at h
  · rename_i i o
    rw [Option.bind_eq_some_iff] at h
    obtain ⟨r, q1, q2⟩ := h
    rw [Option.map_eq_some_iff] at q2
    obtain ⟨l, q2, q3⟩ := q2
    injection q3 with q3 q4
    obtain ⟨r1, r2, r3, r4⟩ := r
    obtain ⟨g1, g2⟩ := getRow_some q1
    have g3 := hB i _ g1 (by simp [blkOf])
    have : getRow B i = some (r1, r2, r3, r4) := by unfold getRow; simp only [g3, if_neg g2]
    simp only [this, Option.bind_some, q2, Option.map_some, q3]
  · cases h
/-- A part of an element is read. -/
theorem Sl.elf (h : Sl A sz v es.length es.flatten) (he : ∀ e ∈ es, e.length = sz ∧ ones e = true) {j o : Nat} {e : List Value} {x : Value} (hj : es[j]? = some e) (ho : e[o]? = some x) :
    ∃ p q, blkOf q = blkOf v ∧ (∀ (B : AH) (n : Int), n = (j : Int) → sIaddr B v (.int .i64 n) sz = some (p, B)) ∧ (∀ B, sFaddr B p o = some (q, B)) ∧ sLoad1 A q = some (x, A) := by
  have hel := (he e (List.mem_of_getElem? hj)).1
  have hlt := lt_of_get ho
  obtain ⟨p, q, p1, p2, p3⟩ := h.field (v0 := x) (lt_of_get hj) (off := o) (by omega) (by rw [flat_at he hj (by omega)]; exact ho)
  refine ⟨p, q, ?_, ?_, faddr_any p2, p3⟩
  · rw [faddr_blk p2, iaddr_blk p1]
  · rintro B n rfl; exact iaddr_any p1 B
theorem Sl.elfL (h : Sl A sz v es.length es.flatten) (he : ∀ e ∈ es, e.length = sz ∧ ones e = true) {j o : Nat} {e : List Value} {x : Value} (hj : es[j]? = some e) (ho : e[o]? = some x) :
    ∃ p q, (∀ (B : AH) (n : Int), n = (j : Int) → sIaddr B v (.int .i64 n) sz = some (p, B)) ∧ (∀ B, sFaddr B p o = some (q, B)) ∧ ∀ B, Le A B → sLoad1 B q = some (x, B) := by
  obtain ⟨p, q, _, p1, p2, p3⟩ := h.elf he hj ho
  exact ⟨p, q, p1, p2, fun B hB => load1_keep p3 (fun k b hb _ => hB.get hb)⟩
/-- Two values lead to blocks apart. -/
def Ap (v w : Value) : Prop := ∀ j ∈ blkOf v, j ∉ blkOf w
theorem Ap.symm (h : Ap v w) : Ap w v := fun j hj hk => h j hk hj
theorem Ap.grow {v' : Value} {n : Nat} (h : Ap v w) (hb : ∀ j ∈ blkOf v', j ∈ blkOf v ∨ n ≤ j) (hw : ∀ j ∈ blkOf w, j < n) : Ap v' w := fun j hj hk => by
  rcases hb j hj with h1 | h1
  · exact h j h1 hk
  · have := hw j hk; omega
theorem Ap.nil {n c : Nat} : Ap (.slice none n c) w := fun j hj => by cases hj
theorem OwnS.lt {sz n : Nat} {cs : List Value} (h : OwnS a0 A sz v n cs) : ∀ j ∈ blkOf v, j < A.length := fun j hj => (h.ge j hj).2
theorem sApp_blk {s x : Value} {bytes : Nat} {v' : Value} {A' : AH} (h : sApp A s x sz bytes = some (v', A')) : ∀ j ∈ blkOf v', j ∈ blkOf s ∨ A.length ≤ j := by
  intro j hj
  have hx : ∃ p k c, x = .slice p k c := by
    unfold sApp at h
    split at h
    · exact ⟨_, _, _, rfl⟩
    · cases h
  obtain ⟨p, k, c, rfl⟩ := hx
  by_cases hk : k = 0
  · subst hk
    unfold sApp at h
    simp only [Option.bind_eq_some_iff] at h
    obtain ⟨new, _, h⟩ := h
    unfold appA at h
    rw [appI_zero, Option.none_or] at h
    unfold appA1 at h
    rw [appF_zero, Option.none_or] at h
    unfold appA0 at h
    rw [if_pos rfl] at h
    split at h
    · injection h with h; injection h with h _; subst h; exact .inl hj
    · injection h with h; injection h with h _; subst h; exact .inl hj
    · cases h
  · rcases app_fresh rfl hk h with e | e
    · rw [e, List.mem_singleton] at hj; exact .inr (by omega)
    · rw [e] at hj; exact .inl hj
theorem sApps_blk {s : Value} {t : ByteArray} {bytes : Nat} {v' : Value} {A' : AH} (h : sApps A s (.string t) bytes = some (v', A')) : ∀ j ∈ blkOf v', j ∈ blkOf s ∨ A.length ≤ j := by
  intro j hj
  have h : appA A s (u8s t) t.size 1 bytes = some (v', A') := h
  unfold appA at h
  cases hi : appI A s (u8s t) t.size 1 bytes with
  | some r =>
    rw [hi] at h
    obtain rfl := Option.some.inj h
    unfold appI at hi
    split at hi
    · split at hi
      · split at hi
        · injection hi with hi; injection hi with h2 h3; subst h2; exact .inl hj
        · cases hi
      · cases hi
    · cases hi
  | none =>
  rw [hi, Option.none_or] at h
  unfold appA1 at h
  cases hf : appF A s (u8s t) t.size 1 bytes with
  | some r =>
    rw [hf] at h
    obtain rfl := Option.some.inj h
    unfold appF at hf
    split at hf
    · split at hf
      · split at hf
        · injection hf with hf; injection hf with h2 h3; subst h2; simp only [blkOf, List.mem_singleton] at hj; exact .inr (by omega)
        · cases hf
      · cases hf
    · cases hf
  | none =>
  rw [hf, Option.none_or] at h
  unfold appA0 at h
  split at h
  · split at h
    · injection h with h; injection h with h _; subst h; exact .inl hj
    · injection h with h; injection h with h _; subst h; exact .inl hj
    · cases h
  · rw [Option.bind_eq_some_iff] at h
    obtain ⟨q, h1, h⟩ := h
    split at h
    · injection h with h; injection h with h _; subst h
      simp only [blkOf, List.mem_singleton] at hj
      rw [appBase_len h1] at hj
      exact .inr (by omega)
    · cases h
/-- Elements of another slice are appended. -/
theorem OwnE.app {bytes : Nat} (hl : Le A0 A) (h : OwnE A0.length A sz v es) (hx : Sl A sz x fs.length fs.flatten) (hf : ∀ e ∈ fs, e.length = sz ∧ ones e = true) (hsz : 0 < sz) (hb : 2 * ((es.length + fs.length) * bytes) ≤ 2 ^ 48) (hb0 : 0 < bytes) :
    ∃ v' A', sApp A v x sz bytes = some (v', A') ∧ Le A0 A' ∧ OwnE A0.length A' sz v' (es ++ fs) ∧ KeepV A v A' := by
  obtain ⟨v', A', e1, e2, e3, e4⟩ := app_cells (bytes := bytes) hl h.2 hx (ones_flatten hf) hsz hb hb0
  refine ⟨v', A', e1, e2, ⟨?_, by simpa using e3⟩, KeepV.of_own h.2 (sApp_len e1) e4⟩
  intro y hy
  rcases List.mem_append.1 hy with hy | hy
  · exact h.1 y hy
  · exact hf y hy
theorem lit_noneE (A : AH) (z : List Value) (sz : Nat) (hl : Le A0 A) : sLit A z sz 0 [] = some (.slice (some ⟨A.length, 0, none⟩) 0 0, A ++ [.row [] .own sz true]) ∧ OwnE A0.length (A ++ [.row [] .own sz true]) sz (.slice (some ⟨A.length, 0, none⟩) 0 0) [] := by
  refine ⟨rfl, (fun e he => by cases he), by simp, .inr (.inr ⟨A.length, 0, 0, [], true, rfl, Nat.le_refl _, hl.len, get_snoc, by simp, by simp⟩)⟩
theorem all2_take {α β : Type} {R : α → β → Prop} : ∀ {a : List α} {b : List β} (n : Nat), All2 R a b → All2 R (a.take n) (b.take n)
  | [], [], n, _ => by simp [All2]
  | x :: a, y :: b, 0, _ => by simp [All2]
  | x :: a, y :: b, n + 1, h => ⟨h.1, all2_take n h.2⟩
theorem all2_drop {α β : Type} {R : α → β → Prop} : ∀ {a : List α} {b : List β} (n : Nat), All2 R a b → All2 R (a.drop n) (b.drop n)
  | [], [], n, _ => by simp [All2]
  | x :: a, y :: b, 0, h => h
  | x :: a, y :: b, n + 1, h => all2_drop n h.2
theorem all2_get {α β : Type} {R : α → β → Prop} {a : List α} {b : List β} (h : All2 R a b) {j : Nat} {y : β} (hj : b[j]? = some y) : ∃ x, a[j]? = some x ∧ R x y := by
  have := All2.len _ _ h
  obtain ⟨x, hx⟩ := get_some (l := a) (k := j) (by have := lt_of_get hj; omega)
  exact ⟨x, hx, All2.get _ _ h j x y hx hj⟩
theorem all2_get' {α β : Type} {R : α → β → Prop} {a : List α} {b : List β} (h : All2 R a b) {j : Nat} {x : α} (hj : a[j]? = some x) : ∃ y, b[j]? = some y ∧ R x y := by
  have := All2.len _ _ h
  obtain ⟨y, hy⟩ := get_some (l := b) (k := j) (by have := lt_of_get hj; omega)
  exact ⟨y, hy, All2.get _ _ h j x y hj hy⟩
end
section
variable {α : Type} {key : α → List UInt8}
theorem while_at {p : α → Bool} {l : List α} {q : Nat} (h1 : ∀ x ∈ l.take q, p x = true) (h3 : ∀ r, l[q]? = some r → p r = false) : l.takeWhile p = l.take q ∧ l.dropWhile p = l.drop q := by
  induction q generalizing l with
  | zero =>
    cases l with
    | nil => simp
    | cons x l => have := h3 x rfl; simp [this]
  | succ q ih =>
    cases l with
    | nil => simp
    | cons x l =>
      have hx := h1 x (by simp)
      obtain ⟨a, b⟩ := ih (l := l) (fun y hy => h1 y (by simp [hy])) (fun r hr => h3 r (by simpa using hr))
      simp [hx, a, b]
theorem insT_same {l : List α} {t r : α} {q : Nat} (h1 : ∀ x ∈ l.take q, key x < key t) (hq : l[q]? = some r) (hr : key r = key t) : insT key l t = l := by
  obtain ⟨a, b⟩ := while_at (p := ltW key (key t)) (l := l) (q := q) (fun x hx => by simpa [ltW] using h1 x hx) (fun r' hr' => by
    rw [hq] at hr'; injection hr' with hr'; subst hr'
    simp only [ltW, decide_eq_false_iff_not, hr]; exact kl_irr _)
  unfold insT
  rw [b, List.drop_eq_getElem_cons (lt_of_get hq)]
  have : l[q]'(lt_of_get hq) = r := by rw [List.getElem?_eq_getElem (lt_of_get hq)] at hq; exact Option.some.inj hq
  rw [this]
  simp only
  rw [if_pos hr]
theorem insT_new {l : List α} {t : α} {q : Nat} (h1 : ∀ x ∈ l.take q, key x < key t) (hl : q ≤ l.length) (h3 : ∀ r, l[q]? = some r → ¬ key r < key t ∧ key r ≠ key t) : insT key l t = l.take q ++ t :: l.drop q := by
  obtain ⟨a, b⟩ := while_at (p := ltW key (key t)) (l := l) (q := q) (fun x hx => by simpa [ltW] using h1 x hx) (fun r' hr' => by
    simp only [ltW, decide_eq_false_iff_not]; exact (h3 r' hr').1)
  unfold insT
  rw [a, b]
  rcases Nat.lt_or_ge q l.length with hlt | hge
  · have hd := List.drop_eq_getElem_cons hlt
    rw [hd]
    simp only
    rw [if_neg (h3 _ (List.getElem?_eq_getElem hlt)).2]
  · rw [List.drop_of_length_le hge, List.take_of_length_le hge]
end
end Go.AS


namespace Go.AS.C
open Go Go.Proofs
set_option linter.unusedVariables false
set_option linter.unusedSimpArgs false
set_option maxRecDepth 100000

theorem sub_u32 (n : Int) (h0 : 0 ≤ n) (h : n ≤ 32) : binA .sub (.int .u32 32) (.int .u32 n) = some (.int .u32 (32 - n)) := by
  simp only [binA, if_true]
  congr 2
  obtain ⟨m, rfl⟩ : ∃ m : Nat, n = m := ⟨n.toNat, by omega⟩
  have : (32 : Int) - m = ((32 - m : Nat) : Int) := by omega
  rw [this, wrap_u32 _ (by omega)]
theorem ref03_turn_spec {A : AH} {x : W32} {n : Int} {Q : Value → AH → Prop} (h0 : 0 ≤ n) (h : n ≤ 32) (hq : Q (u32 (rotr x n.toNat)) A) : ACalls 1 Tryd.prog chantryref03_turn [u32 x, .int .u32 n] Q A := by
  refine ACalls.of_fits mixed fits_chantryref03_turn rfl ?_
  unfold ic_chantryref03_turn
  have i0 : initA [u32 x, .int .u32 n] 0 = u32 x := rfl
  have i1 : initA [u32 x, .int .u32 n] 1 = .int .u32 n := rfl
  generalize initA [u32 x, .int .u32 n] = a at i0 i1
  simp (maxSteps := 1000000) (disch := omega) only [stepS, reduceIte, Nat.reduceBEq, Nat.reduceEqDiff, tupleOf, stepT, i0, i1, sub_u32, shr32, shl32, binA_or32]
  have e : (32 - n).toNat = 32 - n.toNat := by omega
  rw [e]
  exact hq
theorem ref03_word_spec {A : AH} {v : Value} {bs : List UInt8} {Q : Value → AH → Prop} (hv : Byt A v bs) (hl : 4 ≤ bs.length) (hq : Q (u32 (wordF bs 0)) A) : ACalls 1 Tryd.prog chantryref03_word [v] Q A := by
  refine ACalls.of_fits mixed fits_chantryref03_word rfl ?_
  unfold ic_chantryref03_word
  have i0 : initA [v] 0 = v := rfl
  generalize initA [v] = a at i0
  have at4 : ∀ j : Nat, j < 4 → ∃ p, sIaddr A v (.int .i64 (j : Nat)) 1 = some (p, A) ∧ sLoad1 A p = some (by8 (bs.getD j 0), A) := by
    intro j hj
    have hb : bs[j]? = some (bs.getD j 0) := by
      rw [List.getD_eq_getElem?_getD, List.getElem?_eq_getElem (by omega)]; rfl
    exact hv.at1 hb
  obtain ⟨p0, p01, p02⟩ := at4 0 (by omega)
  obtain ⟨p1, p11, p12⟩ := at4 1 (by omega)
  obtain ⟨p2, p21, p22⟩ := at4 2 (by omega)
  obtain ⟨p3, p31, p32⟩ := at4 3 (by omega)
  have p01' : sIaddr A v (.int .i64 0) 1 = some (p0, A) := p01
  have p11' : sIaddr A v (.int .i64 1) 1 = some (p1, A) := p11
  have p21' : sIaddr A v (.int .i64 2) 1 = some (p2, A) := p21
  have p31' : sIaddr A v (.int .i64 3) 1 = some (p3, A) := p31
  simp (maxSteps := 1000000) (disch := omega) only [stepS, reduceIte, Nat.reduceBEq, Nat.reduceEqDiff, tupleOf, stepT, i0, p01', p02, p11', p12, p21', p22, p31', p32, conv_b32, shl32, binA_or32]
  exact hq
/-- Words of the call's own. -/
def OwnW (a0 : Nat) (A : AH) (w : Value) (ws : List W32) : Prop := OwnS a0 A 1 w ws.length (ws.map u32)
theorem app_word {A A0 : AH} {w : Value} {ws : List W32} (x : W32) (hl : Le A0 A) (h : OwnW A0.length A w ws) (hb : ws.length ≤ 2 ^ 30) :
    sLit A [.int .u32 0] 1 1 [(0, 1, u32 x)] = some (.slice (some ⟨A.length, 0, none⟩) 1 1, A ++ [.row [u32 x] .own 1 true]) ∧
    ∃ w' A', sApp (A ++ [.row [u32 x] .own 1 true]) w (.slice (some ⟨A.length, 0, none⟩) 1 1) 1 4 = some (w', A') ∧ Le A0 A' ∧ OwnW A0.length A' w' (ws ++ [x]) := by
  have l1 := lit1 (A := A) (z := .int .u32 0) (len := 1) (ps := [(0, 1, u32 x)]) [u32 x] rfl rfl (by
    intro y hy
    rw [List.mem_singleton] at hy
    subst hy; exact u32_one _)
  have k1 : Le A (A ++ [.row [u32 x] .own 1 true]) := .push _ _
  obtain ⟨v2, A2, p1, p2, p3, _⟩ := app_cells (bytes := 4) (hl.trans k1) (OwnS.le h k1) (sl_last A (cs := [u32 x]) (st := .own) (ex := true) (c := 1) (by simp) (by simp)) rfl (by omega) (by simp; omega) (by omega)
  rw [List.length_singleton] at l1 p1
  exact ⟨l1, v2, A2, p1, p2, by unfold OwnW; simpa using p3⟩
theorem OwnW.get {a0 : Nat} {A : AH} {w : Value} {ws : List W32} (h : OwnW a0 A w ws) {j : Nat} (hj : j < ws.length) : ∃ p, sIaddr A w (ii j) 1 = some (p, A) ∧ sLoad1 A p = some (u32 (ws.getD j 0), A) := by
  refine h.sl.at1 ?_
  rw [List.getElem?_map, List.getD_eq_getElem?_getD, List.getElem?_eq_getElem hj]
  rfl

theorem ref03_schedule_spec {A : AH} {v : Value} {bs : List UInt8} {Q : Value → AH → Prop} (hv : Byt A v bs) (hl : bs.length = 64) (hq : ∀ A' w, Le A A' → OwnW A.length A' w (schW bs 64) → Q w A') : ACalls 1 Tryd.prog chantryref03_schedule [v] Q A := by
  refine ACalls.of_fits mixed fits_chantryref03_schedule rfl ?_
  unfold ic_chantryref03_schedule
  have i0 : initA [v] 0 = v := rfl
  generalize initA [v] = a at i0
  simp (maxSteps := 1000000) (disch := omega) only [stepS, reduceIte, Nat.reduceBEq, Nat.reduceEqDiff, tupleOf, stepT, i0]
  refine W_loop (fun a' B => ∃ k : Nat, k ≤ 16 ∧ Le A B ∧ OwnW A.length B (a' 3) (schW bs k) ∧ a' 0 = v ∧ a' 4 = ii k) (fun a' _ => 16 - (iv (a' 4)).toNat) ?_ ?_
  · refine ⟨0, by omega, .refl _, ?_⟩
    simp (maxSteps := 1000000) (disch := omega) only [stepS, reduceIte, Nat.reduceBEq, Nat.reduceEqDiff, tupleOf, stepT, i0]
    exact ⟨OwnS.nil _ _ _, rfl⟩
  · rintro a2 B ⟨k, hk, hle, o3, g0, g4⟩
    generalize ex : a2 3 = x at o3
    rcases Nat.lt_or_ge k 16 with hlt | hge
    · obtain ⟨u, u1, u2⟩ := (hv.le hle).from (l := 4 * k) (by omega)
      have u1' : sSll B v (some (.int .i64 (4 * (k : Int)))) none none 1 = some (u, B) := u1
      simp (maxSteps := 1000000) (disch := omega) only [stepS, reduceIte, Nat.reduceBEq, Nat.reduceEqDiff, tupleOf, stepT, g0, g4, u1']
      refine ref03_word_spec u2 (by simp; omega) ?_
      have ew : wordF (bs.drop (4 * k)) 0 = wordF bs k := by
        unfold wordF
        simp only [List.getD_eq_getElem?_getD, List.getElem?_drop, Nat.mul_zero, Nat.add_zero, Nat.zero_add, ← Nat.add_assoc]
      rw [ew]
      obtain ⟨l1, w', B2, p1, p2, p3⟩ := app_word (wordF bs k) hle o3 (by rw [schW_length]; omega)
      simp (maxSteps := 1000000) (disch := omega) only [stepS, reduceIte, Nat.reduceBEq, Nat.reduceEqDiff, tupleOf, stepT, g0, g4, ex, l1, p1]
      refine ⟨⟨k + 1, by omega, p2, ?_, rfl⟩, by omega⟩
      rw [schW, if_pos hlt]
      exact p3
    · have hk16 : k = 16 := by omega
      subst hk16
      simp (maxSteps := 1000000) (disch := omega) only [stepS, reduceIte, Nat.reduceBEq, Nat.reduceEqDiff, tupleOf, stepT, g0, g4, ex]
      refine W_loop (fun a' C => ∃ k : Nat, 16 ≤ k ∧ k ≤ 64 ∧ Le A C ∧ OwnW A.length C (a' 3) (schW bs k) ∧ a' 5 = ii k) (fun a' _ => 64 - (iv (a' 5)).toNat) ?_ ?_
      · refine ⟨16, by omega, by omega, hle, ?_⟩
        simp (maxSteps := 1000000) (disch := omega) only [stepS, reduceIte, Nat.reduceBEq, Nat.reduceEqDiff, tupleOf, stepT, ex]
        exact ⟨o3, rfl⟩
      · rintro a3 C ⟨k, hk1, hk, hlC, o4, f5⟩
        generalize ey : a3 3 = y at o4
        have hlen := schW_length bs k
        rcases Nat.lt_or_ge k 64 with hlt | hge
        · have at_ : ∀ j : Nat, 1 ≤ j → j ≤ k → ∃ p, sIaddr C y (.int .i64 ((k : Int) - j)) 1 = some (p, C) ∧ sLoad1 C p = some (u32 ((schW bs k).getD (k - j) 0), C) := by
            intro j h1 h2
            obtain ⟨p, p1, p2⟩ := o4.get (j := k - j) (by omega)
            rw [show ((k - j : Nat) : Int) = (k : Int) - j by omega] at p1
            exact ⟨p, p1, p2⟩
          obtain ⟨pa, a1, a2'⟩ := at_ 15 (by omega) (by omega)
          obtain ⟨pb, b1, b2⟩ := at_ 2 (by omega) (by omega)
          obtain ⟨pc, c1, c2⟩ := at_ 16 (by omega) (by omega)
          obtain ⟨pd, d1, d2⟩ := at_ 7 (by omega) (by omega)
          have a1' : sIaddr C y (.int .i64 ((k : Int) - 15)) 1 = _ := a1
          have b1' : sIaddr C y (.int .i64 ((k : Int) - 2)) 1 = _ := b1
          have c1' : sIaddr C y (.int .i64 ((k : Int) - 16)) 1 = _ := c1
          have d1' : sIaddr C y (.int .i64 ((k : Int) - 7)) 1 = _ := d1
          have hnext : schW bs (k + 1) = schW bs k ++ [((schW bs k).getD (k - 16) 0 + (schW bs k).getD (k - 7) 0) + sg0 ((schW bs k).getD (k - 15) 0) + sg1 ((schW bs k).getD (k - 2) 0)] := by
            rw [schW, if_neg (by omega)]
          generalize (schW bs k).getD (k - 15) 0 = x15 at a2' hnext
          generalize (schW bs k).getD (k - 2) 0 = x2 at b2 hnext
          generalize (schW bs k).getD (k - 16) 0 = x16 at c2 hnext
          generalize (schW bs k).getD (k - 7) 0 = x7 at d2 hnext
          obtain ⟨l1, w', C2, p1, p2, p3⟩ := app_word (x16 + x7 + sg0 x15 + sg1 x2) hlC o4 (by omega)
          simp (maxSteps := 1000000) (disch := omega) only [stepS, reduceIte, Nat.reduceBEq, Nat.reduceEqDiff, tupleOf, stepT, f5, ey, a1', a2', b1', b2]
          refine ref03_turn_spec (n := 7) (by decide) (by decide) ?_
          simp (maxSteps := 1000000) (disch := omega) only [stepS, reduceIte, Nat.reduceBEq, Nat.reduceEqDiff, tupleOf, stepT]
          refine ref03_turn_spec (n := 18) (by decide) (by decide) ?_
          simp (maxSteps := 1000000) (disch := omega) only [stepS, reduceIte, Nat.reduceBEq, Nat.reduceEqDiff, tupleOf, stepT, binA_xor32, shr32]
          refine ref03_turn_spec (n := 17) (by decide) (by decide) ?_
          simp (maxSteps := 1000000) (disch := omega) only [stepS, reduceIte, Nat.reduceBEq, Nat.reduceEqDiff, tupleOf, stepT]
          refine ref03_turn_spec (n := 19) (by decide) (by decide) ?_
          have es : x16 + ((rotr x15 (7 : Int).toNat ^^^ rotr x15 (18 : Int).toNat) ^^^ x15 >>> (3 : Int).toNat) + x7 + ((rotr x2 (17 : Int).toNat ^^^ rotr x2 (19 : Int).toNat) ^^^ x2 >>> (10 : Int).toNat) = x16 + x7 + sg0 x15 + sg1 x2 := by
            show x16 + sg0 x15 + x7 + sg1 x2 = _
            ac_rfl
          simp (maxSteps := 1000000) (disch := omega) only [stepS, reduceIte, Nat.reduceBEq, Nat.reduceEqDiff, tupleOf, stepT, f5, ey, binA_xor32, shr32, add32, c1', c2, d1', d2, es, l1, p1]
          exact ⟨⟨k + 1, by omega, by omega, p2, by rw [hnext]; exact p3, rfl⟩, by omega⟩
        · have hk64 : k = 64 := by omega
          subst hk64
          simp (maxSteps := 1000000) (disch := omega) only [stepS, reduceIte, Nat.reduceBEq, Nat.reduceEqDiff, tupleOf, stepT, f5, ey]
          exact hq _ _ hlC o4

theorem rounds_step (W : List W32) (s : S8) (k : Nat) : rounds W s (k + 1) = roundF (rounds W s k) (kW k) (W.getD k 0) := rfl
theorem ref03_rounds_spec {A : AH} {Q : Value → AH → Prop} (hq : ∀ A' u, Le A A' → Sl A' 1 u 64 kV → Q u A') : ACalls 1 Tryd.prog chantryref03_rounds [] Q A := by
  refine ACalls.of_fits mixed fits_chantryref03_rounds rfl ?_
  unfold ic_chantryref03_rounds
  generalize initA [] = a
  have hk : kV = kN.map fun n => .int .u32 (n : Nat) := rfl
  have l64 : ∀ ps, ps = mkP 0 kV → sLit A [.int .u32 0] 1 64 ps = some (.slice (some ⟨A.length, 0, none⟩) 64 64, A ++ [.row kV .own 1 true]) := fun ps hp => by
    have := lit1 (A := A) (z := .int .u32 0) (len := 64) (ps := ps) kV hp rfl (by
      intro x hx
      unfold kV at hx
      rw [List.mem_map] at hx
      obtain ⟨n, _, rfl⟩ := hx
      exact one1_int _ _)
    exact this
  have fin : Sl (A ++ [.row kV .own 1 true]) 1 (.slice (some ⟨A.length, 0, none⟩) 64 64) 64 kV := sl_last A (cs := kV) (st := .own) (ex := true) (c := 64) (by simp) (Nat.le_refl _)
  simp only [W_seq, W_ops, Wops_cons, Wops_nil, W1_mov, kont_at, put_some, sq_normal, W1_lit, List.map_cons, List.map_nil, ev_const]
  refine ok1_of (l64 _ rfl) ?_
  simp (maxSteps := 1000000) (disch := omega) only [stepS, reduceIte, Nat.reduceBEq, Nat.reduceEqDiff, tupleOf, stepT]
  exact hq _ _ (.push _ _) fin

theorem ref03_block_spec {A : AH} {v w x : Value} {s : S8} {bs : List UInt8} {Q : Value → AH → Prop} (hs : Sl A 1 v 8 s.cells) (hv : Byt A w bs) (hl : bs.length = 64) (hk : Sl A 1 x 64 kV) (hq : ∀ A' u, Le A A' → Sl A' 1 u 8 (mixF s bs).cells → Q u A') :
    ACalls 1 Tryd.prog chantryref03_block [v, w, x] Q A := by
  refine ACalls.of_fits mixed fits_chantryref03_block rfl ?_
  unfold ic_chantryref03_block
  have i0 : initA [v, w, x] 0 = v := rfl
  have i1 : initA [v, w, x] 1 = w := rfl
  have i2 : initA [v, w, x] 2 = x := rfl
  generalize initA [v, w, x] = a at i0 i1 i2
  simp (maxSteps := 1000000) (disch := omega) only [stepS, reduceIte, Nat.reduceBEq, Nat.reduceEqDiff, tupleOf, stepT, i0, i1, i2]
  refine ref03_schedule_spec hv hl fun A1 y k1 o1 => ?_
  have hWl := schW_length bs 64
  unfold mixF at hq
  generalize schW bs 64 = W at hWl hq o1
  have hs1 := hs.le k1
  have rd : ∀ {B : AH}, Le A1 B → ∀ j : Nat, j < 8 → ∃ p, sIaddr B v (.int .i64 (j : Nat)) 1 = some (p, B) ∧ sLoad1 B p = some (u32 (s.l.getD j 0), B) := fun hB j hj => (hs1.le hB).at1 (cells_get hj)
  obtain ⟨p0, c0, e0⟩ := rd (.refl _) 0 (by omega)
  obtain ⟨p1, c1, e1⟩ := rd (.refl _) 1 (by omega)
  obtain ⟨p2, c2, e2⟩ := rd (.refl _) 2 (by omega)
  obtain ⟨p3, c3, e3⟩ := rd (.refl _) 3 (by omega)
  obtain ⟨p4, c4, e4⟩ := rd (.refl _) 4 (by omega)
  obtain ⟨p5, c5, e5⟩ := rd (.refl _) 5 (by omega)
  obtain ⟨p6, c6, e6⟩ := rd (.refl _) 6 (by omega)
  obtain ⟨p7, c7, e7⟩ := rd (.refl _) 7 (by omega)
  have c0' : sIaddr A1 v (.int .i64 0) 1 = some (p0, A1) := c0
  have c1' : sIaddr A1 v (.int .i64 1) 1 = some (p1, A1) := c1
  have c2' : sIaddr A1 v (.int .i64 2) 1 = some (p2, A1) := c2
  have c3' : sIaddr A1 v (.int .i64 3) 1 = some (p3, A1) := c3
  have c4' : sIaddr A1 v (.int .i64 4) 1 = some (p4, A1) := c4
  have c5' : sIaddr A1 v (.int .i64 5) 1 = some (p5, A1) := c5
  have c6' : sIaddr A1 v (.int .i64 6) 1 = some (p6, A1) := c6
  have c7' : sIaddr A1 v (.int .i64 7) 1 = some (p7, A1) := c7
  have e0' : sLoad1 A1 p0 = some (u32 s.a, A1) := e0
  have e1' : sLoad1 A1 p1 = some (u32 s.b, A1) := e1
  have e2' : sLoad1 A1 p2 = some (u32 s.c, A1) := e2
  have e3' : sLoad1 A1 p3 = some (u32 s.d, A1) := e3
  have e4' : sLoad1 A1 p4 = some (u32 s.e, A1) := e4
  have e5' : sLoad1 A1 p5 = some (u32 s.f, A1) := e5
  have e6' : sLoad1 A1 p6 = some (u32 s.g, A1) := e6
  have e7' : sLoad1 A1 p7 = some (u32 s.h, A1) := e7
  clear e0 e1 e2 e3 e4 e5 e6 e7 c0 c1 c2 c3 c4 c5 c6 c7
  simp (maxSteps := 1000000) (disch := omega) only [stepS, reduceIte, Nat.reduceBEq, Nat.reduceEqDiff, tupleOf, stepT, i0, i1, i2, c0', c1', c2', c3', c4', c5', c6', c7', e0', e1', e2', e3', e4', e5', e6', e7']
  refine W_loop (fun a' B => B = A1 ∧ ∃ k : Nat, k ≤ 64 ∧ a' 0 = v ∧ a' 2 = x ∧ a' 7 = y ∧ a' 16 = ii k ∧ a' 8 = u32 (rounds W s k).a ∧ a' 9 = u32 (rounds W s k).b ∧ a' 10 = u32 (rounds W s k).c ∧ a' 11 = u32 (rounds W s k).d ∧ a' 12 = u32 (rounds W s k).e ∧ a' 13 = u32 (rounds W s k).f ∧ a' 14 = u32 (rounds W s k).g ∧ a' 15 = u32 (rounds W s k).h) (fun a' _ => 64 - (iv (a' 16)).toNat) ?_ ?_
  · refine ⟨rfl, 0, by omega, ?_⟩
    simp (maxSteps := 1000000) (disch := omega) only [stepS, reduceIte, Nat.reduceBEq, Nat.reduceEqDiff, tupleOf, stepT, i0, i1, i2]
    exact ⟨rfl, rfl, rfl, rfl, rfl, rfl, rfl, rfl, rfl⟩
  · rintro a2 B ⟨rfl, k, hk64, g0, g2, g7, g16, g8, g9, g10, g11, g12, g13, g14, g15⟩
    have hr := rounds_step W s k
    obtain ⟨r, hr0⟩ : ∃ r, rounds W s k = r := ⟨_, rfl⟩
    rw [hr0] at hr g8 g9 g10 g11 g12 g13 g14 g15
    obtain ⟨ra, rb, rc, rdd, re, rf, rg, rh⟩ := r
    simp only at g8 g9 g10 g11 g12 g13 g14 g15
    rcases Nat.lt_or_ge k 64 with hlt | hge
    · obtain ⟨pk, k1', k2'⟩ := (hk.le k1).at1 (kV_get hlt)
      obtain ⟨pw, w1', w2'⟩ := o1.get (j := k) (by omega)
      have eu : rh + (rotr re (6 : Int).toNat ^^^ rotr re (11 : Int).toNat ^^^ rotr re (25 : Int).toNat) + (re &&& rf ^^^ (re ^^^ 4294967295#32) &&& rg) + kW k + W.getD k 0 = upF ⟨ra, rb, rc, rdd, re, rf, rg, rh⟩ (kW k) (W.getD k 0) := by
        rw [xor_ones]; rfl
      have ed : (rotr ra (2 : Int).toNat ^^^ rotr ra (13 : Int).toNat ^^^ rotr ra (22 : Int).toNat) + (ra &&& rb ^^^ ra &&& rc ^^^ rb &&& rc) = downF ⟨ra, rb, rc, rdd, re, rf, rg, rh⟩ := rfl
      simp (maxSteps := 1000000) (disch := omega) only [stepS, reduceIte, Nat.reduceBEq, Nat.reduceEqDiff, tupleOf, stepT, g0, g2, g7, g16, g8, g9, g10, g11, g12, g13, g14, g15]
      refine ref03_turn_spec (n := 6) (by decide) (by decide) ?_
      simp (maxSteps := 1000000) (disch := omega) only [stepS, reduceIte, Nat.reduceBEq, Nat.reduceEqDiff, tupleOf, stepT, g12]
      refine ref03_turn_spec (n := 11) (by decide) (by decide) ?_
      simp (maxSteps := 1000000) (disch := omega) only [stepS, reduceIte, Nat.reduceBEq, Nat.reduceEqDiff, tupleOf, stepT, g12, binA_xor32]
      refine ref03_turn_spec (n := 25) (by decide) (by decide) ?_
      simp (maxSteps := 1000000) (disch := omega) only [stepS, reduceIte, Nat.reduceBEq, Nat.reduceEqDiff, tupleOf, stepT, g0, g2, g7, g16, g8, g9, g10, g11, g12, g13, g14, g15, binA_xor32, add32, binA_and32, hones32, k1', k2', w1', w2', eu]
      refine ref03_turn_spec (n := 2) (by decide) (by decide) ?_
      simp (maxSteps := 1000000) (disch := omega) only [stepS, reduceIte, Nat.reduceBEq, Nat.reduceEqDiff, tupleOf, stepT, g8]
      refine ref03_turn_spec (n := 13) (by decide) (by decide) ?_
      simp (maxSteps := 1000000) (disch := omega) only [stepS, reduceIte, Nat.reduceBEq, Nat.reduceEqDiff, tupleOf, stepT, g8, binA_xor32]
      refine ref03_turn_spec (n := 22) (by decide) (by decide) ?_
      simp (maxSteps := 1000000) (disch := omega) only [stepS, reduceIte, Nat.reduceBEq, Nat.reduceEqDiff, tupleOf, stepT, g0, g2, g7, g16, g8, g9, g10, g11, g12, g13, g14, g15, binA_xor32, add32, binA_and32, ed]
      refine ⟨⟨k + 1, by omega, rfl, ?_⟩, by omega⟩
      rw [hr]
      exact ⟨rfl, rfl, rfl, rfl, rfl, rfl, rfl, rfl⟩
    · have hk : k = 64 := by omega
      subst hk
      have hadd : s.add ⟨ra, rb, rc, rdd, re, rf, rg, rh⟩ = ⟨s.a + ra, s.b + rb, s.c + rc, s.d + rdd, s.e + re, s.f + rf, s.g + rg, s.h + rh⟩ := rfl
      have l8 := lit1 (A := B) (z := .int .u32 0) (len := 8) (ps := [(0, 1, u32 (s.a + ra)), (1, 1, u32 (s.b + rb)), (2, 1, u32 (s.c + rc)), (3, 1, u32 (s.d + rdd)), (4, 1, u32 (s.e + re)), (5, 1, u32 (s.f + rf)), (6, 1, u32 (s.g + rg)), (7, 1, u32 (s.h + rh))])
        [u32 (s.a + ra), u32 (s.b + rb), u32 (s.c + rc), u32 (s.d + rdd), u32 (s.e + re), u32 (s.f + rf), u32 (s.g + rg), u32 (s.h + rh)] rfl rfl (by
        intro x hx
        simp only [List.mem_cons, List.not_mem_nil, or_false] at hx
        rcases hx with rfl | rfl | rfl | rfl | rfl | rfl | rfl | rfl <;> exact u32_one _)
      simp only [List.length_cons, List.length_nil, Nat.zero_add, Nat.reduceAdd] at l8
      simp (maxSteps := 1000000) (disch := omega) only [stepS, reduceIte, Nat.reduceBEq, Nat.reduceEqDiff, tupleOf, stepT, g0, g2, g7, g16, g8, g9, g10, g11, g12, g13, g14, g15, c0', c1', c2', c3', c4', c5', c6', c7', e0', e1', e2', e3', e4', e5', e6', e7', add32, l8]
      refine hq _ _ (k1.trans (.push _ _)) ?_
      rw [hr0, hadd]
      exact sl_last B (cs := S8.cells ⟨s.a + ra, s.b + rb, s.c + rc, s.d + rdd, s.e + re, s.f + rf, s.g + rg, s.h + rh⟩) (st := .own) (ex := true) (c := 8) (by simp) (Nat.le_refl _)

theorem lit8z (A : AH) (b3 b4 b5 b6 b7 : UInt8) : sLit A [.int .u8 0] 1 8 [(0, 1, .int .u8 0), (1, 1, .int .u8 0), (2, 1, .int .u8 0), (3, 1, by8 b3), (4, 1, by8 b4), (5, 1, by8 b5), (6, 1, by8 b6), (7, 1, by8 b7)] =
    some (.slice (some ⟨A.length, 0, none⟩) 8 8, A ++ [.row (List.map by8 [0, 0, 0, b3, b4, b5, b6, b7]) .own 1 true]) := litB A [0, 0, 0, b3, b4, b5, b6, b7] (len := 8) rfl rfl
theorem lit8i (A : AH) : sLit A [.int .u32 0] 1 8 [(0, 1, .int .u32 1779033703), (1, 1, .int .u32 3144134277), (2, 1, .int .u32 1013904242), (3, 1, .int .u32 2773480762), (4, 1, .int .u32 1359893119), (5, 1, .int .u32 2600822924), (6, 1, .int .u32 528734635), (7, 1, .int .u32 1541459225)] =
    some (.slice (some ⟨A.length, 0, none⟩) 8 8, A ++ [.row init8.cells .own 1 true]) := by
  rw [init_cells]
  exact lit1 (A := A) (z := .int .u32 0) (len := 8) [.int .u32 1779033703, .int .u32 3144134277, .int .u32 1013904242, .int .u32 2773480762, .int .u32 1359893119, .int .u32 2600822924, .int .u32 528734635, .int .u32 1541459225] rfl rfl (by
    intro x hx
    simp only [List.mem_cons, List.not_mem_nil, or_false] at hx
    rcases hx with rfl | rfl | rfl | rfl | rfl | rfl | rfl | rfl <;> exact one1_int _ _)
theorem bytes8_eq {n : Nat} (h : n < 2 ^ 36) : bytes8 n = [0, 0, 0, UInt8.ofNat (8 * n / 2 ^ 32), UInt8.ofNat (8 * n / 2 ^ 24), UInt8.ofNat (8 * n / 2 ^ 16), UInt8.ofNat (8 * n / 2 ^ 8), UInt8.ofNat (8 * n)] := by
  have e : bytes8 n = [UInt8.ofNat (n * 8 / 2 ^ 56), UInt8.ofNat (n * 8 / 2 ^ 48), UInt8.ofNat (n * 8 / 2 ^ 40), UInt8.ofNat (n * 8 / 2 ^ 32), UInt8.ofNat (n * 8 / 2 ^ 24), UInt8.ofNat (n * 8 / 2 ^ 16), UInt8.ofNat (n * 8 / 2 ^ 8), UInt8.ofNat (n * 8 / 2 ^ 0)] := rfl
  have h1 : n * 8 / 2 ^ 56 = 0 := Nat.div_eq_of_lt (by omega)
  have h2 : n * 8 / 2 ^ 48 = 0 := Nat.div_eq_of_lt (by omega)
  have h3 : n * 8 / 2 ^ 40 = 0 := Nat.div_eq_of_lt (by omega)
  rw [e, h1, h2, h3, Nat.mul_comm n 8]
  simp

theorem ref03_ID_spec {A : AH} {v : Value} {bs : List UInt8} {Q : Value → AH → Prop} (hv : Byt A v bs) (hb : bs.length < 2 ^ 36) (hq : Q (.string ⟨(shaF bs).toArray⟩) A) : ACalls 1 Tryd.prog chantryref03_ID [v] Q A := by
  refine ACalls.pure (S := fun u => u = .string ⟨(shaF bs).toArray⟩) (fun u hu => by rw [hu]; exact hq) ?_
  refine ACalls.of_fits mixed fits_chantryref03_ID rfl ?_
  unfold ic_chantryref03_ID
  have i0 : initA [v] 0 = v := rfl
  generalize initA [v] = a at i0
  have l0 : sLit A [.int .u8 0] 1 0 [] = some (.slice (some ⟨A.length, 0, none⟩) 0 0, A ++ [.row [] .own 1 true]) := rfl
  have k0 : Le A (A ++ [.row [] .own 1 true]) := .push _ _
  obtain ⟨w1, A1, e1, k1, o1, _⟩ := app_bytes k0 (own_lit_none (.refl A)) (hv.le k0) (by simp; omega)
  rw [List.nil_append] at o1
  have e1' : sApp (A ++ [.row [] .own 1 true]) (.slice (some ⟨A.length, 0, none⟩) 0 0) v 1 1 = some (w1, A1) := e1
  obtain ⟨m1, w2, A2, m2, k2, o2, _⟩ := app_one 128 k1 o1 (by omega)
  have m1' : sLit A1 [.int .u8 0] 1 1 [(0, 1, .int .u8 128)] = _ := m1
  simp (maxSteps := 1000000) (disch := omega) only [stepS, reduceIte, Nat.reduceBEq, Nat.reduceEqDiff, tupleOf, stepT, i0, l0, e1', m1', m2]
  refine W_loop (fun a' B => ∃ j : Nat, j ≤ zerosN bs.length ∧ Le A B ∧ OwnB A.length B (a' 3) (bs ++ [128] ++ List.replicate j 0) ∧ a' 0 = v) (fun a' _ => bs.length + 1 + zerosN bs.length - lenOf (a' 3)) ?_ ?_
  · refine ⟨0, Nat.zero_le _, k2, ?_⟩
    simp (maxSteps := 1000000) (disch := omega) only [stepS, reduceIte, Nat.reduceBEq, Nat.reduceEqDiff, tupleOf, stepT, i0]
    simpa using o2
  · rintro a2 B ⟨j, hj, hle, o3, g0⟩
    have hz : zerosN bs.length < 64 := Nat.mod_lt _ (by omega)
    generalize ew : a2 3 = x at o3
    have xl := o3.byt.len
    have xo := o3.byt.lenOf
    have hlen : (bs ++ [128] ++ List.replicate j (0 : UInt8)).length = bs.length + 1 + j := by simp; omega
    rw [hlen] at xl xo
    rcases Nat.lt_or_ge j (zerosN bs.length) with hlt | hge
    · have hne : ((bs.length + 1 + j : Nat) : Int) % 64 ≠ 56 := by
        unfold zerosN at hlt
        omega
      obtain ⟨q1, w', B2, q2, q3, q4, _⟩ := app_one 0 hle o3 (by omega)
      have q1' : sLit B [.int .u8 0] 1 1 [(0, 1, .int .u8 0)] = _ := q1
      simp (maxSteps := 1000000) (disch := omega) only [stepS, reduceIte, Nat.reduceBEq, Nat.reduceEqDiff, tupleOf, stepT, g0, ew, xl, q1', q2]
      have wo := q4.byt.lenOf
      rw [List.length_append, hlen, List.length_singleton] at wo
      rw [wo, xo]
      refine ⟨⟨j + 1, by omega, q3, ?_⟩, by omega⟩
      rw [List.replicate_succ', ← List.append_assoc]
      exact q4
    · have hjz : j = zerosN bs.length := by omega
      subst hjz
      have heq : ((bs.length + 1 + zerosN bs.length : Nat) : Int) % 64 = 56 := by
        unfold zerosN
        omega
      have hm64 : (bs.length + 1 + zerosN bs.length + 8) % 64 = 0 := by omega
      generalize hz2 : zerosN bs.length = z at xl heq hz o3 hlen hm64
      have sh : ∀ k : Nat, k ≤ 32 → binA .shr (.int .i64 (8 * (bs.length : Int))) (.int .u64 k) = some (ii ((8 * bs.length / 2 ^ k : Nat) : Int)) := fun k hk => shr_ii (8 * bs.length) .u64 k (by omega)
      have s32 : binA .shr (.int .i64 (8 * (bs.length : Int))) (.int .u64 32) = some (ii ((8 * bs.length / 2 ^ 32 : Nat) : Int)) := sh 32 (by omega)
      have s24 : binA .shr (.int .i64 (8 * (bs.length : Int))) (.int .u64 24) = some (ii ((8 * bs.length / 2 ^ 24 : Nat) : Int)) := sh 24 (by omega)
      have s16 : binA .shr (.int .i64 (8 * (bs.length : Int))) (.int .u64 16) = some (ii ((8 * bs.length / 2 ^ 16 : Nat) : Int)) := sh 16 (by omega)
      have s8 : binA .shr (.int .i64 (8 * (bs.length : Int))) (.int .u64 8) = some (ii ((8 * bs.length / 2 ^ 8 : Nat) : Int)) := sh 8 (by omega)
      have c0 : ∀ A, sConv A .u8 (.int .i64 (8 * (bs.length : Int))) = some (by8 (UInt8.ofNat (8 * bs.length)), A) := fun A => conv_u8_ii A (8 * bs.length)
      have lz := lit8z B (UInt8.ofNat (8 * bs.length / 2 ^ 32)) (UInt8.ofNat (8 * bs.length / 2 ^ 24)) (UInt8.ofNat (8 * bs.length / 2 ^ 16)) (UInt8.ofNat (8 * bs.length / 2 ^ 8)) (UInt8.ofNat (8 * bs.length))
      rw [← bytes8_eq hb] at lz
      have k3 : Le B (B ++ [.row ((bytes8 bs.length).map by8) .own 1 true]) := .push _ _
      obtain ⟨w3, B3, f1, f2, f3, _⟩ := app_bytes (hle.trans k3) (OwnS.le o3 k3) (byt_last B (bytes8 bs.length)) (by rw [hlen]; simp [bytes8]; omega)
      have f1' : sApp (B ++ [.row ((bytes8 bs.length).map by8) .own 1 true]) x (.slice (some ⟨B.length, 0, none⟩) 8 8) 1 1 = some (w3, B3) := f1
      have hall : bs ++ [128] ++ List.replicate z 0 ++ bytes8 bs.length = bs ++ padF bs.length := by
        unfold padF
        rw [hz2]
        simp
      rw [hall] at f3
      have hpl : (bs ++ padF bs.length).length = bs.length + 1 + z + 8 := by rw [← hall, List.length_append, hlen]; rfl
      unfold shaF at hq ⊢
      generalize bs ++ padF bs.length = p at f3 hq hpl ⊢
      have hvB := (hv.le hle).len
      simp (maxSteps := 1000000) (disch := omega) only [stepS, reduceIte, Nat.reduceBEq, Nat.reduceEqDiff, tupleOf, stepT, g0, ew, xl, hvB, s32, s24, s16, s8, c0, conv_u8_ii, lz, f1', lit8i]
      have k4 : Le B3 (B3 ++ [.row init8.cells .own 1 true]) := .push _ _
      refine ref03_rounds_spec fun B4 y k5 hy => ?_
      have hp4 := (f3.byt.le k4).le k5
      have hi8 : Sl B4 1 (.slice (some ⟨B3.length, 0, none⟩) 8 8) 8 init8.cells := Sl.le (sl_last B3 (cs := init8.cells) (st := .own) (ex := true) (c := 8) (by simp) (Nat.le_refl _)) k5
      have kA4 := (f2.trans k4).trans k5
      simp (maxSteps := 1000000) (disch := omega) only [stepS, reduceIte, Nat.reduceBEq, Nat.reduceEqDiff, tupleOf, stepT]
      refine W_loop (fun a' C => ∃ (k : Nat) (s : S8), 64 * k ≤ p.length ∧ Le B4 C ∧ Sl C 1 (a' 5) 8 s.cells ∧ eatF s (p.drop (64 * k)) = eatF init8 p ∧ a' 3 = w3 ∧ a' 6 = y ∧ a' 7 = .int .i64 (64 * (k : Int))) (fun a' _ => p.length - (iv (a' 7)).toNat) ?_ ?_
      · refine ⟨0, init8, by omega, .refl _, ?_⟩
        simp (maxSteps := 1000000) (disch := omega) only [stepS, reduceIte, Nat.reduceBEq, Nat.reduceEqDiff, tupleOf, stepT]
        exact ⟨hi8, by simp, rfl⟩
      · rintro a3 C ⟨k, s, hk, hlC, hs, he, h3, h6, h7⟩
        generalize e5 : a3 5 = sv at hs
        have hpC := hp4.le hlC
        rcases Nat.lt_or_ge (64 * k) p.length with hlt | hge
        · obtain ⟨u, u1, u2⟩ := hpC.cut (lo := some (.int .i64 (64 * (k : Int)))) (hi := some (.int .i64 (64 * (k : Int) + 64))) (l := 64 * k) (k := 64 * k + 64) (by omega) (by omega) (fun c hc => bnd_both (l := 64 * k) (k := 64 * k + 64) (by omega) (by omega))
          have e64 : 64 * k + 64 - 64 * k = 64 := by omega
          rw [e64] at u2
          simp (maxSteps := 1000000) (disch := omega) only [stepS, reduceIte, Nat.reduceBEq, Nat.reduceEqDiff, tupleOf, stepT, h3, h6, h7, e5, hpC.len, u1]
          refine ref03_block_spec hs u2 (by simp; omega) (hy.le hlC) fun C2 u' kC2 hs2 => ?_
          simp (maxSteps := 1000000) (disch := omega) only [stepS, reduceIte, Nat.reduceBEq, Nat.reduceEqDiff, tupleOf, stepT, h3, h6, h7]
          refine ⟨⟨k + 1, _, by omega, hlC.trans kC2, hs2, ?_, by congr 1⟩, by omega⟩
          rw [← he, eatF_big (bs := p.drop (64 * k)) (by simp; omega), List.drop_drop]
          rfl
        · have hkk : p.length = 64 * k := by omega
          simp (maxSteps := 1000000) (disch := omega) only [stepS, reduceIte, Nat.reduceBEq, Nat.reduceEqDiff, tupleOf, stepT, h3, h6, h7, e5, hpC.len]
          rw [List.drop_of_length_le (by omega), eatF_small (by simp)] at he
          rw [← he] at hq ⊢
          have kA := kA4.trans hlC
          refine W_loop (fun a' D => ∃ k : Nat, k ≤ 8 ∧ Le C D ∧ OwnB C.length D (a' 8) ((digest s).take (4 * k)) ∧ a' 5 = sv ∧ a' 9 = ii k) (fun a' _ => 8 - (iv (a' 9)).toNat) ?_ ?_
          · refine ⟨0, by omega, .refl _, ?_⟩
            simp (maxSteps := 1000000) (disch := omega) only [stepS, reduceIte, Nat.reduceBEq, Nat.reduceEqDiff, tupleOf, stepT, e5]
            exact ⟨OwnB.nil _ _, rfl⟩
          · rintro a4 D ⟨k2, hk2, hlD, o5, y5, y9⟩
            generalize ey : a4 8 = t8 at o5
            rcases Nat.lt_or_ge k2 8 with hlt2 | hge2
            · obtain ⟨pp, pp1, pp2⟩ := (hs.le hlD).at1 (cells_get (s := s) hlt2)
              have hwl := word_l s k2 hlt2
              generalize s.l.getD k2 0 = wd at pp2 hwl
              have lw := litB D (word4 wd) (len := 4) rfl rfl
              have kD : Le D (D ++ [.row ((word4 wd).map by8) .own 1 true]) := .push _ _
              obtain ⟨w', D2, r1, r2, r3, _⟩ := app_bytes (hlD.trans kD) (OwnS.le o5 kD) (byt_last D (word4 wd)) (by
                have := List.length_take_le (4 * k2) (digest s)
                show _ + 4 ≤ _
                omega)
              have lw' : sLit D [.int .u8 0] 1 4 [(0, 1, by8 (UInt8.ofNat (wd >>> (24 : Int).toNat).toNat)), (1, 1, by8 (UInt8.ofNat (wd >>> (16 : Int).toNat).toNat)), (2, 1, by8 (UInt8.ofNat (wd >>> (8 : Int).toNat).toNat)), (3, 1, by8 (UInt8.ofNat wd.toNat))] = some (.slice (some ⟨D.length, 0, none⟩) 4 4, D ++ [.row ((word4 wd).map by8) .own 1 true]) := lw
              have r1' : sApp (D ++ [.row ((word4 wd).map by8) .own 1 true]) t8 (.slice (some ⟨D.length, 0, none⟩) 4 4) 1 1 = some (w', D2) := r1
              simp (maxSteps := 1000000) (disch := omega) only [stepS, reduceIte, Nat.reduceBEq, Nat.reduceEqDiff, tupleOf, stepT, y5, y9, ey, pp1, pp2, shr32, conv_u8_w, lw', r1']
              refine ⟨⟨k2 + 1, by omega, r2, ?_, rfl⟩, by omega⟩
              rw [hwl]; exact r3
            · have hk8 : k2 = 8 := by omega
              subst hk8
              have e8 : (digest s).take (4 * 8) = digest s := by rw [List.take_of_length_le (by rw [digest_length]; omega)]
              rw [e8] at o5
              simp (maxSteps := 1000000) (disch := omega) only [stepS, reduceIte, Nat.reduceBEq, Nat.reduceEqDiff, tupleOf, stepT, y5, y9, ey, o5.byt.str]
              exact ⟨kA.trans hlD, rfl⟩
end Go.AS.C


namespace Go.AS.C
open Go Go.Proofs
set_option linter.unusedVariables false
set_option linter.unusedSimpArgs false
set_option maxRecDepth 10000

theorem ref28_Sorted_spec {A : AH} {v : Value} {ts : List (List UInt8)} {Q : Value → AH → Prop} (hv : Byts A v ts) (hl : ts.length ≤ 2 ^ 30) (ht : ∀ t ∈ ts, t.length < 2 ^ 36) (hq : ∀ A' u, Le A A' → ItemS A' u (srtT shaF ts) → Q u A') : ACalls 1 Tryd.prog chantryref28_Sorted [v] Q A := by
  refine ACalls.of_fits mixed fits_chantryref28_Sorted rfl ?_
  unfold ic_chantryref28_Sorted
  have i0 : initA [v] 0 = v := rfl
  generalize initA [v] = a at i0
  obtain ⟨vs, hvs, hval⟩ := id hv
  have lvs := All2.len _ _ hval
  have hvl : ∀ B, sLens B false v = some (ii ts.length, B) := fun B => by rw [lvs]; exact hvs.lenB B
  simp (maxSteps := 1000000) (disch := omega) only [stepS, reduceIte, Nat.reduceBEq, Nat.reduceEqDiff, tupleOf, stepT, i0]
  refine W_loop (fun a' B => ∃ (k : Nat) (es : List (List Value)), k ≤ ts.length ∧ Le A B ∧ OwnE A.length B 2 (a' 3) es ∧ All2 (itR A) es (srtT shaF (ts.take k)) ∧ a' 0 = v ∧ a' 4 = ii k) (fun a' _ => ts.length - (iv (a' 4)).toNat) ?_ ?_
  · refine ⟨0, [], by omega, .refl _, ?_⟩
    simp (maxSteps := 1000000) (disch := omega) only [stepS, reduceIte, Nat.reduceBEq, Nat.reduceEqDiff, tupleOf, stepT, i0]
    exact ⟨OwnE.nil _ _ _, trivial, rfl⟩
  · rintro a2 B ⟨k, es, hk, hle, ho, hal, g0, g4⟩
    generalize ex : a2 3 = w at ho
    have hlen := All2.len _ _ hal
    have hsl := srtT_len (key := shaF) (ts.take k)
    rw [List.length_take, Nat.min_eq_left hk] at hsl
    rcases Nat.lt_or_ge k ts.length with hlt | hge
    · obtain ⟨t, htk⟩ := get_some hlt
      obtain ⟨x, hxv, hx⟩ := all2_get hval htk
      have htl := ht t (List.mem_of_getElem? htk)
      obtain ⟨p, p1, p2⟩ := hvs.at1 hxv
      have p1' := iaddr_any p1
      have p2' : ∀ C, Le A C → sLoad1 C p = some (x, C) := fun C hC => load1_keep p2 (fun k b hb _ => hC.get hb)
      have hxB := hx.le hle
      have p2B := p2' B hle
      simp (maxSteps := 1000000) (disch := omega) only [stepS, reduceIte, Nat.reduceBEq, Nat.reduceEqDiff, tupleOf, stepT, g0, g4, ex, hvl, p1', p2B]
      refine ref03_ID_spec hxB htl ?_
      have hid : (.string ⟨(shaF t).toArray⟩ : Value) = .string (idT t) := rfl
      rw [hid]
      simp (maxSteps := 1000000) (disch := omega) only [stepS, reduceIte, Nat.reduceBEq, Nat.reduceEqDiff, tupleOf, stepT, g0, g4, ex]
      refine W_loop (fun a' C => C = B ∧ ∃ q : Nat, q ≤ es.length ∧ (∀ z ∈ (srtT shaF (ts.take k)).take q, shaF z < shaF t) ∧ a' 0 = v ∧ a' 3 = w ∧ a' 4 = ii k ∧ a' 5 = .string (idT t) ∧ a' 6 = ii q) (fun a' _ => es.length - (iv (a' 6)).toNat) ?_ ?_
      · refine ⟨rfl, 0, by omega, by simp, ?_⟩
        simp (maxSteps := 1000000) (disch := omega) only [stepS, reduceIte, Nat.reduceBEq, Nat.reduceEqDiff, tupleOf, stepT, g0, g4, ex]
        (all_goals (and_intros <;> first | rfl | assumption | (push_cast; rfl) | (congr 1; omega) | omega | (simp; done)))
      · rintro a3 C ⟨rfl, q, hq1, hq2, g0, g3, g4, g5, g6⟩
        have hwl := ho.2.sl.lenB
        have fin : (∀ r, (srtT shaF (ts.take k))[q]? = some r → ¬ shaF r < shaF t ∧ shaF r ≠ shaF t) → All2 (itR A) (es.take q ++ [[.string (idT t), x]] ++ es.drop q) (srtT shaF (ts.take (k + 1))) := fun h => by
          rw [List.take_add_one, htk, Option.toList_some, srtT_push, insT_new hq2 (by omega) h]
          have : es.take q ++ [[.string (idT t), x]] ++ es.drop q = es.take q ++ ([.string (idT t), x] :: es.drop q) := by simp
          rw [this]
          exact all2_append (all2_take q hal) ⟨⟨x, rfl, hx⟩, all2_drop q hal⟩
        rcases Nat.lt_or_ge q es.length with hqlt | hqge
        · obtain ⟨e, he⟩ := get_some hqlt
          obtain ⟨r, hr, hre⟩ := all2_get' hal he
          obtain ⟨y, rfl, hy⟩ := hre
          obtain ⟨p', q', _, f1, f2, f3⟩ := ho.2.sl.elf ho.1 he (o := 0) (x := .string (idT r)) rfl
          by_cases hlt2 : shaF r < shaF t
          · have dt : decide (bl (idT r) < bl (idT t)) = true := by rw [bl_idT, bl_idT]; exact decide_eq_true hlt2
            simp (maxSteps := 1000000) (disch := omega) only [stepS, reduceIte, Nat.reduceBEq, Nat.reduceEqDiff, tupleOf, stepT, g0, g3, g4, g5, g6, hwl, f1, f2, f3, ltS, dt]
            refine ⟨⟨q + 1, by omega, ?_, rfl⟩, by omega⟩
            intro z hz
            rw [List.take_add_one, hr, Option.toList_some] at hz
            rcases List.mem_append.1 hz with hz | hz
            · exact hq2 z hz
            · rw [List.mem_singleton.1 hz]; exact hlt2
          · have dt : decide (bl (idT r) < bl (idT t)) = false := by rw [bl_idT, bl_idT]; exact decide_eq_false hlt2
            by_cases heq : shaF r = shaF t
            · have de : decide (idT r = idT t) = true := by rw [decS, bl_idT, bl_idT]; exact decide_eq_true heq
              simp (maxSteps := 1000000) (disch := omega) only [stepS, reduceIte, Nat.reduceBEq, Nat.reduceEqDiff, tupleOf, stepT, g0, g3, g4, g5, g6, hwl, f1, f2, f3, ltS, dt, de]
              refine ⟨⟨k + 1, es, by omega, hle, ho, ?_, rfl⟩, by omega⟩
              rw [List.take_add_one, htk, Option.toList_some, srtT_push, insT_same hq2 hr heq]
              exact hal
            · have de : decide (idT r = idT t) = false := by rw [decS, bl_idT, bl_idT]; exact decide_eq_false heq
              obtain ⟨_, ho0⟩ := lit_noneE (A0 := A) C [.string ⟨#[]⟩, .slice none 0 0] 2 hle
              have lit0 := (lit_noneE (A0 := A) C [.string ⟨#[]⟩, .slice none 0 0] 2 hle).1
              have k1 : Le C (C ++ [.row [] .own 2 true]) := .push _ _
              have o1 := ho.le k1
              obtain ⟨u1, _, _, hu1⟩ := o1.cut (l := 0) (k := q) (lo := none) (hi := some (ii (q : Nat))) (by omega) hq1 (fun c hc => bnd_hi (by omega))
              obtain ⟨c1, c2⟩ := hu1 _ es o1 rfl
              obtain ⟨n1, B1, m1, m2, m3, m4⟩ := ho0.app (x := u1) (fs := (es.take q).drop 0) (bytes := 40) (hle.trans k1) c2.2.sl c2.1 (by omega) (by simp; omega) (by omega)
              have bn1 := sApp_blk m1
              have hwC := ho.ge
              have d1 : ∀ j ∈ blkOf w, j ∉ blkOf (.slice (some ⟨C.length, 0, none⟩) 0 0) := fun j hj h => by
                simp only [blkOf, List.mem_singleton] at h
                have := (hwC j hj).2; omega
              have o2 := o1.kv m4 d1
              have d2 : ∀ j ∈ blkOf w, j ∉ blkOf n1 := fun j hj h => by
                rcases bn1 j h with h | h
                · exact d1 j hj h
                · have := (hwC j hj).2; have := k1.len; omega
              simp only [List.nil_append, List.drop_zero] at m3
              have hxC := hx.le m2
              have p2C := p2' B1 m2
              obtain ⟨b1, b2, n2, B2, b3, b4, b5, b6⟩ := push_item (s := idT t) hxC m2 m3 (by rw [List.length_take]; omega)
              have bn2 := sApp_blk b3
              have o3 := o2.kv b6 d2
              have d3 : ∀ j ∈ blkOf w, j ∉ blkOf n2 := fun j hj h => by
                rcases bn2 j h with h | h
                · exact d2 j hj h
                · have := (o2.ge j hj).2; simp at h; omega
              obtain ⟨u2, _, _, hu2⟩ := o3.cut (l := q) (k := es.length) (lo := some (ii (q : Nat))) (hi := none) hq1 (Nat.le_refl _) (fun c hc => bnd_lo hq1 hc)
              obtain ⟨c3, c4⟩ := hu2 _ es o3 rfl
              obtain ⟨n3, B3, m5, m6, m7, m8⟩ := b5.app (x := u2) (fs := (es.take es.length).drop q) (bytes := 40) b4 c4.2.sl c4.1 (by omega) (by simp; omega) (by omega)
              rw [List.take_length] at m7
              simp (maxSteps := 1000000) (disch := omega) only [stepS, reduceIte, Nat.reduceBEq, Nat.reduceEqDiff, tupleOf, stepT, g0, g3, g4, g5, g6, hwl, f1, f2, f3, ltS, dt, de, lit0, c1, m1, p1', p2C, b1, b2, b3, c3, m5]
              refine ⟨⟨k + 1, _, by omega, m6, m7, fin (fun r' hr' => ?_), rfl⟩, by omega⟩
              rw [hr] at hr'; injection hr' with hr'; subst hr'
              exact ⟨hlt2, heq⟩
        · skip
          obtain ⟨_, ho0⟩ := lit_noneE (A0 := A) C [.string ⟨#[]⟩, .slice none 0 0] 2 hle
          have lit0 := (lit_noneE (A0 := A) C [.string ⟨#[]⟩, .slice none 0 0] 2 hle).1
          have k1 : Le C (C ++ [.row [] .own 2 true]) := .push _ _
          have o1 := ho.le k1
          obtain ⟨u1, _, _, hu1⟩ := o1.cut (l := 0) (k := q) (lo := none) (hi := some (ii (q : Nat))) (by omega) hq1 (fun c hc => bnd_hi (by omega))
          obtain ⟨c1, c2⟩ := hu1 _ es o1 rfl
          obtain ⟨n1, B1, m1, m2, m3, m4⟩ := ho0.app (x := u1) (fs := (es.take q).drop 0) (bytes := 40) (hle.trans k1) c2.2.sl c2.1 (by omega) (by simp; omega) (by omega)
          have bn1 := sApp_blk m1
          have hwC := ho.ge
          have d1 : ∀ j ∈ blkOf w, j ∉ blkOf (.slice (some ⟨C.length, 0, none⟩) 0 0) := fun j hj h => by
            simp only [blkOf, List.mem_singleton] at h
            have := (hwC j hj).2; omega
          have o2 := o1.kv m4 d1
          have d2 : ∀ j ∈ blkOf w, j ∉ blkOf n1 := fun j hj h => by
            rcases bn1 j h with h | h
            · exact d1 j hj h
            · have := (hwC j hj).2; have := k1.len; omega
          simp only [List.nil_append, List.drop_zero] at m3
          have hxC := hx.le m2
          have p2C := p2' B1 m2
          obtain ⟨b1, b2, n2, B2, b3, b4, b5, b6⟩ := push_item (s := idT t) hxC m2 m3 (by rw [List.length_take]; omega)
          have bn2 := sApp_blk b3
          have o3 := o2.kv b6 d2
          have d3 : ∀ j ∈ blkOf w, j ∉ blkOf n2 := fun j hj h => by
            rcases bn2 j h with h | h
            · exact d2 j hj h
            · have := (o2.ge j hj).2; simp at h; omega
          obtain ⟨u2, _, _, hu2⟩ := o3.cut (l := q) (k := es.length) (lo := some (ii (q : Nat))) (hi := none) hq1 (Nat.le_refl _) (fun c hc => bnd_lo hq1 hc)
          obtain ⟨c3, c4⟩ := hu2 _ es o3 rfl
          obtain ⟨n3, B3, m5, m6, m7, m8⟩ := b5.app (x := u2) (fs := (es.take es.length).drop q) (bytes := 40) b4 c4.2.sl c4.1 (by omega) (by simp; omega) (by omega)
          rw [List.take_length] at m7
          simp (maxSteps := 1000000) (disch := omega) only [stepS, reduceIte, Nat.reduceBEq, Nat.reduceEqDiff, tupleOf, stepT, g0, g3, g4, g5, g6, hwl, lit0, c1, m1, p1', p2C, b1, b2, b3, c3, m5]
          refine ⟨⟨k + 1, _, by omega, m6, m7, fin (fun r' hr' => ?_), rfl⟩, by omega⟩
          have := lt_of_get hr'; omega
    · simp (maxSteps := 1000000) (disch := omega) only [stepS, reduceIte, Nat.reduceBEq, Nat.reduceEqDiff, tupleOf, stepT, g0, g4, ex, hvl]
      rw [List.take_of_length_le hge] at hal
      exact hq _ _ hle ⟨es, fun e he => (itR_txt hal e he).2.2, ho.2.sl, All2.imp (fun _ _ h => itR.le h hle) _ _ hal⟩
end Go.AS.C


namespace Go.AS.C
open Go Go.Proofs
set_option linter.unusedVariables false
set_option linter.unusedSimpArgs false
set_option maxRecDepth 10000

theorem marks3_get {n : Nat} {s : ByteArray} {k : Nat} (h : k < 3) : (marks3 n s)[k]? = some (markN n s k) := by
  have : k = 0 ∨ k = 1 ∨ k = 2 := by omega
  rcases this with rfl | rfl | rfl <;> rfl
theorem mcells_eq (n : Nat) (s : ByteArray) : mcells n s = (marks3 n s).map fun q => ii (q : Nat) := rfl

theorem ref27_Make_spec {A : AH} {v : Value} {l : List ByteArray} {n : Int} {Q : Value → AH → Prop} (hv : Sl A 1 v l.length (l.map .string)) (hl : l.length < 2 ^ 62)
    (hok : ∀ z t A', makeF l n = some z → Le A A' → OwnB A.length A' t z → Q (.tuple #[t, ii 0]) A') (hbad : ∀ A', makeF l n = none → Le A A' → Q (.tuple #[.slice none 0 0, ii 1]) A') : ACalls 1 Tryd.prog chantryref27_Make [v, ii n] Q A := by
  refine ACalls.of_fits mixed fits_chantryref27_Make rfl ?_
  unfold ic_chantryref27_Make
  have i0 : initA [v, ii n] 0 = v := rfl
  have i1 : initA [v, ii n] 1 = ii n := rfl
  generalize initA [v, ii n] = a at i0 i1
  by_cases h1 : n < 1
  · have c1 : (n < 1) = True := by simp [h1]
    simp only [stepS, reduceIte, Nat.reduceBEq, Nat.reduceEqDiff, tupleOf, i1, binA_lss, c1]
    exact hbad _ (by unfold makeF; rw [if_neg (fun h => by omega)]) (.refl _)
  · have c1 : (n < 1) = False := by simp [h1]
    by_cases h2 : n > 4096
    · have c2 : (n > 4096) = True := by simp [h2]
      simp only [stepS, reduceIte, Nat.reduceBEq, Nat.reduceEqDiff, tupleOf, i1, binA_lss, c1, binA_gtr, c2]
      exact hbad _ (by unfold makeF; rw [if_neg (fun h => by omega)]) (.refl _)
    · have c2 : (n > 4096) = False := by simp [h2]
      obtain ⟨m, rfl⟩ : ∃ m : Nat, n = m := ⟨n.toNat, by omega⟩
      have k0 : Le A (A ++ [.row ((List.replicate m (0 : UInt8)).map by8) .own 1 true]) := .push _ _
      simp only [stepS, reduceIte, Nat.reduceBEq, Nat.reduceEqDiff, tupleOf, i0, i1, binA_lss, c1, binA_gtr, c2, mk_bytes A m (by omega)]
      refine W_loop (fun a' B => ∃ k : Nat, k ≤ l.length ∧ wrongL (l.take k) = false ∧ Le A B ∧ a' 0 = v ∧ a' 1 = ii m ∧ a' 6 = .slice (some ⟨A.length, 0, none⟩) m m ∧ a' 7 = ii k ∧ OwnB A.length B (.slice (some ⟨A.length, 0, none⟩) m m) (fenceOf m (l.take k))) (fun a' _ => l.length - (iv (a' 7)).toNat) ?_ ?_
      · refine ⟨0, by omega, rfl, k0, ?_⟩
        simp only [stepS, reduceIte, Nat.reduceBEq, Nat.reduceEqDiff, tupleOf, i0, i1]
        exact ⟨rfl, own_row (bs := fenceOf m (l.take 0)) (get_last _ _) (by rw [fenceOf_length]) (Nat.le_refl _) (Nat.le_refl _)⟩
      · rintro a2 B ⟨k, hk, hwk, hle, g0, g1, g6, g7, go⟩
        rcases Nat.lt_or_ge k l.length with hlt | hge
        · have hc : ((k : Int) < (l.length : Int)) = True := by simp; omega
          obtain ⟨s, hs⟩ : ∃ s, l[k]? = some s := ⟨_, List.getElem?_eq_getElem hlt⟩
          obtain ⟨p, hp1, hp2⟩ := (hv.le hle).at1 (j := k) (v0 := .string s) (by rw [List.getElem?_map, hs]; rfl)
          simp only [stepS, reduceIte, Nat.reduceBEq, Nat.reduceEqDiff, tupleOf, g0, g1, g6, g7, (hv.le hle).len, binA_lss, hc, hp1, hp2]
          refine ref04_Right_spec ?_
          by_cases h32 : s.size = 32
          · have c3 : (s.size = 32) = True := by simp [h32]
            simp only [stepS, reduceIte, Nat.reduceBEq, Nat.reduceEqDiff, tupleOf, c3, g0, g1, g6, g7, hp1, hp2]
            refine ref27_marks_spec (by omega) h32 fun t B1 hle1 ho => ?_
            simp only [stepS, reduceIte, Nat.reduceBEq, Nat.reduceEqDiff, tupleOf]
            have hm1 : 1 ≤ m := by omega
            have ht := ho.sl
            rw [mcells_eq] at ht
            have go1 := OwnS.le go hle1
            have hlen := fenceOf_length m (l.take k)
            have hAB : A.length < B.length := by
              obtain ⟨_, hgo⟩ := go
              rcases hgo with ⟨h, _⟩ | ⟨h, _⟩ | ⟨i, o, c, rc, ex, h, _, h3, h4, _⟩
              · injection h with h5; cases h5
              · injection h with h5; injection h5 with h5; injection h5 with _ _ h5; cases h5
              · injection h with h5; injection h5 with h5; injection h5 with h5
                subst h5
                exact lt_of_get h4
            have hap : ∀ i o c, t = .slice (some ⟨i, o, none⟩) 3 c → i ≠ A.length := by
              intro i o c hte
              obtain ⟨_, hto⟩ := ho
              rcases hto with ⟨h, _⟩ | ⟨h, _⟩ | ⟨i', o', c', rc, ex, h, _, h3, h4, _⟩
              · rw [hte] at h; cases h
              · rw [hte] at h; cases h
              · rw [hte] at h
                injection h with h5; injection h5 with h5; injection h5 with h5
                omega
            refine W_loop (fun a' C => ∃ j : Nat, j ≤ 3 ∧ Le A C ∧ a' 0 = v ∧ a' 1 = ii m ∧ a' 6 = .slice (some ⟨A.length, 0, none⟩) m m ∧ a' 7 = ii k ∧ a' 8 = t ∧ a' 9 = ii j ∧ Sl C 1 t 3 ((marks3 m s).map fun q => ii (q : Nat)) ∧
                OwnB A.length C (.slice (some ⟨A.length, 0, none⟩) m m) (setBs (fenceOf m (l.take k)) ((marks3 m s).take j))) (fun a' _ => 3 - (iv (a' 9)).toNat) ?_ ?_
            · refine ⟨0, by omega, hle.trans hle1, ?_⟩
              simp only [stepS, reduceIte, Nat.reduceBEq, Nat.reduceEqDiff, tupleOf, g0, g1, g6, g7]
              exact ⟨rfl, ht, go1⟩
            · rintro a3 C ⟨j, hj, hleC, f0, f1, f6, f7, f8, f9, fs, fo⟩
              rcases Nat.lt_or_ge j 3 with hlt3 | hge3
              · have hc3 : ((j : Int) < 3) = True := by simp; omega
                obtain ⟨pm, d0, d1⟩ := fs.at1 (j := j) (v0 := ii (markN m s j : Nat)) (by rw [List.getElem?_map, marks3_get hlt3]; rfl)
                have hm := markN_lt hm1 s j
                have d2 : binA .quo (ii (markN m s j : Nat)) (ii 8) = some (ii ((markN m s j / 8 : Nat) : Int)) := div_ii _ 8 (by omega) (by omega)
                have d3 : binA .rem (ii (markN m s j : Nat)) (ii 8) = some (ii ((markN m s j % 8 : Nat) : Int)) := rem_ii _ 8 (by omega)
                have d4 := binA_shl8 .i64 (markN m s j % 8) (by omega)
                have hcl := setBs_length ((marks3 m s).take j) (fenceOf m (l.take k))
                obtain ⟨x, hx⟩ : ∃ b, (setBs (fenceOf m (l.take k)) ((marks3 m s).take j))[markN m s j / 8]? = some b := ⟨_, List.getElem?_eq_getElem (by omega)⟩
                obtain ⟨q, hq1, hq2⟩ := fo.byt.at1 hx
                obtain ⟨q2, C2, e1, e2, e3, e4, e5⟩ := own_store (x ||| UInt8.ofNat (2 ^ (markN m s j % 8))) hleC fo (k := markN m s j / 8) (lt_of_get hx)
                have hqq : q2 = q := by
                  rw [hq1] at e1
                  injection e1 with e1; injection e1 with e1 _; exact e1.symm
                subst hqq
                simp only [stepS, reduceIte, Nat.reduceBEq, Nat.reduceEqDiff, tupleOf, f0, f1, f6, f7, f8, f9, binA_lss, hc3, d0, d1, d2, d3, d4, hq1, hq2, binA_or8, e2, binA_add1 j (by omega)]
                refine ⟨⟨j + 1, by omega, e4, rfl, ?_, ?_⟩, by omega⟩
                · refine fs.keep fun i b hb ⟨o, c, hte⟩ => e5 i b hb ?_
                  intro o' c' hfe
                  injection hfe with h6; injection h6 with h6; injection h6 with h6
                  exact hap i o c hte h6.symm
                · rw [setBs_succ (marks3_get hlt3)]
                  have : setB (setBs (fenceOf m (l.take k)) ((marks3 m s).take j)) (markN m s j) = (setBs (fenceOf m (l.take k)) ((marks3 m s).take j)).set (markN m s j / 8) (x ||| UInt8.ofNat (2 ^ (markN m s j % 8))) := by
                    unfold setB
                    rw [List.getD_eq_getElem?_getD, hx, Option.getD_some]
                  rw [this]
                  exact e3
              · have hc3 : ((j : Int) < 3) = False := by simp; omega
                have hj3 : j = 3 := by omega
                subst hj3
                simp only [stepS, reduceIte, Nat.reduceBEq, Nat.reduceEqDiff, tupleOf, f9, f7, binA_lss, hc3, f0, f1, f6, binA_add1 k (by omega)]
                refine ⟨⟨k + 1, by omega, ?_, hleC, rfl, ?_⟩, by omega⟩
                · unfold wrongL at hwk ⊢
                  rw [List.take_add_one, hs, List.any_append, hwk]
                  simp [h32]
                · rw [fenceOf_succ hs]
                  exact fo
          · have c3 : (s.size = 32) = False := by simp [h32]
            simp only [stepS, reduceIte, Nat.reduceBEq, Nat.reduceEqDiff, tupleOf, c3]
            refine hbad _ ?_ hle
            unfold makeF
            rw [if_neg]
            rintro ⟨_, hw⟩
            exact h32 (wrongL_get hw hs)
        · have hc : ((k : Int) < (l.length : Int)) = False := by simp; omega
          simp only [stepS, reduceIte, Nat.reduceBEq, Nat.reduceEqDiff, tupleOf, g0, g6, g7, (hv.le hle).len, binA_lss, hc]
          rw [List.take_of_length_le hge] at go hwk
          refine hok _ _ _ ?_ hle go
          unfold makeF
          rw [if_pos ⟨by omega, hwk⟩, Int.toNat_natCast]
end Go.AS.C


namespace Go.AS.C
open Go Go.Proofs
set_option linter.unusedVariables false
set_option linter.unusedSimpArgs false
set_option maxRecDepth 10000

theorem ref_Fix4 {A : AH} {n : Nat} {Q : Value → AH → Prop} (h : n ≤ 2147483647) (hq : ∀ A' t, Le A A' → OwnB A.length A' t (leB n 4) → Q (.tuple #[t, ii 0]) A') : ACalls 1 Tryd.prog chantryref01_Fix [ii n, ii 4] Q A := by
  refine ref01_Fix_spec (fun z t A' hz k o => ?_) (fun hz => ?_)
  · rw [fixF4 h] at hz
    injection hz with hz
    subst hz
    exact hq _ _ k o
  · rw [fixF4 h] at hz; cases hz
theorem ref28_Put_spec {A : AH} {v : Value} {ts : List (List UInt8)} {Q : Value → AH → Prop} (hv : Byts A v ts) (hl : ts.length ≤ 4096) (htl : ∀ t ∈ ts, t.length < 2 ^ 36) (hq : ∀ A' u, Le A A' → OwnB A.length A' u (putSg ts) → Q (.tuple #[u, ii (putE ts : Nat)]) A') : ACalls 1 Tryd.prog chantryref28_Put [v] Q A := by
  refine ACalls.of_fits mixed fits_chantryref28_Put rfl ?_
  unfold ic_chantryref28_Put
  have i0 : initA [v] 0 = v := rfl
  generalize initA [v] = a at i0
  obtain ⟨vs, hvs, hval⟩ := id hv
  have lvs := All2.len _ _ hval
  have hvl : ∀ B, sLens B false v = some (ii ts.length, B) := fun B => by rw [lvs]; exact hvs.lenB B
  have bad : putE ts ≠ 0 → putSg ts = [] := fun h => by unfold putSg; rw [if_neg h]
  by_cases h0 : ts.length = 0
  · have e : putE ts = 1 := by unfold putE; rw [if_pos h0]
    have eb := bad (by omega)
    have := hq A (.slice none 0 0) (.refl _) (by rw [eb]; exact OwnB.nil _ _)
    rw [e] at this
    simp (maxSteps := 1000000) (disch := omega) only [stepS, reduceIte, Nat.reduceBEq, Nat.reduceEqDiff, tupleOf, stepT, i0, hvl]
    exact this
  · simp (maxSteps := 1000000) (disch := omega) only [stepS, reduceIte, Nat.reduceBEq, Nat.reduceEqDiff, tupleOf, stepT, i0, hvl]
    refine W_loop (fun a' B => ∃ k : Nat, k ≤ ts.length ∧ Le A B ∧ (∀ t ∈ ts.take k, frE t = 0) ∧ a' 0 = v ∧ a' 4 = ii k) (fun a' _ => ts.length - (iv (a' 4)).toNat) ?_ ?_
    · refine ⟨0, by omega, .refl _, by simp, ?_⟩
      simp (maxSteps := 1000000) (disch := omega) only [stepS, reduceIte, Nat.reduceBEq, Nat.reduceEqDiff, tupleOf, stepT, i0]
      (all_goals (and_intros <;> first | rfl | assumption | (push_cast; rfl) | (congr 1; omega) | omega | (simp; done)))
    · rintro a2 B ⟨k, hk, hle, hz, g0, g4⟩
      rcases Nat.lt_or_ge k ts.length with hlt | hge
      · obtain ⟨t, ht⟩ := get_some hlt
        obtain ⟨p, x, p1, p2, p3⟩ := (hv.le hle).at1 ht
        have htt := htl t (List.mem_of_getElem? ht)
        simp (maxSteps := 1000000) (disch := omega) only [stepS, reduceIte, Nat.reduceBEq, Nat.reduceEqDiff, tupleOf, stepT, g0, g4, hvl, p1, p2]
        refine ref26_Put_spec p3 (by omega) (fun tv B4 h4 k4 o4 => ?_) (fun h4 => ?_)
        · simp (maxSteps := 1000000) (disch := omega) only [stepS, reduceIte, Nat.reduceBEq, Nat.reduceEqDiff, tupleOf, stepT, g0, g4, hvl]
          refine ⟨⟨k + 1, by omega, hle.trans k4, ?_, rfl⟩, by omega⟩
          intro x hx
          rw [List.take_add_one, ht, Option.toList_some] at hx
          rcases List.mem_append.1 hx with hx | hx
          · exact hz x hx
          · rw [List.mem_singleton.1 hx]; exact h4
        · have hne : (frE t : Int) ≠ 0 := by omega
          have hsp : ts = ts.take k ++ t :: ts.drop (k + 1) := by
            have := List.drop_eq_getElem_cons hlt
            rw [List.getElem?_eq_getElem hlt] at ht
            rw [← Option.some.inj ht, ← this, List.take_append_drop]
          have hfind : ts.find? (fun t => decide (frE t ≠ 0)) = some t := by
            rw [hsp, List.find?_append, List.find?_eq_none.2 (by intro x hx; simp [hz x hx]), Option.none_or, List.find?_cons, decide_eq_true h4]
          have e : putE ts = frE t := by unfold putE; rw [if_neg h0, hfind]
          have eb := bad (by omega)
          have := hq B (.slice none 0 0) hle (by rw [eb]; exact OwnB.nil _ _)
          rw [e] at this
          simp (maxSteps := 1000000) (disch := omega) only [stepS, reduceIte, Nat.reduceBEq, Nat.reduceEqDiff, tupleOf, stepT, g0, g4, hvl, hne]
          exact this
      · rw [List.take_of_length_le hge] at hz
        have hfind : ts.find? (fun t => decide (frE t ≠ 0)) = none := List.find?_eq_none.2 (by intro x hx; simp [hz x hx])
        have e : putE ts = if 262144 < (segB (srtT shaF ts)).length + 4 then 3 else 0 := by unfold putE; rw [if_neg h0, hfind]
        simp (maxSteps := 1000000) (disch := omega) only [stepS, reduceIte, Nat.reduceBEq, Nat.reduceEqDiff, tupleOf, stepT, g0, g4, hvl]
        refine ref28_Sorted_spec (hv.le hle) (by omega) htl fun A1 u k1 hu => ?_
        have sl := srtT_len (key := shaF) ts
        have hpos : 1 ≤ (srtT shaF ts).length := by
          obtain ⟨t, ht⟩ := get_some (l := ts) (k := 0) (by omega)
          have hm := List.mem_of_getElem? ht
          have hs : (ts.find? (fun e => decide (shaF e = shaF t))).isSome := by rw [List.find?_isSome]; exact ⟨t, hm, by simp⟩
          obtain ⟨z, hz⟩ := Option.isSome_iff_exists.1 hs
          have hzk : shaF z = shaF t := by have := List.find?_some hz; simpa using this
          have : z ∈ srtT shaF ts := ((srtT_spec ts).2 z).2 (by rw [hzk]; exact hz)
          exact List.length_pos_of_mem this
        have hfs : ∀ t ∈ srtT shaF ts, frE t = 0 := fun t ht => hz t (srtT_mem t ht)
        have eb : putE ts = 0 → putSg ts = sealB (segB (srtT shaF ts)) := fun h => by unfold putSg; rw [if_pos h]
        have hle0 := hle
        have k0 := k1
        generalize srtT shaF ts = l at hu sl hpos hfs e eb
        obtain ⟨es, hed, hes, hal2⟩ := id hu
        have heo : ∀ e ∈ es, e.length = 2 ∧ ones e = true := fun e he => domI_len (hed e he)
        have hul := hes.lenB
        rw [← All2.len _ _ hal2] at hul
        have hbl := bodyL_le _ hfs
        have hbl2 : 65541 * l.length ≤ 65541 * 4096 := Nat.mul_le_mul_left _ (by omega)
        simp (maxSteps := 1000000) (disch := omega) only [stepS, reduceIte, Nat.reduceBEq, Nat.reduceEqDiff, tupleOf, stepT, g0, hul]
        refine W_loop (fun a' C => ∃ (k : Nat) (wb wt wa : Value), k ≤ l.length ∧ Le A1 C ∧ OwnB A1.length C wb (bodyL (l.take k)) ∧ OwnB A1.length C wt (entL 0 (l.take k)) ∧ OwnS A1.length C 1 wa ((l.take k).map idT).length (((l.take k).map idT).map .string) ∧ Ap wb wt ∧ Ap wb wa ∧ Ap wt wa ∧
          a' 7 = u ∧ a' 8 = wb ∧ a' 9 = wt ∧ a' 10 = wa ∧ a' 11 = ii k) (fun a' _ => l.length - (iv (a' 11)).toNat) ?_ ?_
        · refine ⟨0, .slice none 0 0, .slice none 0 0, .slice none 0 0, by omega, .refl _, OwnB.nil _ _, OwnB.nil _ _, OwnS.nil _ _ _, .nil, .nil, .nil, ?_⟩
          simp (maxSteps := 1000000) (disch := omega) only [stepS, reduceIte, Nat.reduceBEq, Nat.reduceEqDiff, tupleOf, stepT, g0]
          (all_goals (and_intros <;> first | rfl | assumption | (push_cast; rfl) | (congr 1; omega) | omega | (simp; done)))
        · rintro a3 C ⟨k, wb, wt, wa, hk, hle, ob, ot, oa, ap1, ap2, ap3, g7, g8, g9, g10, g11⟩
          have hel := entL_len (l.take k) 0
          rw [List.length_take, Nat.min_eq_left hk] at hel
          rcases Nat.lt_or_ge k l.length with hlt | hge
          · obtain ⟨t, ht⟩ := get_some hlt
            obtain ⟨ee, hee, x, rfl, hx⟩ := all2_get hal2 ht
            have hft := hfs t (List.mem_of_getElem? ht)
            have htl := frE_zero hft
            have hkl := bodyL_le (l.take k) (fun t ht => hfs t (List.mem_of_mem_take ht))
            rw [List.length_take, Nat.min_eq_left hk] at hkl
            have hkl2 : 65541 * k ≤ 65541 * 4096 := Nat.mul_le_mul_left _ (by omega)
            obtain ⟨p, q, p1, p2, p3⟩ := hes.elfL heo hee (o := 0) (x := .string (idT t)) rfl
            obtain ⟨p', q', p1', p2', p3'⟩ := hes.elfL heo hee (o := 1) (x := x) rfl
            have hpp : p' = p := by
              have h1 := p1 A1 k rfl
              rw [p1' A1 k rfl] at h1
              injection h1 with h1; injection h1
            subst hpp
            have hbl3 := ob.byt.lenB
            have hsz : (idT t).size = 32 := by unfold idT; exact shaF_length t
            simp (maxSteps := 1000000) (disch := omega) only [stepS, reduceIte, Nat.reduceBEq, Nat.reduceEqDiff, tupleOf, stepT, g7, g8, g9, g10, g11, hul, hbl3]
            refine ref_Fix4 (by omega) fun C1 tf k1 o1 => ?_
            obtain ⟨w2, C2, e1, e2, e3, e4⟩ := (ot.le k1).apps (s := idT t) (hle.trans k1) (by rw [hel, hsz]; omega)
            have e5 := sApps_blk e1
            have tfn : Ap tf wt := fun j hj hk => by have := (o1.ge j hj).1; have := OwnS.lt ot j hk; omega
            have x1 : OwnB C.length C2 tf _ := o1.kv e4 tfn
            have tfn2 : ∀ j ∈ blkOf w2, j ∈ blkOf wt ∨ C1.length ≤ j := e5
            obtain ⟨w3, C3, f1, f2, f3, f4⟩ := e3.app (x := tf) e2 x1.byt (by rw [leB_length, List.length_append, hel, bl_idT, shaF_length]; omega)
            have f5 := sApp_blk f1
            have hx3 := hx.le f2
            have l1 := p3 C1 (hle.trans k1)
            simp (maxSteps := 1000000) (disch := omega) only [stepS, reduceIte, Nat.reduceBEq, Nat.reduceEqDiff, tupleOf, stepT, g7, g8, g9, g10, g11, p1, p2, l1, e1, f1, p2', (p3' C3 f2)]
            refine ref26_Put_spec hx3 (by omega) (fun fv C4 _ k4 o4 => ?_) (fun h => absurd hft h)
            have b2 := ((ob.le k1).kv e4 ap1).kv f4 (fun j hj hk => by
              rcases e5 j hk with h | h
              · exact ap1 j hj h
              · have := OwnS.lt (ob.le k1) j hj; omega)
            obtain ⟨w5, C5, u1, u2, u3, u4⟩ := (b2.le k4).app (x := fv) (f2.trans k4) o4.byt (by rw [frameB_length]; omega)
            have u5 := sApp_blk u1
            have at3 : ∀ j ∈ blkOf w3, j ∈ blkOf wt ∨ C.length ≤ j := fun j hj => by
              have := k1.len; have := e4.1
              rcases f5 j hj with h | h
              · rcases e5 j h with h | h
                · exact .inl h
                · exact .inr (by omega)
              · exact .inr (by omega)
            have at5 : ∀ j ∈ blkOf w5, j ∈ blkOf wb ∨ C.length ≤ j := fun j hj => by
              have := k1.len; have := e4.1; have := f4.1; have := k4.len
              rcases u5 j hj with h | h
              · exact .inl h
              · exact .inr (by omega)
            have ap13 : Ap wb w3 := (ap1.symm.grow at3 (OwnS.lt ob)).symm
            have ap33 : Ap w3 wa := ap3.grow at3 (OwnS.lt oa)
            have ap52 : Ap w5 wa := ap2.grow at5 (OwnS.lt oa)
            have a2 := ((((oa.le k1).kv e4 ap3.symm).kv f4 (fun j hj hk => by
              rcases e5 j hk with h | h
              · exact ap3 j h hj
              · have := OwnS.lt (oa.le k1) j hj; omega)).le k4).kv u4 ap2.symm
            have t2 : OwnB A1.length C5 w3 _ := (f3.le k4).kv u4 ap13.symm
            obtain ⟨lt1, w6, C6, z1, z2, z3, z4⟩ := app_str (idT t) u2 a2 (by simp; omega)
            have z5 := sApp_blk z1
            have l5 := p3 C5 u2
            simp (maxSteps := 1000000) (disch := omega) only [stepS, reduceIte, Nat.reduceBEq, Nat.reduceEqDiff, tupleOf, stepT, g7, g8, g9, g10, g11, u1, p1, p2, l5, lt1, z1]
            have at6 : ∀ j ∈ blkOf w6, j ∈ blkOf wa ∨ C5.length ≤ j := fun j hj => by
              rcases z5 j hj with h | h
              · exact .inl h
              · simp only [List.length_append] at h; exact .inr (by omega)
            refine ⟨⟨k + 1, w5, w3, w6, by omega, z2, ?_, ?_, ?_, ?_, ?_, ?_, rfl, rfl, rfl, rfl⟩, by omega⟩
            · rw [List.take_add_one, ht, Option.toList_some, bodyL_snoc]
              exact u3.kv z4 ap52
            · rw [List.take_add_one, ht, Option.toList_some, entL_snoc, Nat.zero_add]
              rw [bl_idT] at t2
              have := t2.kv z4 ap33
              simpa using this
            · rw [List.take_add_one, ht]
              simpa using z3
            · exact ap13.grow (n := C4.length) u5 (fun j hj => by have := OwnS.lt (f3.le k4) j hj; omega)
            · exact (ap52.symm.grow at6 (OwnS.lt u3)).symm
            · exact (ap33.symm.grow at6 (OwnS.lt t2)).symm
          · rw [List.take_of_length_le hge] at ob ot oa hel
            have hkl : k = l.length := by omega
            simp (maxSteps := 1000000) (disch := omega) only [stepS, reduceIte, Nat.reduceBEq, Nat.reduceEqDiff, tupleOf, stepT, g7, g8, g9, g10, g11, hul]
            have hmk : makeF (l.map idT) (l.length : Nat) = some (fenceOf l.length (l.map idT)) := by
              unfold makeF
              rw [if_pos ⟨⟨by omega, by omega⟩, wrongL_ids l⟩, Int.toNat_natCast]
            refine ref27_Make_spec oa.sl (by simp; omega) (fun z fv C1 hz k1 o1 => ?_) (fun C1 h => by rw [hmk] at h; cases h)
            rw [hmk] at hz
            injection hz with hz
            subst hz
            simp (maxSteps := 1000000) (disch := omega) only [stepS, reduceIte, Nat.reduceBEq, Nat.reduceEqDiff, tupleOf, stepT, g7, g8, g9, g10, g11, hul]
            refine ref_Fix4 (by omega) fun C2 t2 k2 o2 => ?_
            have hbl3 := ob.byt.lenB
            simp (maxSteps := 1000000) (disch := omega) only [stepS, reduceIte, Nat.reduceBEq, Nat.reduceEqDiff, tupleOf, stepT, g7, g8, g9, g10, g11, hbl3]
            refine ref_Fix4 (by omega) fun C3 t3 k3 o3 => ?_
            have kk := ((hle.trans k1).trans k2).trans k3
            have k5 : Le C3 (C3 ++ [.row [] .own 1 true]) := .push _ _
            have kb := (((ob.byt.le k1).le k2).le k3).le k5
            have kt := (((ot.byt.le k1).le k2).le k3).le k5
            have kf := ((o1.byt.le k2).le k3).le k5
            have kn := (o2.byt.le k3).le k5
            have km := o3.byt.le k5
            have l0 := lit_none C3 [.int .u8 0] 1
            obtain ⟨w1, D1, e1, e2, e3, _⟩ := OwnB.app (A0 := C3) k5 (own_lit_none (.refl C3)) kb (by simp; omega)
            obtain ⟨w2, D2, f1, f2, f3, f4⟩ := OwnB.app (A0 := C3) e2 e3 ((((ot.byt.le k1).le k2).le k3).le e2) (by simp; omega)
            obtain ⟨w3, D3, h1, h2, h3, h4⟩ := OwnB.app (A0 := C3) f2 f3 (((o1.byt.le k2).le k3).le f2) (by simp [fenceOf_length]; omega)
            obtain ⟨w4, D4, m1, m2, m3, m4⟩ := OwnB.app (A0 := C3) h2 h3 ((o2.byt.le k3).le h2) (by simp [fenceOf_length, leB_length]; omega)
            obtain ⟨w5, D5, n1, n2, n3, n4⟩ := OwnB.app (A0 := C3) m2 m3 (o3.byt.le m2) (by simp [fenceOf_length, leB_length]; omega)
            have es : [] ++ bodyL l ++ entL 0 l ++ fenceOf l.length (l.map idT) ++ leB l.length 4 ++ leB (bodyL l).length 4 = segB l := by simp [segB]
            rw [es] at n3
            have sgl := segB_len l
            by_cases hbig : 262144 < (segB l).length + 4
            · rw [if_pos hbig] at e
              have eb' := bad (by omega)
              have := hq D5 (.slice none 0 0) (((hle0.trans k0).trans kk).trans n2) (by rw [eb']; exact OwnB.nil _ _)
              rw [e] at this
              simp (maxSteps := 1000000) (disch := omega) only [stepS, reduceIte, Nat.reduceBEq, Nat.reduceEqDiff, tupleOf, stepT, g7, g8, g9, g10, g11, l0, e1, f1, h1, m1, n1, n3.byt.lenB]
              exact this
            · rw [if_neg hbig] at e
              simp (maxSteps := 1000000) (disch := omega) only [stepS, reduceIte, Nat.reduceBEq, Nat.reduceEqDiff, tupleOf, stepT, g7, g8, g9, g10, g11, l0, e1, f1, h1, m1, n1, n3.byt.lenB]
              refine ref_Seal_spec n3.byt (by omega) fun z B4 k4 o4 => ?_
              simp (maxSteps := 1000000) (disch := omega) only [stepS, reduceIte, Nat.reduceBEq, Nat.reduceEqDiff, tupleOf, stepT]
              have kA := (((hle0.trans k0).trans kk).trans n2)
              have := hq B4 z (kA.trans k4) (by rw [eb e]; exact o4.mono kA.len)
              rw [e] at this
              exact this
end Go.AS.C


namespace Go.AS.C
open Go
set_option linter.unusedVariables false
set_option linter.unusedSimpArgs false
set_option maxRecDepth 10000

/-- Texts' frames, one behind the other. -/
def allB (l : List (List UInt8)) : List UInt8 := l.flatMap frameB
/-- Where the k-th frame ends. -/
def endK (l : List (List UInt8)) (k : Nat) : Nat := (allB (l.take k)).length
theorem nextF_cut {x r : List UInt8} {n : Nat} (h1 : 1 ≤ x.length) (h2 : x.length ≤ 65535) (hn : n < x.length + 6) : nextF ((frameB x ++ r).take n) = none := by
  unfold nextF
  rw [if_neg]
  rintro ⟨g1, g2, g3⟩
  have hl := frameB_length x
  have hn7 : 7 ≤ n := by rw [List.length_take] at g1; omega
  have e2 : ((frameB x ++ r).take n).take 2 = leB x.length 2 := by
    rw [List.take_take, Nat.min_eq_left (by omega)]
    unfold frameB sealB
    rw [List.append_assoc, List.append_assoc, List.take_append_of_le_length (by rw [leB_length]; omega), List.take_of_length_le (by rw [leB_length]; omega)]
  rw [e2, leN_leB 2 _ (by omega)] at g3
  rw [List.length_take] at g3
  omega
theorem scan_cut : ∀ (l : List (List UInt8)) (n k : Nat), (∀ x ∈ l, 1 ≤ x.length ∧ x.length ≤ 65535) → k ≤ l.length → endK l k ≤ n → (k < l.length → n < endK l (k + 1)) → n ≤ (allB l).length → scanF ((allB l).take n) = (l.take k, endK l k)
  | [], n, k, _, hk, _, _, _ => by
    have : k = 0 := by simpa using hk
    subst this
    have : (allB []).take n = [] := by simp [allB]
    rw [this]
    rfl
  | x :: l, n, k, hx, hk, h1, h2, h3 => by
    have hx0 := hx x (by simp)
    have hl := frameB_length x
    have e : allB (x :: l) = frameB x ++ allB l := by simp [allB]
    have ek : ∀ j, endK (x :: l) (j + 1) = x.length + 6 + endK l j := by
      intro j
      simp only [endK, allB, List.take_succ_cons, List.flatMap_cons, List.length_append, hl]
    cases k with
    | zero =>
      have := h2 (by simp)
      rw [ek 0] at this
      have e0 : endK l 0 = 0 := by simp [endK, allB]
      rw [e, scanF_none (nextF_cut hx0.1 hx0.2 (by omega))]
      simp [endK, allB]
    | succ k =>
      rw [ek] at h1
      have e4 : (allB (x :: l)).take n = frameB x ++ (allB l).take (n - (x.length + 6)) := by
        rw [e, List.take_append, hl, List.take_of_length_le (by omega)]
      rw [e4, scanF_some (nextF_frame hx0.1 hx0.2)]
      have e5 : (frameB x ++ (allB l).take (n - (x.length + 6))).drop (x.length + 6) = (allB l).take (n - (x.length + 6)) := by
        rw [← hl, List.drop_left]
      rw [e5, scan_cut l (n - (x.length + 6)) k (fun y hy => hx y (by simp [hy])) (by simpa using hk) (by omega) (fun h => by have := h2 (by simpa using h); rw [ek] at this; omega) (by rw [e, List.length_append, hl] at h3; omega), ek]
      simp

end Go.AS.C


namespace Go.AS.C
open Go Go.Proofs
set_option linter.unusedVariables false
set_option linter.unusedSimpArgs false
set_option maxRecDepth 10000

theorem bitAt_test (bs : List UInt8) (b : Nat) : bitAt bs b = (bs.getD (b / 8) 0).toNat.testBit (b % 8) := by
  unfold bitAt
  rw [Nat.testBit_eq_decide_div_mod_eq, Bool.eq_iff_iff, beq_iff_eq, decide_eq_true_eq]
theorem two_pow8 {j : Nat} (h : j < 8) : (UInt8.ofNat (2 ^ j)).toNat = 2 ^ j := by
  rw [UInt8.toNat_ofNat', Nat.mod_eq_of_lt]
  have : 2 ^ j ≤ 2 ^ 7 := Nat.pow_le_pow_right (by omega) (by omega)
  omega
theorem bitAt_setB {bs : List UInt8} {m : Nat} (h : m < 8 * bs.length) (b : Nat) : bitAt (setB bs m) b = (bitAt bs b || decide (b = m)) := by
  simp only [bitAt_test, setB]
  have hm : m / 8 < bs.length := by omega
  by_cases hb : b / 8 = m / 8
  · rw [List.getD_eq_getElem?_getD, hb, List.getElem?_set_self hm, Option.getD_some, UInt8.toNat_or, Nat.testBit_or, two_pow8 (Nat.mod_lt _ (by omega)), Nat.testBit_two_pow]
    congr 1
    rw [decide_eq_decide]
    omega
  · rw [List.getD_eq_getElem?_getD, List.getElem?_set_ne (by omega), ← List.getD_eq_getElem?_getD]
    have : ¬ (b = m) := by omega
    simp [this]
theorem bitAt_setBs {l : List Nat} : ∀ {bs : List UInt8}, (∀ m ∈ l, m < 8 * bs.length) → ∀ b, bitAt (setBs bs l) b = (bitAt bs b || decide (b ∈ l)) := by
  induction l with
  | nil => intro bs _ b; simp [setBs]
  | cons m l ih =>
    intro bs h b
    show bitAt (setBs (setB bs m) l) b = _
    rw [ih (fun x hx => by rw [setB_length]; exact h x (by simp [hx])), bitAt_setB (h m (by simp))]
    simp [Bool.or_assoc]
theorem marks3_lt {n : Nat} (hn : 1 ≤ n) (s : ByteArray) : ∀ m ∈ marks3 n s, m < 8 * n := by
  intro m hm
  simp only [marks3, List.mem_cons, List.not_mem_nil, or_false] at hm
  rcases hm with rfl | rfl | rfl <;> exact markN_lt hn _ _
theorem bitAt_zero (n b : Nat) : bitAt (List.replicate n 0) b = false := by
  rw [bitAt_test, List.getD_eq_getElem?_getD, List.getElem?_replicate]
  split <;> simp
theorem bitAt_fence {n : Nat} (hn : 1 ≤ n) (l : List ByteArray) (b : Nat) : bitAt (fenceOf n l) b = l.any fun s => decide (b ∈ marks3 n s) := by
  have : ∀ (l : List ByteArray) (bs : List UInt8), bs.length = n → bitAt (l.foldl (fun b s => setBs b (marks3 n s)) bs) b = (bitAt bs b || l.any fun s => decide (b ∈ marks3 n s)) := by
    intro l
    induction l with
    | nil => intro bs _; simp
    | cons s l ih =>
      intro bs hl
      rw [List.foldl_cons, ih _ (by rw [setBs_length, hl]), bitAt_setBs (by rw [hl]; exact marks3_lt hn s)]
      simp [Bool.or_assoc]
  unfold fenceOf
  rw [this l _ (by simp), bitAt_zero, Bool.false_or]
theorem fence_has {n : Nat} (hn : 1 ≤ n ∧ n ≤ 4096) {l : List ByteArray} {s : ByteArray} (hs : s ∈ l) (h32 : s.size = 32) : hasF (fenceOf n l) s = true := by
  have hb : ∀ k, markN n s k ∈ marks3 n s → bitAt (fenceOf n l) (markN n s k) = true := by
    intro k hk
    rw [bitAt_fence hn.1, List.any_eq_true]
    exact ⟨s, hs, by simpa using hk⟩
  unfold hasF
  rw [fenceOf_length, hb 0 (by simp [marks3]), hb 1 (by simp [marks3]), hb 2 (by simp [marks3])]
  simp [hn, h32]
end Go.AS.C


namespace Go.AS.C
open Go Go.Proofs
set_option linter.unusedVariables false
set_option linter.unusedSimpArgs false
set_option maxRecDepth 10000

def ownG (bs : List UInt8) : List UInt8 := (openB bs).getD []
def tailG (bs : List UInt8) : Nat × Nat := unfixN ((ownG bs).drop ((ownG bs).length - 4))
/-- The texts that are scanned. -/
def textsG (bs : List UInt8) : List (List UInt8) := (scanF ((ownG bs).take (tailG bs).1)).1
def badG (bs : List UInt8) : Prop := (ownG bs).length < 8 ∨ (tailG bs).2 ≠ 0 ∨ (ownG bs).length < (tailG bs).1 ∨ putE (textsG bs) ≠ 0 ∨ putSg (textsG bs) ≠ bs
open Classical in
/-- What Get tells. -/
noncomputable def getE (bs : List UInt8) : Nat := if openB bs = none then 12 else if badG bs then 5 else 0
noncomputable def getL (bs : List UInt8) : List (List UInt8) := srtT shaF (textsG bs)

theorem srtT_idem {α : Type} {key : α → List UInt8} (l : List α) : srtT key (srtT key l) = srtT key l := by
  obtain ⟨a1, a2⟩ := srtT_spec (key := key) l
  obtain ⟨b1, b2⟩ := srtT_spec (key := key) (srtT key l)
  refine rise_ext b1 a1 fun x => ⟨fun h => srtT_mem x h, fun h => (b2 x).2 ?_⟩
  cases hf : (srtT key l).find? (fun e => decide (key e = key x)) with
  | none =>
    rw [List.find?_eq_none] at hf
    exact absurd (by simp) (hf x h)
  | some y =>
    have hk : key y = key x := by have := List.find?_some hf; simpa using this
    rw [rise_get a1 (List.mem_of_find?_eq_some hf) h hk]
theorem srtT_nil_iff {α : Type} {key : α → List UInt8} {l : List α} : (srtT key l).length = 0 ↔ l.length = 0 := by
  constructor
  · intro h
    cases l with
    | nil => rfl
    | cons t l =>
      exfalso
      have hs : ((t :: l).find? (fun e => decide (key e = key t))).isSome := by rw [List.find?_isSome]; exact ⟨t, by simp, by simp⟩
      obtain ⟨z, hz⟩ := Option.isSome_iff_exists.1 hs
      have hzk : key z = key t := by have := List.find?_some hz; simpa using this
      have : z ∈ srtT key (t :: l) := ((srtT_spec _).2 z).2 (by rw [hzk]; exact hz)
      have := List.length_pos_of_mem this
      omega
  · intro h
    have := srtT_len (key := key) l
    omega
theorem putE_zero {ts : List (List UInt8)} : putE ts = 0 ↔ ts.length ≠ 0 ∧ (∀ t ∈ ts, frE t = 0) ∧ (segB (srtT shaF ts)).length + 4 ≤ 262144 := by
  unfold putE
  by_cases h0 : ts.length = 0
  · rw [if_pos h0]
    exact ⟨(fun h => by cases h), fun h => absurd h0 h.1⟩
  · rw [if_neg h0]
    cases hf : ts.find? (fun t => decide (frE t ≠ 0)) with
    | some t =>
      have h1 := List.find?_some hf
      simp only [decide_eq_true_eq] at h1
      have h2 := List.mem_of_find?_eq_some hf
      exact ⟨fun h => absurd h h1, fun h => absurd (h.2.1 t h2) h1⟩
    | none =>
      rw [List.find?_eq_none] at hf
      simp only
      constructor
      · intro h
        refine ⟨h0, fun t ht => ?_, ?_⟩
        · have := hf t ht; simpa using this
        · split at h
          · cases h
          · omega
      · rintro ⟨_, _, h⟩
        rw [if_neg (by omega)]
/-- What is put of sorted texts is what is put of the texts. -/
theorem put_srt {ts : List (List UInt8)} (h : putE ts = 0) : putE (srtT shaF ts) = 0 ∧ putSg (srtT shaF ts) = putSg ts := by
  obtain ⟨h1, h2, h3⟩ := putE_zero.1 h
  have e : putE (srtT shaF ts) = 0 := putE_zero.2 ⟨fun h => h1 (srtT_nil_iff.1 h), fun t ht => h2 t (srtT_mem t ht), by rw [srtT_idem]; exact h3⟩
  refine ⟨e, ?_⟩
  unfold putSg
  rw [if_pos e, if_pos h, srtT_idem]
theorem bodyL_allB (l : List (List UInt8)) : bodyL l = allB l := by unfold bodyL allB; rw [List.flatMap_def]
theorem scan_body {l : List (List UInt8)} (h : ∀ t ∈ l, frE t = 0) : (scanF (bodyL l)).1 = l := by
  have := scan_cut l (allB l).length l.length (fun x hx => frE_zero (h x hx)) (Nat.le_refl _) (by unfold endK; rw [List.take_length]; exact Nat.le_refl _) (fun h => absurd h (Nat.lt_irrefl _)) (Nat.le_refl _)
  rw [List.take_length, List.take_length] at this
  rw [bodyL_allB, this]
/-- What was put is got. -/
theorem get_put {ts : List (List UInt8)} (h : putE ts = 0) (hl : ts.length ≤ 4096) : openB (putSg ts) ≠ none ∧ ¬ badG (putSg ts) ∧ textsG (putSg ts) = srtT shaF ts := by
  obtain ⟨h1, h2, h3⟩ := putE_zero.1 h
  have hp : putSg ts = sealB (segB (srtT shaF ts)) := by unfold putSg; rw [if_pos h]
  have ho : openB (putSg ts) = some (segB (srtT shaF ts)) := by rw [hp, openB_sealB]
  have hown : ownG (putSg ts) = segB (srtT shaF ts) := by unfold ownG; rw [ho]; rfl
  have hs := fun t ht => h2 t (srtT_mem (key := shaF) t ht)
  have hll := srtT_len (key := shaF) ts
  generalize hL : srtT shaF ts = l at *
  have hsl := segB_len l
  have hbl := bodyL_le l hs
  have hbl2 : 65541 * l.length ≤ 65541 * 4096 := Nat.mul_le_mul_left _ (by omega)
  have htail : tailG (putSg ts) = ((bodyL l).length, 0) := by
    unfold tailG
    rw [hown]
    have e : segB l = (bodyL l ++ (entL 0 l ++ (fenceOf l.length (l.map idT) ++ leB l.length 4))) ++ leB (bodyL l).length 4 := by simp [segB]
    have el : (segB l).length - 4 = (bodyL l ++ (entL 0 l ++ (fenceOf l.length (l.map idT) ++ leB l.length 4))).length := by
      have := congrArg List.length e
      simp only [List.length_append, leB_length] at this ⊢
      omega
    rw [el]
    conv => lhs; rw [e, List.drop_left]
    unfold unfixN
    rw [leB_length, if_neg (by omega), leN_leB 4 _ (by omega), if_pos (by omega)]
  have htx : textsG (putSg ts) = l := by
    unfold textsG
    rw [htail, hown]
    have : (segB l).take (bodyL l).length = bodyL l := by unfold segB; rw [List.take_left]
    simp only
    rw [this, scan_body hs]
  have hps := put_srt h
  rw [hL] at hps
  refine ⟨by rw [ho]; simp, ?_, htx⟩
  unfold badG
  rw [htx, htail, hown]
  rintro (h | h | h | h | h)
  · omega
  · exact h rfl
  · simp only at h; omega
  · exact h hps.1
  · exact h hps.2
theorem textsG_len (bs : List UInt8) : (textsG bs).length ≤ bs.length ∧ ∀ t ∈ textsG bs, t.length ≤ bs.length := by
  have hown : (ownG bs).length ≤ bs.length := by
    unfold ownG
    cases ho : openB bs with
    | none => simp
    | some x => have := openB_len ho; simp; omega
  have hs := scanF_le ((ownG bs).take (tailG bs).1)
  have hm : ∀ (n : Nat) (b : List UInt8), b.length ≤ n → ∀ t ∈ (scanF b).1, t.length ≤ b.length := by
    intro n
    induction n with
    | zero =>
      intro b hb t ht
      have : b = [] := List.length_eq_zero_iff.1 (by omega)
      subst this
      rw [scanF_none nextF_nil] at ht; cases ht
    | succ n ih =>
      intro b hb t ht
      cases hx : nextF b with
      | none => rw [scanF_none hx] at ht; cases ht
      | some r =>
        obtain ⟨x, k⟩ := r
        have hk := nextF_ok hx
        rw [scanF_some hx] at ht
        rcases List.mem_cons.1 ht with rfl | ht
        · omega
        · have := ih (b.drop k) (by rw [List.length_drop]; omega) t ht
          rw [List.length_drop] at this; omega
  constructor
  · unfold textsG
    have := hs.2
    rw [List.length_take] at this
    omega
  · intro t ht
    have := hm _ _ (Nat.le_refl _) t ht
    rw [List.length_take] at this
    omega
end Go.AS.C


namespace Go.AS
open Go
set_option maxRecDepth 100000
/-! Codes of library functions that are alike in many chapters (printed by geni.py). -/
noncomputable def icG_bsearch (sz : Nat) : IC :=
  (.seq (.ops [
    ⟨(some 6), none, false, .mov (.const (.int .i64 0))⟩,
    ⟨(some 7), none, false, .mov (.const (.bool false))⟩]) (.seq (.ops [
    ⟨(some 12), none, false, .mov (.tmp 0)⟩,
    ⟨(some 13), none, false, .lens false (.tmp 12)⟩,
    ⟨(some 8), none, false, .mov (.tmp 13)⟩]) (.seq (.ops [
    ⟨(some 14), none, false, .mov (.tmp 8)⟩,
    ⟨(some 9), none, false, .mov (.const (.int .i64 0))⟩,
    ⟨(some 10), none, false, .mov (.tmp 14)⟩]) (.seq (.block 0 (.loop (.seq (.seq (.ops [
    ⟨(some 15), none, false, .mov (.tmp 9)⟩,
    ⟨(some 16), none, false, .mov (.tmp 10)⟩,
    ⟨(some 17), none, false, .bin .lss (.tmp 15) (.tmp 16)⟩]) (.cond (.tmp 17) .skip (.exit 0))) (.block 1 (.seq (.ops [
    ⟨(some 18), none, false, .mov (.tmp 9)⟩,
    ⟨(some 19), none, false, .mov (.tmp 10)⟩,
    ⟨(some 20), none, false, .bin .add (.tmp 18) (.tmp 19)⟩,
    ⟨(some 21), none, false, .conv .u64 (.tmp 20)⟩,
    ⟨(some 22), none, false, .bin .shr (.tmp 21) (.const (.int .u64 1))⟩,
    ⟨(some 23), none, false, .conv .i64 (.tmp 22)⟩,
    ⟨(some 11), none, false, .mov (.tmp 23)⟩]) (.seq (.ops [
    ⟨(some 24), none, false, .mov (.tmp 2)⟩,
    ⟨(some 25), none, false, .mov (.tmp 0)⟩,
    ⟨(some 26), none, false, .mov (.tmp 11)⟩,
    ⟨(some 27), none, false, .iaddr (.tmp 25) (.tmp 26) sz⟩,
    ⟨(some 28), none, false, .loadn (.tmp 27) sz⟩,
    ⟨(some 29), none, false, .mov (.tmp 1)⟩,
    ⟨(some 30), none, false, .calld (.tmp 24) [(.tmp 28), (.tmp 29)]⟩,
    ⟨(some 31), none, false, .bin .lss (.tmp 30) (.const (.int .i64 0))⟩]) (.cond (.tmp 31) (.ops [
    ⟨(some 32), none, false, .mov (.tmp 11)⟩,
    ⟨(some 33), none, false, .bin .add (.tmp 32) (.const (.int .i64 1))⟩,
    ⟨(some 9), none, false, .mov (.tmp 33)⟩]) (.ops [
    ⟨(some 34), none, false, .mov (.tmp 11)⟩,
    ⟨(some 10), none, false, .mov (.tmp 34)⟩])))))))) (.seq (.ops [
    ⟨(some 35), none, false, .mov (.tmp 9)⟩,
    ⟨(some 36), none, false, .mov (.tmp 9)⟩,
    ⟨(some 37), none, false, .mov (.tmp 8)⟩,
    ⟨(some 38), none, false, .bin .lss (.tmp 36) (.tmp 37)⟩,
    ⟨(some 39), none, false, .mov (.tmp 38)⟩,
    ⟨(some 40), (some (39, true)), false, .mov (.tmp 2)⟩,
    ⟨(some 41), (some (39, true)), false, .mov (.tmp 0)⟩,
    ⟨(some 42), (some (39, true)), false, .mov (.tmp 9)⟩,
    ⟨(some 43), (some (39, true)), false, .iaddr (.tmp 41) (.tmp 42) sz⟩,
    ⟨(some 44), (some (39, true)), false, .loadn (.tmp 43) sz⟩,
    ⟨(some 45), (some (39, true)), false, .mov (.tmp 1)⟩,
    ⟨(some 46), (some (39, true)), false, .calld (.tmp 40) [(.tmp 44), (.tmp 45)]⟩,
    ⟨(some 47), (some (39, true)), false, .bin .eql (.tmp 46) (.const (.int .i64 0))⟩,
    ⟨(some 48), none, false, .pick (.tmp 39) (.tmp 47) (.const (.bool false))⟩,
    ⟨(some 6), none, false, .mov (.tmp 35)⟩,
    ⟨(some 7), none, false, .mov (.tmp 48)⟩]) .ret)))))
end Go.AS


namespace Go.AS
open Go
set_option linter.unusedVariables false
set_option linter.unusedSimpArgs false
set_option maxRecDepth 10000

/-- fv, called with an element and what is sought, tells how they compare. -/
def CmpT (G : Nat) (P : Program) (fv tgt : Value) (dom lt eq : List Value → Prop) : Prop :=
  ∀ (A : AH) (x : List Value) (Q : Value → AH → Prop), dom x → (∀ A' n, Le A A' → (n < 0 ↔ lt x) → (n = 0 ↔ eq x) → Q (ii n) A') → callD fv G P [.agg x.toArray, tgt] Q A

section
variable {G : Nat} {P : Program} (hm : P.follows .mixedOrders = true) {sz : Nat} {A : AH} {v fv tgt : Value} {Q : Value → AH → Prop} {dom lt eq : List Value → Prop}
include hm
/-- slices.BinarySearchFunc. -/
theorem bsearch_spec {f : FuncId} (hf : Fits P G f (icG_bsearch sz) [.tmp 6, .tmp 7] 3) (hc : CmpT G P fv tgt dom lt eq) {es : List (List Value)} (hv : Sl A sz v es.length es.flatten) (hok : ∀ e ∈ es, e.length = sz ∧ ones e = true) (hd : ∀ x ∈ es, dom x) (hl : es.length < 1152921504606846976) {p : Nat} (hp : p ≤ es.length)
    (h1 : ∀ j e, j < p → es[j]? = some e → lt e) (h2 : ∀ j e, p ≤ j → es[j]? = some e → ¬ lt e) (hq : ∀ A' b, Le A A' → (b = true ↔ ∃ e, es[p]? = some e ∧ eq e) → Q (.tuple #[ii (p : Nat), .bool b]) A') : ACalls G P f [v, tgt, fv] Q A := by
  refine ACalls.of_fits hm hf rfl ?_
  unfold icG_bsearch
  have i0 : initA [v, tgt, fv] 0 = v := rfl
  have i1 : initA [v, tgt, fv] 1 = tgt := rfl
  have i2 : initA [v, tgt, fv] 2 = fv := rfl
  generalize initA [v, tgt, fv] = r at i0 i1 i2
  have hvl := hv.lenB
  simp (maxSteps := 1000000) (disch := omega) only [stepS, reduceIte, Nat.reduceBEq, Nat.reduceEqDiff, tupleOf, stepT, i0, i1, i2, hvl]
  refine W_loop (fun r' B => ∃ c d : Nat, c ≤ p ∧ p ≤ d ∧ d ≤ es.length ∧ Le A B ∧ r' 0 = v ∧ r' 1 = tgt ∧ r' 2 = fv ∧ r' 8 = ii es.length ∧ r' 9 = ii (c : Nat) ∧ r' 10 = ii (d : Nat)) (fun r' _ => (iv (r' 10)).toNat - (iv (r' 9)).toNat) ?_ ?_
  · refine ⟨0, es.length, by omega, hp, Nat.le_refl _, .refl _, ?_⟩
    simp (maxSteps := 1000000) (disch := omega) only [stepS, reduceIte, Nat.reduceBEq, Nat.reduceEqDiff, tupleOf, stepT, i0, i1, i2]
    (all_goals (and_intros <;> first | rfl | assumption | (push_cast; rfl) | (congr 1; omega) | omega | (simp; done)))
  · rintro r B ⟨c, d, hc1, hd1, hdl, hle, g0, g1, g2, g8, g9, g10⟩
    rcases Nat.lt_or_ge c d with hlt | hge
    · obtain ⟨e, he⟩ := get_some (l := es) (k := (c + d) / 2) (by omega)
      obtain ⟨q, _, q1, q2, _⟩ := (hv.le hle).el hok he
      simp (maxSteps := 1000000) (disch := omega) only [stepS, reduceIte, Nat.reduceBEq, Nat.reduceEqDiff, tupleOf, stepT, g0, g1, g2, g8, g9, g10, convU, convS, half, q1, q2]
      refine hc _ e _ (hd e (List.mem_of_getElem? he)) fun B2 n k2 hn _ => ?_
      by_cases hx : lt e
      · have hn0 : n < 0 := hn.2 hx
        have hpp : (c + d) / 2 < p := by
          rcases Nat.lt_or_ge ((c + d) / 2) p with h | h
          · exact h
          · exact absurd hx (h2 _ _ h he)
        simp (maxSteps := 1000000) (disch := omega) only [stepS, reduceIte, Nat.reduceBEq, Nat.reduceEqDiff, tupleOf, stepT, g0, g1, g2, g8, g9, g10, hn0]
        refine ⟨⟨(c + d) / 2 + 1, d, by omega, hd1, hdl, hle.trans k2, ?_⟩, by omega⟩
        (all_goals (and_intros <;> first | rfl | assumption | (push_cast; rfl) | (congr 1; omega) | omega | (simp; done)))
      · have hn0 : ¬ n < 0 := fun h => hx (hn.1 h)
        have hpp : p ≤ (c + d) / 2 := by
          rcases Nat.lt_or_ge ((c + d) / 2) p with h | h
          · exact absurd (h1 _ _ h he) hx
          · exact h
        simp (maxSteps := 1000000) (disch := omega) only [stepS, reduceIte, Nat.reduceBEq, Nat.reduceEqDiff, tupleOf, stepT, g0, g1, g2, g8, g9, g10, hn0]
        refine ⟨⟨c, (c + d) / 2, hc1, hpp, by omega, hle.trans k2, ?_⟩, by omega⟩
        (all_goals (and_intros <;> first | rfl | assumption | (push_cast; rfl) | (congr 1; omega) | omega | (simp; done)))
    · have hcp : c = p := by omega
      subst hcp
      rcases Nat.lt_or_ge c es.length with hlt2 | hge2
      · obtain ⟨e, he⟩ := get_some (l := es) (k := c) hlt2
        obtain ⟨q, _, q1, q2, _⟩ := (hv.le hle).el hok he
        simp (maxSteps := 1000000) (disch := omega) only [stepS, reduceIte, Nat.reduceBEq, Nat.reduceEqDiff, tupleOf, stepT, g0, g1, g2, g8, g9, g10, q1, q2]
        refine hc _ e _ (hd e (List.mem_of_getElem? he)) fun B2 n k2 _ hn => ?_
        simp (maxSteps := 1000000) (disch := omega) only [stepS, reduceIte, Nat.reduceBEq, Nat.reduceEqDiff, tupleOf, stepT, g0, g1, g2, g8, g9, g10]
        refine hq _ _ (hle.trans k2) ?_
        rw [decide_eq_true_eq, hn]
        constructor
        · intro h; exact ⟨e, he, h⟩
        · rintro ⟨e', he', h⟩; rw [he] at he'; injection he' with he'; subst he'; exact h
      · simp (maxSteps := 1000000) (disch := omega) only [stepS, reduceIte, Nat.reduceBEq, Nat.reduceEqDiff, tupleOf, stepT, g0, g1, g2, g8, g9, g10]
        refine hq _ _ hle ⟨(fun h => by cases h), ?_⟩
        rintro ⟨e, he, _⟩
        have := lt_of_get he; omega
end
end Go.AS


namespace Go.AS.C
open Go Go.Proofs
set_option linter.unusedVariables false
set_option linter.unusedSimpArgs false
set_option maxRecDepth 10000

theorem OwnBs.own {a0 : Nat} {A : AH} {w : Value} {bss : List (List UInt8)} (h : OwnBs a0 A w bss) : ∀ k ∈ blkOf w, a0 ≤ k ∧ k < A.length := by
  obtain ⟨vs, h1, _⟩ := h
  exact h1.ge
theorem lit_sl {A : AH} {t : Value} (ht : one1 t) : sLit A [.slice none 0 0] 1 1 [(0, 1, t)] = some (.slice (some ⟨A.length, 0, none⟩) 1 1, A ++ [.row [t] .own 1 true]) := by
  have := lit1 (A := A) (z := .slice none 0 0) (len := 1) (ps := [(0, 1, t)]) [t] rfl rfl (by
    intro x hx
    rw [List.mem_singleton] at hx
    subst hx; exact ht)
  exact this
theorem byt_one {A : AH} {v : Value} {bs : List UInt8} (h : Byt A v bs) : one1 v := by
  obtain ⟨p, c, hs, _⟩ := h.shape
  rw [hs]; exact one1_sl _ _ _

theorem frame_Scan_spec {A : AH} {v : Value} {bs : List UInt8} {Q : Value → AH → Prop} (hv : Byt A v bs) (hl : bs.length ≤ 2 ^ 38) (hq : ∀ t A', Le A A' → OwnBs A.length A' t (scanF bs).1 → Q (.tuple #[t, ii ((scanF bs).2 : Nat)]) A') : ACalls 1 Tryd.prog frame_Scan [v] Q A := by
  refine ACalls.of_fits mixed fits_frame_Scan rfl ?_
  unfold ic_frame_Scan
  have i0 : initA [v] 0 = v := rfl
  generalize initA [v] = a at i0
  simp (maxSteps := 1000000) (disch := omega) only [stepS, reduceIte, Nat.reduceBEq, Nat.reduceEqDiff, tupleOf, stepT, i0, W_scope]
  refine W_loop (fun a' B => ∃ (k : Nat) (done : List (List UInt8)), k ≤ bs.length ∧ done.length ≤ k ∧ Le A B ∧ a' 0 = v ∧ a' 5 = ii k ∧ OwnBs A.length B (a' 4) done ∧ scanF bs = (done ++ (scanF (bs.drop k)).1, k + (scanF (bs.drop k)).2)) (fun a' _ => bs.length - (iv (a' 5)).toNat) ?_ ?_
  · refine ⟨0, [], by omega, by simp, .refl _, ?_⟩
    simp (maxSteps := 1000000) (disch := omega) only [stepS, reduceIte, Nat.reduceBEq, Nat.reduceEqDiff, tupleOf, stepT, i0]
    exact ⟨rfl, OwnBs.nil _ _, by simp⟩
  · rintro a2 B ⟨k, done, hk, hd, hle, g0, g5, g4, hs⟩
    have hvB := hv.le hle
    rcases Nat.lt_or_ge k bs.length with hlt | hge
    · obtain ⟨u, u1, u2⟩ := hvB.from (l := k) (by omega)
      simp (maxSteps := 1000000) (disch := omega) only [stepS, reduceIte, Nat.reduceBEq, Nat.reduceEqDiff, tupleOf, stepT, g0, g5, hvB.len, u1]
      refine frame_Next_spec u2 (by simp; omega) (fun x n t B1 hx k1 t1 t2 => ?_) (fun B1 hx k1 => ?_)
      · obtain ⟨n1, n2, _, _⟩ := nextF_ok hx
        rw [List.length_drop] at n2
        have gown := OwnBs.own g4
        obtain ⟨w', B2, p1, p2, p3, _⟩ := OwnBs.push (hle.trans k1) (g4.le k1) t1 (fun j hj hj2 => by have := t2 j hj; have := (gown j hj2).2; omega) (by omega)
        simp (maxSteps := 1000000) (disch := omega) only [stepS, reduceIte, Nat.reduceBEq, Nat.reduceEqDiff, tupleOf, stepT, g0, g5, lit_sl (byt_one t1), p1]
        refine ⟨⟨k + n, done ++ [x], by omega, by simp; omega, p2, by simp, p3, ?_⟩, by first | omega | (simp; omega)⟩
        rw [hs, scanF_some hx, List.drop_drop]
        simp [Nat.add_assoc]
      · rw [scanF_none hx] at hs
        have e6 : nextE (bs.drop k) = 5 := by unfold nextE; rw [if_neg (by simp; omega)]
        rw [e6]
        simp (maxSteps := 1000000) (disch := omega) only [stepS, reduceIte, Nat.reduceBEq, Nat.reduceEqDiff, tupleOf, stepT, g0, g5]
        have := hq _ _ (hle.trans k1) (by rw [hs]; simpa using g4.le k1)
        rw [hs] at this
        simpa using this
    · simp (maxSteps := 1000000) (disch := omega) only [stepS, reduceIte, Nat.reduceBEq, Nat.reduceEqDiff, tupleOf, stepT, g0, g5, hvB.len]
      have hkk : k = bs.length := by omega
      subst hkk
      rw [List.drop_length, scanF_none nextF_nil] at hs
      have := hq _ _ hle (by rw [hs]; simpa using g4)
      rw [hs] at this
      simpa using this

theorem ref26_Scan_spec {A : AH} {v : Value} {bs : List UInt8} {Q : Value → AH → Prop} (hv : Byt A v bs) (hl : bs.length ≤ 2 ^ 38) (hq : ∀ t A', Le A A' → OwnBs A.length A' t (scanF bs).1 → Q (.tuple #[t, ii ((scanF bs).2 : Nat)]) A') : ACalls 1 Tryd.prog chantryref26_Scan [v] Q A := by
  refine ACalls.of_fits mixed fits_chantryref26_Scan rfl ?_
  unfold ic_chantryref26_Scan
  have i0 : initA [v] 0 = v := rfl
  generalize initA [v] = a at i0
  simp (maxSteps := 1000000) (disch := omega) only [stepS, reduceIte, Nat.reduceBEq, Nat.reduceEqDiff, tupleOf, stepT, i0]
  refine W_loop (fun a' B => ∃ (k : Nat) (done : List (List UInt8)), k ≤ bs.length ∧ done.length ≤ k ∧ Le A B ∧ a' 0 = v ∧ a' 5 = ii k ∧ OwnBs A.length B (a' 4) done ∧ scanF bs = (done ++ (scanF (bs.drop k)).1, k + (scanF (bs.drop k)).2)) (fun a' _ => bs.length - (iv (a' 5)).toNat) ?_ ?_
  · refine ⟨0, [], by omega, by simp, .refl _, ?_⟩
    simp (maxSteps := 1000000) (disch := omega) only [stepS, reduceIte, Nat.reduceBEq, Nat.reduceEqDiff, tupleOf, stepT, i0]
    exact ⟨rfl, OwnBs.nil _ _, by simp⟩
  · rintro a2 B ⟨k, done, hk, hd, hle, g0, g5, g4, hs⟩
    have hvB := hv.le hle
    obtain ⟨u, u1, u2⟩ := hvB.from (l := k) (by omega)
    simp (maxSteps := 1000000) (disch := omega) only [stepS, reduceIte, Nat.reduceBEq, Nat.reduceEqDiff, tupleOf, stepT, g0, g5, hvB.len, u1]
    refine ref26_Next_spec u2 (by simp; omega) (fun x n t B1 hx k1 t1 t2 => ?_) (fun B1 hx k1 => ?_)
    · obtain ⟨n1, n2, _, _⟩ := nextF_ok hx
      rw [List.length_drop] at n2
      have gown := OwnBs.own g4
      obtain ⟨w', B2, p1, p2, p3, _⟩ := OwnBs.push (hle.trans k1) (g4.le k1) t1 (fun j hj hj2 => by have := hv.lt j (sll_blk u1 j (t2 j hj)); have := (gown j hj2).1; omega) (by omega)
      simp (maxSteps := 1000000) (disch := omega) only [stepS, reduceIte, Nat.reduceBEq, Nat.reduceEqDiff, tupleOf, stepT, g0, g5, lit_sl (byt_one t1), p1]
      refine ⟨⟨k + n, done ++ [x], by omega, by simp; omega, p2, by simp, p3, ?_⟩, by first | omega | (simp; omega)⟩
      rw [hs, scanF_some hx, List.drop_drop]
      simp [Nat.add_assoc]
    · rw [scanF_none hx] at hs
      have e6 : nextE (bs.drop k) ≠ 0 := by unfold nextE; split <;> decide
      generalize nextE (bs.drop k) = e at e6
      simp (maxSteps := 1000000) (disch := omega) only [stepS, reduceIte, Nat.reduceBEq, Nat.reduceEqDiff, tupleOf, stepT, g0, g5]
      have := hq _ _ (hle.trans k1) (by rw [hs]; simpa using g4.le k1)
      rw [hs] at this
      simpa using this
end Go.AS.C


namespace Go.AS.C
open Go Go.Proofs
set_option linter.unusedVariables false
set_option linter.unusedSimpArgs false
set_option maxRecDepth 10000

theorem segment_Rescue_spec {A : AH} {v : Value} {bs : List UInt8} {Q : Value → AH → Prop} (hv : Byt A v bs) (hl : bs.length ≤ 2 ^ 38) (hq : ∀ t A', Le A A' → OwnBs A.length A' t (scanF bs).1 → Q t A') : ACalls 1 Tryd.prog segment_Rescue [v] Q A := by
  refine ACalls.of_fits mixed fits_segment_Rescue rfl ?_
  unfold ic_segment_Rescue
  have i0 : initA [v] 0 = v := rfl
  generalize initA [v] = a at i0
  simp (maxSteps := 1000000) (disch := omega) only [stepS, reduceIte, Nat.reduceBEq, Nat.reduceEqDiff, tupleOf, stepT, i0]
  refine frame_Scan_spec hv hl fun t A' k o => ?_
  simp (maxSteps := 1000000) (disch := omega) only [stepS, reduceIte, Nat.reduceBEq, Nat.reduceEqDiff, tupleOf, stepT]
  exact hq _ _ k o
/-- The text of a row. -/
theorem segment_text_spec {A : AH} {i k : Nat} {l : List (List UInt8)} {t : List UInt8} {Q : Value → AH → Prop} (hi : TabA A i l) (hf : ∀ t ∈ l, frE t = 0) (hl : l.length ≤ 4096) (hk : l[k]? = some t) (hq : ∀ A' u, Le A A' → Byt A' u t → (∀ j ∈ blkOf u, A.length ≤ j) → Q u A') :
    ACalls 1 Tryd.prog segment_Table_text [.pointer (some ⟨i, 0, none⟩), .agg (rowC t (bodyL (l.take k)).length).toArray] Q A := by
  refine ACalls.of_fits mixed fits_segment_Table_text rfl ?_
  unfold ic_segment_Table_text
  obtain ⟨rv, bv, fv, hst, hr, hb, hfv⟩ := hi
  generalize hx : Value.agg (rowC t (bodyL (l.take k)).length).toArray = x
  have i0 : initA [.pointer (some ⟨i, 0, none⟩), x] 0 = .pointer (some ⟨i, 0, none⟩) := rfl
  have i1 : initA [.pointer (some ⟨i, 0, none⟩), x] 1 = x := rfl
  generalize initA [.pointer (some ⟨i, 0, none⟩), x] = a at i0 i1
  have bx : sBox A x = some (.pointer (some ⟨A.length, 0, none⟩), A ++ [.row (rowC t (bodyL (l.take k)).length) .own 0 true]) := by rw [← hx]; rfl
  have k1 : Le A (A ++ [.row (rowC t (bodyL (l.take k)).length) .own 0 true]) := .push _ _
  generalize hB : A ++ [.row (rowC t (bodyL (l.take k)).length) .own 0 true] = B at bx k1
  have gx : B[A.length]? = some (.row (rowC t (bodyL (l.take k)).length) .own 0 true) := by rw [← hB]; exact get_snoc
  have l1 := row_load (k1.get hst) (by decide) (o := 0 + 1) (v := bv) rfl
  have l2 := row_load gx (by decide) (o := 0 + 1) (v := ii ((bodyL (l.take k)).length : Nat)) rfl
  have hlt := lt_of_get hk
  have hsp : bodyL l = bodyL (l.take k) ++ (frameB t ++ bodyL (l.drop (k + 1))) := by
    have e : l = l.take k ++ t :: l.drop (k + 1) := by
      have := List.drop_eq_getElem_cons hlt
      rw [List.getElem?_eq_getElem hlt] at hk
      rw [← Option.some.inj hk, ← this, List.take_append_drop]
    conv => lhs; rw [e]
    simp [bodyL]
  have hbl := bodyL_le l hf
  have hbl2 : 65541 * l.length ≤ 65541 * 4096 := Nat.mul_le_mul_left _ (by omega)
  obtain ⟨u, u1, u2⟩ := (hb.le k1).from (l := (bodyL (l.take k)).length) (by rw [hsp, List.length_append]; omega)
  have hd : (bodyL l).drop (bodyL (l.take k)).length = frameB t ++ bodyL (l.drop (k + 1)) := by rw [hsp, List.drop_left]
  rw [hd] at u2
  have ht := frE_zero (hf t (List.mem_of_getElem? hk))
  have hn := nextF_frame (bs := t) (r := bodyL (l.drop (k + 1))) ht.1 ht.2
  simp (maxSteps := 1000000) (disch := omega) only [stepS, reduceIte, Nat.reduceBEq, Nat.reduceEqDiff, tupleOf, stepT, i0, i1, bx, nilc_ptr, faddr_ptr, l1, l2, u1]
  refine frame_Next_spec u2 (by rw [← hd, List.length_drop]; omega) (fun y n tv A' hy k2 o2 b2 => ?_) (fun A' h _ => by rw [hn] at h; cases h)
  rw [hn] at hy
  injection hy with hy; injection hy with h1 h2; subst h1 h2
  simp (maxSteps := 1000000) (disch := omega) only [stepS, reduceIte, Nat.reduceBEq, Nat.reduceEqDiff, tupleOf, stepT]
  refine hq _ _ (k1.trans k2) o2 (fun j hj => ?_)
  have := b2 j hj
  have := k1.len
  omega
theorem seg_find_ok : calleeOk Tryd.prog segment_Table_Find_1 = true := by kernel_rfl
def domR (e : List Value) : Prop := ∃ (s : ByteArray) (o : Int), e = [.string s, ii o]
theorem rowsL_dom : ∀ (l : List (List UInt8)) (o : Nat), ∀ e ∈ rowsL o l, domR e
  | [], _, e, h => by cases h
  | t :: l, o, e, h => by
    rw [rowsL] at h
    rcases List.mem_cons.1 h with rfl | h
    · exact ⟨_, _, rfl⟩
    · exact rowsL_dom l _ e h
theorem seg_find_cmp (s : ByteArray) : CmpT 1 Tryd.prog (.func (.func segment_Table_Find_1) #[] #[]) (.string s) domR (fun e => keyI e < bl s) (fun e => keyI e = bl s) := by
  rintro A _ Q ⟨t, o, rfl⟩ hq
  rw [callD_func]
  refine ⟨seg_find_ok, ?_⟩
  simp only [List.nil_append, List.append_nil]
  refine ACalls.of_fits mixed fits_segment_Table_Find_1 rfl ?_
  unfold ic_segment_Table_Find_1
  generalize hx : Value.agg #[.string t, ii o] = x
  have i0 : initA [x, .string s] 0 = x := rfl
  have i1 : initA [x, .string s] 1 = .string s := rfl
  generalize initA [x, .string s] = a at i0 i1
  have bx : sBox A x = some (.pointer (some ⟨A.length, 0, none⟩), A ++ [.row [.string t, ii o] .own 0 true]) := by rw [← hx]; rfl
  have k1 : Le A (A ++ [.row [.string t, ii o] .own 0 true]) := .push _ _
  have l2 := row_load (A := A ++ [.row [.string t, ii o] .own 0 true]) get_snoc (by decide) (o := 0 + 0) (v := .string t) rfl
  simp (maxSteps := 1000000) (disch := omega) only [stepS, reduceIte, Nat.reduceBEq, Nat.reduceEqDiff, tupleOf, stepT, i0, i1, bx, faddr_ptr, l2]
  refine cmp_Compare_spec fun n h1 h2 h3 => ?_
  simp (maxSteps := 1000000) (disch := omega) only [stepS, reduceIte, Nat.reduceBEq, Nat.reduceEqDiff, tupleOf, stepT]
  exact hq _ n k1 h1 (by rw [h2]; exact bl_inj.symm)
/-- What is found of an ID. -/
def findL (l : List (List UInt8)) (s : ByteArray) : Option (List UInt8) := l.find? fun t => decide (shaF t = bl s)
theorem keyI_rowC (t : List UInt8) (o : Nat) : keyI (rowC t o) = shaF t := by unfold rowC; rw [keyI_at, bl_idT]
theorem rise_split {l : List (List UInt8)} (hr : l.Pairwise (fun a b => shaF a < shaF b)) (s : List UInt8) : ∃ p, p ≤ l.length ∧ (∀ (j : Nat) t, j < p → l[j]? = some t → shaF t < s) ∧ (∀ (j : Nat) t, p ≤ j → l[j]? = some t → ¬ shaF t < s) := by
  induction l with
  | nil => exact ⟨0, by simp, fun j t h => by omega, fun j t _ h => by simp at h⟩
  | cons x l ih =>
    obtain ⟨h1, h2⟩ := List.pairwise_cons.1 hr
    by_cases hx : shaF x < s
    · obtain ⟨p, p1, p2, p3⟩ := ih h2
      refine ⟨p + 1, by simp; omega, fun j t hj ht => ?_, fun j t hj ht => ?_⟩
      · cases j with
        | zero => simp only [List.getElem?_cons_zero, Option.some.injEq] at ht; subst ht; exact hx
        | succ j => exact p2 j t (by omega) (by simpa using ht)
      · cases j with
        | zero => omega
        | succ j => exact p3 j t (by omega) (by simpa using ht)
    · refine ⟨0, by simp, fun j t h => by omega, fun j t _ ht => ?_⟩
      rcases List.mem_cons.1 (List.mem_of_getElem? ht) with rfl | hm
      · exact hx
      · exact fun h => hx (kl_tr (h1 t hm) h)
theorem segment_Find_spec {A : AH} {i : Nat} {l : List (List UInt8)} {s : ByteArray} {Q : Value → AH → Prop} (hi : TabA A i l) (h1 : 1 ≤ l.length) (hl : l.length ≤ 4096) (hf : ∀ t ∈ l, frE t = 0) (hr : l.Pairwise (fun a b => shaF a < shaF b))
    (hok : ∀ A' u t, findL l s = some t → Le A A' → Byt A' u t → Q (.tuple #[u, .bool true]) A') (hno : ∀ A', findL l s = none → Le A A' → Q (.tuple #[.slice none 0 0, .bool false]) A') : ACalls 1 Tryd.prog segment_Table_Find [.pointer (some ⟨i, 0, none⟩), .string s] Q A := by
  refine ACalls.of_fits mixed fits_segment_Table_Find rfl ?_
  unfold ic_segment_Table_Find
  have hi0 := hi
  obtain ⟨rv, bv, fv, hst, hrv, hb, hfv⟩ := hi
  have i0 : initA [.pointer (some ⟨i, 0, none⟩), .string s] 0 = .pointer (some ⟨i, 0, none⟩) := rfl
  have i1 : initA [.pointer (some ⟨i, 0, none⟩), .string s] 1 = .string s := rfl
  generalize initA [.pointer (some ⟨i, 0, none⟩), .string s] = a at i0 i1
  have l1 := row_load hst (by decide) (o := 0 + 2) (v := fv) rfl
  simp (maxSteps := 1000000) (disch := omega) only [stepS, reduceIte, Nat.reduceBEq, Nat.reduceEqDiff, tupleOf, stepT, i0, i1, isnil_ptr, nilc_ptr, faddr_ptr, l1]
  refine fence_Has_spec hfv fun A1 k1 => ?_
  cases hh : hasF (fenceOf l.length (l.map idT)) s with
  | false =>
    have hn : findL l s = none := by
      unfold findL
      rw [List.find?_eq_none]
      intro t ht hk
      simp only [decide_eq_true_eq] at hk
      have hs : s = idT t := bl_inj.1 (by rw [bl_idT, hk])
      have : hasF (fenceOf l.length (l.map idT)) s = true := by
        rw [hs]
        exact fence_has ⟨h1, hl⟩ (List.mem_map.2 ⟨t, ht, rfl⟩) (by unfold idT; exact shaF_length t)
      rw [hh] at this; cases this
    simp (maxSteps := 1000000) (disch := omega) only [stepS, reduceIte, Nat.reduceBEq, Nat.reduceEqDiff, tupleOf, stepT, i0, i1]
    exact hno _ hn k1
  | true =>
    have l2 := row_load (k1.get hst) (by decide) (o := 0 + 0) (v := rv) rfl
    simp (maxSteps := 1000000) (disch := omega) only [stepS, reduceIte, Nat.reduceBEq, Nat.reduceEqDiff, tupleOf, stepT, i0, i1, nilc_ptr, faddr_ptr, l2]
    obtain ⟨p, p1, p2, p3⟩ := rise_split hr (bl s)
    refine bsearch_spec (sz := 2) mixed (tgt := .string s) fits_segment_row_string (seg_find_cmp s) (hrv.le k1) (rowsL_ok l 0) (rowsL_dom l 0) (by rw [rowsL_len]; omega) (p := p) (by rw [rowsL_len]; exact p1) ?_ ?_ fun A2 b k2 hb2 => ?_
    · intro j e hj he
      obtain ⟨t, ht⟩ := get_some (l := l) (k := j) (by have := lt_of_get he; rw [rowsL_len] at this; exact this)
      rw [rowsL_get l 0 j t ht] at he
      injection he with he; subst he
      show keyI (rowC _ _) < _
      rw [keyI_rowC]; exact p2 j t hj ht
    · intro j e hj he
      obtain ⟨t, ht⟩ := get_some (l := l) (k := j) (by have := lt_of_get he; rw [rowsL_len] at this; exact this)
      rw [rowsL_get l 0 j t ht] at he
      injection he with he; subst he
      show ¬ keyI (rowC _ _) < _
      rw [keyI_rowC]; exact p3 j t hj ht
    · cases b with
      | false =>
        have hn : findL l s = none := by
          unfold findL
          rw [List.find?_eq_none]
          intro t ht hk
          simp only [decide_eq_true_eq] at hk
          obtain ⟨j, hj⟩ := List.mem_iff_getElem?.1 ht
          have hjp : p ≤ j := by
            rcases Nat.lt_or_ge j p with h | h
            · have := p2 j t h hj; rw [hk] at this; exact absurd this (kl_irr _)
            · exact h
          obtain ⟨t0, ht0⟩ := get_some (l := l) (k := p) (by have := lt_of_get hj; omega)
          have h0 := p3 p t0 (Nat.le_refl _) ht0
          have heq : shaF t0 = bl s := by
            rcases Nat.lt_or_ge p j with h | h
            · have := List.pairwise_iff_getElem.1 hr p j (lt_of_get ht0) (lt_of_get hj) h
              rw [List.getElem?_eq_getElem (lt_of_get ht0)] at ht0
              rw [List.getElem?_eq_getElem (lt_of_get hj)] at hj
              rw [Option.some.inj ht0, Option.some.inj hj, hk] at this
              exact absurd this h0
            · have : p = j := by omega
              subst this
              rw [hj] at ht0; injection ht0 with ht0; rw [← ht0]; exact hk
          have : (false : Bool) = true := hb2.2 ⟨_, rowsL_get l 0 p t0 ht0, by rw [keyI_rowC]; exact heq⟩
          cases this
        simp (maxSteps := 1000000) (disch := omega) only [stepS, reduceIte, Nat.reduceBEq, Nat.reduceEqDiff, tupleOf, stepT, i0, i1]
        exact hno _ hn (k1.trans k2)
      | true =>
        obtain ⟨e, he, hk⟩ := hb2.1 rfl
        obtain ⟨t, ht⟩ := get_some (l := l) (k := p) (by have := lt_of_get he; rw [rowsL_len] at this; exact this)
        rw [rowsL_get l 0 p t ht] at he
        injection he with he; subst he
        rw [keyI_rowC] at hk
        have hfd : findL l s = some t := by
          unfold findL
          cases hfi : l.find? (fun t => decide (shaF t = bl s)) with
          | none =>
            rw [List.find?_eq_none] at hfi
            exact absurd (by simpa using hk) (hfi t (List.mem_of_getElem? ht))
          | some z =>
            have hz := List.find?_some hfi
            simp only [decide_eq_true_eq] at hz
            rw [rise_get hr (List.mem_of_find?_eq_some hfi) (List.mem_of_getElem? ht) (by rw [hz, hk])]
        have kk := k1.trans k2
        have l3 := row_load (kk.get hst) (by decide) (o := 0 + 0) (v := rv) rfl
        obtain ⟨q, _, q1, q2, _⟩ := (hrv.le kk).el (rowsL_ok l 0) (rowsL_get l 0 p t ht)
        rw [Nat.zero_add] at q2
        simp (maxSteps := 1000000) (disch := omega) only [stepS, reduceIte, Nat.reduceBEq, Nat.reduceEqDiff, tupleOf, stepT, i0, i1, nilc_ptr, faddr_ptr, l3, q1, q2]
        refine segment_text_spec (hi0.le kk) hf hl ht fun A3 u k3 o3 _ => ?_
        simp (maxSteps := 1000000) (disch := omega) only [stepS, reduceIte, Nat.reduceBEq, Nat.reduceEqDiff, tupleOf, stepT]
        exact hok _ _ _ hfd (kk.trans k3) o3
theorem segment_Texts_spec {A : AH} {i : Nat} {l : List (List UInt8)} {Q : Value → AH → Prop} (hi : TabA A i l) (hl : l.length ≤ 4096) (hf : ∀ t ∈ l, frE t = 0) (hq : ∀ A' u, Le A A' → OwnBs A.length A' u l → Q u A') : ACalls 1 Tryd.prog segment_Table_Texts [.pointer (some ⟨i, 0, none⟩)] Q A := by
  refine ACalls.of_fits mixed fits_segment_Table_Texts rfl ?_
  unfold ic_segment_Table_Texts
  have hi0 := hi
  obtain ⟨rv, bv, fv, hst, hrv, hb, hfv⟩ := hi
  have i0 : initA [.pointer (some ⟨i, 0, none⟩)] 0 = .pointer (some ⟨i, 0, none⟩) := rfl
  generalize initA [.pointer (some ⟨i, 0, none⟩)] = a at i0
  have l0 := row_load hst (by decide) (o := 0 + 0) (v := rv) rfl
  have hrl := hrv.lenB
  rw [rowsL_len] at hrl
  simp (maxSteps := 1000000) (disch := omega) only [stepS, reduceIte, Nat.reduceBEq, Nat.reduceEqDiff, tupleOf, stepT, i0, isnil_ptr, nilc_ptr, faddr_ptr, l0, hrl]
  refine W_loop (fun a' B => ∃ k : Nat, k ≤ l.length ∧ Le A B ∧ OwnBs A.length B (a' 3) (l.take k) ∧ a' 0 = .pointer (some ⟨i, 0, none⟩) ∧ a' 12 = rv ∧ a' 13 = ii l.length ∧ a' 14 = ii k) (fun a' _ => l.length - (iv (a' 14)).toNat) ?_ ?_
  · refine ⟨0, by omega, .refl _, ?_⟩
    simp (maxSteps := 1000000) (disch := omega) only [stepS, reduceIte, Nat.reduceBEq, Nat.reduceEqDiff, tupleOf, stepT, i0]
    exact ⟨OwnBs.nil _ _, rfl⟩
  · rintro a2 B ⟨k, hk, hle, ho, g0, g12, g13, g14⟩
    generalize ex : a2 3 = w at ho
    rcases Nat.lt_or_ge k l.length with hlt | hge
    · obtain ⟨t, ht⟩ := get_some hlt
      obtain ⟨p, _, p1, p2, _⟩ := (hrv.le hle).el (rowsL_ok l 0) (rowsL_get l 0 k t ht)
      rw [Nat.zero_add] at p2
      have k1 : Le B (B ++ [.row (rowC t (bodyL (l.take k)).length) .own 0 true]) := .push _ _
      have c1 := copy_el (sz := 2) (z := [.string ⟨#[]⟩, .int .i64 0]) (e := rowC t (bodyL (l.take k)).length) B rfl rfl rfl
      generalize hB1 : B ++ [.row (rowC t (bodyL (l.take k)).length) .own 0 true] = B1 at c1 k1
      have gx : B1[B.length]? = some (.row (rowC t (bodyL (l.take k)).length) .own 0 true) := by rw [← hB1]; exact get_snoc
      have d1 := row_loadn gx (by decide) (m := 2) rfl
      simp (maxSteps := 1000000) (disch := omega) only [stepS, reduceIte, Nat.reduceBEq, Nat.reduceEqDiff, tupleOf, stepT, g0, g12, g13, g14, ex, p1, p2, c1, d1]
      refine segment_text_spec (hi0.le (hle.trans k1)) hf hl ht fun B2 u k2 o2 b2 => ?_
      have kk := hle.trans (k1.trans k2)
      have hown := OwnBs.own ho
      obtain ⟨w', B3, e1, e2, e3, _⟩ := OwnBs.push kk (ho.le (k1.trans k2)) o2 (fun j hj hj2 => by have := b2 j hj; have := (hown j hj2).2; have := k1.len; omega) (by rw [List.length_take]; omega)
      simp (maxSteps := 1000000) (disch := omega) only [stepS, reduceIte, Nat.reduceBEq, Nat.reduceEqDiff, tupleOf, stepT, g0, g12, g13, g14, ex, lit_sl o2.one1, e1]
      refine ⟨⟨k + 1, by omega, e2, ?_, rfl⟩, by omega⟩
      rw [List.take_add_one, ht]
      simpa using e3
    · simp (maxSteps := 1000000) (disch := omega) only [stepS, reduceIte, Nat.reduceBEq, Nat.reduceEqDiff, tupleOf, stepT, g0, g12, g13, g14, ex]
      rw [List.take_of_length_le hge] at ho
      exact hq _ _ hle ho
theorem segment_Get_spec {A : AH} {v : Value} {bs : List UInt8} {Q : Value → AH → Prop} (hg : Le [kB] A) (hv : Byt A v bs) (hl : bs.length ≤ 2 ^ 30) (ht : (textsG bs).length ≤ 4096)
    (hok : ∀ A' i, getE bs = 0 → Le A A' → TabA A' i (getL bs) → Q (.tuple #[.pointer (some ⟨i, 0, none⟩), ii 0]) A') (hbad : ∀ A', getE bs ≠ 0 → Le A A' → Q (.tuple #[.pointer none, ii (getE bs : Nat)]) A') : ACalls 1 Tryd.prog segment_Get [v] Q A := by
  refine ACalls.of_fits mixed fits_segment_Get rfl ?_
  unfold ic_segment_Get
  have i0 : initA [v] 0 = v := rfl
  generalize initA [v] = a at i0
  simp (maxSteps := 1000000) (disch := omega) only [stepS, reduceIte, Nat.reduceBEq, Nat.reduceEqDiff, tupleOf, stepT, i0]
  refine crc_Open_spec hv (by omega) (fun own u A1 ho k1 o1 => ?_) (fun A1 ho k1 => ?_)
  rotate_left
  · have e : getE bs = 12 := by unfold getE; rw [if_pos ho]
    have := hbad A1 (by omega) k1
    rw [e] at this
    simp (maxSteps := 1000000) (disch := omega) only [stepS, reduceIte, Nat.reduceBEq, Nat.reduceEqDiff, tupleOf, stepT, i0]
    exact this
  have hne : openB bs ≠ none := by rw [ho]; simp
  have hown : ownG bs = own := by unfold ownG; rw [ho]; rfl
  have hol := openB_len ho
  have five : badG bs → getE bs = 5 := fun h => by unfold getE; rw [if_neg hne, if_pos h]
  have ul := o1.byt.lenB
  by_cases h8 : own.length < 8
  · have e := five (.inl (by rw [hown]; exact h8))
    have := hbad A1 (by omega) k1
    rw [e] at this
    simp (maxSteps := 1000000) (disch := omega) only [stepS, reduceIte, Nat.reduceBEq, Nat.reduceEqDiff, tupleOf, stepT, i0, ul]
    exact this
  · obtain ⟨t4, f1, f2⟩ := o1.byt.from (l := own.length - 4) (by omega)
    have f1' : sSll A1 u (some (.int .i64 ((own.length : Int) - 4))) none none 1 = some (t4, A1) := by
      rw [show ((own.length : Int) - 4) = ((own.length - 4 : Nat) : Int) by omega]; exact f1
    simp (maxSteps := 1000000) (disch := omega) only [stepS, reduceIte, Nat.reduceBEq, Nat.reduceEqDiff, tupleOf, stepT, i0, ul, f1']
    refine num_Unfix_spec f2 ?_
    have htl : tailG bs = unfixN (own.drop (own.length - 4)) := by unfold tailG; rw [hown]
    rw [← htl]
    by_cases he : (tailG bs).2 = 0
    · by_cases hn : own.length < (tailG bs).1
      · have e := five (.inr (.inr (.inl (by rw [hown]; exact hn))))
        have := hbad A1 (by omega) k1
        rw [e] at this
        simp (maxSteps := 1000000) (disch := omega) only [stepS, reduceIte, Nat.reduceBEq, Nat.reduceEqDiff, tupleOf, stepT, i0, ul, he]
        exact this
      · obtain ⟨t5, m1, m2⟩ := o1.byt.upto (k := (tailG bs).1) (by omega)
        have m1' : sSll A1 u none (some (.int .i64 ((tailG bs).1 : Int))) none 1 = some (t5, A1) := m1
        simp (maxSteps := 1000000) (disch := omega) only [stepS, reduceIte, Nat.reduceBEq, Nat.reduceEqDiff, tupleOf, stepT, i0, ul, he, m1']
        refine frame_Scan_spec m2 (by rw [List.length_take]; omega) fun tv A2 k2 o2 => ?_
        have htx : (scanF (own.take (tailG bs).1)).1 = textsG bs := by unfold textsG; rw [hown]
        rw [htx] at o2
        obtain ⟨tx1, tx2⟩ := textsG_len bs
        simp (maxSteps := 1000000) (disch := omega) only [stepS, reduceIte, Nat.reduceBEq, Nat.reduceEqDiff, tupleOf, stepT, i0]
        refine segment_Put_spec (hg.trans (k1.trans k2)) o2.byts ht (fun t h => by have := tx2 t h; omega) fun A3 pv k3 o3 => ?_
        by_cases hp : putE (textsG bs) = 0
        · have hvA := ((hv.le k1).le k2).le k3
          simp (maxSteps := 1000000) (disch := omega) only [stepS, reduceIte, Nat.reduceBEq, Nat.reduceEqDiff, tupleOf, stepT, i0, hp]
          refine slices_Equal_spec o3.byt hvA (by
            unfold putSg
            rw [if_pos hp, sealB_length]
            have := (putE_zero.1 hp).2.2
            omega) ?_
          by_cases heq : putSg (textsG bs) = bs
          · have hz : ¬ badG bs := by
              unfold badG
              rw [hown]
              rintro (h | h | h | h | h)
              · exact h8 h
              · exact h he
              · exact hn h
              · exact h hp
              · exact h heq
            have e : getE bs = 0 := by unfold getE; rw [if_neg hne, if_neg hz]
            rw [heq, beq_self_eq_true]
            simp (maxSteps := 1000000) (disch := omega) only [stepS, reduceIte, Nat.reduceBEq, Nat.reduceEqDiff, tupleOf, stepT, i0]
            have kk := (k1.trans k2).trans k3
            obtain ⟨z1, z2, z3⟩ := putE_zero.1 hp
            refine segment_sorted_spec (hg.trans kk) (o2.byts.le k3) (by omega) (fun t h => by have := tx2 t h; omega) fun A4 w k4 hw => ?_
            simp (maxSteps := 1000000) (disch := omega) only [stepS, reduceIte, Nat.reduceBEq, Nat.reduceEqDiff, tupleOf, stepT]
            have hlen := srtT_len (key := shaF) (textsG bs)
            have hpos : (srtT shaF (textsG bs)).length ≠ 0 := fun h => z1 (srtT_nil_iff.1 h)
            refine segment_table_spec hw (by omega) (by omega) (fun t h => z2 t (srtT_mem t h)) fun A5 i k5 _ ht5 => ?_
            simp (maxSteps := 1000000) (disch := omega) only [stepS, reduceIte, Nat.reduceBEq, Nat.reduceEqDiff, tupleOf, stepT]
            exact hok A5 i e ((kk.trans k4).trans k5) ht5
          · have hb : (putSg (textsG bs) == bs) = false := by simpa using heq
            have e := five (.inr (.inr (.inr (.inr heq))))
            have := hbad A3 (by omega) ((k1.trans k2).trans k3)
            rw [e] at this
            rw [hb]
            simp (maxSteps := 1000000) (disch := omega) only [stepS, reduceIte, Nat.reduceBEq, Nat.reduceEqDiff, tupleOf, stepT, i0]
            exact this
        · have hp' : ¬ ((putE (textsG bs) : Nat) : Int) = 0 := by omega
          have e := five (.inr (.inr (.inr (.inl hp))))
          have := hbad A3 (by omega) ((k1.trans k2).trans k3)
          rw [e] at this
          simp (maxSteps := 1000000) (disch := omega) only [stepS, reduceIte, Nat.reduceBEq, Nat.reduceEqDiff, tupleOf, stepT, i0, hp']
          exact this
    · have he' : ¬ (((tailG bs).2 : Nat) : Int) = 0 := by omega
      have e := five (.inr (.inl he))
      have := hbad A1 (by omega) k1
      rw [e] at this
      simp (maxSteps := 1000000) (disch := omega) only [stepS, reduceIte, Nat.reduceBEq, Nat.reduceEqDiff, tupleOf, stepT, i0, ul, he']
      exact this
end Go.AS.C


namespace Go.AS.C
open Go Go.Proofs
set_option linter.unusedVariables false
set_option linter.unusedSimpArgs false
set_option maxRecDepth 10000

def sumS (l : List Int) : Int := (l.map fun n => sizeF n + 37).sum
def zeroS (l : List Int) : Bool := l.any fun n => decide (sizeF n = 0)
/-- How many bytes a segment of texts of these sizes has. -/
def sizeS (l : List Int) : Int := if l.length = 0 ∨ 4096 < l.length ∨ zeroS l = true ∨ 262144 < 12 + sumS l then 0 else 12 + sumS l
theorem sizeF_bnd (n : Int) : 0 ≤ sizeF n ∧ sizeF n ≤ 65541 := by
  unfold sizeF
  split <;> omega
theorem sumS_snoc (l : List Int) (n : Int) : sumS (l ++ [n]) = sumS l + (sizeF n + 37) := by simp [sumS]
theorem sumS_bnd : ∀ l : List Int, 0 ≤ sumS l ∧ sumS l ≤ 65578 * l.length ∧ 37 * l.length ≤ sumS l
  | [] => by simp [sumS]
  | n :: l => by
    have h := sumS_bnd l
    have hn := sizeF_bnd n
    simp only [sumS, List.map_cons, List.sum_cons, List.length_cons] at h ⊢
    omega
theorem sumS_take (l : List Int) (k : Nat) : sumS (l.take k) ≤ sumS l := by
  have h := (sumS_bnd (l.drop k)).1
  have : sumS l = sumS (l.take k) + sumS (l.drop k) := by
    conv => lhs; rw [← List.take_append_drop k l]
    simp only [sumS, List.map_append, List.sum_append]
  omega
theorem zeroS_snoc (l : List Int) (n : Int) : zeroS (l ++ [n]) = (zeroS l || decide (sizeF n = 0)) := by simp [zeroS]
theorem zeroS_get {l : List Int} {k : Nat} {n : Int} (h : l[k]? = some n) (hz : sizeF n = 0) : zeroS l = true := by
  unfold zeroS
  rw [List.any_eq_true]
  exact ⟨n, List.mem_of_getElem? h, by simpa using hz⟩
theorem segment_Size_spec {A : AH} {v : Value} {l : List Int} {Q : Value → AH → Prop} (hv : Sl A 1 v l.length (ints .i64 l)) (hl : l.length ≤ 2 ^ 40) (hq : Q (ii (sizeS l)) A) : ACalls 1 Tryd.prog segment_Size [v] Q A := by
  refine ACalls.of_fits mixed fits_segment_Size rfl ?_
  unfold ic_segment_Size
  have i0 : initA [v] 0 = v := rfl
  generalize initA [v] = a at i0
  have hvl := hv.lenB
  by_cases h0 : l.length = 0
  · have e : sizeS l = 0 := by unfold sizeS; rw [if_pos (.inl h0)]
    rw [e] at hq
    simp (maxSteps := 1000000) (disch := omega) only [stepS, reduceIte, Nat.reduceBEq, Nat.reduceEqDiff, tupleOf, stepT, i0, hvl]
    exact hq
  · by_cases h1 : 4096 < l.length
    · have e : sizeS l = 0 := by unfold sizeS; rw [if_pos (.inr (.inl h1))]
      rw [e] at hq
      simp (maxSteps := 1000000) (disch := omega) only [stepS, reduceIte, Nat.reduceBEq, Nat.reduceEqDiff, tupleOf, stepT, i0, hvl]
      exact hq
    · simp (maxSteps := 1000000) (disch := omega) only [stepS, reduceIte, Nat.reduceBEq, Nat.reduceEqDiff, tupleOf, stepT, i0, hvl]
      refine W_loop (fun a' B => B = A ∧ ∃ k : Nat, k ≤ l.length ∧ zeroS (l.take k) = false ∧ (0 < k → 12 + sumS (l.take k) ≤ 262144) ∧ a' 3 = ii (12 + sumS (l.take k)) ∧ a' 15 = v ∧ a' 16 = ii l.length ∧ a' 17 = ii k) (fun a' _ => l.length - (iv (a' 17)).toNat) ?_ ?_
      · refine ⟨rfl, 0, by omega, by simp [zeroS], by omega, ?_⟩
        simp (maxSteps := 1000000) (disch := omega) only [stepS, reduceIte, Nat.reduceBEq, Nat.reduceEqDiff, tupleOf, stepT, i0]
        (all_goals (and_intros <;> first | rfl | assumption | (push_cast; rfl) | (congr 1; omega) | omega | (simp; done)))
      · rintro a2 B ⟨rfl, k, hk, hz, hs, g3, g15, g16, g17⟩
        rcases Nat.lt_or_ge k l.length with hlt | hge
        · obtain ⟨n, hn⟩ := get_some hlt
          obtain ⟨p, p1, p2⟩ := hv.at1 (j := k) (v0 := ii n) (by unfold ints; rw [List.getElem?_map, hn]; rfl)
          have hb := sumS_bnd (l.take k)
          rw [List.length_take, Nat.min_eq_left hk] at hb
          have hnb := sizeF_bnd n
          simp (maxSteps := 1000000) (disch := omega) only [stepS, reduceIte, Nat.reduceBEq, Nat.reduceEqDiff, tupleOf, stepT, g3, g15, g16, g17, p1, p2]
          refine frame_Size_spec ?_
          by_cases hn0 : sizeF n = 0
          · have e : sizeS l = 0 := by unfold sizeS; rw [if_pos (.inr (.inr (.inl (zeroS_get hn hn0))))]
            rw [e] at hq
            simp (maxSteps := 1000000) (disch := omega) only [stepS, reduceIte, Nat.reduceBEq, Nat.reduceEqDiff, tupleOf, stepT, g3, g15, g16, g17, hn0]
            exact hq
          · have hsn := sumS_snoc (l.take k) n
            have htk : l.take (k + 1) = l.take k ++ [n] := by rw [List.take_add_one, hn]; rfl
            rw [← htk] at hsn
            by_cases hbig : 262144 < 12 + sumS (l.take (k + 1))
            · have := sumS_take l (k + 1)
              have e : sizeS l = 0 := by unfold sizeS; rw [if_pos (.inr (.inr (.inr (by omega))))]
              rw [e] at hq
              simp (maxSteps := 1000000) (disch := omega) only [stepS, reduceIte, Nat.reduceBEq, Nat.reduceEqDiff, tupleOf, stepT, g3, g15, g16, g17, hn0]
              exact hq
            · simp (maxSteps := 1000000) (disch := omega) only [stepS, reduceIte, Nat.reduceBEq, Nat.reduceEqDiff, tupleOf, stepT, g3, g15, g16, g17, hn0]
              refine ⟨⟨k + 1, by omega, ?_, fun _ => by omega, ?_, rfl⟩, by omega⟩
              · rw [htk, zeroS_snoc, hz]; simp [hn0]
              · congr 1; omega
        · rw [List.take_of_length_le hge] at hz hs g3
          have e : sizeS l = 12 + sumS l := by
            unfold sizeS
            rw [if_neg]
            rintro (h | h | h | h)
            · exact h0 h
            · exact h1 h
            · rw [hz] at h; cases h
            · have := hs (by omega); omega
          rw [e] at hq
          simp (maxSteps := 1000000) (disch := omega) only [stepS, reduceIte, Nat.reduceBEq, Nat.reduceEqDiff, tupleOf, stepT, g3, g15, g16, g17]
          exact hq
theorem ref28_Get_spec {A : AH} {v : Value} {bs : List UInt8} {Q : Value → AH → Prop} (hv : Byt A v bs) (hl : bs.length ≤ 2 ^ 30) (ht : (textsG bs).length ≤ 4096)
    (hok : ∀ A' u, getE bs = 0 → Le A A' → ItemS A' u (getL bs) → Q (.tuple #[u, ii 0]) A') (hbad : ∀ A', getE bs ≠ 0 → Le A A' → Q (.tuple #[.slice none 0 0, ii (getE bs : Nat)]) A') : ACalls 1 Tryd.prog chantryref28_Get [v] Q A := by
  refine ACalls.of_fits mixed fits_chantryref28_Get rfl ?_
  unfold ic_chantryref28_Get
  have i0 : initA [v] 0 = v := rfl
  generalize initA [v] = a at i0
  simp (maxSteps := 1000000) (disch := omega) only [stepS, reduceIte, Nat.reduceBEq, Nat.reduceEqDiff, tupleOf, stepT, i0]
  refine ref_Open_spec hv (by omega) (fun own u A1 ho k1 o1 _ => ?_) (fun A1 ho k1 => ?_)
  rotate_left
  · have e : getE bs = 12 := by unfold getE; rw [if_pos ho]
    have := hbad A1 (by omega) k1
    rw [e] at this
    simp (maxSteps := 1000000) (disch := omega) only [stepS, reduceIte, Nat.reduceBEq, Nat.reduceEqDiff, tupleOf, stepT, i0]
    exact this
  have hne : openB bs ≠ none := by rw [ho]; simp
  have hown : ownG bs = own := by unfold ownG; rw [ho]; rfl
  have hol := openB_len ho
  have five : badG bs → getE bs = 5 := fun h => by unfold getE; rw [if_neg hne, if_pos h]
  have ul := o1.lenB
  by_cases h8 : own.length < 8
  · have e := five (.inl (by rw [hown]; exact h8))
    have := hbad A1 (by omega) k1
    rw [e] at this
    simp (maxSteps := 1000000) (disch := omega) only [stepS, reduceIte, Nat.reduceBEq, Nat.reduceEqDiff, tupleOf, stepT, i0, ul]
    exact this
  · obtain ⟨t4, f1, f2⟩ := o1.from (l := own.length - 4) (by omega)
    have f1' : sSll A1 u (some (.int .i64 ((own.length : Int) - 4))) none none 1 = some (t4, A1) := by
      rw [show ((own.length : Int) - 4) = ((own.length - 4 : Nat) : Int) by omega]; exact f1
    simp (maxSteps := 1000000) (disch := omega) only [stepS, reduceIte, Nat.reduceBEq, Nat.reduceEqDiff, tupleOf, stepT, i0, ul, f1']
    refine ref01_Unfix_spec f2 ?_
    have htl : tailG bs = unfixN (own.drop (own.length - 4)) := by unfold tailG; rw [hown]
    rw [← htl]
    by_cases he : (tailG bs).2 = 0
    · by_cases hn : own.length < (tailG bs).1
      · have e := five (.inr (.inr (.inl (by rw [hown]; exact hn))))
        have := hbad A1 (by omega) k1
        rw [e] at this
        simp (maxSteps := 1000000) (disch := omega) only [stepS, reduceIte, Nat.reduceBEq, Nat.reduceEqDiff, tupleOf, stepT, i0, ul, he]
        exact this
      · obtain ⟨t5, m1, m2⟩ := o1.upto (k := (tailG bs).1) (by omega)
        have m1' : sSll A1 u none (some (.int .i64 ((tailG bs).1 : Int))) none 1 = some (t5, A1) := m1
        simp (maxSteps := 1000000) (disch := omega) only [stepS, reduceIte, Nat.reduceBEq, Nat.reduceEqDiff, tupleOf, stepT, i0, ul, he, m1']
        refine ref26_Scan_spec m2 (by rw [List.length_take]; omega) fun tv A2 k2 o2 => ?_
        have htx : (scanF (own.take (tailG bs).1)).1 = textsG bs := by unfold textsG; rw [hown]
        rw [htx] at o2
        obtain ⟨tx1, tx2⟩ := textsG_len bs
        simp (maxSteps := 1000000) (disch := omega) only [stepS, reduceIte, Nat.reduceBEq, Nat.reduceEqDiff, tupleOf, stepT, i0]
        refine ref28_Put_spec o2.byts ht (fun t h => by have := tx2 t h; omega) fun A3 pv k3 o3 => ?_
        by_cases hp : putE (textsG bs) = 0
        · have hvA := ((hv.le k1).le k2).le k3
          by_cases heq : putSg (textsG bs) = bs
          · have hz : ¬ badG bs := by
              unfold badG
              rw [hown]
              rintro (h | h | h | h | h)
              · exact h8 h
              · exact h he
              · exact hn h
              · exact h hp
              · exact h heq
            have e : getE bs = 0 := by unfold getE; rw [if_neg hne, if_neg hz]
            rw [heq] at o3
            simp (maxSteps := 1000000) (disch := omega) only [stepS, reduceIte, Nat.reduceBEq, Nat.reduceEqDiff, tupleOf, stepT, i0, hp, o3.byt.str, hvA.str]
            have kk := (k1.trans k2).trans k3
            refine ref28_Sorted_spec (o2.byts.le k3) (by omega) (fun t h => by have := tx2 t h; omega) fun A4 w k4 hw => ?_
            simp (maxSteps := 1000000) (disch := omega) only [stepS, reduceIte, Nat.reduceBEq, Nat.reduceEqDiff, tupleOf, stepT]
            exact hok A4 w e (kk.trans k4) hw
          · have hb : decide ((⟨(putSg (textsG bs)).toArray⟩ : ByteArray) ≠ ⟨bs.toArray⟩) = true := by
              simp only [decide_eq_true_eq, ne_eq]
              intro h
              injection h with h
              exact heq (by simpa using congrArg Array.toList h)
            have e := five (.inr (.inr (.inr (.inr heq))))
            have := hbad A3 (by omega) ((k1.trans k2).trans k3)
            rw [e] at this
            simp (maxSteps := 1000000) (disch := omega) only [stepS, reduceIte, Nat.reduceBEq, Nat.reduceEqDiff, tupleOf, stepT, i0, hp, o3.byt.str, hvA.str, hb]
            exact this
        · have hp' : ¬ ((putE (textsG bs) : Nat) : Int) = 0 := by omega
          have e := five (.inr (.inr (.inr (.inl hp))))
          have := hbad A3 (by omega) ((k1.trans k2).trans k3)
          rw [e] at this
          simp (maxSteps := 1000000) (disch := omega) only [stepS, reduceIte, Nat.reduceBEq, Nat.reduceEqDiff, tupleOf, stepT, i0, hp']
          exact this
    · have he' : ¬ (((tailG bs).2 : Nat) : Int) = 0 := by omega
      have e := five (.inr (.inl he))
      have := hbad A1 (by omega) k1
      rw [e] at this
      simp (maxSteps := 1000000) (disch := omega) only [stepS, reduceIte, Nat.reduceBEq, Nat.reduceEqDiff, tupleOf, stepT, i0, ul, he']
      exact this
theorem findL_self {l : List (List UInt8)} (hr : l.Pairwise (fun a b => shaF a < shaF b)) {t : List UInt8} (ht : t ∈ l) : findL l (idT t) = some t := by
  unfold findL
  rw [bl_idT]
  cases hf : l.find? (fun x => decide (shaF x = shaF t)) with
  | none => rw [List.find?_eq_none] at hf; exact absurd (by simp) (hf t ht)
  | some z =>
    have hz := List.find?_some hf
    simp only [decide_eq_true_eq] at hz
    rw [rise_get hr (List.mem_of_find?_eq_some hf) ht hz]
theorem law28_same_spec {A : AH} {v : Value} {i : Nat} {l : List (List UInt8)} {Q : Value → AH → Prop} (hi : TabA A i l) (hv : ItemS A v l) (h1 : 1 ≤ l.length) (hl : l.length ≤ 4096) (hf : ∀ t ∈ l, frE t = 0) (hr : l.Pairwise (fun a b => shaF a < shaF b)) (hq : ∀ A', Le A A' → Q (.bool true) A') :
    ACalls 1 Tryd.prog chantrylaw28_same [.pointer (some ⟨i, 0, none⟩), v] Q A := by
  refine ACalls.of_fits mixed fits_chantrylaw28_same rfl ?_
  unfold ic_chantrylaw28_same
  have i0 : initA [.pointer (some ⟨i, 0, none⟩), v] 0 = .pointer (some ⟨i, 0, none⟩) := rfl
  have i1 : initA [.pointer (some ⟨i, 0, none⟩), v] 1 = v := rfl
  generalize initA [.pointer (some ⟨i, 0, none⟩), v] = a at i0 i1
  obtain ⟨es, hed, hes, hal⟩ := hv
  have heo : ∀ e ∈ es, e.length = 2 ∧ ones e = true := fun e he => domI_len (hed e he)
  have hvl := hes.lenB
  have lel := All2.len _ _ hal
  rw [← lel] at hvl
  obtain ⟨rv, bv, fv, hst, hrv, hb, hfv⟩ := id hi
  simp (maxSteps := 1000000) (disch := omega) only [stepS, reduceIte, Nat.reduceBEq, Nat.reduceEqDiff, tupleOf, stepT, i0, i1]
  refine segment_IDs_spec hst hrv (by omega) fun A1 u1 k1 o1 => ?_
  simp (maxSteps := 1000000) (disch := omega) only [stepS, reduceIte, Nat.reduceBEq, Nat.reduceEqDiff, tupleOf, stepT, i0, i1]
  refine segment_Texts_spec (hi.le k1) hl hf fun A2 u2 k2 o2 => ?_
  have l1 := o1.sl.lenB
  rw [List.length_map] at l1
  have l2 : ∀ B, sLens B false u2 = some (ii l.length, B) := fun B => by
    obtain ⟨vs, h1, h2, _⟩ := o2
    rw [All2.len _ _ h2]
    exact h1.sl.lenB B
  simp (maxSteps := 1000000) (disch := omega) only [stepS, reduceIte, Nat.reduceBEq, Nat.reduceEqDiff, tupleOf, stepT, i0, i1, l1, l2, hvl]
  refine W_loop (fun a' B => Le A2 B ∧ ∃ k : Nat, k ≤ l.length ∧ a' 0 = .pointer (some ⟨i, 0, none⟩) ∧ a' 1 = v ∧ a' 5 = u1 ∧ a' 6 = u2 ∧ a' 7 = ii k) (fun a' _ => l.length - (iv (a' 7)).toNat) ?_ ?_
  · refine ⟨.refl _, 0, by omega, ?_⟩
    simp (maxSteps := 1000000) (disch := omega) only [stepS, reduceIte, Nat.reduceBEq, Nat.reduceEqDiff, tupleOf, stepT, i0, i1]
    (all_goals (and_intros <;> first | rfl | assumption | (push_cast; rfl) | (congr 1; omega) | omega | (simp; done)))
  · rintro a2 B ⟨hle, k, hk, g0, g1, g5, g6, g7⟩
    rcases Nat.lt_or_ge k l.length with hlt | hge
    · obtain ⟨t, ht⟩ := get_some hlt
      obtain ⟨ee, hee, x, rfl, hx⟩ := all2_get hal ht
      have kk := (k1.trans k2).trans hle
      obtain ⟨p, q, p1, p2, p3⟩ := hes.elfL heo hee (o := 0) (x := .string (idT t)) rfl
      obtain ⟨p', q', p1', p2', p3'⟩ := hes.elfL heo hee (o := 1) (x := x) rfl
      have hpp : p' = p := by
        have h1 := p1 A k rfl
        rw [p1' A k rfl] at h1
        injection h1 with h1; injection h1
      subst hpp
      have l3 := p3 B kk
      simp (maxSteps := 1000000) (disch := omega) only [stepS, reduceIte, Nat.reduceBEq, Nat.reduceEqDiff, tupleOf, stepT, g0, g1, g5, g6, g7, hvl, p1, p2, l3]
      have hfd := findL_self hr (List.mem_of_getElem? ht)
      refine segment_Find_spec (hi.le kk) h1 hl hf hr (fun A4 y z hz k4 o4 => ?_) (fun A4 hn _ => by rw [hfd] at hn; cases hn)
      rw [hfd] at hz
      injection hz with hz
      subst hz
      have kA := kk.trans k4
      have kB := hle.trans k4
      obtain ⟨s1, s2, s3⟩ := (o1.sl.le (k2.trans kB)).at1 (j := k) (v0 := .string (idT t)) (by rw [List.getElem?_map, List.getElem?_map, ht]; rfl)
      obtain ⟨r1, r2, r3, r4, r5⟩ := (o2.byts.le kB).at1 ht
      have hxA := (hx.le kA).str
      simp (maxSteps := 1000000) (disch := omega) only [stepS, reduceIte, Nat.reduceBEq, Nat.reduceEqDiff, tupleOf, stepT, g0, g1, g5, g6, g7, hvl, p1, p2, (p3 A4 kA), p2', (p3' A4 kA), s2, s3, r3, r4, r5.str, hxA, o4.str]
      exact ⟨⟨kB, k + 1, by omega, rfl⟩, by omega⟩
    · simp (maxSteps := 1000000) (disch := omega) only [stepS, reduceIte, Nat.reduceBEq, Nat.reduceEqDiff, tupleOf, stepT, g0, g1, g5, g6, g7, hvl]
      exact hq _ ((k1.trans k2).trans hle)
end Go.AS.C


namespace Go.AS.C
open Go Go.Proofs
set_option linter.unusedVariables false
set_option linter.unusedSimpArgs false
set_option maxRecDepth 100000

def wA : List UInt8 := [97]
def wB : List UInt8 := [98, 99]
def wBAB : List (List UInt8) := [wB, wA, wB]
theorem w1 : putE [wA] = 0 := by decide +kernel
theorem w2 : (putSg [wA]).length = 56 := by decide +kernel
theorem w3 : putE wBAB = 0 := by decide +kernel
theorem w4 : (srtT shaF wBAB).length = 2 := by decide +kernel
theorem w5 : openB ((putSg [wA]).drop 1) = none := by decide +kernel
theorem w6 : findL (srtT shaF wBAB) (idT wB) = some wB := by decide +kernel
theorem w7 : findL (srtT shaF wBAB) (idT []) = none := by decide +kernel
theorem w8 : ((putSg wBAB).length : Int) = sizeS [1, 2] := by decide +kernel
theorem w9 : sizeS [1] = 56 := by decide +kernel
theorem w10 : (scanF ((putSg wBAB).take ((putSg wBAB).length / 2))).1.length ≤ 2 := by decide +kernel
end Go.AS.C


namespace Go.AS.C
open Go Go.Proofs
set_option linter.unusedVariables false
set_option linter.unusedSimpArgs false
set_option maxRecDepth 10000

theorem lit_byts {A : AH} {len : Nat} {vs : List Value} {bss : List (List UInt8)} {ps : List (Nat × Nat × Value)} (hp : ps = mkP 0 vs) (hl : len = vs.length) (h : All2 (fun x bs => Byt A x bs) vs bss) :
    sLit A [.slice none 0 0] 1 len ps = some (.slice (some ⟨A.length, 0, none⟩) len len, A ++ [.row vs .own 1 true]) ∧ Byts (A ++ [.row vs .own 1 true]) (.slice (some ⟨A.length, 0, none⟩) len len) bss := by
  subst hl
  refine ⟨lit1 vs hp rfl (fun x hx => ?_), vs, sl_last A (by simp) (Nat.le_refl _), All2.imp (fun _ _ h => Byt.le h (Le.push _ _)) _ _ h⟩
  obtain ⟨bs, _, hb⟩ := all2_mem h x hx
  exact hb.one1
theorem getE_put {ts : List (List UInt8)} (h : putE ts = 0) (hl : ts.length ≤ 4096) : getE (putSg ts) = 0 ∧ getL (putSg ts) = srtT shaF ts ∧ (textsG (putSg ts)).length ≤ 4096 := by
  obtain ⟨h1, h2, h3⟩ := get_put h hl
  refine ⟨by unfold getE; rw [if_neg h1, if_neg h2], by unfold getL; rw [h3, srtT_idem], by rw [h3]; have := srtT_len (key := shaF) ts; omega⟩
theorem putSg_len {ts : List (List UInt8)} : (putSg ts).length ≤ 262144 := by
  unfold putSg
  split
  · rename_i h
    rw [sealB_length]
    exact (putE_zero.1 h).2.2
  · simp
theorem byts_nil (A : AH) : Byts A (.slice none 0 0) [] := ⟨[], ⟨rfl, .inl ⟨rfl, rfl⟩⟩, trivial⟩
theorem byt_nil (A : AH) : Byt A (.slice none 0 0) [] := ⟨rfl, .inl ⟨rfl, rfl⟩⟩
theorem wake {A : AH} {Q : Value → AH → Prop} (hg : Le [kB] A) (hq : ∀ A', Le A A' → Q (.bool true) A') : ACalls 1 Tryd.prog chantrylaw28_awake [] Q A := by
  refine ACalls.of_fits mixed fits_chantrylaw28_awake rfl ?_
  unfold ic_chantrylaw28_awake
  generalize initA [] = a
  -- the two texts
  have la : sLit A [.int .u8 0] 1 1 [(0, 1, .int .u8 97)] = some (.slice (some ⟨A.length, 0, none⟩) 1 1, A ++ [.row (List.map by8 wA) .own 1 true]) := litB A wA (len := 1) (ps := [(0, 1, .int .u8 97)]) rfl rfl
  have ka : Le A (A ++ [.row (List.map by8 wA) .own 1 true]) := .push _ _
  have ba := byt_last A (ex := true) wA
  have ma := mks_last A (cs := List.map by8 wA) (sz := 1) (ex := true) (n := 1) (c := 1) (by omega)
  generalize A ++ [.row (List.map by8 wA) .own 1 true] = A1 at la ka ba ma
  have lb : sLit A1 [.int .u8 0] 1 2 [(0, 1, .int .u8 98), (1, 1, .int .u8 99)] = some (.slice (some ⟨A1.length, 0, none⟩) 2 2, A1 ++ [.row (List.map by8 wB) .own 1 true]) := litB A1 wB (len := 2) (ps := [(0, 1, .int .u8 98), (1, 1, .int .u8 99)]) rfl rfl
  have kb : Le A1 (A1 ++ [.row (List.map by8 wB) .own 1 true]) := .push _ _
  have bb := byt_last A1 (ex := true) wB
  have mb := mks_last A1 (cs := List.map by8 wB) (sz := 1) (ex := true) (n := 2) (c := 2) (by omega)
  generalize A1 ++ [.row (List.map by8 wB) .own 1 true] = A2 at lb kb bb mb
  have hva : Byt A1 (.slice (some ⟨A.length, 0, none⟩) 1 1) wA := ba
  have hvb : Byt A2 (.slice (some ⟨A1.length, 0, none⟩) 2 2) wB := bb
  generalize hA : Value.slice (some ⟨A.length, 0, none⟩) 1 1 = va at la ma hva
  generalize hBv : Value.slice (some ⟨A1.length, 0, none⟩) 2 2 = vb at lb mb hvb
  have hva2 := hva.le kb
  obtain ⟨l1, b1⟩ := lit_byts (A := A2) (len := 1) (vs := [va]) (bss := [wA]) (ps := [(0, 1, va)]) rfl rfl ⟨hva2, trivial⟩
  have k3 : Le A2 (A2 ++ [.row [va] .own 1 true]) := .push _ _
  generalize A2 ++ [.row [va] .own 1 true] = A3 at l1 b1 k3
  have k03 := (ka.trans kb).trans k3
  simp (maxSteps := 1000000) (disch := omega) only [stepS, reduceIte, Nat.reduceBEq, Nat.reduceEqDiff, tupleOf, stepT, la, ma, lb, mb, l1]
  refine segment_Put_spec (hg.trans k03) b1 (by simp) (fun t ht => by simp only [List.mem_singleton] at ht; subst ht; decide) fun A4 p k4 o4 => ?_
  rw [w1]
  have hva4 := (hva2.le k3).le k4
  have hvb4 := (hvb.le k3).le k4
  obtain ⟨l2, b2⟩ := lit_byts (A := A4) (len := 3) (vs := [vb, va, vb]) (bss := wBAB) (ps := [(0, 1, vb), (1, 1, va), (2, 1, vb)]) rfl rfl ⟨hvb4, hva4, hvb4, trivial⟩
  have k5 : Le A4 (A4 ++ [.row [vb, va, vb] .own 1 true]) := .push _ _
  generalize A4 ++ [.row [vb, va, vb] .own 1 true] = A5 at l2 b2 k5
  have k05 := (k03.trans k4).trans k5
  simp (maxSteps := 1000000) (disch := omega) only [stepS, reduceIte, Nat.reduceBEq, Nat.reduceEqDiff, tupleOf, stepT, l2]
  refine segment_Put_spec (hg.trans k05) b2 (by decide) (fun t ht => by
    have : t.length ≤ 2 := by
      simp only [wBAB, List.mem_cons, List.not_mem_nil, or_false] at ht
      rcases ht with rfl | rfl | rfl <;> decide
    omega) fun A6 q k6 o6 => ?_
  rw [w3]
  have pl := o4.byt.lenB
  rw [w2] at pl
  simp (maxSteps := 1000000) (disch := omega) only [stepS, reduceIte, Nat.reduceBEq, Nat.reduceEqDiff, tupleOf, stepT, pl]
  obtain ⟨g1, g2, g3⟩ := getE_put w3 (by decide)
  have k06 := k05.trans k6
  refine segment_Get_spec (hg.trans k06) o6.byt (by have := @putSg_len wBAB; omega) g3 (fun A7 i _ k7 t7 => ?_) (fun A7 h _ => absurd g1 h)
  rw [g2] at t7
  have k07 := k06.trans k7
  have k57 := k5.trans (k6.trans k7)
  have p7 := o4.byt.le k57
  obtain ⟨u, u1, u2⟩ := p7.from (l := 1) (by rw [w2]; omega)
  have u1' : sSll A7 p (some (.int .i64 1)) none none 1 = some (u, A7) := u1
  simp (maxSteps := 1000000) (disch := omega) only [stepS, reduceIte, Nat.reduceBEq, Nat.reduceEqDiff, tupleOf, stepT, pl, u1']
  have e12 : getE ((putSg [wA]).drop 1) = 12 := by unfold getE; rw [if_pos w5]
  have tx : (textsG ((putSg [wA]).drop 1)).length ≤ 4096 := by
    have := (textsG_len ((putSg [wA]).drop 1)).1
    rw [List.length_drop, w2] at this
    omega
  refine segment_Get_spec (hg.trans k07) u2 (by rw [List.length_drop, w2]; omega) tx (fun A8 i h _ _ => by rw [e12] at h; cases h) (fun A8 _ k8 => ?_)
  rw [e12]
  have k08 := k07.trans k8
  simp (maxSteps := 1000000) (disch := omega) only [stepS, reduceIte, Nat.reduceBEq, Nat.reduceEqDiff, tupleOf, stepT]
  refine segment_Put_spec (hg.trans k08) (byts_nil _) (by decide) (fun t ht => by cases ht) fun A9 z k9 o9 => ?_
  have e1 : putE [] = 1 := rfl
  rw [e1]
  obtain ⟨l3, b3⟩ := lit_byts (A := A9) (len := 1) (vs := [.slice none 0 0]) (bss := [[]]) (ps := [(0, 1, .slice none 0 0)]) rfl rfl ⟨byt_nil _, trivial⟩
  have k10 : Le A9 (A9 ++ [.row [.slice none 0 0] .own 1 true]) := .push _ _
  generalize A9 ++ [.row [.slice none 0 0] .own 1 true] = B0 at l3 b3 k10
  have k010 := (k08.trans k9).trans k10
  simp (maxSteps := 1000000) (disch := omega) only [stepS, reduceIte, Nat.reduceBEq, Nat.reduceEqDiff, tupleOf, stepT, l3]
  refine segment_Put_spec (hg.trans k010) b3 (by decide) (fun t ht => by simp only [List.mem_singleton] at ht; subst ht; decide) fun B1 z1 k11 o11 => ?_
  have e2 : putE [[]] = 1 := rfl
  rw [e2]
  have k71 := k8.trans (k9.trans (k10.trans k11))
  have t11 := t7.le k71
  have hvb11 := ((hvb4.le k57).le k71)
  obtain ⟨z1', z2, z3⟩ := putE_zero.1 w3
  have hf : ∀ t ∈ srtT shaF wBAB, frE t = 0 := fun t h => z2 t (srtT_mem t h)
  have hr := (srtT_spec (key := shaF) wBAB).1
  simp (maxSteps := 1000000) (disch := omega) only [stepS, reduceIte, Nat.reduceBEq, Nat.reduceEqDiff, tupleOf, stepT]
  refine ref03_ID_spec hvb11 (by decide) ?_
  have hid : (.string ⟨(shaF wB).toArray⟩ : Value) = .string (idT wB) := rfl
  rw [hid]
  simp (maxSteps := 1000000) (disch := omega) only [stepS, reduceIte, Nat.reduceBEq, Nat.reduceEqDiff, tupleOf, stepT]
  refine segment_Find_spec t11 (by rw [w4]; omega) (by rw [w4]; omega) hf hr (fun B2 y t hy k12 o12 => ?_) (fun B2 h _ => by rw [w6] at h; cases h)
  rw [w6] at hy
  injection hy with hy
  subst hy
  simp (maxSteps := 1000000) (disch := omega) only [stepS, reduceIte, Nat.reduceBEq, Nat.reduceEqDiff, tupleOf, stepT]
  refine ref03_ID_spec (byt_nil _) (by decide) ?_
  have hid0 : (.string ⟨(shaF []).toArray⟩ : Value) = .string (idT []) := rfl
  rw [hid0]
  simp (maxSteps := 1000000) (disch := omega) only [stepS, reduceIte, Nat.reduceBEq, Nat.reduceEqDiff, tupleOf, stepT]
  refine segment_Find_spec (t11.le k12) (by rw [w4]; omega) (by rw [w4]; omega) hf hr (fun B3 y t hy _ _ => by rw [w7] at hy; cases hy) (fun B3 _ k13 => ?_)
  have k6b := k7.trans (k71.trans (k12.trans k13))
  have q13 := o6.byt.le k6b
  have ql := q13.lenB
  obtain ⟨u3, u4, u5⟩ := q13.upto (k := (putSg wBAB).length / 2) (by omega)
  have u4' : sSll B3 q none (some (.int .i64 (((putSg wBAB).length : Int) / 2))) none 1 = some (u3, B3) := by
    have : (((putSg wBAB).length : Int) / 2) = (((putSg wBAB).length / 2 : Nat) : Int) := by omega
    rw [this]; exact u4
  have qll := @putSg_len wBAB
  simp (maxSteps := 1000000) (disch := omega) only [stepS, reduceIte, Nat.reduceBEq, Nat.reduceEqDiff, tupleOf, stepT, ql, u4']
  refine segment_Rescue_spec u5 (by rw [List.length_take]; omega) fun tv B4 k14 o14 => ?_
  have w10' := w10
  have lr : ∀ B, sLens B false tv = some (ii (scanF ((putSg wBAB).take ((putSg wBAB).length / 2))).1.length, B) := fun B => by
    obtain ⟨vs, h1, h2, _⟩ := o14
    rw [All2.len _ _ h2]
    exact h1.sl.lenB B
  have ystr := ((o12.le k13).le k14).str
  have sbc : decide ((⟨wB.toArray⟩ : ByteArray) = ⟨#[98, 99]⟩) = true := rfl
  have plz := pl
  simp (maxSteps := 1000000) (disch := omega) only [stepS, reduceIte, Nat.reduceBEq, Nat.reduceEqDiff, tupleOf, stepT, pl, ql, ystr, sbc]
  have t14 := ((t11.le k12).le k13).le k14
  obtain ⟨rv, bv, fv, hst, hrv, _, _⟩ := id t14
  refine segment_IDs_spec hst hrv (by rw [w4]; omega) fun B5 u6 k15 o15 => ?_
  have l6 := o15.sl.lenB
  rw [List.length_map, w4] at l6
  simp (maxSteps := 1000000) (disch := omega) only [stepS, reduceIte, Nat.reduceBEq, Nat.reduceEqDiff, tupleOf, stepT, l6]
  refine segment_Texts_spec (t14.le k15) (by rw [w4]; omega) hf fun B6 u7 k16 o16 => ?_
  have l7 : ∀ B, sLens B false u7 = some (ii (2 : Nat), B) := fun B => by
    obtain ⟨vs, h1, h2, _⟩ := o16
    have e : vs.length = 2 := by rw [← All2.len _ _ h2, w4]
    have := h1.sl.lenB B
    rw [e] at this
    exact this
  have ls1 := lit1 (A := B6) (z := .int .i64 0) (len := 1) (ps := [(0, 1, ii 1)]) [ii 1] rfl rfl (by
    intro x hx
    simp only [List.mem_singleton] at hx
    subst hx; exact one1_int _ _)
  have k17 : Le B6 (B6 ++ [.row [ii 1] .own 1 true]) := .push _ _
  have sl1 := sl_last B6 (cs := [ii 1]) (st := .own) (ex := true) (c := 1) (by simp) (by simp)
  generalize B6 ++ [.row [ii 1] .own 1 true] = B7 at ls1 k17 sl1
  have l66 : sLens B5 false u6 = some (.int .i64 2, B5) := l6 B5
  have l77 : sLens B6 false u7 = some (.int .i64 2, B6) := l7 B6
  have ls1' : sLit B6 [.int .i64 0] 1 1 [(0, 1, .int .i64 1)] = some (.slice (some ⟨B6.length, 0, none⟩) 1 1, B7) := ls1
  simp (maxSteps := 1000000) (disch := omega) only [stepS, reduceIte, Nat.reduceBEq, Nat.reduceEqDiff, tupleOf, stepT, l77, ls1']
  refine segment_Size_spec (l := [1]) sl1 (by decide) ?_
  rw [w9]
  have ls2 := lit1 (A := B7) (z := .int .i64 0) (len := 2) (ps := [(0, 1, ii 1), (1, 1, ii 2)]) [ii 1, ii 2] rfl rfl (by
    intro x hx
    simp only [List.mem_cons, List.not_mem_nil, or_false] at hx
    rcases hx with rfl | rfl <;> exact one1_int _ _)
  have k18 : Le B7 (B7 ++ [.row [ii 1, ii 2] .own 1 true]) := .push _ _
  have sl2 := sl_last B7 (cs := [ii 1, ii 2]) (st := .own) (ex := true) (c := 2) (by simp) (by simp)
  generalize B7 ++ [.row [ii 1, ii 2] .own 1 true] = B8 at ls2 k18 sl2
  have ls2' : sLit B7 [.int .i64 0] 1 2 [(0, 1, .int .i64 1), (1, 1, .int .i64 2)] = some (.slice (some ⟨B7.length, 0, none⟩) 2 2, B8) := ls2
  simp (maxSteps := 1000000) (disch := omega) only [stepS, reduceIte, Nat.reduceBEq, Nat.reduceEqDiff, tupleOf, stepT, ls2']
  refine segment_Size_spec (l := [1, 2]) sl2 (by decide) ?_
  rw [← w8]
  have ql8 : ∀ B, sLens B false q = some (ii (putSg wBAB).length, B) := ql
  simp (maxSteps := 1000000) (disch := omega) only [stepS, reduceIte, Nat.reduceBEq, Nat.reduceEqDiff, tupleOf, stepT, ql8]
  refine segment_Size_spec (l := []) ⟨rfl, .inl ⟨rfl, rfl⟩⟩ (by decide) ?_
  have s0 : sizeS [] = 0 := rfl
  rw [s0]
  simp (maxSteps := 1000000) (disch := omega) only [stepS, reduceIte, Nat.reduceBEq, Nat.reduceEqDiff, tupleOf, stepT, lr]
  have kfin : Le A B8 := (((((((k06.trans k7).trans k71).trans k12).trans k13).trans k14).trans k15).trans k16).trans (k17.trans k18)
  exact hq _ kfin
end Go.AS.C


namespace Go.AS.C
open Go Go.Proofs
set_option linter.unusedVariables false
set_option linter.unusedSimpArgs false
set_option maxRecDepth 10000

end Go.AS.C


namespace Go.AS.C
open Go Go.Proofs
set_option linter.unusedVariables false
set_option linter.unusedSimpArgs false
set_option maxRecDepth 10000

theorem items_len {A : AH} {v : Value} {l : List (List UInt8)} (h : ItemS A v l) (B : AH) : sLens B false v = some (ii l.length, B) := by
  obtain ⟨es, _, h1, h2⟩ := h
  rw [All2.len _ _ h2]
  exact h1.lenB B
theorem items_at {A : AH} {v : Value} {l : List (List UInt8)} (h : ItemS A v l) {k : Nat} {t : List UInt8} (hk : l[k]? = some t) :
    ∃ p q q' x, (∀ (B : AH) (n : Int), n = (k : Int) → sIaddr B v (.int .i64 n) 2 = some (p, B)) ∧ (∀ B, sFaddr B p 0 = some (q, B)) ∧ (∀ B, Le A B → sLoad1 B q = some (.string (idT t), B)) ∧ (∀ B, sFaddr B p 1 = some (q', B)) ∧ (∀ B, Le A B → sLoad1 B q' = some (x, B)) ∧ Byt A x t ∧ (∀ j ∈ blkOf x, j < A.length) := by
  obtain ⟨es, hed, hes, hal⟩ := h
  have heo : ∀ e ∈ es, e.length = 2 ∧ ones e = true := fun e he => domI_len (hed e he)
  obtain ⟨ee, hee, x, rfl, hx⟩ := all2_get hal hk
  obtain ⟨p, q, p1, p2, p3⟩ := hes.elfL heo hee (o := 0) (x := .string (idT t)) rfl
  obtain ⟨p', q', p1', p2', p3'⟩ := hes.elfL heo hee (o := 1) (x := x) rfl
  have hpp : p' = p := by
    have h1 := p1 A k rfl
    rw [p1' A k rfl] at h1
    injection h1 with h1; injection h1
  subst hpp
  exact ⟨p', q, q', x, p1, p2, p3, p2', p3', hx, hx.lt⟩
end Go.AS.C


namespace Go.AS.C
open Go Go.Proofs
set_option linter.unusedVariables false
set_option linter.unusedSimpArgs false
set_option maxRecDepth 10000

theorem findL_snoc {l : List (List UInt8)} {t : List UInt8} {s : ByteArray} : findL (l ++ [t]) s = (findL l s).or (if shaF t = bl s then some t else none) := by
  unfold findL
  rw [List.find?_append, List.find?_cons]
  by_cases h : shaF t = bl s
  · rw [if_pos h, decide_eq_true h]
  · rw [if_neg h, decide_eq_false h]; rfl
/-- What the law tells of an ID, in two parts. -/
def wantV (o : Option (List UInt8)) : Value := .string ⟨(o.getD []).toArray⟩
theorem SegmentGets_spec {A : AH} {v : Value} {bs : List UInt8} {s : ByteArray} {Q : Value → AH → Prop} (hg : Le [kB] A) (hv : Byt A v bs) (_ : bs.length < 2 ^ 50) (_ : s.size < 2 ^ 50) (hq : ∀ A', Q (.bool true) A') : ACalls 1 Tryd.prog chantrylaw28_SegmentGets [v, .string s] Q A := by
  refine ACalls.of_fits mixed fits_chantrylaw28_SegmentGets rfl ?_
  unfold ic_chantrylaw28_SegmentGets
  have i0 : initA [v, .string s] 0 = v := rfl
  have i1 : initA [v, .string s] 1 = .string s := rfl
  generalize initA [v, .string s] = a at i0 i1
  have hvl := hv.lenB
  by_cases h1 : 3000 < bs.length
  · simp (maxSteps := 1000000) (disch := omega) only [stepS, reduceIte, Nat.reduceBEq, Nat.reduceEqDiff, tupleOf, stepT, i0, i1, hvl]
    refine wake hg fun A' k => ?_
    simp (maxSteps := 1000000) (disch := omega) only [stepS, reduceIte, Nat.reduceBEq, Nat.reduceEqDiff, tupleOf, stepT]
    exact hq _
  · by_cases h2 : 100 < s.size
    · simp (maxSteps := 1000000) (disch := omega) only [stepS, reduceIte, Nat.reduceBEq, Nat.reduceEqDiff, tupleOf, stepT, i0, i1, hvl]
      refine wake hg fun A' k => ?_
      simp (maxSteps := 1000000) (disch := omega) only [stepS, reduceIte, Nat.reduceBEq, Nat.reduceEqDiff, tupleOf, stepT]
      exact hq _
    · simp (maxSteps := 1000000) (disch := omega) only [stepS, reduceIte, Nat.reduceBEq, Nat.reduceEqDiff, tupleOf, stepT, i0, i1, hvl]
      obtain ⟨tx1, tx2⟩ := textsG_len bs
      by_cases he : getE bs = 0
      · refine segment_Get_spec hg hv (by omega) (by omega) (fun A1 i _ k1 t1 => ?_) (fun A1 h _ => absurd he h)
        simp (maxSteps := 1000000) (disch := omega) only [stepS, reduceIte, Nat.reduceBEq, Nat.reduceEqDiff, tupleOf, stepT, i0, i1]
        refine ref28_Get_spec (hv.le k1) (by omega) (by omega) (fun A2 w _ k2 w2 => ?_) (fun A1 h _ => absurd he h)
        have hnb : ¬ badG bs ∧ openB bs ≠ none := by
          unfold getE at he
          split at he
          · cases he
          · split at he
            · cases he
            · exact ⟨by assumption, by assumption⟩
        have hp : putE (textsG bs) = 0 := Decidable.byContradiction fun h => hnb.1 (.inr (.inr (.inr (.inl h))))
        have hpb : putSg (textsG bs) = bs := Decidable.byContradiction fun h => hnb.1 (.inr (.inr (.inr (.inr h))))
        obtain ⟨z1, z2, z3⟩ := putE_zero.1 hp
        obtain ⟨y1, y2⟩ := put_srt hp
        have hL : getL bs = srtT shaF (textsG bs) := rfl
        rw [hpb] at y2
        have hs := srtT_len (key := shaF) (textsG bs)
        have hfr : ∀ t ∈ srtT shaF (textsG bs), frE t = 0 := fun t h => z2 t (srtT_mem t h)
        have hr := (srtT_spec (key := shaF) (textsG bs)).1
        have hpos : (srtT shaF (textsG bs)).length ≠ 0 := fun h => z1 (srtT_nil_iff.1 h)
        have htl : ∀ t ∈ srtT shaF (textsG bs), t.length < 2 ^ 30 := fun t ht => by have := tx2 t (srtT_mem t ht); omega
        rw [hL] at t1 w2
        generalize srtT shaF (textsG bs) = l at *
        have isn : ∀ (t : TypeId) (x : Addr) (B : AH), (if kindOf (.pointer t) (.pointer (some x)) = true then sIsnil B (.pointer (some x)) true else none) = some (.bool true, B) := fun t x B => by simp [kindOf, sIsnil]
        simp (maxSteps := 1000000) (disch := omega) only [stepS, reduceIte, Nat.reduceBEq, Nat.reduceEqDiff, tupleOf, stepT, i0, i1, isn, bneB, bne_self_eq_false]
        refine segment_Texts_spec (t1.le k2) (by omega) hfr fun A3 u3 k3 o3 => ?_
        simp (maxSteps := 1000000) (disch := omega) only [stepS, reduceIte, Nat.reduceBEq, Nat.reduceEqDiff, tupleOf, stepT, i0, i1]
        refine segment_Put_spec (hg.trans ((k1.trans k2).trans k3)) o3.byts (by omega) (fun t ht => by have := htl t ht; omega) fun A4 p k4 o4 => ?_
        rw [y1]
        rw [y2] at o4
        simp (maxSteps := 1000000) (disch := omega) only [stepS, reduceIte, Nat.reduceBEq, Nat.reduceEqDiff, tupleOf, stepT, i0, i1]
        have wl := items_len w2
        cases hfd : findL l s with
        | none =>
          refine segment_Find_spec (((t1.le k2).le k3).le k4) (by omega) (by omega) hfr hr (fun A5 u t h _ _ => by rw [hfd] at h; cases h) (fun A5 _ k5 => ?_)
          obtain ⟨x5, hx5⟩ : ∃ x5 : Value, x5 = .slice none 0 0 := ⟨_, rfl⟩
          have x5s : ∀ A6, Le A5 A6 → sB2s A6 x5 = some (wantV none, A6) := fun A6 _ => by rw [hx5]; rfl
          have hw5 : findL l s = none := hfd
          rw [← hx5]
          simp (maxSteps := 1000000) (disch := omega) only [stepS, reduceIte, Nat.reduceBEq, Nat.reduceEqDiff, tupleOf, stepT, i0, i1]
          refine W_loop (fun a' B => B = A5 ∧ ∃ k : Nat, k ≤ l.length ∧ a' 0 = v ∧ a' 1 = .string s ∧ a' 5 = .pointer (some ⟨i, 0, none⟩) ∧ a' 7 = w ∧ a' 9 = p ∧ a' 10 = ii 0 ∧ a' 11 = x5 ∧ a' 12 = .bool (findL l s).isSome ∧ a' 13 = wantV (findL (l.take k) s) ∧ a' 14 = .bool (findL (l.take k) s).isSome ∧ a' 15 = ii k) (fun a' _ => l.length - (iv (a' 15)).toNat) ?_ ?_
          · refine ⟨rfl, 0, by omega, ?_⟩
            rw [hfd]
            simp (maxSteps := 1000000) (disch := omega) only [stepS, reduceIte, Nat.reduceBEq, Nat.reduceEqDiff, tupleOf, stepT, i0, i1]
            (all_goals (and_intros <;> first | rfl | assumption | (push_cast; rfl) | (congr 1; omega) | omega | (simp; done)))
          · rintro a2 B ⟨rfl, k, hk, g0, g1, g5, g7, g9, g10, g11, g12, g13, g14, g15⟩
            have kk := (k3.trans k4).trans k5
            rcases Nat.lt_or_ge k l.length with hlt | hge
            · obtain ⟨t, ht⟩ := get_some hlt
              obtain ⟨p0, q0, q1, x, m1, m2, m3, m4, m5, m6, _⟩ := items_at w2 ht
              have hx := (m6.le kk).str
              have htk : l.take (k + 1) = l.take k ++ [t] := by rw [List.take_add_one, ht]; rfl
              by_cases hid : shaF t = bl s
              · have hd : decide (idT t = s) = true := by rw [decS, bl_idT]; exact decide_eq_true hid
                have hnone : findL (l.take k) s = none := by
                  unfold findL
                  rw [List.find?_eq_none]
                  intro z hz hzs
                  simp only [decide_eq_true_eq] at hzs
                  obtain ⟨j, hj⟩ := List.mem_iff_getElem?.1 hz
                  have hjk : j < k := by have := lt_of_get hj; rw [List.length_take] at this; omega
                  rw [List.getElem?_take_of_lt hjk] at hj
                  have := List.pairwise_iff_getElem.1 hr j k (lt_of_get hj) (lt_of_get ht) hjk
                  rw [List.getElem?_eq_getElem (lt_of_get hj)] at hj
                  rw [List.getElem?_eq_getElem (lt_of_get ht)] at ht
                  rw [Option.some.inj hj, Option.some.inj ht, hzs, hid] at this
                  exact kl_irr _ this
                simp (maxSteps := 1000000) (disch := omega) only [stepS, reduceIte, Nat.reduceBEq, Nat.reduceEqDiff, tupleOf, stepT, g0, g1, g5, g7, g9, g10, g11, g12, g13, g14, g15, wl, m1, m2, (m3 B kk), m4, (m5 B kk), hx, hd]
                refine ⟨⟨k + 1, by omega, ?_, ?_, rfl⟩, by omega⟩
                · rw [htk, findL_snoc, hnone, if_pos hid]; rfl
                · rw [htk, findL_snoc, hnone, if_pos hid]; rfl
              · have hd : decide (idT t = s) = false := by rw [decS, bl_idT]; exact decide_eq_false hid
                simp (maxSteps := 1000000) (disch := omega) only [stepS, reduceIte, Nat.reduceBEq, Nat.reduceEqDiff, tupleOf, stepT, g0, g1, g5, g7, g9, g10, g11, g12, g13, g14, g15, wl, m1, m2, (m3 B kk), hd]
                refine ⟨⟨k + 1, by omega, ?_, ?_, rfl⟩, by omega⟩
                · rw [htk, findL_snoc, if_neg hid, Option.or_none]
                · rw [htk, findL_snoc, if_neg hid, Option.or_none]
            · rw [List.take_of_length_le hge] at g13 g14
              simp (maxSteps := 1000000) (disch := omega) only [stepS, reduceIte, Nat.reduceBEq, Nat.reduceEqDiff, tupleOf, stepT, g0, g1, g5, g7, g9, g10, g11, g12, g13, g14, g15, wl]
              refine law28_same_spec ((t1.le k2).le kk) (w2.le kk) (by omega) (by omega) hfr hr fun A6 k6 => ?_
              have ps := (o4.byt.le (k5.trans k6)).str
              have vs := ((((hv.le k1).le k2).le kk).le k6).str
              have dps : ∀ z : ByteArray, decide (z = z) = true := fun z => by simp
              have x6 := x5s A6 k6
              rw [hw5] at *
              simp (maxSteps := 1000000) (disch := omega) only [stepS, reduceIte, Nat.reduceBEq, Nat.reduceEqDiff, tupleOf, stepT, g0, g1, g5, g7, g9, g10, g11, g12, g13, g14, g15, ps, vs, dps, x6, beqB, wantV, Option.isSome_some, Option.isSome_none, Option.getD_some, Option.getD_none]
              refine wake (hg.trans (((k1.trans k2).trans kk).trans k6)) fun A' k => ?_
              simp (maxSteps := 1000000) (disch := omega) only [stepS, reduceIte, Nat.reduceBEq, Nat.reduceEqDiff, tupleOf, stepT]
              exact hq _
        | some t =>
          refine segment_Find_spec (((t1.le k2).le k3).le k4) (by omega) (by omega) hfr hr (fun A5 x5 t' h k5 o5 => ?_) (fun A5 h _ => by rw [hfd] at h; cases h)
          rw [hfd] at h
          injection h with h
          subst h
          have x5s : ∀ A6, Le A5 A6 → sB2s A6 x5 = some (wantV (some t), A6) := fun A6 k => (o5.le k).str
          have hw5 : findL l s = some t := hfd
          simp (maxSteps := 1000000) (disch := omega) only [stepS, reduceIte, Nat.reduceBEq, Nat.reduceEqDiff, tupleOf, stepT, i0, i1]
          refine W_loop (fun a' B => B = A5 ∧ ∃ k : Nat, k ≤ l.length ∧ a' 0 = v ∧ a' 1 = .string s ∧ a' 5 = .pointer (some ⟨i, 0, none⟩) ∧ a' 7 = w ∧ a' 9 = p ∧ a' 10 = ii 0 ∧ a' 11 = x5 ∧ a' 12 = .bool (findL l s).isSome ∧ a' 13 = wantV (findL (l.take k) s) ∧ a' 14 = .bool (findL (l.take k) s).isSome ∧ a' 15 = ii k) (fun a' _ => l.length - (iv (a' 15)).toNat) ?_ ?_
          · refine ⟨rfl, 0, by omega, ?_⟩
            rw [hfd]
            simp (maxSteps := 1000000) (disch := omega) only [stepS, reduceIte, Nat.reduceBEq, Nat.reduceEqDiff, tupleOf, stepT, i0, i1]
            (all_goals (and_intros <;> first | rfl | assumption | (push_cast; rfl) | (congr 1; omega) | omega | (simp; done)))
          · rintro a2 B ⟨rfl, k, hk, g0, g1, g5, g7, g9, g10, g11, g12, g13, g14, g15⟩
            have kk := (k3.trans k4).trans k5
            rcases Nat.lt_or_ge k l.length with hlt | hge
            · obtain ⟨t, ht⟩ := get_some hlt
              obtain ⟨p0, q0, q1, x, m1, m2, m3, m4, m5, m6, _⟩ := items_at w2 ht
              have hx := (m6.le kk).str
              have htk : l.take (k + 1) = l.take k ++ [t] := by rw [List.take_add_one, ht]; rfl
              by_cases hid : shaF t = bl s
              · have hd : decide (idT t = s) = true := by rw [decS, bl_idT]; exact decide_eq_true hid
                have hnone : findL (l.take k) s = none := by
                  unfold findL
                  rw [List.find?_eq_none]
                  intro z hz hzs
                  simp only [decide_eq_true_eq] at hzs
                  obtain ⟨j, hj⟩ := List.mem_iff_getElem?.1 hz
                  have hjk : j < k := by have := lt_of_get hj; rw [List.length_take] at this; omega
                  rw [List.getElem?_take_of_lt hjk] at hj
                  have := List.pairwise_iff_getElem.1 hr j k (lt_of_get hj) (lt_of_get ht) hjk
                  rw [List.getElem?_eq_getElem (lt_of_get hj)] at hj
                  rw [List.getElem?_eq_getElem (lt_of_get ht)] at ht
                  rw [Option.some.inj hj, Option.some.inj ht, hzs, hid] at this
                  exact kl_irr _ this
                simp (maxSteps := 1000000) (disch := omega) only [stepS, reduceIte, Nat.reduceBEq, Nat.reduceEqDiff, tupleOf, stepT, g0, g1, g5, g7, g9, g10, g11, g12, g13, g14, g15, wl, m1, m2, (m3 B kk), m4, (m5 B kk), hx, hd]
                refine ⟨⟨k + 1, by omega, ?_, ?_, rfl⟩, by omega⟩
                · rw [htk, findL_snoc, hnone, if_pos hid]; rfl
                · rw [htk, findL_snoc, hnone, if_pos hid]; rfl
              · have hd : decide (idT t = s) = false := by rw [decS, bl_idT]; exact decide_eq_false hid
                simp (maxSteps := 1000000) (disch := omega) only [stepS, reduceIte, Nat.reduceBEq, Nat.reduceEqDiff, tupleOf, stepT, g0, g1, g5, g7, g9, g10, g11, g12, g13, g14, g15, wl, m1, m2, (m3 B kk), hd]
                refine ⟨⟨k + 1, by omega, ?_, ?_, rfl⟩, by omega⟩
                · rw [htk, findL_snoc, if_neg hid, Option.or_none]
                · rw [htk, findL_snoc, if_neg hid, Option.or_none]
            · rw [List.take_of_length_le hge] at g13 g14
              simp (maxSteps := 1000000) (disch := omega) only [stepS, reduceIte, Nat.reduceBEq, Nat.reduceEqDiff, tupleOf, stepT, g0, g1, g5, g7, g9, g10, g11, g12, g13, g14, g15, wl]
              refine law28_same_spec ((t1.le k2).le kk) (w2.le kk) (by omega) (by omega) hfr hr fun A6 k6 => ?_
              have ps := (o4.byt.le (k5.trans k6)).str
              have vs := ((((hv.le k1).le k2).le kk).le k6).str
              have dps : ∀ z : ByteArray, decide (z = z) = true := fun z => by simp
              have x6 := x5s A6 k6
              rw [hw5] at *
              simp (maxSteps := 1000000) (disch := omega) only [stepS, reduceIte, Nat.reduceBEq, Nat.reduceEqDiff, tupleOf, stepT, g0, g1, g5, g7, g9, g10, g11, g12, g13, g14, g15, ps, vs, dps, x6, beqB, wantV, Option.isSome_some, Option.isSome_none, Option.getD_some, Option.getD_none]
              refine wake (hg.trans (((k1.trans k2).trans kk).trans k6)) fun A' k => ?_
              simp (maxSteps := 1000000) (disch := omega) only [stepS, reduceIte, Nat.reduceBEq, Nat.reduceEqDiff, tupleOf, stepT]
              exact hq _
      · refine segment_Get_spec hg hv (by omega) (by omega) (fun A1 i h _ _ => absurd h he) (fun A1 _ k1 => ?_)
        simp (maxSteps := 1000000) (disch := omega) only [stepS, reduceIte, Nat.reduceBEq, Nat.reduceEqDiff, tupleOf, stepT, i0, i1]
        refine ref28_Get_spec (hv.le k1) (by omega) (by omega) (fun A2 w h _ _ => absurd h he) (fun A2 _ k2 => ?_)
        have he' : ¬ ((getE bs : Nat) : Int) = 0 := by omega
        have isn : ∀ (t : TypeId) (B : AH), (if kindOf (.pointer t) (.pointer none) = true then sIsnil B (.pointer none) true else none) = some (.bool false, B) := fun t B => rfl
        simp (maxSteps := 1000000) (disch := omega) only [stepS, reduceIte, Nat.reduceBEq, Nat.reduceEqDiff, tupleOf, stepT, i0, i1, isn, bneB, he', bne_self_eq_false]
        refine wake (hg.trans (k1.trans k2)) fun A' k => ?_
        simp (maxSteps := 1000000) (disch := omega) only [stepS, reduceIte, Nat.reduceBEq, Nat.reduceEqDiff, tupleOf, stepT]
        exact hq _
end Go.AS.C


namespace Go.AS.C
open Go Go.Proofs
set_option linter.unusedVariables false
set_option linter.unusedSimpArgs false
set_option maxRecDepth 10000

end Go.AS.C
