/- Lemmas for the proof of a given statement; no conditions. -/
import Derived.Test.YtieojbgahkmhaaaDoorM2
set_option maxHeartbeats 1000000

namespace Go.AS
open Go
set_option linter.unusedVariables false
set_option linter.unusedSimpArgs false

/-! The rules of a symbolic step in a tree of orders (stepX: hand it to «T»; W_alt is a step by hand). -/
section
variable {G : Nat} {P : Program} {a : AT} {A : AH} {K : Value → AH → Prop} {Q : AT → AH → Prop} {R : Exit → AT → AH → Prop}
def kontX (G : Nat) (P : Program) (Q : AT → AH → Prop) (r : IT) (R : List Nat) (a : AT) (d : Option Nat) : Value → AH → Prop := fun v A' => Wt G P Q r R (put a d v) A'
def kontY (G : Nat) (P : Program) (Q : AT → AH → Prop) (r : IT) (R R2 : List Nat) (a : AT) (d : Option Nat) (A : AH) : Value → AH → Prop := fun v A' => RdOk R A A' ∧ Wt G P Q r R2 (put a d v) A'
theorem kontX_at {r : IT} {R : List Nat} {d : Option Nat} {v : Value} : kontX G P Q r R a d v A = Wt G P Q r R (put a d v) A := id rfl
theorem kontY_at {r : IT} {R R2 : List Nat} {d : Option Nat} {v : Value} {A0 : AH} : kontY G P Q r R R2 a d A0 v A = (RdOk R A0 A ∧ Wt G P Q r R2 (put a d v) A) := id rfl
theorem Wt_nil {R : List Nat} : Wt G P Q .nil R a A = Q a A := id rfl
theorem Wt_op {R : List Nat} {d : Option Nat} {o : AOp} {r : IT} : Wt G P Q (.op ⟨d, none, false, o⟩ r) R a A = W1 G P a A o (kontX G P Q r R a d) := by
  unfold kontX
  simp [Wt, wantedA]
theorem Wt_le {R : List Nat} {d : Option Nat} {o : AOp} {r : IT} : Wt G P Q (.op ⟨d, none, true, o⟩ r) R a A = W1 G P a A o (kontY G P Q r R (rdB (ev a) o ++ R) a d A) := by
  unfold kontY
  simp [Wt, wantedA]
def gdX (b : Bool) (G : Nat) (P : Program) (o : AOp) (K : Value → AH → Prop) (Q : AT → AH → Prop) (r : IT) (R : List Nat) (d : Option Nat) (a : AT) (A : AH) : Prop :=
  if b = true then W1 G P a A o K else Wt G P Q r R (put a d undef) A
theorem gdX_true {R : List Nat} {o : AOp} {r : IT} {d : Option Nat} : gdX true G P o K Q r R d a A = W1 G P a A o K := id rfl
theorem gdX_false {R : List Nat} {o : AOp} {r : IT} {d : Option Nat} : gdX false G P o K Q r R d a A = Wt G P Q r R (put a d undef) A := id rfl
theorem Wt_guard {R : List Nat} {d : Option Nat} {t : Nat} {want : Bool} {o : AOp} {r : IT} : Wt G P Q (.op ⟨d, some (t, want), false, o⟩ r) R a A =
    gdX (gd (a t) want) G P o (kontX G P Q r R a d) Q r R d a A := by
  have e : wantedA a (some (t, want)) = gd (a t) want := rfl
  unfold gdX kontX
  simp only [Wt, e, Bool.false_eq_true, false_implies, true_and, if_false]
theorem Wt_guardle {R : List Nat} {d : Option Nat} {t : Nat} {want : Bool} {o : AOp} {r : IT} : Wt G P Q (.op ⟨d, some (t, want), true, o⟩ r) R a A =
    gdX (gd (a t) want) G P o (kontY G P Q r R (rdB (ev a) o ++ R) a d A) Q r R d a A := by
  have e : wantedA a (some (t, want)) = gd (a t) want := rfl
  unfold gdX kontY
  simp only [Wt, e, true_implies, if_true]
theorem W_tree {t : IT} : W G P (.tree t) R a A = Wt G P (R .normal) t [] a A := id rfl
/-- Either order. -/
theorem W_alt {x y : IT} {R : List Nat} (h1 : Wt G P Q x R a A) (h2 : Wt G P Q y R a A) : Wt G P Q (.alt x y) R a A := ⟨h1, h2⟩
theorem stepX : ((type_of% @W_tree ∧ type_of% @Wt_nil) ∧ (type_of% @Wt_op ∧ type_of% @Wt_le)) ∧ ((type_of% @Wt_guard ∧ type_of% @Wt_guardle) ∧ ((type_of% @gdX_true ∧ type_of% @gdX_false) ∧ (type_of% @kontX_at ∧ type_of% @kontY_at))) :=
  ⟨⟨⟨@W_tree, @Wt_nil⟩, ⟨@Wt_op, @Wt_le⟩⟩, ⟨⟨@Wt_guard, @Wt_guardle⟩, ⟨⟨@gdX_true, @gdX_false⟩, ⟨@kontX_at, @kontY_at⟩⟩⟩⟩
end
end Go.AS


namespace Go.AS
open Go
set_option linter.unusedVariables false
set_option linter.unusedSimpArgs false

/-! Plain structs as values; where two branches meet; a slice of bytes behind a pointer to which is appended. -/
section
variable {G : Nat} {P : Program} {μ μ1 : Mu} {A A0 B : AH} {w : World} {v v' x : Value} {i a0 : Nat}

/-- A value that leads nowhere, a struct of such too, a tuple of these. -/
def flatG : Value → Bool
  | .agg vs => vs.toList.all flatV
  | v => flatV v
def flatU : Value → Bool
  | .tuple vs => vs.toList.all flatG
  | v => flatG v
theorem VR.flatG (h : VR μ v v') (hf : flatG v = true) : VR μ1 v v' := by
  have one : flatV v = true → VR μ1 v v' := fun hv => by rw [h.eq_of_flat hv]; exact .flat hv
  cases v <;> first | exact one hf | skip
  rename_i vs
  cases h with
  | flat h => cases h
  | agg h1 h2 =>
    refine .agg h1 (fun j x y hx hy => ?_)
    have hm : flatV x = true := by
      unfold AS.flatG at hf
      rw [List.all_eq_true] at hf
      exact hf x (by rw [Array.mem_toList_iff]; exact Array.mem_of_getElem? hx)
    rw [(h2 j x y hx hy).eq_of_flat hm]
    exact .flat hm
theorem VR.flatU (h : VR μ v v') (hf : flatU v = true) : VR μ1 v v' := by
  cases v <;> first | exact h.flatG hf | skip
  rename_i vs
  cases h with
  | flat h => cases h
  | tuple h1 h2 =>
    refine .tuple h1 (fun j x y hx hy => ?_)
    have hm : AS.flatG x = true := by
      unfold AS.flatU at hf
      rw [List.all_eq_true] at hf
      exact hf x (by rw [Array.mem_toList_iff]; exact Array.mem_of_getElem? hx)
    exact (h2 j x y hx hy).flatG hm
/-- What a call gives that leads nowhere (structs too): the heap is as it was. -/
theorem ACalls.pureU {f : FuncId} {args : List Value} {S : Value → Prop} {Q : Value → AH → Prop} (hq : ∀ v, S v → Q v A) (h : ACalls G P f args (fun u A' => Le A A' ∧ flatU u = true ∧ S u) A) : ACalls G P f args Q A := by
  intro μ args' w hr h1 h2
  refine (h μ args' w hr h1 h2).mono ?_
  rintro e w' ⟨v, v', μ', A', rfl, hv, hr', hs, ⟨s, rfl⟩, hf, hS⟩
  obtain ⟨r, rfl⟩ := hs.pre
  refine ⟨v, v', μ, A, rfl, hv.flatU hf, hr.narrow hr' hs.size, ?_, hq v hS⟩
  exact ⟨⟨[], by simp⟩, hs.os, hs.tape, hs.output, hs.size, hs.keep, fun i b e hb ho he _ => ⟨i, b, e, hb, ho, he, rfl⟩⟩
/-- The same, for one value that is known. -/
theorem ACalls.pure1 {f : FuncId} {args : List Value} {Q : Value → AH → Prop} (u : Value) (hf : AS.flatU u = true) (hq : Q u A) (h : ∀ Q' : Value → AH → Prop, (∀ A', Le A A' → Q' u A') → ACalls G P f args Q' A) : ACalls G P f args Q A :=
  ACalls.pureU (S := fun v => v = u) (fun v hv => by subst hv; exact hq) (h _ fun A' hl => ⟨hl, hf, rfl⟩)

/-- What holds between two parts of a code. -/
theorem W_mid {x y : IC} {R : Exit → AT → AH → Prop} {a : AT} (M : AT → AH → Prop) (h1 : W G P x (fun e a A => e = .normal ∧ M a A) a A) (h2 : ∀ a A, M a A → W G P y R a A) : W G P (.seq x y) R a A := by
  rw [W_seq]
  refine W_mono ?_ h1
  rintro e a A ⟨rfl, hm⟩
  exact h2 a A hm
/-- The same, where the first part may return. -/
theorem W_midR {x y : IC} {R : Exit → AT → AH → Prop} {a : AT} (M : AT → AH → Prop) (h1 : W G P x (fun e a A => (e = .normal ∧ M a A) ∨ (e = .ret ∧ R .ret a A)) a A) (h2 : ∀ a A, M a A → W G P y R a A) : W G P (.seq x y) R a A := by
  rw [W_seq]
  refine W_mono ?_ h1
  rintro e a A (⟨rfl, hm⟩ | ⟨rfl, hm⟩)
  · exact h2 a A hm
  · exact hm
/-- What is appended to bytes behind a pointer, and put there. -/
theorem app_put {bs xs : List UInt8} {cs : List Value} {o : Nat} (hl : Le A0 A) (hi : A0.length ≤ i) (hr : A[i]? = some (.row cs .own 0 true)) (hv : cs[o]? = some v) (h : OwnB A0.length A v bs) (hx : Byt A x xs) (hb : bs.length + xs.length ≤ 2 ^ 47) :
    ∃ u B, sApp A v x 1 1 = some (u, B) ∧ B[i]? = some (.row cs .own 0 true) ∧ sStore B (.pointer (some ⟨i, o, none⟩)) u 1 = some (undef, B.set i (.row (cs.set o u) .own 0 true)) ∧ Le A0 (B.set i (.row (cs.set o u) .own 0 true)) ∧
      OwnB A0.length (B.set i (.row (cs.set o u) .own 0 true)) u (bs ++ xs) ∧ (B.set i (.row (cs.set o u) .own 0 true))[i]? = some (.row (cs.set o u) .own 0 true) ∧
      (∀ k b, k ≠ i → A[k]? = some b → k ∉ blkOf v → (B.set i (.row (cs.set o u) .own 0 true))[k]? = some b) := by
  obtain ⟨u, B, p1, p2, p3, p4⟩ := app_bytes hl h hx hb
  have hne : ∀ o' c, v ≠ .slice (some ⟨i, o', none⟩) bs.length c := by
    intro o' c e
    have := Sl.blk h.sl hr (by decide) i (by rw [e]; simp [blkOf])
    exact this rfl
  have g := p4 i _ hr hne
  have ho : o < cs.length := lt_of_get hv
  have h1 : one1 u := by obtain ⟨p, c, hs, _⟩ := p3.byt.shape; rw [hs]; exact one1_sl _ _ _
  refine ⟨u, B, p1, g, row_store g ho h1, p2.set hi, OwnB.kp p3 (Keep.set _ _ _) g, set_get g, ?_⟩
  intro k b hk hb hkv
  rw [List.getElem?_set_ne (Ne.symm hk)]
  exact p4 k b hb (fun o' c e => hkv (by rw [e]; simp [blkOf]))
theorem u8s_eq (s : ByteArray) : u8s s = s.data.toList.map by8 := rfl
theorem byt_str {s : ByteArray} : s.data.toList.length = s.size := by cases s; simp [ByteArray.size]
/-- A text is appended to bytes. -/
theorem apps_bytes {bs : List UInt8} {s : ByteArray} (hl : Le A0 A) (h : OwnB A0.length A v bs) (hb : bs.length + s.size ≤ 2 ^ 47) :
    ∃ u B, sApps A v (.string s) 1 = some (u, B) ∧ Le A0 B ∧ OwnB A0.length B u (bs ++ s.data.toList) ∧ (∀ i b, A[i]? = some b → i ∉ blkOf v → B[i]? = some b) := by
  obtain ⟨u, B, h1, h2, h3, h4⟩ := app_own (new := s.data.toList.map by8) (k := s.size) (bytes := 1) hl h (by omega) (by omega) (by omega) (by simp [byt_str]) (Byt.ones8 _)
  refine ⟨u, B, ?_, h2, ?_, fun i b hb hi => h4 i b hb (fun o c e => hi (by rw [e]; simp [blkOf]))⟩
  · unfold sApps
    simp only [u8s_eq, h1]
  · unfold OwnB
    rw [List.length_append, List.map_append, byt_str]
    exact h3
end
end Go.AS


namespace Go.AS
open Go
set_option linter.unusedVariables false
set_option linter.unusedSimpArgs false

/-! Rules by which a heap that is told as a term is read and written (heapR: hand it to «T»). -/
section
variable {A B : AH} {i j o n m : Nat} {b : Blk} {v x : Value} {cs : List Value} {st : St} {sz : Nat} {ex : Bool}
def rowOf : Blk → Option (List Value × St × Nat × Bool)
  | .row cs st sz ex => if st = .dead then none else some (cs, st, sz, ex)
  | _ => none
theorem getRow_eq : getRow A i = (A[i]?).bind rowOf := by
  unfold getRow
  cases A[i]? with
  | none => rfl
  | some b => cases b <;> rfl
def selN {α : Type} (i n : Nat) (x y z : α) : α := if i = n then x else if i < n then y else z
def selS {α : Type} (i j n : Nat) (x y z : α) : α := if i = j then (if j < n then x else z) else y
def ifN {α : Type} (o n : Nat) (x y : α) : α := if o < n then x else y
theorem ifN_lt {α : Type} {x y : α} (h : o < n) : ifN o n x y = x := if_pos h
theorem selN_eq {α : Type} {x y z : α} (h : i = n) : selN i n x y z = x := if_pos h
theorem selN_lt {α : Type} {x y z : α} (h : i < n) : selN i n x y z = y := by unfold selN; rw [if_neg (by omega), if_pos h]
theorem selS_eq {α : Type} {x y z : α} (h : i = j) (h2 : j < n) : selS i j n x y z = x := by unfold selS; rw [if_pos h, if_pos h2]
theorem selS_ne {α : Type} {x y z : α} (h : i ≠ j) : selS i j n x y z = y := if_neg h
/-- A row's part, what it is. -/
def rowAt (A : AH) (i : Nat) : Option (List Value × St × Nat × Bool) := getRow A i
theorem rowAt_app : rowAt (A ++ [b]) i = selN i A.length (rowOf b) (rowAt A i) none := by
  unfold rowAt selN
  rw [getRow_eq, getRow_eq]
  split
  · subst_vars; simp
  · split
    · rw [List.getElem?_append_left (by assumption)]
    · rw [List.getElem?_eq_none (by simp; omega)]; rfl
theorem rowAt_set : rowAt (A.set j b) i = selS i j A.length (rowOf b) (rowAt A i) none := by
  unfold rowAt selS
  rw [getRow_eq, getRow_eq]
  split
  · subst_vars
    split
    · rw [List.getElem?_set_self (by assumption)]; rfl
    · rw [List.getElem?_eq_none (by simp; omega)]; rfl
  · rw [List.getElem?_set_ne (by omega)]
theorem rowOf_own : rowOf (.row cs .own sz ex) = some (cs, .own, sz, ex) := id rfl
theorem rowOf_ro : rowOf (.row cs .ro sz ex) = some (cs, .ro, sz, ex) := id rfl
theorem rowAt_of (h : A[i]? = some (.row cs st sz ex)) (hs : st ≠ .dead) : rowAt A i = some (cs, st, sz, ex) := by
  unfold rowAt
  rw [getRow_eq, h, Option.bind_some]
  exact if_neg hs
theorem rowAt_own (h : A[i]? = some (.row cs .own sz ex)) : rowAt A i = some (cs, .own, sz, ex) := rowAt_of h (by decide)
theorem rowAt_get (h : rowAt A i = some (cs, st, sz, ex)) : A[i]? = some (.row cs st sz ex) := by
  unfold rowAt getRow at h
  split at h
  · split at h
    · cases h
    · injection h with h
      injection h with h1 h2
      injection h2 with h2 h3
      injection h3 with h3 h4
      subst h1 h2 h3 h4
      assumption
  · cases h
theorem Le.row {r : List Value × St × Nat × Bool} (h : Le A B) (k : rowAt A i = some r) : rowAt B i = some r := by
  obtain ⟨cs, st, sz, ex⟩ := r
  have h0 := rowAt_get k
  have h1 := h.get h0
  unfold rowAt at k ⊢
  rw [getRow_eq, h0] at k
  rw [getRow_eq, h1]
  exact k
def ldQ (r : Option (List Value × St × Nat × Bool)) (o : Nat) (A : AH) : Option (Value × AH) := match r with | some (cs, _) => (cs[o]?).map fun v => (v, A) | none => none
theorem ldR : sLoad1 A (.pointer (some ⟨i, o, none⟩)) = ldQ (rowAt A i) o A := by
  unfold sLoad1 ldQ rowAt
  simp only
  cases getRow A i with
  | none => rfl
  | some r => rfl
theorem ldQ_some {t : St × Nat × Bool} : ldQ (some (cs, t)) o A = (cs[o]?).map fun v => (v, A) := id rfl
def ldnQ (r : Option (List Value × St × Nat × Bool)) (o n : Nat) (A : AH) : Option (Value × AH) := match r with | some (cs, _) => (cut cs o n).map fun v => (.agg v.toArray, A) | none => none
theorem ldnR : sLoadn A (.pointer (some ⟨i, o, none⟩)) n = ldnQ (rowAt A i) o n A := by
  unfold sLoadn ldnQ rowAt
  simp only
  cases getRow A i with
  | none => rfl
  | some r => rfl
theorem ldnQ_some {t : St × Nat × Bool} : ldnQ (some (cs, t)) o n A = (cut cs o n).map fun v => (.agg v.toArray, A) := id rfl
/-- Cells out of a row that is told: a beginning is left, so many are taken. -/
theorem cut_cons {c : Value} : cut (c :: cs) (o + 1) n = cut cs o n := by
  unfold cut
  simp only [List.length_cons, List.drop_succ_cons]
  by_cases h : o + n ≤ cs.length
  · rw [if_pos h, if_pos (by omega)]
  · rw [if_neg h, if_neg (by omega)]
theorem cut_take {c : Value} : cut (c :: cs) 0 (n + 1) = (cut cs 0 n).map (c :: ·) := by
  unfold cut
  simp only [List.length_cons, List.drop_zero, List.take_succ_cons]
  by_cases h : 0 + n ≤ cs.length
  · rw [if_pos h, if_pos (by omega)]; rfl
  · rw [if_neg h, if_neg (by omega)]; rfl
theorem cut_zero : cut cs 0 0 = some [] := by
  unfold cut
  rw [if_pos (by omega)]; simp
def stQ (r : Option (List Value × St × Nat × Bool)) (i o n : Nat) (x : Value) (A : AH) : Option (Value × AH) := match r with
  | some (cs, .own, sz, ex) => if x.cells.size = n ∧ o + n ≤ cs.length ∧ ones x.cells.toList = true then some (undef, A.set i (.row (setAll cs o x.cells.toList) .own sz ex)) else none
  | _ => none
theorem stR : sStore A (.pointer (some ⟨i, o, none⟩)) x n = stQ (rowAt A i) i o n x A := by
  unfold sStore stQ rowAt getRow wr
  simp only
  cases hA : A[i]? with
  | none => simp
  | some b =>
    cases b with
    | row cs st sz ex =>
      cases st <;> simp only [Option.map_none, ite_self, reduceCtorEq, if_false, if_true]
      by_cases h1 : x.cells.size = n
      · have h2 : x.cells.toList.length = n := by simpa using h1
        rw [if_pos h1]
        by_cases h3 : o + n ≤ cs.length ∧ ones x.cells.toList = true
        · rw [if_pos ⟨by omega, h3.2⟩, if_pos ⟨h1, h3.1, h3.2⟩]; rfl
        · rw [if_neg (fun h => h3 ⟨by omega, h.2⟩), if_neg (fun h => h3 ⟨h.2.1, h.2.2⟩)]; rfl
      · rw [if_neg h1, if_neg (fun h => h1 h.1)]
    | mp es => simp
    | sit s p => simp
/-- A store of one cell. -/
theorem stQ_one (h : one1 x) (ho : o < cs.length) : stQ (some (cs, .own, sz, ex)) i o 1 x A = some (undef, A.set i (.row (cs.set o x) .own sz ex)) := by
  unfold stQ
  simp only [h.1]
  have h1 : ones [x] = true := by simp [ones, h.2]
  rw [if_pos ⟨rfl, by omega, h1⟩]
  congr 4
  unfold setAll
  apply List.ext_getElem?
  intro k
  simp only [List.getElem?_append, List.getElem?_set, List.length_append, List.length_take, List.length_singleton, List.getElem?_take, List.getElem?_drop]
  rw [Nat.min_eq_left (Nat.le_of_lt ho)]
  by_cases hk : k < o
  · rw [if_pos (by omega), if_pos hk, if_pos hk, if_neg (by omega)]
  · by_cases hk2 : k = o
    · subst hk2; simp [ho]
    · rw [if_neg (by omega), if_neg (by omega)]
      congr 1; omega
theorem stQ_str {s : ByteArray} : stQ (some (cs, .own, sz, ex)) i o 1 (.string s) A = ifN o cs.length (some (undef, A.set i (.row (cs.set o (.string s)) .own sz ex))) none := by
  unfold ifN
  split
  · exact stQ_one ⟨rfl, rfl⟩ (by assumption)
  · rename_i h
    unfold stQ
    exact if_neg (fun k => h (by have := k.2.1; omega))
theorem stQ_int {k : IntKind} {m : Int} : stQ (some (cs, .own, sz, ex)) i o 1 (.int k m) A = ifN o cs.length (some (undef, A.set i (.row (cs.set o (.int k m)) .own sz ex))) none := by
  unfold ifN
  split
  · exact stQ_one ⟨rfl, rfl⟩ (by assumption)
  · rename_i h
    unfold stQ
    exact if_neg (fun k => h (by have := k.2.1; omega))
theorem stQ_bool {c : Bool} : stQ (some (cs, .own, sz, ex)) i o 1 (.bool c) A = ifN o cs.length (some (undef, A.set i (.row (cs.set o (.bool c)) .own sz ex))) none := by
  unfold ifN
  split
  · exact stQ_one ⟨rfl, rfl⟩ (by assumption)
  · rename_i h
    unfold stQ
    exact if_neg (fun k => h (by have := k.2.1; omega))
theorem stQ_sl {p : Option Addr} {n c : Nat} : stQ (some (cs, .own, sz, ex)) i o 1 (.slice p n c) A = ifN o cs.length (some (undef, A.set i (.row (cs.set o (.slice p n c)) .own sz ex))) none := by
  unfold ifN
  split
  · exact stQ_one ⟨rfl, rfl⟩ (by assumption)
  · rename_i h
    unfold stQ
    exact if_neg (fun k => h (by have := k.2.1; omega))
theorem stQ_ptr {p : Option Addr} : stQ (some (cs, .own, sz, ex)) i o 1 (.pointer p) A = ifN o cs.length (some (undef, A.set i (.row (cs.set o (.pointer p)) .own sz ex))) none := by
  unfold ifN
  split
  · exact stQ_one ⟨rfl, rfl⟩ (by assumption)
  · rename_i h
    unfold stQ
    exact if_neg (fun k => h (by have := k.2.1; omega))
/-- A store of a struct. -/
theorem stQ_agg {l : List Value} : stQ (some (cs, .own, sz, ex)) i o n (.agg l.toArray) A = (if l.length = n ∧ o + n ≤ cs.length ∧ ones l = true then some (undef, A.set i (.row (setAll cs o l) .own sz ex)) else none) := by
  unfold stQ
  have e : (Value.agg l.toArray).cells = l.toArray := rfl
  simp only [e, List.size_toArray]
theorem ones_cons {l : List Value} : ones (x :: l) = (x.oneCell' && ones l) := id rfl
theorem ones_nil : ones [] = true := id rfl
theorem one_s {s : ByteArray} : (Value.string s).oneCell' = true := id rfl
theorem one_i {k : IntKind} {n : Int} : (Value.int k n).oneCell' = true := id rfl
theorem one_b {c : Bool} : (Value.bool c).oneCell' = true := id rfl
theorem one_p {p : Option Addr} : (Value.pointer p).oneCell' = true := id rfl
theorem one_v {p : Option Addr} {n c : Nat} : (Value.slice p n c).oneCell' = true := id rfl
theorem setAll_zero {c d : Value} {l : List Value} : setAll (c :: cs) 0 (d :: l) = d :: setAll cs 0 l := by
  unfold setAll
  simp
theorem setAll_nil : setAll cs 0 [] = cs := by unfold setAll; simp
theorem setAll_succ {c : Value} {l : List Value} : setAll (c :: cs) (o + 1) l = c :: setAll cs o l := by
  unfold setAll
  simp [Nat.add_right_comm]
theorem boxR {l : List Value} : sBox A (.agg l.toArray) = if ones l = true then some (.pointer (some ⟨A.length, 0, none⟩), A ++ [.row l .own 0 true]) else none := id rfl
theorem faR {k : Nat} : sFaddr A (.pointer (some ⟨i, o, none⟩)) k = some (.pointer (some ⟨i, o + k, none⟩), A) := id rfl
theorem blR {z : List Value} {ps : List (Nat × Nat × Value)} : sBuild A z ps = (fillA z ps).map fun cs => (.agg cs.toArray, A) := id rfl
theorem fillR_nil {z : List Value} : fillA z [] = some z := id rfl
theorem fillR1 {z : List Value} {r : List (Nat × Nat × Value)} : fillA z ((o, n, v) :: r) = if v.cells.size = n ∧ o + n ≤ z.length ∧ ones v.cells.toList = true then fillA (setAll z o v.cells.toList) r else none := id rfl
theorem setAll_one {z : List Value} (h : o + 1 ≤ z.length) : setAll z o [v] = z.set o v := by
  unfold setAll
  apply List.ext_getElem?
  intro k
  simp only [List.getElem?_append, List.getElem?_set, List.length_append, List.length_take, List.length_singleton, List.getElem?_take, List.getElem?_drop]
  rw [Nat.min_eq_left (by omega)]
  by_cases hk : k < o
  · rw [if_pos (by omega), if_pos hk, if_pos hk, if_neg (by omega)]
  · by_cases hk2 : k = o
    · subst hk2; simp; omega
    · rw [if_neg (by omega), if_neg (by omega)]
      congr 1; omega
theorem fill_one {z : List Value} {r : List (Nat × Nat × Value)} (hv : one1 v) (h : o + 1 ≤ z.length) : fillA z ((o, 1, v) :: r) = fillA (z.set o v) r := by
  rw [fillR1]
  have e : v.cells.toList = [v] := by rw [hv.1]
  have e2 : v.cells.size = 1 := by rw [hv.1]; rfl
  rw [e, if_pos ⟨e2, h, by simp [ones, hv.2]⟩, setAll_one h]
theorem fill_str {z : List Value} {r : List (Nat × Nat × Value)} {s : ByteArray} : fillA z ((o, 1, .string s) :: r) = ifN o z.length (fillA (z.set o (.string s)) r) none := by
  unfold ifN
  split
  · exact fill_one ⟨rfl, rfl⟩ (by omega)
  · rename_i h
    rw [fillR1]
    exact if_neg (fun k => h (by have := k.2.1; omega))
theorem fill_int {z : List Value} {r : List (Nat × Nat × Value)} {k : IntKind} {m : Int} : fillA z ((o, 1, .int k m) :: r) = ifN o z.length (fillA (z.set o (.int k m)) r) none := by
  unfold ifN
  split
  · exact fill_one ⟨rfl, rfl⟩ (by omega)
  · rename_i h
    rw [fillR1]
    exact if_neg (fun k => h (by have := k.2.1; omega))
theorem fill_bool {z : List Value} {r : List (Nat × Nat × Value)} {c : Bool} : fillA z ((o, 1, .bool c) :: r) = ifN o z.length (fillA (z.set o (.bool c)) r) none := by
  unfold ifN
  split
  · exact fill_one ⟨rfl, rfl⟩ (by omega)
  · rename_i h
    rw [fillR1]
    exact if_neg (fun k => h (by have := k.2.1; omega))
theorem fill_sl {z : List Value} {r : List (Nat × Nat × Value)} {p : Option Addr} {m c : Nat} : fillA z ((o, 1, .slice p m c) :: r) = ifN o z.length (fillA (z.set o (.slice p m c)) r) none := by
  unfold ifN
  split
  · exact fill_one ⟨rfl, rfl⟩ (by omega)
  · rename_i h
    rw [fillR1]
    exact if_neg (fun k => h (by have := k.2.1; omega))
theorem fill_ptr {z : List Value} {r : List (Nat × Nat × Value)} {p : Option Addr} : fillA z ((o, 1, .pointer p) :: r) = ifN o z.length (fillA (z.set o (.pointer p)) r) none := by
  unfold ifN
  split
  · exact fill_one ⟨rfl, rfl⟩ (by omega)
  · rename_i h
    rw [fillR1]
    exact if_neg (fun k => h (by have := k.2.1; omega))
theorem fill_agg {z : List Value} {r : List (Nat × Nat × Value)} {l : List Value} : fillA z ((o, n, .agg l.toArray) :: r) = if l.length = n ∧ o + n ≤ z.length ∧ ones l = true then fillA (setAll z o l) r else none := id rfl
theorem fld1R {l : List Value} : sField1 A (.agg l.toArray) o = (l[o]?).map fun v => (v, A) := by unfold sField1; simp
theorem le_tt (h : i ≤ j) : (i ≤ j) = True := eq_true h
/-- A row of operations, parted. -/
theorem Wops_cut {G : Nat} {P : Program} {Q : AT → AH → Prop} (n : Nat) (M : AT → AH → Prop) : ∀ {l : List IOp} {R : List Nat} {a : AT} {A : AH}, (l.take n).all (fun o => !o.le) = true → Wops G P M (l.take n) R a A → (∀ a A, M a A → Wops G P Q (l.drop n) R a A) → Wops G P Q l R a A := by
  induction n with
  | zero => intro l R a A _ h1 h2; exact h2 a A h1
  | succ n ih =>
    intro l R a A hl h1 h2
    cases l with
    | nil => exact h2 a A h1
    | cons o l =>
      simp only [List.take_succ_cons, List.all_cons, Bool.and_eq_true, Bool.not_eq_true'] at hl
      simp only [List.take_succ_cons, List.drop_succ_cons, Wops, hl.1, Bool.false_eq_true, false_implies, true_and, if_false] at h1 h2 ⊢
      split
      · rename_i hw
        rw [if_pos hw] at h1
        exact W1_mono (fun v A' h => ih hl.2 h h2) h1
      · rename_i hw
        rw [if_neg hw] at h1
        exact ih hl.2 h1 h2
theorem RdOk_app {R : List Nat} : RdOk R A (A ++ B) = True := eq_true (Le.rd ⟨B, rfl⟩ R)
/-- What «T» is handed beside heapR. -/
theorem lensR : ((type_of% @List.length_append.{0} ∧ type_of% @List.length_singleton.{0}) ∧ (type_of% @List.length_cons.{0} ∧ type_of% @List.length_nil.{0})) ∧ ((type_of% @List.length_set.{0} ∧ type_of% @List.getElem?_cons_zero.{0}) ∧ (type_of% @List.getElem?_cons_succ.{0} ∧ type_of% @List.set_cons_zero.{0})) ∧
    ((type_of% @List.set_cons_succ.{0} ∧ type_of% @Bool.and_self) ∧ ((type_of% @Nat.zero_add ∧ type_of% @RdOk_app) ∧ ((type_of% @List.take_succ_cons.{0} ∧ type_of% @List.take_zero.{0}) ∧ (type_of% @List.drop_succ_cons.{0} ∧ type_of% @List.drop_zero.{0})))) :=
  ⟨⟨⟨@List.length_append, @List.length_singleton⟩, ⟨@List.length_cons, @List.length_nil⟩⟩, ⟨⟨@List.length_set, @List.getElem?_cons_zero⟩, ⟨@List.getElem?_cons_succ, @List.set_cons_zero⟩⟩, ⟨⟨@List.set_cons_succ, @Bool.and_self⟩, ⟨⟨@Nat.zero_add, @RdOk_app⟩, ⟨@List.take_succ_cons, @List.take_zero⟩, ⟨@List.drop_succ_cons, @List.drop_zero⟩⟩⟩⟩
theorem heapR : ((((type_of% @rowAt_app ∧ type_of% @rowAt_set) ∧ ((type_of% @selN_eq ∧ type_of% @selN_lt) ∧ type_of% @ifN_lt)) ∧ ((type_of% @selS_eq ∧ type_of% @selS_ne) ∧ (type_of% @rowOf_own ∧ type_of% @rowOf_ro))) ∧
    (((type_of% @ldR ∧ type_of% @ldQ_some) ∧ (type_of% @ldnR ∧ type_of% @ldnQ_some)) ∧ ((type_of% @cut_cons ∧ type_of% @cut_take) ∧ (type_of% @cut_zero ∧ type_of% @stR)))) ∧
    ((((type_of% @stQ_str ∧ type_of% @stQ_int) ∧ (type_of% @stQ_bool ∧ type_of% @stQ_sl)) ∧ ((type_of% @stQ_ptr ∧ type_of% @stQ_agg) ∧ (type_of% @ones_cons ∧ type_of% @ones_nil))) ∧
    (((type_of% @one_s ∧ type_of% @one_i) ∧ (type_of% @one_b ∧ type_of% @one_p)) ∧ ((type_of% @one_v ∧ type_of% @setAll_zero) ∧ (type_of% @setAll_nil ∧ type_of% @setAll_succ)))) ∧
    ((((type_of% @boxR ∧ type_of% @faR) ∧ (type_of% @blR ∧ type_of% @fillR_nil)) ∧ ((type_of% @fill_str ∧ type_of% @fill_int) ∧ (type_of% @fill_bool ∧ type_of% @fill_sl))) ∧ (((type_of% @fill_ptr ∧ type_of% @fill_agg) ∧ type_of% @fld1R) ∧ (type_of% @le_tt))) :=
  ⟨⟨⟨⟨⟨@rowAt_app, @rowAt_set⟩, ⟨⟨@selN_eq, @selN_lt⟩, @ifN_lt⟩⟩, ⟨⟨@selS_eq, @selS_ne⟩, ⟨@rowOf_own, @rowOf_ro⟩⟩⟩, ⟨⟨⟨@ldR, @ldQ_some⟩, ⟨@ldnR, @ldnQ_some⟩⟩, ⟨⟨@cut_cons, @cut_take⟩, ⟨@cut_zero, @stR⟩⟩⟩⟩,
    ⟨⟨⟨⟨@stQ_str, @stQ_int⟩, ⟨@stQ_bool, @stQ_sl⟩⟩, ⟨⟨@stQ_ptr, @stQ_agg⟩, ⟨@ones_cons, @ones_nil⟩⟩⟩, ⟨⟨⟨@one_s, @one_i⟩, ⟨@one_b, @one_p⟩⟩, ⟨⟨@one_v, @setAll_zero⟩, ⟨@setAll_nil, @setAll_succ⟩⟩⟩⟩,
    ⟨⟨⟨⟨@boxR, @faR⟩, ⟨@blR, @fillR_nil⟩⟩, ⟨⟨@fill_str, @fill_int⟩, ⟨@fill_bool, @fill_sl⟩⟩⟩, ⟨⟨⟨@fill_ptr, @fill_agg⟩, @fld1R⟩, @le_tt⟩⟩⟩
end
end Go.AS


namespace Go.AS
open Go
set_option linter.unusedVariables false
set_option linter.unusedSimpArgs false

/-! Structs of numbers, texts and bools, compared. -/
inductive FK where | int (k : IntKind) | bool | str
  deriving DecidableEq
def fkOf : Option TypeDesc → Option FK
  | some .bool => some .bool
  | some (.int k) => some (.int k)
  | some .string => some .str
  | _ => none
/-- A value of such a kind. -/
def FK.Has : FK → Value → Prop
  | .int k, .int q n => q = k ∧ (Lit.int k n).wf = true
  | .bool, .bool _ => True
  | .str, .string s => s.size ≤ maxLen
  | _, _ => False
def litW : Value → Lit
  | .int k n => .int k n
  | .bool b => .bool b
  | .string s => .string s.data.toList
  | _ => .bool false
def fieldsB (P : Program) : List Field → List FK → Nat → Bool
  | [], [], _ => true
  | f :: fs, k :: ks, o => (fkOf (P.underlying f.type) == some k) && (f.offset == o) && (P.cellsOf f.type == 1) && fieldsB P fs ks (o + 1)
  | _, _, _ => false
/-- A type is a struct of such kinds. -/
def flatS (P : Program) (t : TypeId) (ks : List FK) : Bool := match P.underlying t with
  | some (.struct fs) => fieldsB P fs.toList ks 0 && (fs.all (·.name != "_")) && (P.cellsOf t == ks.length)
  | _ => false
theorem FK.key {P : Program} {d : Nat} {t : TypeId} {k : FK} {v : Value} (h : fkOf (P.underlying t) = some k) (hv : k.Has v) : P.keyLits (d + 1) t [v] = some [litW v] := by
  unfold Program.keyLits
  generalize P.underlying t = u at h
  cases u with
  | none => cases h
  | some u =>
    cases u <;> first | (cases h; done) | (injection h with h; subst h; cases v <;> first | (exact hv.elim) | skip)
    · rfl
    · obtain ⟨rfl, h2⟩ := hv
      simp only
      rw [if_pos ⟨trivial, h2⟩]; rfl
    · exact if_pos hv
theorem flat1 : ∀ xs : List Value, (xs.map fun v => [litW v]).flatten = xs.map litW
  | [] => rfl
  | x :: xs => by simp only [List.map_cons, List.flatten_cons, List.singleton_append]; rw [flat1 xs]
theorem fields_key {P : Program} {d : Nat} : ∀ (fs : List Field) (ks : List FK) (pre xs : List Value), fieldsB P fs ks pre.length = true → All2 (fun v k => FK.Has k v) xs ks →
    (fs.mapM fun f => P.keyLits (d + 1) f.type (((pre ++ xs).drop f.offset).take (P.cellsOf f.type))) = some (xs.map fun v => [litW v])
  | [], [], pre, [], _, _ => rfl
  | [], [], pre, _ :: _, _, h => h.elim
  | f :: fs, k :: ks, pre, [], _, h => h.elim
  | f :: fs, k :: ks, pre, x :: xs, h, ⟨h1, h2⟩ => by
    simp only [fieldsB, Bool.and_eq_true, beq_iff_eq] at h
    obtain ⟨⟨⟨g1, g2⟩, g3⟩, g4⟩ := h
    have ih := fields_key (d := d) fs ks (pre ++ [x]) xs (by simpa using g4) h2
    rw [List.append_assoc, List.singleton_append] at ih
    have e : ((pre ++ x :: xs).drop f.offset).take (P.cellsOf f.type) = [x] := by
      rw [g2, g3, List.drop_left]; rfl
    rw [List.mapM_cons, e, FK.key g1 h1, ih]
    rfl
theorem keyLits_flat {P : Program} {t : TypeId} {ks : List FK} {xs : List Value} {d : Nat} (h : flatS P t ks = true) (hx : All2 (fun v k => FK.Has k v) xs ks) : P.keyLits (d + 2) t xs = some (xs.map litW) := by
  unfold flatS at h
  split at h
  · rename_i fs hu
    simp only [Bool.and_eq_true, beq_iff_eq] at h
    obtain ⟨⟨h1, h2⟩, h3⟩ := h
    have hl := All2.len _ _ hx
    unfold Program.keyLits
    simp only [hu]
    rw [if_pos ⟨by omega, h2⟩]
    have := fields_key (d := d) fs.toList ks [] xs h1 hx
    rw [List.nil_append] at this
    rw [this]
    simp only [Option.map_some, flat1]
  · cases h
theorem FK.flat {k : FK} {v : Value} (h : k.Has v) : flatV v = true := by
  cases k <;> cases v <;> first | rfl | exact h.elim
theorem litW_inj : ∀ {xs ys : List Value} {ks : List FK}, All2 (fun v k => FK.Has k v) xs ks → All2 (fun v k => FK.Has k v) ys ks → (xs.map litW = ys.map litW ↔ xs = ys)
  | [], [], _, _, _ => by simp
  | [], _ :: _, [], _, h => h.elim
  | [], _ :: _, _ :: _, h, _ => h.elim
  | _ :: _, [], [], h, _ => h.elim
  | _ :: _, [], _ :: _, _, h => h.elim
  | _ :: _, _ :: _, [], h, _ => h.elim
  | x :: xs, y :: ys, k :: ks, ⟨h1, h2⟩, ⟨g1, g2⟩ => by
    simp only [List.map_cons, List.cons.injEq, litW_inj h2 g2, and_congr_left_iff]
    intro _
    cases k <;> cases x <;> first | exact h1.elim | (cases y <;> first | exact g1.elim | skip)
    · obtain ⟨rfl, _⟩ := h1
      obtain ⟨rfl, _⟩ := g1
      simp [litW]
    · simp [litW]
    · rename_i a b
      simp only [litW, Lit.string.injEq, Value.string.injEq]
      constructor
      · intro h; cases a; cases b; congr; exact Array.toList_inj.1 h
      · rintro rfl; rfl
theorem all2_flat : ∀ {xs : List Value} {ks : List FK}, All2 (fun v k => FK.Has k v) xs ks → xs.all flatV = true
  | [], _, _ => rfl
  | x :: xs, [], h => h.elim
  | x :: xs, k :: ks, ⟨h1, h2⟩ => by
    rw [List.all_cons, FK.flat h1, all2_flat h2]; rfl
open Classical in
/-- TWO STRUCTS, compared. -/
theorem eqagg_flat {P : Program} {A : AH} {t : TypeId} {ks : List FK} {xs ys : List Value} {neg : Bool} (h : flatS P t ks = true) (hx : All2 (fun v k => FK.Has k v) xs ks) (hy : All2 (fun v k => FK.Has k v) ys ks) {b : Bool} (hb : b = true ↔ xs = ys) :
    sEqagg A neg (P.keyLits 8 t) (.agg xs.toArray) (.agg ys.toArray) = some (.bool (b != neg), A) := by
  unfold sEqagg
  simp only
  rw [if_pos ⟨by simpa using all2_flat hx, by simpa using all2_flat hy⟩]
  rw [keyLits_flat (d := 6) h hx, keyLits_flat (d := 6) h hy]
  simp only [Option.bind_some, Option.map_some]
  have e : decide (List.map litW xs = List.map litW ys) = b := by rw [Bool.eq_iff_iff, decide_eq_true_eq, hb, litW_inj hx hy]
  rw [e]
theorem FK.hasI {n : Int} (h : -9223372036854775808 ≤ n ∧ n < 9223372036854775808) : FK.Has (.int .i64) (.int .i64 n) := by
  refine ⟨rfl, ?_⟩
  simp [Lit.wf, IntKind.bits, IntKind.signed, IntKind.min, IntKind.max]
  omega
/-- A function value's code, what it has caught too. -/
theorem Fits.more {P : Program} {G : Nat} {f : FuncId} {ic : IC} {rs : List RV} {np : Nat} (m : Nat) (h : Fits P G f ic rs np) (hk : ((P.funcs[f]?).any fun fn => decide (m ≤ fn.ntmps)) = true) : Fits P G f ic rs m := by
  obtain ⟨fn, h1, h2, h3, h4⟩ := h
  rw [h1] at hk
  exact ⟨fn, h1, by simpa using hk, h3, h4⟩
theorem s2b_eq {A : AH} {s : ByteArray} : sS2b A (.string s) = some (.slice (some ⟨A.length, 0, none⟩) s.size s.size, A ++ [.row (s.data.toList.map by8) .own 1 false]) := id rfl
theorem byt_s2b {A : AH} (s : ByteArray) : Byt (A ++ [.row (s.data.toList.map by8) .own 1 false]) (.slice (some ⟨A.length, 0, none⟩) s.size s.size) s.data.toList :=
  (own_row (a0 := 0) (get_last _ _) byt_str.symm (by rw [← byt_str]; exact Nat.le_refl _) (Nat.zero_le _)).byt
end Go.AS


namespace Go.AS
open Go Go.RowKit
set_option linter.unusedVariables false
set_option linter.unusedSimpArgs false
section
variable {P : Program} {A : AH} {t e : TypeId} {v : Value} {F : Nat} {cs : List Value} {fs : Array Field}

/-! Arguments that are structs, opened. -/
theorem good_struct (hu : P.underlying t = some (.struct fs)) (h : GoodV P A F t v) : ∃ cs, v = .agg cs ∧ Good P A F t cs.toList := by
  unfold GoodV at h
  rw [hu] at h
  exact h
theorem good_fields (hu : P.underlying t = some (.struct fs)) (h : Good P A (F + 1) t cs) : cs.length = P.cellsOf t ∧ ∀ f ∈ fs.toList, Good P A F f.type ((cs.drop f.offset).take (P.cellsOf f.type)) := by
  unfold Good at h
  rw [hu] at h
  exact h
theorem cell_int (hu : P.underlying t = some (.int .i64)) (h : Good P A (F + 1) t cs) : ∃ n : Int, cs = [.int .i64 n] ∧ -9223372036854775808 ≤ n ∧ n < 9223372036854775808 := by
  unfold Good at h
  rw [hu] at h
  obtain ⟨n, h1, h2⟩ := h
  exact ⟨n, h1, wfI64 h2⟩
theorem cell_str (hu : P.underlying t = some .string) (h : Good P A (F + 1) t cs) : ∃ s : ByteArray, cs = [.string s] ∧ s.size < 2 ^ 50 := by
  unfold Good at h
  rw [hu] at h
  obtain ⟨n, h1, h2⟩ := h
  exact ⟨n, h1, Nat.lt_of_le_of_lt h2 reach_lt⟩
end
end Go.AS


namespace Go.AS
open Go Go.RowKit Go.WideShapes
set_option linter.unusedVariables false
set_option linter.unusedSimpArgs false

/-! One of some laid variables: a table of numbers. -/
section
variable {P : Program} {w : World}
theorem laidVars_at {n : String} {d : DataW Unit} : ∀ {l : List (String × DataW Unit)} {ps : List MemPlace}, (n, d) ∈ l → DataW.LaidVars P w l ps →
    ∃ g t cs fuel p, P.globalNamed n = some g ∧ (P.globals[g]?).map (·.type) = some t ∧ w.var? P n = some cs ∧ DataW.trod (fun _ => ()) P w 0 (fun _ => true) false fuel t cs.toList = some (d, p)
  | [], _, hm, _ => by cases hm
  | (n', d') :: r, ps, hm, h => by
    obtain ⟨g, t, cs, fuel, p, q, h1, h2, h3, h4, h5, _⟩ := h
    rcases List.mem_cons.1 hm with e | hm
    · injection e with e1 e2
      subst e1 e2
      exact ⟨g, t, cs, fuel, p, h1, h2, h3, h4⟩
    · exact laidVars_at hm h5
theorem laid_ints_at {n : String} {g : Nat} {t e : TypeId} {k : IntKind} {l : List Int} {N : Nat} {l0 : List (String × DataW Unit)} (hg : P.globalNamed n = some g) (hgt : (P.globals[g]?).map (·.type) = some t) (ht : P.underlying t = some (.array N e)) (he : P.underlying e = some (.int k)) (hce : P.cellsOf e = 1) (hct : P.cellsOf t = N)
    (hp : (l0.all fun x => x.2.handleName?.isNone) = true) (hm : (n, .agg (l.map fun m => .lit (.int k m))) ∈ l0) (h : laidMetH P l0 w) : ∃ rc T fr, w.heap[g]? = some (.cells rc T fr) ∧ rc.toList = l.map fun m => .int k m := by
  rw [MakeChecks.laidMetH_plain _ _ _ hp] at h
  obtain ⟨ps, hl, _⟩ := h
  obtain ⟨g0, t0, cs0, f0, p0, hg0, ht0, hv0, hd0⟩ := laidVars_at hm hl
  obtain rfl := Option.some.inj (hg.symm.trans hg0)
  obtain rfl := Option.some.inj (hgt.symm.trans ht0)
  obtain ⟨T, fr, hb⟩ := var_block hg hv0
  exact ⟨cs0, T, fr, hb, glo_ints ht he hce hct hd0⟩
end
end Go.AS
