/- Lemmas for the proof of a given statement; no conditions. -/
import Derived.Test.YtffhlmbljmkdpaaM4
set_option maxHeartbeats 1000000

namespace Go.AS.C
open Go Go.Proofs
set_option linter.unusedVariables false
set_option linter.unusedSimpArgs false
set_option maxRecDepth 10000

/-! The reference's cache: its calls. -/
def prR (A : AH) (e : List Value) (p : Pr) : Prop := ∃ x, e = [.string p.1, x] ∧ Byt A x p.2
def RfA (A : AH) (v : Value) (l : List Pr) : Prop := ∃ es, Sl A 2 v es.length es.flatten ∧ (∀ e ∈ es, e.length = 2 ∧ ones e = true) ∧ All2 (prR A) es l
section
variable {A B : AH} {v u : Value} {l : List Pr} {p : Pr}
theorem prR.le {e : List Value} (h : prR A e p) (hl : Le A B) : prR B e p := by
  obtain ⟨x, h1, h2⟩ := h
  exact ⟨x, h1, h2.le hl⟩
theorem RfA.le (h : RfA A v l) (hl : Le A B) : RfA B v l := by
  obtain ⟨es, h1, h2, h3⟩ := h
  exact ⟨es, h1.le hl, h2, All2.imp (fun _ _ h => prR.le h hl) _ _ h3⟩
theorem RfA.nil (A : AH) : RfA A (.slice none 0 0) [] := ⟨[], ⟨rfl, .inl ⟨rfl, rfl⟩⟩, by simp, trivial⟩
theorem RfA.len (h : RfA A v l) (B : AH) : sLens B false v = some (.int .i64 l.length, B) := by
  obtain ⟨es, h1, h2, h3⟩ := h
  rw [← all2_len h3]; exact Sl.lenB h1 B
theorem RfA.one (h : RfA A v l) : one1 v := by
  obtain ⟨es, h1, h2, h3⟩ := h
  exact Sl.one1 h1
theorem RfA.lt (h : RfA A v l) : ∀ k ∈ blkOf v, k < A.length := by
  obtain ⟨es, ⟨_, h⟩, _, _⟩ := h
  intro k hk
  rcases h with ⟨rfl, _⟩ | ⟨rfl, _⟩ | ⟨i, o, c, rc, st, ex, rfl, _, h3, _⟩
  · cases hk
  · cases hk
  · have : k = i := by simpa [blkOf] using hk
    subst this; exact lt_of_get h3
theorem RfA.at (h : RfA A v l) {j : Nat} (hp : l[j]? = some p) : ∃ x q q0 q1, (∀ (B : AH) (n : Int), n = (j : Int) → sIaddr B v (.int .i64 n) 2 = some (q, B)) ∧ (∀ B, sFaddr B q 0 = some (q0, B)) ∧ (∀ B, sFaddr B q 1 = some (q1, B)) ∧ (∀ B, Le A B → sLoad1 B q0 = some (.string p.1, B)) ∧ (∀ B, Le A B → sLoad1 B q1 = some (x, B)) ∧ (∀ B, Le A B → sLoadn B q 2 = some (.agg #[.string p.1, x], B)) ∧ Byt A x p.2 ∧ ∀ k ∈ blkOf q1, k < A.length := by
  have hlt := h.lt
  obtain ⟨es, h1, h2, h3⟩ := h
  obtain ⟨e, e1, x, e2, e3⟩ := all2_get h3 hp
  subst e2
  obtain ⟨q, q1, q2⟩ := Sl.elfs h1 h2 e1 rfl
  obtain ⟨q0, a1, a2⟩ := q2 0 _ rfl
  obtain ⟨q1', b1, b2⟩ := q2 1 _ rfl
  obtain ⟨r, r0, r1, _, r3⟩ := h1.el h2 e1
  have e : r = q := by
    have h1 := q1 A j rfl
    rw [r1 A j rfl] at h1
    injection h1 with h1
    injection h1 with h1 _
  subst e
  exact ⟨x, r, q0, q1', q1, a1, b1, a2, b2, fun B hB => r3 B (fun k b hk _ => hB.get hk), e3, fun k hk => hlt k (by rw [faddr_blk (b1 A), r0] at hk; exact hk)⟩
theorem sll_blk {x u : Value} {lo hi : Option Value} {sz : Nat} {A' : AH} (h : sSll A x lo hi none sz = some (u, A')) : ∀ k ∈ blkOf u, k ∈ blkOf x := by
  unfold sSll at h
  split at h
  · rw [Option.map_eq_some_iff] at h
    obtain ⟨r, _, h⟩ := h
    injection h with h _; subst h
    intro k hk; cases hk
  · rw [Option.map_eq_some_iff] at h
    obtain ⟨r, _, h⟩ := h
    injection h with h _; subst h
    intro k hk; cases hk
  · simp only [Option.bind_eq_some_iff] at h
    obtain ⟨r, _, s, _, h⟩ := h
    simp only [Option.isSome_none, Bool.false_eq_true, false_and, if_false, and_true] at h
    split at h
    · injection h with h; injection h with h _; subst h
      intro k hk; exact hk
    · cases h
  · cases h
theorem RfA.upto (h : RfA A v l) {k : Nat} (hk : k ≤ l.length) : ∃ w, (∀ n : Int, n = (k : Int) → sSll A v none (some (.int .i64 n)) none 2 = some (w, A)) ∧ RfA A w (l.take k) ∧ ∀ j ∈ blkOf w, j ∈ blkOf v := by
  obtain ⟨es, h1, h2, h3⟩ := h
  have hlen := all2_len h3
  obtain ⟨w, w1, w2⟩ := Sl.cut (lo := none) (hi := some (ii k)) h1 (Nat.zero_le _) (by omega) (fun c hc => bnd_hi (k := k) (by omega))
  refine ⟨w, by rintro n rfl; exact w1, ⟨es.take k, ?_, fun e he => h2 e (List.mem_of_mem_take he), all2_take k h3⟩, sll_blk w1⟩
  rw [flat_take h2]
  have e : (es.take k).length = k := by rw [List.length_take]; omega
  rw [e]
  simpa using w2
theorem RfA.oth (h : RfA A v l) {i : Nat} {rc : List Value} {st : St} {ex : Bool} {b : Blk} (hi : A[i]? = some (.row rc st 0 ex)) : RfA (A.set i b) v l := by
  have key : ∀ {sz n : Nat} {cs : List Value} {x : Value}, sz ≠ 0 → Sl A sz x n cs → Sl (A.set i b) sz x n cs := by
    rintro sz n cs x hs ⟨g0, h⟩
    refine ⟨g0, ?_⟩
    rcases h with h | h | ⟨j, o, c, rc', st', ex', h1, h2, h3, h4⟩
    · exact .inl h
    · exact .inr (.inl h)
    · refine .inr (.inr ⟨j, o, c, rc', st', ex', h1, h2, ?_, h4⟩)
      rw [List.getElem?_set_ne]
      · exact h3
      · rintro rfl
        rw [hi] at h3
        injection h3 with h3
        injection h3 with _ _ h3 _
        exact hs h3.symm
  obtain ⟨es, h1, h2, h3⟩ := h
  exact ⟨es, key (by decide) h1, h2, All2.imp (fun e p hp => by obtain ⟨x, x1, x2⟩ := hp; exact ⟨x, x1, key (by decide) x2⟩) _ _ h3⟩
def lenR (B : AH) (c : Nat) : Nat := match rowAt B c with
  | some (.slice _ k _ :: _, _) => k
  | _ => 0
theorem RfA.lenR (h : RfA A v l) {i : Nat} {r : List Value} {t : St × Nat × Bool} (hr : rowAt A i = some (v :: r, t)) : lenR A i = l.length := by
  have h1 := h.len A
  unfold AS.C.lenR
  rw [hr]
  cases v <;> simp [sLens] at h1 ⊢
  omega
end
theorem tot_take {l : List Pr} {j : Nat} {p : Pr} (hp : l[j]? = some p) : tot (l.take (j + 1)) = tot (l.take j) + p.2.length := by
  rw [List.take_add_one, hp, Option.toList_some, tot_append]
  simp [tot]
theorem tot_take_le (l : List Pr) (j : Nat) : tot (l.take j) ≤ tot l := by
  conv => rhs; rw [← List.take_append_drop j l]
  rw [tot_append]; omega
theorem rmv_take {l : List Pr} {j : Nat} {p : Pr} {id : ByteArray} (hp : l[j]? = some p) : rmv id (l.take (j + 1)) = if p.1 ≠ id then rmv id (l.take j) ++ [p] else rmv id (l.take j) := by
  rw [List.take_add_one, hp, Option.toList_some]
  unfold rmv
  rw [List.filter_append]
  split
  · rename_i h; simp [h]
  · rename_i h; simp [h]
theorem refOf_spec {A : AH} {m : Int} {Q : Value → AH → Prop} (hq : ∀ A', Le A A' → Q (.agg #[.slice none 0 0, .int .i64 (max m 0)]) A') : ACalls 0 Try.prog chantryref33_Of [.int .i64 m] Q A := by
  refine ACalls.of_fits mixed fits_chantryref33_Of rfl ?_
  unfold ic_chantryref33_Of
  have i0 : initA [.int .i64 m] 0 = .int .i64 m := rfl
  generalize initA [.int .i64 m] = a at i0
  have hb : ∀ (B : AH) (k : Int), sBuild B [.slice none 0 0, .int .i64 0] [(1, 1, .int .i64 k)] = some (.agg #[.slice none 0 0, .int .i64 k], B) := fun B k => rfl
  by_cases hm : m < 0
  · have e : max m 0 = 0 := by omega
    rw [e] at hq
    simp (maxSteps := 1000000) (disch := omega) only [stepS, reduceIte, Nat.reduceBEq, Nat.reduceEqDiff, tupleOf, stepT, stepX, heapR, lensR, stepM, dsl, Nat.reduceAdd, Nat.reduceLeDiff, i0, hb]
    exact hq _ (by (repeat first | exact Le.refl _ | assumption | refine Le.app ?_ _ | refine Le.set ?_ ?_ | omega | (simp only [List.length_append, List.length_singleton, List.length_set]; omega)))
  · have e : max m 0 = m := by omega
    rw [e] at hq
    simp (maxSteps := 1000000) (disch := omega) only [stepS, reduceIte, Nat.reduceBEq, Nat.reduceEqDiff, tupleOf, stepT, stepX, heapR, lensR, stepM, dsl, Nat.reduceAdd, Nat.reduceLeDiff, i0, hb]
    exact hq _ (by (repeat first | exact Le.refl _ | assumption | refine Le.app ?_ _ | refine Le.set ?_ ?_ | omega | (simp only [List.length_append, List.length_singleton, List.length_set]; omega)))
theorem refSize_spec {A : AH} {v : Value} {m : Int} {l : List Pr} {Q : Value → AH → Prop} (h : RfA A v l) (hl : l.length ≤ 2 ^ 30) (hs : tot l ≤ 2 ^ 50) (hq : ∀ A', Le A A' → Q (.int .i64 (tot l : Int)) A') :
    ACalls 0 Try.prog chantryref33_Size [.agg #[v, .int .i64 m]] Q A := by
  refine ACalls.of_fits mixed fits_chantryref33_Size rfl ?_
  unfold ic_chantryref33_Size
  have i0 : initA [.agg #[v, .int .i64 m]] 0 = .agg #[v, .int .i64 m] := rfl
  generalize initA [.agg #[v, .int .i64 m]] = a at i0
  have ho : v.oneCell' = true := h.one.2
  have vl := h.len
  have hst := tot_take_le l
  simp (maxSteps := 1000000) (disch := omega) only [stepS, reduceIte, Nat.reduceBEq, Nat.reduceEqDiff, tupleOf, stepT, stepX, heapR, lensR, stepM, dsl, Nat.reduceAdd, Nat.reduceLeDiff, i0, ho, vl]
  obtain ⟨I, hI⟩ : ∃ I : AT → AH → Prop, I = fun a B => ∃ j : Nat, a 1 = ptr A.length ∧ a 3 = .int .i64 (tot (l.take j) : Int) ∧ a 4 = .int .i64 (j : Int) ∧ j ≤ l.length ∧ Le A B ∧ rowAt B A.length = some ([v, .int .i64 m], .own, 0, true) := ⟨_, rfl⟩
  refine W_loop I (fun a B => l.length - (match a 4 with | .int _ n => n.toNat | _ => 0)) (by rw [hI]; exact ⟨0, by simp (maxSteps := 1000000) (disch := omega) only [stepS, reduceIte, Nat.reduceBEq, Nat.reduceEqDiff, tupleOf, stepT, stepX, heapR, lensR, stepM, dsl, Nat.reduceAdd, Nat.reduceLeDiff, i0], by simp (maxSteps := 1000000) (disch := omega) only [stepS, reduceIte, Nat.reduceBEq, Nat.reduceEqDiff, tupleOf, stepT, stepX, heapR, lensR, stepM, dsl, Nat.reduceAdd, Nat.reduceLeDiff, i0]; rfl, by simp (maxSteps := 1000000) (disch := omega) only [stepS, reduceIte, Nat.reduceBEq, Nat.reduceEqDiff, tupleOf, stepT, stepX, heapR, lensR, stepM, dsl, Nat.reduceAdd, Nat.reduceLeDiff, i0]; rfl, Nat.zero_le _, .push _ _, by simp (maxSteps := 1000000) (disch := omega) only [stepS, reduceIte, Nat.reduceBEq, Nat.reduceEqDiff, tupleOf, stepT, stepX, heapR, lensR, stepM, dsl, Nat.reduceAdd, Nat.reduceLeDiff]⟩) ?_
  clear i0
  intro a B hinv
  have hinv' := hinv
  rw [hI] at hinv'
  obtain ⟨j, g1, g3, g4, hj, kB, r1⟩ := hinv'
  have hst1 := hst j
  by_cases hlt : j < l.length
  rotate_left
  · have hj2 : j = l.length := by omega
    subst hj2
    simp (maxSteps := 1000000) (disch := omega) only [stepS, reduceIte, Nat.reduceBEq, Nat.reduceEqDiff, tupleOf, stepT, stepX, heapR, lensR, stepM, dsl, Nat.reduceAdd, Nat.reduceLeDiff, g1, g3, g4, r1, vl]
    rw [List.take_length]
    exact hq _ kB
  · obtain ⟨p, hp⟩ : ∃ p, l[j]? = some p := ⟨_, List.getElem?_eq_getElem hlt⟩
    obtain ⟨x, q, q0, q1, o1, o2, o3, o4, o5, o6, hx, hq1b⟩ := h.at hp
    have o5 := o5 B kB
    have xl : ∀ B, sLens B false x = some (.int .i64 (p.2.length : Int), B) := fun B => Sl.lenB hx B
    have ht := tot_take hp
    have hst2 := hst (j + 1)
    simp (maxSteps := 1000000) (disch := omega) only [stepS, reduceIte, Nat.reduceBEq, Nat.reduceEqDiff, tupleOf, stepT, stepX, heapR, lensR, stepM, dsl, Nat.reduceAdd, Nat.reduceLeDiff, g1, g3, g4, r1, vl, o1, o3, o5, xl]
    refine ⟨?_, by have e : ((j : Int) + 1).toNat = j + 1 := by omega
                   rw [e]; exact Nat.sub_lt_sub_left hlt (Nat.lt_succ_self j)⟩
    rw [hI]
    exact ⟨j + 1, by simp (maxSteps := 1000000) (disch := omega) only [stepS, reduceIte, Nat.reduceBEq, Nat.reduceEqDiff, tupleOf, stepT, stepX, heapR, lensR, stepM, dsl, Nat.reduceAdd, Nat.reduceLeDiff, g1], by simp (maxSteps := 1000000) (disch := omega) only [stepS, reduceIte, Nat.reduceBEq, Nat.reduceEqDiff, tupleOf, stepT, stepX, heapR, lensR, stepM, dsl, Nat.reduceAdd, Nat.reduceLeDiff, g1]; rw [ht]; push_cast; rfl, by simp (maxSteps := 1000000) (disch := omega) only [stepS, reduceIte, Nat.reduceBEq, Nat.reduceEqDiff, tupleOf, stepT, stepX, heapR, lensR, stepM, dsl, Nat.reduceAdd, Nat.reduceLeDiff, g1]; push_cast; rfl, by omega, kB, r1⟩
theorem without_spec {A : AH} {v : Value} {l : List Pr} {id : ByteArray} {Q : Value → AH → Prop} (h : RfA A v l) (hl : l.length ≤ 2 ^ 20)
    (hq : ∀ u A' es, Le A A' → Sl A' 2 u es.length es.flatten → (∀ e ∈ es, e.length = 2 ∧ ones e = true) → All2 (prR A) es (rmv id l) → (∀ k ∈ blkOf u, A.length ≤ k) → Q u A') : ACalls 0 Try.prog chantryref33_without [v, .string id] Q A := by
  refine ACalls.of_fits mixed fits_chantryref33_without rfl ?_
  unfold ic_chantryref33_without
  have i0 : initA [v, .string id] 0 = v := rfl
  have i1 : initA [v, .string id] 1 = .string id := rfl
  generalize initA [v, .string id] = a at i0 i1
  have vl := h.len
  simp (maxSteps := 1000000) (disch := omega) only [stepS, reduceIte, Nat.reduceBEq, Nat.reduceEqDiff, tupleOf, stepT, stepX, heapR, lensR, stepM, dsl, Nat.reduceAdd, Nat.reduceLeDiff, i0, i1]
  obtain ⟨I, hI⟩ : ∃ I : AT → AH → Prop, I = fun a B => ∃ (j : Nat) (w : Value) (es : List (List Value)), a 0 = v ∧ a 1 = .string id ∧ a 5 = w ∧ a 6 = .int .i64 (j : Int) ∧ j ≤ l.length ∧ Le A B ∧ OwnE A.length B 2 w es ∧ All2 (prR A) es (rmv id (l.take j)) := ⟨_, rfl⟩
  refine W_loop I (fun a B => l.length - (match a 6 with | .int _ n => n.toNat | _ => 0)) (by rw [hI]; exact ⟨0, .slice none 0 0, [], by simp (maxSteps := 1000000) (disch := omega) only [stepS, reduceIte, Nat.reduceBEq, Nat.reduceEqDiff, tupleOf, stepT, stepX, heapR, lensR, stepM, dsl, Nat.reduceAdd, Nat.reduceLeDiff, i0], by simp (maxSteps := 1000000) (disch := omega) only [stepS, reduceIte, Nat.reduceBEq, Nat.reduceEqDiff, tupleOf, stepT, stepX, heapR, lensR, stepM, dsl, Nat.reduceAdd, Nat.reduceLeDiff, i1], by simp (maxSteps := 1000000) (disch := omega) only [stepS, reduceIte, Nat.reduceBEq, Nat.reduceEqDiff, tupleOf, stepT, stepX, heapR, lensR, stepM, dsl, Nat.reduceAdd, Nat.reduceLeDiff, i0], by simp (maxSteps := 1000000) (disch := omega) only [stepS, reduceIte, Nat.reduceBEq, Nat.reduceEqDiff, tupleOf, stepT, stepX, heapR, lensR, stepM, dsl, Nat.reduceAdd, Nat.reduceLeDiff, i0]; rfl, Nat.zero_le _, .refl _, OwnE.nil _ _ _, trivial⟩) ?_
  clear i0 i1
  intro a B hinv
  have hinv' := hinv
  rw [hI] at hinv'
  obtain ⟨j, w, es, g0, g1, g5, g6, hj, kB, hw, hm⟩ := hinv'
  by_cases hlt : j < l.length
  rotate_left
  · have hj2 : j = l.length := by omega
    subst hj2
    simp (maxSteps := 1000000) (disch := omega) only [stepS, reduceIte, Nat.reduceBEq, Nat.reduceEqDiff, tupleOf, stepT, stepX, heapR, lensR, stepM, dsl, Nat.reduceAdd, Nat.reduceLeDiff, g0, g1, g5, g6, vl]
    rw [List.take_length] at hm
    exact hq w B es kB hw.2.sl hw.1 hm (fun k hk => (hw.ge k hk).1)
  · obtain ⟨p, hp⟩ : ∃ p, l[j]? = some p := ⟨_, List.getElem?_eq_getElem hlt⟩
    obtain ⟨x, q, q0, q1, o1, o2, o3, o4, o5, o6, hx, hq1b⟩ := h.at hp
    have o4 := o4 B kB
    have o6 := o6 B kB
    have hrt := rmv_take (id := id) hp
    have hdec : l.length - ((j : Int) + 1).toNat < l.length - j := by
      have e : ((j : Int) + 1).toNat = j + 1 := by omega
      rw [e]; exact Nat.sub_lt_sub_left hlt (Nat.lt_succ_self j)
    by_cases hid : p.1 = id
    · rw [if_neg (by simp [hid])] at hrt
      simp (maxSteps := 1000000) (disch := omega) only [stepS, reduceIte, Nat.reduceBEq, Nat.reduceEqDiff, tupleOf, stepT, stepX, heapR, lensR, stepM, dsl, Nat.reduceAdd, Nat.reduceLeDiff, g0, g1, g5, g6, vl, o1, o2, o4, hid]
      refine ⟨?_, hdec⟩
      rw [hI]
      exact ⟨j + 1, w, es, by simp (maxSteps := 1000000) (disch := omega) only [stepS, reduceIte, Nat.reduceBEq, Nat.reduceEqDiff, tupleOf, stepT, stepX, heapR, lensR, stepM, dsl, Nat.reduceAdd, Nat.reduceLeDiff, g0], by simp (maxSteps := 1000000) (disch := omega) only [stepS, reduceIte, Nat.reduceBEq, Nat.reduceEqDiff, tupleOf, stepT, stepX, heapR, lensR, stepM, dsl, Nat.reduceAdd, Nat.reduceLeDiff, g1], by simp (maxSteps := 1000000) (disch := omega) only [stepS, reduceIte, Nat.reduceBEq, Nat.reduceEqDiff, tupleOf, stepT, stepX, heapR, lensR, stepM, dsl, Nat.reduceAdd, Nat.reduceLeDiff, g5], by simp (maxSteps := 1000000) (disch := omega) only [stepS, reduceIte, Nat.reduceBEq, Nat.reduceEqDiff, tupleOf, stepT, stepX, heapR, lensR, stepM, dsl, Nat.reduceAdd, Nat.reduceLeDiff, g6]; push_cast; rfl, by omega, kB, hw, by rw [hrt]; exact hm⟩
    · rw [if_pos hid] at hrt
      have hone : ones [Value.string p.1, x] = true := one1_agg (Sl.one1 hx)
      have l1 : sLit B [.string ⟨#[]⟩, .slice none 0 0] 2 1 [(0, 2, .agg #[.string p.1, x])] = some (.slice (some ⟨B.length, 0, none⟩) 1 1, B ++ [.row [.string p.1, x] .own 2 true]) := by
        unfold sLit
        have hcx : (Value.agg #[Value.string p.1, x]).cells = #[.string p.1, x] := rfl
        have : fillA ((List.replicate 1 [Value.string ⟨#[]⟩, Value.slice none 0 0]).flatten) [(0, 2, .agg #[.string p.1, x])] = some [.string p.1, x] := by
          simp [fillA, hcx, hone, setAll, Value.cells]
        rw [this]; rfl
      have hel : es.length ≤ 2 ^ 20 := by
        have h1 := all2_len hm
        have h2 := rmv_len id (l.take j)
        rw [List.length_take] at h2
        omega
      obtain ⟨w', D, s1, s2, s3, s4⟩ := OwnE.app (bytes := 40) (A0 := A) (A := B ++ [.row [.string p.1, x] .own 2 true]) (x := .slice (some ⟨B.length, 0, none⟩) 1 1) (fs := [[.string p.1, x]]) (kB.trans (.push _ _)) (hw.le (.push _ _)) ⟨rfl, .inr (.inr ⟨B.length, 0, 1, _, .own, true, rfl, Nat.le_refl _, get_last _ _, by decide, Nat.le_refl _, fun j _ => by simp⟩)⟩ (fun e he => by rw [List.mem_singleton] at he; subst he; exact ⟨rfl, hone⟩) (by decide) (by simp only [List.length_singleton]; omega) (by decide)
      simp (maxSteps := 1000000) (disch := omega) only [stepS, reduceIte, Nat.reduceBEq, Nat.reduceEqDiff, tupleOf, stepT, stepX, heapR, lensR, stepM, dsl, Nat.reduceAdd, Nat.reduceLeDiff, g0, g1, g5, g6, vl, o1, o2, o4, o6, hid, l1, s1]
      refine ⟨?_, hdec⟩
      rw [hI]
      exact ⟨j + 1, w', _, by simp (maxSteps := 1000000) (disch := omega) only [stepS, reduceIte, Nat.reduceBEq, Nat.reduceEqDiff, tupleOf, stepT, stepX, heapR, lensR, stepM, dsl, Nat.reduceAdd, Nat.reduceLeDiff, g0], by simp (maxSteps := 1000000) (disch := omega) only [stepS, reduceIte, Nat.reduceBEq, Nat.reduceEqDiff, tupleOf, stepT, stepX, heapR, lensR, stepM, dsl, Nat.reduceAdd, Nat.reduceLeDiff, g1], by simp (maxSteps := 1000000) (disch := omega) only [stepS, reduceIte, Nat.reduceBEq, Nat.reduceEqDiff, tupleOf, stepT, stepX, heapR, lensR, stepM, dsl, Nat.reduceAdd, Nat.reduceLeDiff, g5], by simp (maxSteps := 1000000) (disch := omega) only [stepS, reduceIte, Nat.reduceBEq, Nat.reduceEqDiff, tupleOf, stepT, stepX, heapR, lensR, stepM, dsl, Nat.reduceAdd, Nat.reduceLeDiff, g6]; push_cast; rfl, by omega, s2, s3, by rw [hrt]; exact all2_append hm ⟨⟨x, rfl, hx⟩, trivial⟩⟩
theorem refFirst_spec {A : AH} {v x : Value} {m : Int} {l : List Pr} {id : ByteArray} {t : List UInt8} {Q : Value → AH → Prop} (h : RfA A v l) (hl : l.length ≤ 2 ^ 20) (hx : Byt A x t)
    (hq : ∀ u A', Le A A' → RfA A' u ((id, t) :: rmv id l) → (∀ k ∈ blkOf u, A.length ≤ k) → Q (.agg #[u, .int .i64 m]) A') : ACalls 0 Try.prog chantryref33_first [.agg #[v, .int .i64 m], .agg #[.string id, x]] Q A := by
  refine ACalls.of_fits mixed fits_chantryref33_first rfl ?_
  unfold ic_chantryref33_first
  have i0 : initA [.agg #[v, .int .i64 m], .agg #[.string id, x]] 0 = .agg #[v, .int .i64 m] := rfl
  have i1 : initA [.agg #[v, .int .i64 m], .agg #[.string id, x]] 1 = .agg #[.string id, x] := rfl
  generalize initA [.agg #[v, .int .i64 m], .agg #[.string id, x]] = a at i0 i1
  have hov : v.oneCell' = true := h.one.2
  have hox := Sl.one1 hx
  have hox2 : x.oneCell' = true := hox.2
  have hcx : (Value.agg #[Value.string id, x]).cells = #[.string id, x] := rfl
  have hone : ones [Value.string id, x] = true := one1_agg hox
  refine W_mid (fun a B => a 2 = ptr A.length ∧ a 3 = ptr (A.length + 1) ∧ a 4 = ptr (A.length + 2) ∧ Le A B ∧ rowAt B A.length = some ([v, .int .i64 m], .own, 0, true) ∧ rowAt B (A.length + 1) = some ([.string id, x], .own, 0, true) ∧ rowAt B (A.length + 2) = some ([.slice none 0 0, .int .i64 0], .own, 0, true)) ?_ ?_
  · simp (maxSteps := 1000000) (disch := omega) only [stepS, reduceIte, Nat.reduceBEq, Nat.reduceEqDiff, tupleOf, stepT, stepX, heapR, lensR, stepM, dsl, Nat.reduceAdd, Nat.reduceLeDiff, i0, i1, hov, hox2, hcx]
    (repeat first | exact Le.refl _ | assumption | refine Le.app ?_ _ | refine Le.set ?_ ?_ | omega | (simp only [List.length_append, List.length_singleton, List.length_set]; omega))
  clear i0 i1 a
  rintro a B ⟨g2, g3, g4, k1, r2, r3, r4⟩
  have l1 : ∀ B : AH, sLit B [.string ⟨#[]⟩, .slice none 0 0] 2 1 [(0, 2, .agg #[.string id, x])] = some (.slice (some ⟨B.length, 0, none⟩) 1 1, B ++ [.row [.string id, x] .own 2 true]) := by
    intro B
    unfold sLit
    have : fillA ((List.replicate 1 [Value.string ⟨#[]⟩, Value.slice none 0 0]).flatten) [(0, 2, .agg #[.string id, x])] = some [.string id, x] := by
      simp [fillA, hcx, hone, setAll, Value.cells]
    rw [this]; rfl
  refine W_mid (fun a D => a 2 = ptr A.length ∧ a 3 = ptr (A.length + 1) ∧ a 4 = ptr (A.length + 2) ∧ a 5 = .slice (some ⟨B.length, 0, none⟩) 1 1 ∧ D = B ++ [.row [.string id, x] .own 2 true]) ?_ ?_
  · simp (maxSteps := 1000000) (disch := omega) only [stepS, reduceIte, Nat.reduceBEq, Nat.reduceEqDiff, tupleOf, stepT, stepX, heapR, lensR, stepM, dsl, Nat.reduceAdd, Nat.reduceLeDiff, g2, g3, g4, r3, l1]
  clear g2 g3 g4 a
  rintro a D ⟨g2, g3, g4, g5, hD⟩
  have kD : Le B D := by rw [hD]; exact .push _ _
  have hlit : OwnE A.length D 2 (.slice (some ⟨B.length, 0, none⟩) 1 1) [[.string id, x]] := by
    rw [hD]
    exact ⟨fun e he => by rw [List.mem_singleton] at he; subst he; exact ⟨rfl, hone⟩, rfl, .inr (.inr ⟨B.length, 0, 1, _, true, rfl, Nat.le_refl _, k1.len, get_last _ _, Nat.le_refl _, fun j _ => by simp⟩)⟩
  clear hD
  have r2 := kD.row r2
  have r3 := kD.row r3
  have r4 := kD.row r4
  simp (maxSteps := 1000000) (disch := omega) only [stepS, reduceIte, Nat.reduceBEq, Nat.reduceEqDiff, tupleOf, stepT, stepX, heapR, lensR, stepM, dsl, Nat.reduceAdd, Nat.reduceLeDiff, g2, g3, g4, g5, r2, r3, r4]
  refine without_spec (h.le (k1.trans kD)) hl fun w E es k2 w1 w2 w3 hwf => ?_
  have hel : es.length ≤ 2 ^ 20 := by
    have h1 := all2_len w3
    have h2 := rmv_len id l
    omega
  obtain ⟨u, F, s1, s2, s3, s4⟩ := OwnE.app (bytes := 40) (A0 := A) (A := E) ((k1.trans kD).trans k2) (hlit.le k2) w1 w2 (by decide) (by simp only [List.length_singleton]; omega) (by decide)
  have hrd1 : ∀ R, RdOk R D E := fun R => k2.rd R
  have hnb : ∀ {i : Nat} {r}, rowAt E i = some (r, .own, 0, true) → i ∉ blkOf (Value.slice (some ⟨B.length, 0, none⟩) 1 1) := fun hr => OwnS.row_apart (hlit.le k2).2 (rowAt_get hr) (by decide)
  have r2E := k2.row r2
  have r4E := k2.row r4
  have r4F := rowAt_own (s4.2 _ _ (rowAt_get r4E) (hnb r4E))
  have hrd2 : RdOk [A.length] E F := fun k hk b hb => by
    rw [List.mem_singleton] at hk; subst hk
    exact s4.2 _ _ hb (hnb r2E)
  have hu : one1 u := Sl.one1 s3.2.sl
  have hu2 : u.oneCell' = true := hu.2
  have hfu : fillA [.slice none 0 0, .int .i64 0] [(0, 1, u), (1, 1, .int .i64 m)] = some [u, .int .i64 m] := fill2 hu (one1_int _ _)
  have hlF := lt_of_get (rowAt_get r4F)
  have hrd3 : RdOk [A.length] D F := fun k hk b hb => hrd2 k hk b (hrd1 [A.length] k hk b hb)
  simp (maxSteps := 1000000) (disch := omega) only [stepS, reduceIte, Nat.reduceBEq, Nat.reduceEqDiff, tupleOf, stepT, stepX, heapR, lensR, stepM, dsl, Nat.reduceAdd, Nat.reduceLeDiff, g2, g3, g4, g5, r2E, r4F, s1, hrd1, hrd2, hfu, hu2]
  have kF : Le A (F.set (A.length + 2) (.row [u, .int .i64 m] .own 0 true)) := s2.set (by omega)
  refine hq u _ kF ⟨_, ?_, s3.1, ?_⟩ (fun k hk => (s3.ge k hk).1)
  · exact (OwnE.ki s3 (Keep.set _ _ _) (rowAt_get r4F) (by decide)).2.sl
  · refine ⟨⟨x, rfl, hx.le kF⟩, ?_⟩
    show All2 _ es _
    have hrl := h.le (k1.trans kD)
    obtain ⟨es0, z1, z2, z3⟩ := h
    have hkD : ∀ e p, prR D e p → prR (F.set (A.length + 2) (.row [u, .int .i64 m] .own 0 true)) e p := by
      rintro e p ⟨y, y1, y2⟩
      refine ⟨y, y1, ?_⟩
      have b1 := Byt.le y2 k2
      have b2 : Byt F y p.2 := Byt.kv b1 s4 (fun k hk => by
        obtain ⟨_, hb⟩ := b1
        rcases hb with ⟨rfl, _⟩ | ⟨rfl, _⟩ | ⟨i, o, c, rc, st, ex, rfl, _, hi, _⟩
        · cases hk
        · cases hk
        · have : k = i := by simpa [blkOf] using hk
          subst this
          exact OwnS.row_apart (hlit.le k2).2 hi (by decide))
      obtain ⟨g0, hb⟩ := b2
      refine ⟨g0, ?_⟩
      rcases hb with h | h | ⟨i, o, c, rc, st, ex, h1, h2, h3, h4⟩
      · exact .inl h
      · exact .inr (.inl h)
      · refine .inr (.inr ⟨i, o, c, rc, st, ex, h1, h2, ?_, h4⟩)
        rw [List.getElem?_set_ne]
        · exact h3
        · intro e
          subst e
          rw [rowAt_get r4F] at h3
          cases h3
    exact All2.imp hkD _ _ w3
theorem refPut_spec {A : AH} {v tv : Value} {M : Nat} {l : List Pr} {id : ByteArray} {t : List UInt8} {Q : Value → AH → Prop} (h : RfA A v l) (hl : l.length ≤ 2 ^ 19) (hs : tot l ≤ 2 ^ 40) (ht : Byt A tv t) (htl : t.length ≤ 2 ^ 40)
    (hq : ∀ u A', Le A A' → RfA A' u (putP M id t l) → (∀ k ∈ blkOf u, A.length ≤ k) → Q (.agg #[u, .int .i64 (M : Int)]) A') : ACalls 0 Try.prog chantryref33_Put [.agg #[v, .int .i64 (M : Int)], .string id, tv] Q A := by
  refine ACalls.of_fits mixed fits_chantryref33_Put rfl ?_
  unfold ic_chantryref33_Put
  have i0 : initA [.agg #[v, .int .i64 (M : Int)], .string id, tv] 0 = .agg #[v, .int .i64 (M : Int)] := rfl
  have i1 : initA [.agg #[v, .int .i64 (M : Int)], .string id, tv] 1 = .string id := rfl
  have i2 : initA [.agg #[v, .int .i64 (M : Int)], .string id, tv] 2 = tv := rfl
  generalize initA [.agg #[v, .int .i64 (M : Int)], .string id, tv] = a at i0 i1 i2
  have hov : v.oneCell' = true := h.one.2
  have hot := Sl.one1 ht
  refine W_mid (fun a B => a 1 = .string id ∧ a 2 = tv ∧ a 3 = ptr A.length ∧ a 6 = ptr (A.length + 1) ∧ Le A B ∧ rowAt B A.length = some ([v, .int .i64 (M : Int)], .own, 0, true) ∧ rowAt B (A.length + 1) = some ([.slice none 0 0, .int .i64 0], .own, 0, true)) ?_ ?_
  · simp (maxSteps := 1000000) (disch := omega) only [stepS, reduceIte, Nat.reduceBEq, Nat.reduceEqDiff, tupleOf, stepT, stepX, heapR, lensR, stepM, dsl, Nat.reduceAdd, Nat.reduceLeDiff, i0, i1, i2, hov]
    (repeat first | exact Le.refl _ | assumption | refine Le.app ?_ _ | refine Le.set ?_ ?_ | omega | (simp only [List.length_append, List.length_singleton, List.length_set]; omega))
  clear i0 i1 i2 a
  rintro a B ⟨g1, g2, g3, g6, k1, r3, r6⟩
  have hft : fillA [.string ⟨#[]⟩, .slice none 0 0] [(0, 1, .string id), (1, 1, tv)] = some [.string id, tv] := fill2 (one1_str _) hot
  have hft2 : fillA [.string id, .slice none 0 0] [(1, 1, tv)] = some [.string id, tv] := by
    have h1 := hot.1
    have h2 : tv.oneCell' = true := hot.2
    simp [fillA, h1, ones, h2, setAll]
  simp (maxSteps := 1000000) (disch := omega) only [stepS, reduceIte, Nat.reduceBEq, Nat.reduceEqDiff, tupleOf, stepT, stepX, heapR, lensR, stepM, dsl, Nat.reduceAdd, Nat.reduceLeDiff, g1, g2, g3, r3, hft2]
  refine refFirst_spec (h.le k1) (by omega) (ht.le k1) fun u C k2 hu huf => ?_
  have r3C := k2.row r3
  have r6C := k2.row r6
  have l3 := lt_of_get (rowAt_get r3C)
  have hou : u.oneCell' = true := hu.one.2
  simp (maxSteps := 1000000) (disch := omega) only [stepS, reduceIte, Nat.reduceBEq, Nat.reduceEqDiff, tupleOf, stepT, stepX, heapR, lensR, stepM, dsl, Nat.reduceAdd, Nat.reduceLeDiff, g1, g2, g3, g6, r3C, hou]
  have hft : fit M ((id, t) :: rmv id l) = putP M id t l := rfl
  have hrl := rmv_len id l
  have hrt := rmv_tot id l
  have hl5 : ((id, t) :: rmv id l).length ≤ 2 ^ 20 := by rw [List.length_cons]; omega
  have hs5 : tot ((id, t) :: rmv id l) ≤ 2 ^ 45 := by simp only [tot]; omega
  obtain ⟨I, hI⟩ : ∃ I : AT → AH → Prop, I = fun a B => ∃ u l', a 3 = ptr A.length ∧ a 6 = ptr (A.length + 1) ∧ Le A B ∧ rowAt B A.length = some ([u, .int .i64 (M : Int)], .own, 0, true) ∧ rowAt B (A.length + 1) = some ([.slice none 0 0, .int .i64 0], .own, 0, true) ∧ RfA B u l' ∧ fit M l' = putP M id t l ∧ (∀ k ∈ blkOf u, A.length ≤ k) ∧ l'.length ≤ 2 ^ 20 ∧ tot l' ≤ 2 ^ 45 := ⟨_, rfl⟩
  have hBl := k1.len
  refine W_loop I (fun a B => lenR B A.length) (by rw [hI]; exact ⟨u, (id, t) :: rmv id l, by simp (maxSteps := 1000000) (disch := omega) only [stepS, reduceIte, Nat.reduceBEq, Nat.reduceEqDiff, tupleOf, stepT, stepX, heapR, lensR, stepM, dsl, Nat.reduceAdd, Nat.reduceLeDiff, g3], by simp (maxSteps := 1000000) (disch := omega) only [stepS, reduceIte, Nat.reduceBEq, Nat.reduceEqDiff, tupleOf, stepT, stepX, heapR, lensR, stepM, dsl, Nat.reduceAdd, Nat.reduceLeDiff, g6], (k1.trans k2).set (Nat.le_refl _), rowAt_own (set_get (rowAt_get r3C)), rowAt_own (by rw [List.getElem?_set_ne (by omega)]; exact rowAt_get r6C), hu.oth (rowAt_get r3C), hft, (fun k hk => by have := huf k hk; omega), hl5, hs5⟩) ?_
  clear hov hot g1 g2 g3 g6 k1 r3 r6 k2 hu huf r3C r6C l3 hou hft hrl hrt hl5 hs5 hft2 hBl
  intro a B hinv
  have hinv' := hinv
  rw [hI] at hinv'
  obtain ⟨u, l', g3, g6, kB, r3, r6, hu, hft, huf, hl5, hs5⟩ := hinv'
  have l3 := lt_of_get (rowAt_get r3)
  have l6 := lt_of_get (rowAt_get r6)
  have uo : u.oneCell' = true := hu.one.2
  have hrd : ∀ R (C : AH), Le B C → RdOk R B C := fun R C h => h.rd R
  simp (maxSteps := 1000000) (disch := omega) only [stepS, reduceIte, Nat.reduceBEq, Nat.reduceEqDiff, tupleOf, stepT, stepX, heapR, lensR, stepM, dsl, Nat.reduceAdd, Nat.reduceLeDiff, g3, r3]
  refine refSize_spec hu (by omega) (by omega) fun C kC => ?_
  have hrd := hrd [A.length] C kC
  have r3C := kC.row r3
  have r6C := kC.row r6
  have l3C := lt_of_get (rowAt_get r3C)
  have l6C := lt_of_get (rowAt_get r6C)
  by_cases hgt : M < tot l'
  rotate_left
  · simp (maxSteps := 1000000) (disch := omega) only [stepS, reduceIte, Nat.reduceBEq, Nat.reduceEqDiff, tupleOf, stepT, stepX, heapR, lensR, stepM, dsl, Nat.reduceAdd, Nat.reduceLeDiff, hrd, g3, g6, r3C, r6C, uo]
    have hft2 := fit_all l' M (by omega)
    refine hq u _ ((kB.trans kC).set (by omega)) ?_ huf
    rw [← hft, hft2]
    exact (hu.le kC).oth (rowAt_get r6C)
  · have hne : 0 < l'.length := by
      cases l' with
      | nil => simp [tot] at hgt
      | cons p r => simp
    obtain ⟨w, w1, w2, w3⟩ := (hu.le kC).upto (k := l'.length - 1) (by omega)
    have vl := hu.len
    have w1' := w1 ((l'.length : Int) - 1) (by omega)
    have how : one1 w := w2.one
    have ou : ∀ A', stQ (some ([u, .int .i64 (M : Int)], .own, 0, true)) A.length 0 1 w A' = some (undef, A'.set A.length (.row [w, .int .i64 (M : Int)] .own 0 true)) := fun A' => stQ_one how (by simp)
    simp (maxSteps := 1000000) (disch := omega) only [stepS, reduceIte, Nat.reduceBEq, Nat.reduceEqDiff, tupleOf, stepT, stepX, heapR, lensR, stepM, dsl, Nat.reduceAdd, Nat.reduceLeDiff, hrd, g3, g6, r3C, r6C, vl, w1', ou]
    obtain ⟨q, hq'⟩ : ∃ q, l'[l'.length - 1]? = some q := ⟨_, List.getElem?_eq_getElem (by omega)⟩
    have hspl : l'.take (l'.length - 1) ++ [q] = l' := by
      have := List.take_add_one (l := l') (i := l'.length - 1)
      rw [hq', show l'.length - 1 + 1 = l'.length by omega, List.take_length] at this
      exact this.symm
    have hfit : fit M (l'.take (l'.length - 1)) = putP M id t l := by
      rw [← hft]
      conv => rhs; rw [← hspl]
      exact (fit_snoc _ q M (by rw [hspl]; exact hgt)).symm
    have htt := tot_take_le l' (l'.length - 1)
    have hr3 : rowAt (C.set A.length (.row [w, .int .i64 (M : Int)] .own 0 true)) A.length = some ([w, .int .i64 (M : Int)], .own, 0, true) := rowAt_own (set_get (rowAt_get r3C))
    have hu' := w2.oth (b := .row [w, .int .i64 (M : Int)] .own 0 true) (rowAt_get r3C)
    refine ⟨by rw [hI]; exact ⟨w, l'.take (l'.length - 1), by simp (maxSteps := 1000000) (disch := omega) only [stepS, reduceIte, Nat.reduceBEq, Nat.reduceEqDiff, tupleOf, stepT, stepX, heapR, lensR, stepM, dsl, Nat.reduceAdd, Nat.reduceLeDiff, g3], by simp (maxSteps := 1000000) (disch := omega) only [stepS, reduceIte, Nat.reduceBEq, Nat.reduceEqDiff, tupleOf, stepT, stepX, heapR, lensR, stepM, dsl, Nat.reduceAdd, Nat.reduceLeDiff, g6], (kB.trans kC).set (Nat.le_refl _), hr3, rowAt_own (by rw [List.getElem?_set_ne (by omega)]; exact rowAt_get r6C), hu', hfit, (fun k hk => huf k (w3 k hk)), by rw [List.length_take]; omega, by omega⟩, ?_⟩
    rw [hu'.lenR hr3, hu.lenR r3, List.length_take]; omega
end Go.AS.C


namespace Go.AS
open Go
set_option maxRecDepth 100000
/-! Codes of library functions that are alike in many chapters (printed by geni.py). -/
end Go.AS


namespace Go.AS
open Go
set_option linter.unusedVariables false
set_option linter.unusedSimpArgs false
set_option maxRecDepth 10000

/-! Slices of texts of the call's own. -/
def strE (l : List ByteArray) : List (List Value) := l.map fun s => [.string s]
theorem strE_flat (l : List ByteArray) : (strE l).flatten = l.map .string := by
  unfold strE
  induction l with
  | nil => rfl
  | cons s l ih => rw [List.map_cons, List.flatten_cons, ih]; rfl
theorem strE_len (l : List ByteArray) : (strE l).length = l.length := by simp [strE]
theorem strE_ok (l : List ByteArray) : ∀ e ∈ strE l, e.length = 1 ∧ ones e = true := by
  intro e he
  obtain ⟨s, _, rfl⟩ := List.mem_map.1 he
  exact ⟨rfl, rfl⟩
/-- A slice of texts, of the call's own. -/
def OwnT (a0 : Nat) (A : AH) (v : Value) (l : List ByteArray) : Prop := OwnS a0 A 1 v l.length (l.map .string)
def SlT (A : AH) (v : Value) (l : List ByteArray) : Prop := Sl A 1 v l.length (l.map .string)
section
variable {A B A0 : AH} {v : Value} {a0 b0 : Nat} {l m : List ByteArray} {lo hi : Option Value}
theorem OwnT.e (h : OwnT a0 A v l) : OwnE a0 A 1 v (strE l) := ⟨strE_ok l, by rw [strE_flat, strE_len]; exact h⟩
theorem OwnE.t (h : OwnE a0 A 1 v (strE l)) : OwnT a0 A v l := by
  have := h.2
  rw [strE_flat, strE_len] at this
  exact this
theorem OwnT.sl (h : OwnT a0 A v l) : SlT A v l := OwnS.sl h
theorem OwnT.le (h : OwnT a0 A v l) (hl : Le A B) : OwnT a0 B v l := OwnS.le h hl
theorem OwnT.mono (h : OwnT a0 A v l) (hb : b0 ≤ a0) : OwnT b0 A v l := OwnS.mono h hb
theorem OwnT.kv {w : Value} (h : OwnT a0 A v l) (hk : KeepV A w B) (hd : ∀ j ∈ blkOf v, j ∉ blkOf w) : OwnT a0 B v l := OwnS.kv h hk hd
theorem OwnT.nil (a0 : Nat) (A : AH) : OwnT a0 A (.slice none 0 0) [] := OwnS.nil _ _ _
theorem SlT.le (h : SlT A v l) (hl : Le A B) : SlT B v l := Sl.le h hl
theorem SlT.len (h : SlT A v l) (B : AH) : sLens B false v = some (.int .i64 l.length, B) := Sl.lenB h B
theorem SlT.one (h : SlT A v l) : one1 v := Sl.one1 h
theorem SlT.at (h : SlT A v l) {j : Nat} {s : ByteArray} (hj : l[j]? = some s) : ∃ p, (∀ (B : AH) (n : Int), n = (j : Int) → sIaddr B v (.int .i64 n) 1 = some (p, B)) ∧ ∀ B, Le A B → sLoad1 B p = some (.string s, B) :=
  Sl.at1L h (j := j) (x := .string s) (by rw [List.getElem?_map, hj]; rfl)
theorem OwnT.at (h : OwnT a0 A v l) {j : Nat} {s : ByteArray} (hj : l[j]? = some s) : ∃ p, blkOf p = blkOf v ∧ (∀ (B : AH) (n : Int), n = (j : Int) → sIaddr B v (.int .i64 n) 1 = some (p, B)) ∧ sLoad1 A p = some (.string s, A) := by
  obtain ⟨p, p1, p2⟩ := Sl.at1 (OwnS.sl h) (j := j) (v0 := .string s) (by rw [List.getElem?_map, hj]; rfl)
  exact ⟨p, iaddr_blk p1, by rintro B n rfl; exact iaddr_any p1 B, p2⟩
theorem OwnT.put (h : OwnT a0 A v l) {j : Nat} (s : ByteArray) (hj : j < l.length) {p : Value} (hp : sIaddr A v (.int .i64 (j : Int)) 1 = some (p, A)) : ∃ A', sStore A p (.string s) 1 = some (undef, A') ∧ OwnT a0 A' v (l.set j s) ∧ KeepV A v A' := by
  obtain ⟨A', s1, s2, s3⟩ := h.e.put (e := [.string s]) (by rw [strE_len]; exact hj) rfl rfl hp
  refine ⟨A', s1, ?_, s3⟩
  have e : (strE l).set j [.string s] = strE (l.set j s) := by simp [strE, List.map_set]
  rw [e] at s2
  exact s2.t
theorem OwnT.cut (h : OwnT a0 A v l) {i k : Nat} (hlk : i ≤ k) (hk : k ≤ l.length) (hb : ∀ c, l.length ≤ c → boundsA l.length c lo hi none = some (i, k, c)) :
    ∃ u, (∀ j ∈ blkOf u, j ∈ blkOf v) ∧ (∃ p c, u = .slice p (k - i) c) ∧ ∀ B m, OwnT a0 B v m → m.length = l.length → sSll B v lo hi none 1 = some (u, B) ∧ OwnT a0 B u ((m.take k).drop i) := by
  obtain ⟨u, u1, u2, u3⟩ := h.e.cut (l := i) (k := k) (lo := lo) (hi := hi) hlk (by rw [strE_len]; exact hk) (by rw [strE_len]; exact hb)
  refine ⟨u, u1, u2, fun B m hm hl => ?_⟩
  obtain ⟨e1, e2⟩ := u3 B (strE m) hm.e (by rw [strE_len, strE_len]; exact hl)
  refine ⟨e1, ?_⟩
  have e : ((strE m).take k).drop i = strE ((m.take k).drop i) := by simp [strE, List.map_take, List.map_drop]
  rw [e] at e2
  exact e2.t
theorem OwnT.clr (h : OwnT a0 A v l) {i : Nat} {u : Value} (hl : i ≤ l.length) (hu : sSll A v (some (.int .i64 (i : Int))) none none 1 = some (u, A)) :
    ∃ A', sClr A u [.string ⟨#[]⟩] = some (undef, A') ∧ OwnT a0 A' v (l.take i ++ List.replicate (l.length - i) ⟨#[]⟩) ∧ KeepV A v A' := by
  obtain ⟨A', s1, s2, s3⟩ := h.e.clr (l := i) (z := [.string ⟨#[]⟩]) (by rw [strE_len]; exact hl) rfl rfl hu
  refine ⟨A', s1, ?_, s3⟩
  have e : (strE l).take i ++ List.replicate ((strE l).length - i) [.string ⟨#[]⟩] = strE (l.take i ++ List.replicate (l.length - i) ⟨#[]⟩) := by simp [strE, List.map_take]
  rw [e] at s2
  exact s2.t
theorem OwnT.push (s : ByteArray) (hl : Le A0 A) (h : OwnT A0.length A v l) (hb : l.length ≤ 2 ^ 40) :
    sLit A [.string ⟨#[]⟩] 1 1 [(0, 1, .string s)] = some (.slice (some ⟨A.length, 0, none⟩) 1 1, A ++ [.row [.string s] .own 1 true]) ∧
    ∃ w' A', sApp (A ++ [.row [.string s] .own 1 true]) v (.slice (some ⟨A.length, 0, none⟩) 1 1) 1 16 = some (w', A') ∧ Le A0 A' ∧ OwnT A0.length A' w' (l ++ [s]) ∧ KeepV A v A' ∧ ∀ j ∈ blkOf w', j ∈ blkOf v ∨ A.length ≤ j := by
  obtain ⟨l1, w', A', e1, e2, e3, e4⟩ := app_str s hl h hb
  refine ⟨l1, w', A', e1, e2, e3, e4, fun j hj => ?_⟩
  rcases sApp_blk e1 j hj with h | h
  · exact .inl h
  · simp at h; exact .inr (by omega)
theorem OwnT.app {x : Value} (hl : Le A0 A) (h : OwnT A0.length A v l) (hx : SlT A x m) (hb : l.length + m.length ≤ 2 ^ 40) :
    ∃ w' A', sApp A v x 1 16 = some (w', A') ∧ Le A0 A' ∧ OwnT A0.length A' w' (l ++ m) ∧ KeepV A v A' := by
  obtain ⟨w', A', e1, e2, e3, e4⟩ := h.e.app (x := x) (fs := strE m) (bytes := 16) hl (by rw [strE_flat, strE_len]; exact hx) (strE_ok m) (by omega) (by rw [strE_len, strE_len]; omega) (by omega)
  refine ⟨w', A', e1, e2, ?_, e4⟩
  have e : strE l ++ strE m = strE (l ++ m) := by simp [strE]
  rw [e] at e3
  exact e3.t
end

section
variable {G : Nat} {P : Program} (hm : P.follows .mixedOrders = true) {a0 : Nat} {A : AH} {v : Value} {Q : Value → AH → Prop}
include hm
end
end Go.AS


namespace Go.AS.C
open Go Go.Proofs
set_option linter.unusedVariables false
set_option linter.unusedSimpArgs false
set_option maxRecDepth 10000

theorem ref01_Texts_spec {A : AH} {v w : Value} {l m : List ByteArray} {Q : Value → AH → Prop} (hv : SlT A v l) (hw : SlT A w m) (hl : l.length < 2 ^ 50) (hm : m.length < 2 ^ 50) (hq : ∀ b : Bool, (b = true ↔ l = m) → Q (.bool b) A) : ACalls 0 Try.prog chantryref01_Texts [v, w] Q A := by
  refine ACalls.of_fits mixed fits_chantryref01_Texts rfl ?_
  unfold ic_chantryref01_Texts
  have i0 : initA [v, w] 0 = v := rfl
  have i1 : initA [v, w] 1 = w := rfl
  generalize initA [v, w] = a at i0 i1
  have hvl := hv.len
  have hwl := hw.len
  by_cases hn : l.length = m.length
  · simp (maxSteps := 1000000) (disch := omega) only [stepS, reduceIte, Nat.reduceBEq, Nat.reduceEqDiff, tupleOf, stepT, i0, i1, hvl, hwl]
    refine W_loop (fun a' B => B = A ∧ ∃ k : Nat, k ≤ l.length ∧ l.take k = m.take k ∧ a' 0 = v ∧ a' 1 = w ∧ a' 5 = ii k) (fun a' _ => l.length - (iv (a' 5)).toNat) ?_ ?_
    · refine ⟨rfl, 0, by omega, rfl, ?_⟩
      simp (maxSteps := 1000000) (disch := omega) only [stepS, reduceIte, Nat.reduceBEq, Nat.reduceEqDiff, tupleOf, stepT, i0, i1]
      (all_goals (and_intros <;> first | rfl | assumption | (push_cast; rfl) | (congr 1; omega) | omega | (simp; done)))
    · rintro a2 B ⟨rfl, k, hk, hn2, g0, g1, g5⟩
      rcases Nat.lt_or_ge k l.length with hlt | hge
      · obtain ⟨s, hs⟩ := get_some hlt
        obtain ⟨t, ht⟩ := get_some (l := m) (k := k) (by omega)
        obtain ⟨p, p1, p2⟩ := hv.at hs
        have p3 := p2 B (.refl _)
        obtain ⟨q, q1, q2⟩ := hw.at ht
        have q3 := q2 B (.refl _)
        by_cases hst : s = t
        · have hd : decide (s ≠ t) = false := decide_eq_false (fun h => h hst)
          simp (maxSteps := 1000000) (disch := omega) only [stepS, reduceIte, Nat.reduceBEq, Nat.reduceEqDiff, tupleOf, stepT, g0, g1, g5, hvl, hwl, p1, p3, q1, q3, hd]
          refine ⟨⟨k + 1, by omega, ?_, rfl⟩, by omega⟩
          rw [List.take_add_one, List.take_add_one, hs, ht, hn2, hst]
        · have hd : decide (s ≠ t) = true := decide_eq_true hst
          simp (maxSteps := 1000000) (disch := omega) only [stepS, reduceIte, Nat.reduceBEq, Nat.reduceEqDiff, tupleOf, stepT, g0, g1, g5, hvl, hwl, p1, p3, q1, q3, hd]
          exact hq false ⟨(fun h => by cases h), fun h => by subst h; rw [hs] at ht; injection ht with ht; exact absurd ht hst⟩
      · rw [List.take_of_length_le hge, List.take_of_length_le (by omega)] at hn2
        simp (maxSteps := 1000000) (disch := omega) only [stepS, reduceIte, Nat.reduceBEq, Nat.reduceEqDiff, tupleOf, stepT, g0, g1, g5, hvl]
        exact hq true ⟨fun _ => hn2, fun _ => rfl⟩
  · simp (maxSteps := 1000000) (disch := omega) only [stepS, reduceIte, Nat.reduceBEq, Nat.reduceEqDiff, tupleOf, stepT, i0, i1, hvl, hwl]
    exact hq false ⟨(fun h => by cases h), fun h => absurd (by rw [h]) hn⟩
end Go.AS.C


namespace Go.AS.C
open Go Go.Proofs
set_option linter.unusedVariables false
set_option linter.unusedSimpArgs false
set_option maxRecDepth 10000

/-! The reference's Get and IDs. -/
theorem refGet_spec {A : AH} {v : Value} {m : Int} {l : List Pr} {id : ByteArray} {Q : Value → AH → Prop} (h : RfA A v l) (hl : l.length ≤ 2 ^ 19)
    (hq1 : (∀ p ∈ l, p.1 ≠ id) → ∀ A', Le A A' → Q (.tuple #[.agg #[v, .int .i64 m], .slice none 0 0, .bool false]) A')
    (hq2 : ∀ (p : Pr) x u A', p ∈ l → p.1 = id → Le A A' → RfA A' u (p :: rmv id l) → (∀ k ∈ blkOf u, A.length ≤ k) → Byt A' x p.2 → Q (.tuple #[.agg #[u, .int .i64 m], x, .bool true]) A') :
    ACalls 0 Try.prog chantryref33_Get [.agg #[v, .int .i64 m], .string id] Q A := by
  refine ACalls.of_fits mixed fits_chantryref33_Get rfl ?_
  unfold ic_chantryref33_Get
  have i0 : initA [.agg #[v, .int .i64 m], .string id] 0 = .agg #[v, .int .i64 m] := rfl
  have i1 : initA [.agg #[v, .int .i64 m], .string id] 1 = .string id := rfl
  generalize initA [.agg #[v, .int .i64 m], .string id] = a at i0 i1
  have hov : v.oneCell' = true := h.one.2
  have vl := h.len
  refine W_mid (fun a B => a 1 = .string id ∧ a 2 = ptr A.length ∧ a 4 = ptr (A.length + 1) ∧ Le A B ∧ rowAt B A.length = some ([v, .int .i64 m], .own, 0, true) ∧ rowAt B (A.length + 1) = some ([.slice none 0 0, .int .i64 0], .own, 0, true)) ?_ ?_
  · simp (maxSteps := 1000000) (disch := omega) only [stepS, reduceIte, Nat.reduceBEq, Nat.reduceEqDiff, tupleOf, stepT, stepX, heapR, lensR, stepM, dsl, Nat.reduceAdd, Nat.reduceLeDiff, i0, i1, hov]
    (repeat first | exact Le.refl _ | assumption | refine Le.app ?_ _ | refine Le.set ?_ ?_ | omega | (simp only [List.length_append, List.length_singleton, List.length_set]; omega))
  clear i0 i1 a
  rintro a B ⟨g1, g2, g4, kB, r2, r4⟩
  have l2 := lt_of_get (rowAt_get r2)
  have l4 := lt_of_get (rowAt_get r4)
  simp (maxSteps := 1000000) (disch := omega) only [stepS, reduceIte, Nat.reduceBEq, Nat.reduceEqDiff, tupleOf, stepT, stepX, heapR, lensR, stepM, dsl, Nat.reduceAdd, Nat.reduceLeDiff, g1, g2, g4]
  obtain ⟨I, hI⟩ : ∃ I : AT → AH → Prop, I = fun a C => ∃ j : Nat, a 1 = .string id ∧ a 2 = ptr A.length ∧ a 4 = ptr (A.length + 1) ∧ a 7 = .int .i64 (j : Int) ∧ j ≤ l.length ∧ C = B ∧ ∀ q ∈ l.take j, q.1 ≠ id := ⟨_, rfl⟩
  refine W_loop I (fun a B => l.length - (match a 7 with | .int _ n => n.toNat | _ => 0)) (by rw [hI]; exact ⟨0, by simp (maxSteps := 1000000) (disch := omega) only [stepS, reduceIte, Nat.reduceBEq, Nat.reduceEqDiff, tupleOf, stepT, stepX, heapR, lensR, stepM, dsl, Nat.reduceAdd, Nat.reduceLeDiff, g1], by simp (maxSteps := 1000000) (disch := omega) only [stepS, reduceIte, Nat.reduceBEq, Nat.reduceEqDiff, tupleOf, stepT, stepX, heapR, lensR, stepM, dsl, Nat.reduceAdd, Nat.reduceLeDiff, g2], by simp (maxSteps := 1000000) (disch := omega) only [stepS, reduceIte, Nat.reduceBEq, Nat.reduceEqDiff, tupleOf, stepT, stepX, heapR, lensR, stepM, dsl, Nat.reduceAdd, Nat.reduceLeDiff, g4], by simp (maxSteps := 1000000) (disch := omega) only [stepS, reduceIte, Nat.reduceBEq, Nat.reduceEqDiff, tupleOf, stepT, stepX, heapR, lensR, stepM, dsl, Nat.reduceAdd, Nat.reduceLeDiff, g1]; rfl, Nat.zero_le _, rfl, by simp⟩) ?_
  clear g1 g2 g4
  intro a C hinv
  have hinv' := hinv
  rw [hI] at hinv'
  obtain ⟨j, g1, g2, g4, g7, hj, rfl, hn⟩ := hinv'
  by_cases hlt : j < l.length
  rotate_left
  · have hj2 : j = l.length := by omega
    subst hj2
    simp (maxSteps := 1000000) (disch := omega) only [stepS, reduceIte, Nat.reduceBEq, Nat.reduceEqDiff, tupleOf, stepT, stepX, heapR, lensR, stepM, dsl, Nat.reduceAdd, Nat.reduceLeDiff, g1, g2, g4, g7, r2, r4, vl, hov]
    exact hq1 (fun p hp => hn p (by simpa using hp)) _ (kB.set (by omega))
  · obtain ⟨p, hp⟩ : ∃ p, l[j]? = some p := ⟨_, List.getElem?_eq_getElem hlt⟩
    obtain ⟨x, q, q0, q1, o1, o2, o3, o4, o5, o6, hx, hqb⟩ := h.at hp
    have o4 := o4 C kB
    have o5 := o5 C kB
    have o6 := o6 C kB
    have hdec : l.length - ((j : Int) + 1).toNat < l.length - j := by
      have e : ((j : Int) + 1).toNat = j + 1 := by omega
      rw [e]; exact Nat.sub_lt_sub_left hlt (Nat.lt_succ_self j)
    by_cases hid : p.1 = id
    · simp (maxSteps := 1000000) (disch := omega) only [stepS, reduceIte, Nat.reduceBEq, Nat.reduceEqDiff, tupleOf, stepT, stepX, heapR, lensR, stepM, dsl, Nat.reduceAdd, Nat.reduceLeDiff, g1, g2, g4, g7, r2, r4, vl, hov, o1, o2, o3, o4, o5, o6, hid]
      refine refFirst_spec (h.le kB) (by omega) (hx.le kB) fun u D kD hu huf => ?_
      have r4D := kD.row r4
      have l4D := lt_of_get (rowAt_get r4D)
      have huo : u.oneCell' = true := hu.one.2
      have hrd : ∀ R, RdOk R C D := fun R => kD.rd R
      simp (maxSteps := 1000000) (disch := omega) only [stepS, reduceIte, Nat.reduceBEq, Nat.reduceEqDiff, tupleOf, stepT, stepX, heapR, lensR, stepM, dsl, Nat.reduceAdd, Nat.reduceLeDiff, g1, g2, g4, g7, r4D, huo, hrd]
      refine ⟨fun k hk b hb => ?_, ?_⟩
      · rw [List.getElem?_set_ne]
        · exact hb
        · rcases List.mem_append.1 hk with hk | hk
          · have := hqb k hk; omega
          · rw [List.mem_singleton] at hk; omega
      · refine hq2 p x u _ (List.mem_of_getElem? hp) hid ((kB.trans kD).set (by omega)) ?_ (fun k hk => by have := huf k hk; have := kB.len; omega) (hx.le ((kB.trans kD).set (by omega)))
        have e : (id, p.2) = p := by rw [← hid]
        rw [← e]
        exact hu.oth (rowAt_get r4D)
    · simp (maxSteps := 1000000) (disch := omega) only [stepS, reduceIte, Nat.reduceBEq, Nat.reduceEqDiff, tupleOf, stepT, stepX, heapR, lensR, stepM, dsl, Nat.reduceAdd, Nat.reduceLeDiff, g1, g2, g4, g7, r2, vl, o1, o2, o4, hid]
      refine ⟨?_, hdec⟩
      rw [hI]
      refine ⟨j + 1, by simp (maxSteps := 1000000) (disch := omega) only [stepS, reduceIte, Nat.reduceBEq, Nat.reduceEqDiff, tupleOf, stepT, stepX, heapR, lensR, stepM, dsl, Nat.reduceAdd, Nat.reduceLeDiff, g1], by simp (maxSteps := 1000000) (disch := omega) only [stepS, reduceIte, Nat.reduceBEq, Nat.reduceEqDiff, tupleOf, stepT, stepX, heapR, lensR, stepM, dsl, Nat.reduceAdd, Nat.reduceLeDiff, g2], by simp (maxSteps := 1000000) (disch := omega) only [stepS, reduceIte, Nat.reduceBEq, Nat.reduceEqDiff, tupleOf, stepT, stepX, heapR, lensR, stepM, dsl, Nat.reduceAdd, Nat.reduceLeDiff, g4], by simp (maxSteps := 1000000) (disch := omega) only [stepS, reduceIte, Nat.reduceBEq, Nat.reduceEqDiff, tupleOf, stepT, stepX, heapR, lensR, stepM, dsl, Nat.reduceAdd, Nat.reduceLeDiff, g7]; push_cast; rfl, by omega, rfl, ?_⟩
      intro r hr
      rw [List.take_add_one, hp] at hr
      simp only [Option.toList_some, List.mem_append, List.mem_singleton] at hr
      rcases hr with hr | rfl
      · exact hn r hr
      · exact hid
theorem refIDs_spec {A : AH} {v : Value} {m : Int} {l : List Pr} {Q : Value → AH → Prop} (h : RfA A v l) (hl : l.length ≤ 2 ^ 20)
    (hq : ∀ u A', Le A A' → SlT A' u (l.map (·.1)) → Q u A') : ACalls 0 Try.prog chantryref33_IDs [.agg #[v, .int .i64 m]] Q A := by
  refine ACalls.of_fits mixed fits_chantryref33_IDs rfl ?_
  unfold ic_chantryref33_IDs
  have i0 : initA [.agg #[v, .int .i64 m]] 0 = .agg #[v, .int .i64 m] := rfl
  generalize initA [.agg #[v, .int .i64 m]] = a at i0
  have ho : v.oneCell' = true := h.one.2
  have vl := h.len
  simp (maxSteps := 1000000) (disch := omega) only [stepS, reduceIte, Nat.reduceBEq, Nat.reduceEqDiff, tupleOf, stepT, stepX, heapR, lensR, stepM, dsl, Nat.reduceAdd, Nat.reduceLeDiff, i0, ho, vl]
  obtain ⟨A1, hA1⟩ : ∃ A1 : AH, A1 = A ++ [Blk.row [v, .int .i64 m] .own 0 true] := ⟨_, rfl⟩
  have r1 : rowAt A1 A.length = some ([v, .int .i64 m], .own, 0, true) := by rw [hA1]; simp (maxSteps := 1000000) (disch := omega) only [stepS, reduceIte, Nat.reduceBEq, Nat.reduceEqDiff, tupleOf, stepT, stepX, heapR, lensR, stepM, dsl, Nat.reduceAdd, Nat.reduceLeDiff]
  have k1 : Le A A1 := by rw [hA1]; exact .push _ _
  rw [← hA1]
  clear hA1
  obtain ⟨I, hI⟩ : ∃ I : AT → AH → Prop, I = fun a B => ∃ (j : Nat) (w : Value), a 1 = ptr A.length ∧ a 3 = w ∧ a 4 = .int .i64 (j : Int) ∧ j ≤ l.length ∧ Le A1 B ∧ OwnS A1.length B 1 w ((l.take j).map (·.1)).length (((l.take j).map (·.1)).map .string) := ⟨_, rfl⟩
  refine W_loop I (fun a B => l.length - (match a 4 with | .int _ n => n.toNat | _ => 0)) (by rw [hI]; exact ⟨0, .slice none 0 0, by simp (maxSteps := 1000000) (disch := omega) only [stepS, reduceIte, Nat.reduceBEq, Nat.reduceEqDiff, tupleOf, stepT, stepX, heapR, lensR, stepM, dsl, Nat.reduceAdd, Nat.reduceLeDiff, i0], by simp (maxSteps := 1000000) (disch := omega) only [stepS, reduceIte, Nat.reduceBEq, Nat.reduceEqDiff, tupleOf, stepT, stepX, heapR, lensR, stepM, dsl, Nat.reduceAdd, Nat.reduceLeDiff, i0], by simp (maxSteps := 1000000) (disch := omega) only [stepS, reduceIte, Nat.reduceBEq, Nat.reduceEqDiff, tupleOf, stepT, stepX, heapR, lensR, stepM, dsl, Nat.reduceAdd, Nat.reduceLeDiff, i0]; rfl, Nat.zero_le _, .refl _, OwnS.nil _ _ _⟩) ?_
  clear i0
  intro a B hinv
  have hinv' := hinv
  rw [hI] at hinv'
  obtain ⟨j, w, g1, g3, g4, hj, kB, hw⟩ := hinv'
  have r1 := kB.row r1
  by_cases hlt : j < l.length
  rotate_left
  · have hj2 : j = l.length := by omega
    subst hj2
    simp (maxSteps := 1000000) (disch := omega) only [stepS, reduceIte, Nat.reduceBEq, Nat.reduceEqDiff, tupleOf, stepT, stepX, heapR, lensR, stepM, dsl, Nat.reduceAdd, Nat.reduceLeDiff, g1, g3, g4, r1, vl]
    rw [List.take_length] at hw
    exact hq w B (k1.trans kB) hw.sl
  · obtain ⟨p, hp⟩ : ∃ p, l[j]? = some p := ⟨_, List.getElem?_eq_getElem hlt⟩
    obtain ⟨x, q, q0, q1, o1, o2, o3, o4, o5, o6, hx, hqb⟩ := h.at hp
    have o4 := o4 B (k1.trans kB)
    obtain ⟨s1, w', E, s2, s3, s4, s5⟩ := app_str (A := B) (A0 := A1) p.1 kB hw (by simp; omega)
    simp (maxSteps := 1000000) (disch := omega) only [stepS, reduceIte, Nat.reduceBEq, Nat.reduceEqDiff, tupleOf, stepT, stepX, heapR, lensR, stepM, dsl, Nat.reduceAdd, Nat.reduceLeDiff, g1, g3, g4, r1, vl, o1, o2, o4, s1, s2]
    refine ⟨?_, by have e : ((j : Int) + 1).toNat = j + 1 := by omega
                   rw [e]; exact Nat.sub_lt_sub_left hlt (Nat.lt_succ_self j)⟩
    rw [hI]
    have htk : (l.take (j + 1)).map (·.1) = (l.take j).map (·.1) ++ [p.1] := by
      rw [List.take_add_one, hp]; simp
    exact ⟨j + 1, w', by simp (maxSteps := 1000000) (disch := omega) only [stepS, reduceIte, Nat.reduceBEq, Nat.reduceEqDiff, tupleOf, stepT, stepX, heapR, lensR, stepM, dsl, Nat.reduceAdd, Nat.reduceLeDiff, g1], by simp (maxSteps := 1000000) (disch := omega) only [stepS, reduceIte, Nat.reduceBEq, Nat.reduceEqDiff, tupleOf, stepT, stepX, heapR, lensR, stepM, dsl, Nat.reduceAdd, Nat.reduceLeDiff, g3], by simp (maxSteps := 1000000) (disch := omega) only [stepS, reduceIte, Nat.reduceBEq, Nat.reduceEqDiff, tupleOf, stepT, stepX, heapR, lensR, stepM, dsl, Nat.reduceAdd, Nat.reduceLeDiff, g4]; push_cast; rfl, by omega, s3, by rw [htk]; exact s4⟩
end Go.AS.C


namespace Go.AS.C
open Go Go.Proofs
set_option linter.unusedVariables false
set_option linter.unusedSimpArgs false
set_option maxRecDepth 10000

/-! The example: it answers true. -/
abbrev sA : ByteArray := ⟨#[97]⟩
abbrev sB : ByteArray := ⟨#[98]⟩
abbrev sC : ByteArray := ⟨#[99]⟩
abbrev sD : ByteArray := ⟨#[100]⟩
set_option maxHeartbeats 4000000 in
theorem awake_spec {A : AH} {Q : Value → AH → Prop} (hq : ∀ A', Q (.bool true) A') : ACalls 0 Try.prog chantrylaw33_awake [] Q A := by
  refine ACalls.of_fits mixed fits_chantrylaw33_awake rfl ?_
  unfold ic_chantrylaw33_awake
  generalize initA [] = a
  simp (maxSteps := 1000000) (disch := omega) only [stepS, reduceIte, Nat.reduceBEq, Nat.reduceEqDiff, tupleOf, stepT, stepX, heapR, lensR, stepM, dsl, Nat.reduceAdd, Nat.reduceLeDiff]
  refine of_spec (by omega) (by omega) fun A1 k1 _ h1 => ?_
  have e3 : (max (3 : Int) 0).toNat = 3 := by omega
  rw [e3] at h1
  have cn : ∀ B : AH, (if kindOf (.pointer 55) (ptr A.length) = true then sIsnil B (ptr A.length) false else none) = some (.bool false, B) := fun B => rfl
  have lx : ∀ B : AH, sLit B [.int .u8 0] 1 2 [(0, 1, .int .u8 120), (1, 1, .int .u8 120)] = some (.slice (some ⟨B.length, 0, none⟩) 2 2, B ++ [.row (List.map by8 [120, 120]) .own 1 true]) := fun B => litB B [120, 120] rfl rfl
  have ly : ∀ B : AH, sLit B [.int .u8 0] 1 1 [(0, 1, .int .u8 121)] = some (.slice (some ⟨B.length, 0, none⟩) 1 1, B ++ [.row (List.map by8 [121]) .own 1 true]) := fun B => litB B [121] rfl rfl
  have lz : ∀ B : AH, sLit B [.int .u8 0] 1 1 [(0, 1, .int .u8 122)] = some (.slice (some ⟨B.length, 0, none⟩) 1 1, B ++ [.row (List.map by8 [122]) .own 1 true]) := fun B => litB B [122] rfl rfl
  have ll : ∀ B : AH, sLit B [.int .u8 0] 1 4 [(0, 1, .int .u8 108), (1, 1, .int .u8 111), (2, 1, .int .u8 110), (3, 1, .int .u8 103)] = some (.slice (some ⟨B.length, 0, none⟩) 4 4, B ++ [.row (List.map by8 [108, 111, 110, 103]) .own 1 true]) := fun B => litB B [108, 111, 110, 103] rfl rfl
  have mk2 : ∀ (B : AH) cs, sMks (B ++ [.row cs .own 1 true]) (.slice (some ⟨B.length, 0, none⟩) 2 2) = some (.slice (some ⟨B.length, 0, none⟩) 2 2, B ++ [.row cs .own 1 true]) := fun B cs => mks_last B (by omega)
  have mk1 : ∀ (B : AH) cs, sMks (B ++ [.row cs .own 1 true]) (.slice (some ⟨B.length, 0, none⟩) 1 1) = some (.slice (some ⟨B.length, 0, none⟩) 1 1, B ++ [.row cs .own 1 true]) := fun B cs => mks_last B (by omega)
  have mk4 : ∀ (B : AH) cs, sMks (B ++ [.row cs .own 1 true]) (.slice (some ⟨B.length, 0, none⟩) 4 4) = some (.slice (some ⟨B.length, 0, none⟩) 4 4, B ++ [.row cs .own 1 true]) := fun B cs => mks_last B (by omega)
  simp (maxSteps := 1000000) (disch := omega) only [stepS, reduceIte, Nat.reduceBEq, Nat.reduceEqDiff, tupleOf, stepT, stepX, heapR, lensR, stepM, dsl, Nat.reduceAdd, Nat.reduceLeDiff, cn, lx, mk2]
  refine put_spec (l := []) (id := sA) (t := [120, 120]) (h1.le (.push _ _)) (by simp) (by simp [tot]) (byt_last (ex := true) A1 [120, 120]) (by simp) fun u2 A2 h2 f2 => ?_
  have p2 : putP 3 sA [120, 120] [] = [(sA, [120, 120])] := by decide +kernel
  rw [p2] at h2
  simp (maxSteps := 1000000) (disch := omega) only [stepS, reduceIte, Nat.reduceBEq, Nat.reduceEqDiff, tupleOf, stepT, stepX, heapR, lensR, stepM, dsl, Nat.reduceAdd, Nat.reduceLeDiff, ly, mk1]
  refine put_spec (id := sB) (t := [121]) (h2.le (.push _ _)) (by simp) (by simp [tot]) (byt_last (ex := true) A2 [121]) (by simp) fun u3 A3 h3 f3 => ?_
  have p3 : putP 3 sB [121] [(sA, [120, 120])] = [(sB, [121]), (sA, [120, 120])] := by decide +kernel
  rw [p3] at h3
  simp (maxSteps := 1000000) (disch := omega) only [stepS, reduceIte, Nat.reduceBEq, Nat.reduceEqDiff, tupleOf, stepT, stepX, heapR, lensR, stepM, dsl, Nat.reduceAdd, Nat.reduceLeDiff]
  refine get_spec (id := sA) h3 (by simp) (by simp [tot]) (fun hno => absurd rfl (hno (sA, [120, 120]) (by simp))) fun p x u4 A4 hp hpe h4 f4 hx => ?_
  have hpp : p = (sA, [120, 120]) := by
    simp only [List.mem_cons, List.not_mem_nil, or_false] at hp
    rcases hp with rfl | rfl
    · exact absurd hpe (by decide +kernel)
    · rfl
  subst hpp
  have p4 : ((sA, [120, 120]) : Pr) :: rmv sA [(sB, [121]), (sA, [120, 120])] = [(sA, [120, 120]), (sB, [121])] := by decide +kernel
  rw [p4] at h4
  simp (maxSteps := 1000000) (disch := omega) only [stepS, reduceIte, Nat.reduceBEq, Nat.reduceEqDiff, tupleOf, stepT, stepX, heapR, lensR, stepM, dsl, Nat.reduceAdd, Nat.reduceLeDiff, lz, mk1]
  refine put_spec (id := sC) (t := [122]) (h4.le (.push _ _)) (by simp) (by simp [tot]) (byt_last (ex := true) A4 [122]) (by simp) fun u5 A5 h5 f5 => ?_
  have hx5 := byt_fr (hx.le (.push _ _)) (h4.le (.push _ _)) f5
  have p5 : putP 3 sC [122] [(sA, [120, 120]), (sB, [121])] = [(sC, [122]), (sA, [120, 120])] := by decide +kernel
  rw [p5] at h5
  simp (maxSteps := 1000000) (disch := omega) only [stepS, reduceIte, Nat.reduceBEq, Nat.reduceEqDiff, tupleOf, stepT, stepX, heapR, lensR, stepM, dsl, Nat.reduceAdd, Nat.reduceLeDiff]
  refine get_spec (id := sB) h5 (by simp) (by simp [tot]) (fun _ A6 h6 f6 => ?_) (fun p x u4 A4 hp hpe _ _ _ => ?_)
  rotate_left
  · simp only [List.mem_cons, List.not_mem_nil, or_false] at hp
    rcases hp with rfl | rfl <;> exact absurd hpe (by decide +kernel)
  have hx6 := byt_fr hx5 h5 f6
  simp (maxSteps := 1000000) (disch := omega) only [stepS, reduceIte, Nat.reduceBEq, Nat.reduceEqDiff, tupleOf, stepT, stepX, heapR, lensR, stepM, dsl, Nat.reduceAdd, Nat.reduceLeDiff]
  refine ids_spec h6 (by simp) fun w A7 h7 f7 hw => ?_
  have hx7 := byt_fr hx6 h6 f7
  simp (maxSteps := 1000000) (disch := omega) only [stepS, reduceIte, Nat.reduceBEq, Nat.reduceEqDiff, tupleOf, stepT, stepX, heapR, lensR, stepM, dsl, Nat.reduceAdd, Nat.reduceLeDiff, ll, mk4]
  refine put_spec (id := sD) (t := [108, 111, 110, 103]) (h7.le (.push _ _)) (by simp) (by simp [tot]) (byt_last (ex := true) A7 [108, 111, 110, 103]) (by simp) fun u8 A8 h8 f8 => ?_
  have hx8 := byt_fr (hx7.le (.push _ _)) (h7.le (.push _ _)) f8
  have hw8 := sl_fr (hw.sl.le (.push _ _)) (h7.le (.push _ _)) f8 (by decide) (by decide)
  have p8 : putP 3 sD [108, 111, 110, 103] [(sC, [122]), (sA, [120, 120])] = [] := by decide +kernel
  rw [p8] at h8
  have hs := hx8.str
  have lt : ∀ B : AH, sLit B [.string ⟨#[]⟩] 1 2 [(0, 1, .string ⟨#[99]⟩), (1, 1, .string ⟨#[97]⟩)] = some (.slice (some ⟨B.length, 0, none⟩) 2 2, B ++ [.row [.string ⟨#[99]⟩, .string ⟨#[97]⟩] .own 1 true]) := fun B => rfl
  have exx : decide ((⟨#[120, 120]⟩ : ByteArray) = ⟨#[120, 120]⟩) = true := by decide
  simp (maxSteps := 1000000) (disch := omega) only [stepS, reduceIte, Nat.reduceBEq, Nat.reduceEqDiff, tupleOf, stepT, stepX, heapR, lensR, stepM, dsl, Nat.reduceAdd, Nat.reduceLeDiff, hs, lt]
  have hlt : SlT (A8 ++ [.row [.string sC, .string sA] .own 1 true]) (.slice (some ⟨A8.length, 0, none⟩) 2 2) [sC, sA] :=
    ⟨rfl, .inr (.inr ⟨A8.length, 0, 2, _, .own, true, rfl, Nat.le_refl _, get_last _ _, by decide, Nat.le_refl _, fun j _ => by simp⟩)⟩
  refine ref01_Texts_spec (l := [sC, sA]) (m := [sC, sA]) (Sl.le hw8 (.push _ _)) hlt (by simp) (by simp) fun b hb => ?_
  obtain rfl : b = true := hb.2 rfl
  simp (maxSteps := 1000000) (disch := omega) only [stepS, reduceIte, Nat.reduceBEq, Nat.reduceEqDiff, tupleOf, stepT, stepX, heapR, lensR, stepM, dsl, Nat.reduceAdd, Nat.reduceLeDiff]
  refine len_spec (h8.le (.push _ _)) (by simp) fun A9 h9 f9 => ?_
  simp (maxSteps := 1000000) (disch := omega) only [stepS, reduceIte, Nat.reduceBEq, Nat.reduceEqDiff, tupleOf, stepT, stepX, heapR, lensR, stepM, dsl, Nat.reduceAdd, Nat.reduceLeDiff]
  refine size_spec h9 fun B1 h10 f10 => ?_
  simp (maxSteps := 1000000) (disch := omega) only [stepS, reduceIte, Nat.reduceBEq, Nat.reduceEqDiff, tupleOf, stepT, stepX, heapR, lensR, stepM, dsl, Nat.reduceAdd, Nat.reduceLeDiff]
  exact hq _
end Go.AS.C


namespace Go.AS.C
open Go Go.Proofs
set_option linter.unusedVariables false
set_option linter.unusedSimpArgs false
set_option maxRecDepth 10000

/-! Deeds, as they come in; the cache and the reference's side by side. -/
structure DeedV where
  put : Bool
  id : ByteArray
  text : List UInt8
def deR (A : AH) (d : DeedV) (e : List Value) : Prop := ∃ x, e = [.bool d.put, .string d.id, x] ∧ Byt A x d.text ∧ d.id.size < 2 ^ 50 ∧ d.text.length < 2 ^ 50
def DeedsA (A : AH) (v : Value) (l : List DeedV) : Prop := ∃ es, Sl A 3 v es.length es.flatten ∧ (∀ e ∈ es, e.length = 3 ∧ ones e = true) ∧ All2 (deR A) l es
theorem good_deed {A : AH} {F : Nat} (cs : List Value) (h : Good Try.prog A (F + 3) 32 cs) : ∃ d, deR A d cs := by
  obtain ⟨hl, hf⟩ := good_fields Try.underlying32 h
  have hc : Try.prog.cellsOf 32 = 3 := by kernel_rfl
  rw [hc] at hl
  match cs, hl with
  | [c0, c1, c2], _ =>
    have e4 : Try.prog.cellsOf 4 = 1 := by kernel_rfl
    have e9 : Try.prog.cellsOf 9 = 1 := by kernel_rfl
    have e30 : Try.prog.cellsOf 30 = 1 := by kernel_rfl
    simp only [List.forall_mem_cons, e4, e9, e30, List.drop_zero, List.drop_succ_cons, List.take_succ_cons, List.take_zero] at hf
    obtain ⟨h0, h1, h2, _⟩ := hf
    obtain ⟨b, r0⟩ := cell_bool Try.underlying4 h0
    obtain ⟨s, r1, b1⟩ := cell_str Try.underlying9 h1
    obtain ⟨v, r2, g2⟩ := cell_slice Try.underlying30 h2
    injection r0 with r0 _
    injection r1 with r1 _
    injection r2 with r2 _
    subst r0 r1 r2
    obtain ⟨bs, hb, hbl⟩ := law_bytes Try.underlying30 Try.underlying5 (by kernel_rfl) (by decide +kernel) g2
    exact ⟨⟨b, s, bs⟩, c2, rfl, hb, b1, hbl⟩
theorem law_deeds {A : AH} {F : Nat} {v : Value} (h : GoodV Try.prog A (F + 4) 22 v) : ∃ l : List DeedV, DeedsA A v l ∧ l.length < 2 ^ 50 := by
  obtain ⟨rows, h1, h2, h3⟩ := good_rows Try.underlying22 (by kernel_rfl) h
  obtain ⟨l, hl⟩ := list_of good_deed rows h3
  refine ⟨l, ⟨rows, h1, fun e he => ?_, hl⟩, ?_⟩
  · obtain ⟨d, x, rfl, hx, _⟩ := good_deed e (h3 e he)
    refine ⟨rfl, ?_⟩
    have h := (Sl.one1 hx).2
    unfold ones
    simp only [List.all_cons, List.all_nil, Bool.and_true, h]
    rfl
  · rw [all2_len hl]
    exact le_mul_of (by decide +kernel) h2
section
variable {A B : AH} {v : Value} {l : List DeedV} {d : DeedV}
theorem DeedsA.le (h : DeedsA A v l) (hl : Le A B) : DeedsA B v l := by
  obtain ⟨es, h1, h2, h3⟩ := h
  exact ⟨es, h1.le hl, h2, All2.imp (fun _ _ h => by obtain ⟨x, x1, x2, x3⟩ := h; exact ⟨x, x1, x2.le hl, x3⟩) _ _ h3⟩
theorem DeedsA.len (h : DeedsA A v l) (B : AH) : sLens B false v = some (.int .i64 l.length, B) := by
  obtain ⟨es, h1, h2, h3⟩ := h
  rw [all2_len h3]; exact Sl.lenB h1 B
theorem DeedsA.at (h : DeedsA A v l) {j : Nat} (hp : l[j]? = some d) : ∃ x q q0 q1 q2, (∀ (B : AH) (n : Int), n = (j : Int) → sIaddr B v (.int .i64 n) 3 = some (q, B)) ∧ (∀ B, sFaddr B q 0 = some (q0, B)) ∧ (∀ B, sFaddr B q 1 = some (q1, B)) ∧ (∀ B, sFaddr B q 2 = some (q2, B)) ∧
    (∀ B, Le A B → sLoad1 B q0 = some (.bool d.put, B)) ∧ (∀ B, Le A B → sLoad1 B q1 = some (.string d.id, B)) ∧ (∀ B, Le A B → sLoad1 B q2 = some (x, B)) ∧ Byt A x d.text ∧ (∀ k ∈ blkOf q1, k < A.length) ∧ (∀ k ∈ blkOf q2, k < A.length) := by
  obtain ⟨es, h1, h2, h3⟩ := h
  obtain ⟨e, e1, x, e2, e3, _⟩ := all2_get' h3 hp
  subst e2
  obtain ⟨q, q1, q2⟩ := Sl.elfs h1 h2 e1 rfl
  obtain ⟨q0, a1, a2⟩ := q2 0 _ rfl
  obtain ⟨q1', b1, b2⟩ := q2 1 _ rfl
  obtain ⟨q2', c1, c2⟩ := q2 2 _ rfl
  obtain ⟨r, r0, r1, _, r3⟩ := h1.el h2 e1
  have e : r = q := by
    have h1 := q1 A j rfl
    rw [r1 A j rfl] at h1
    injection h1 with h1
    injection h1 with h1 _
  subst e
  have hlt : ∀ k ∈ blkOf r, k < A.length := by
    intro k hk
    rw [r0] at hk
    obtain ⟨_, h⟩ := h1
    rcases h with ⟨rfl, _⟩ | ⟨rfl, _⟩ | ⟨i, o, c, rc, st, ex, rfl, _, h3, _⟩
    · cases hk
    · cases hk
    · have : k = i := by simpa [blkOf] using hk
      subst this; exact lt_of_get h3
  exact ⟨x, r, q0, q1', q2', q1, a1, b1, c1, a2, b2, c2, e3, fun k hk => hlt k (by rw [faddr_blk (b1 A)] at hk; exact hk), fun k hk => hlt k (by rw [faddr_blk (c1 A)] at hk; exact hk)⟩
end
theorem RfA.fr {A B : AH} {c : Nat} {u u' w : Value} {lk n : Int} {M : Nat} {l m : List Pr} (h : RfA A w m) (hc : CacheA A c u lk n M l) (ap : ∀ k ∈ blkOf w, k ∉ blkOf u) (hf : Fr c u A u' B) : RfA B w m := by
  obtain ⟨es, ⟨g0, h1⟩, h2, h3⟩ := h
  refine ⟨es, ⟨g0, ?_⟩, h2, All2.imp (fun _ _ h => by obtain ⟨x, x1, x2⟩ := h; exact ⟨x, x1, byt_fr x2 hc hf⟩) _ _ h3⟩
  rcases h1 with h | h | ⟨i, o, q, rc', st, ex', e1, e2, e3, e4, e5, e6⟩
  · exact .inl h
  · exact .inr (.inl h)
  · refine .inr (.inr ⟨i, o, q, rc', st, ex', e1, e2, hf.2.1 i _ e3 ?_ (ap i (by rw [e1]; simp [blkOf])), e4, e5, e6⟩)
    rintro rfl
    rw [rowAt_get hc.row] at e3
    injection e3 with e3
    injection e3 with _ _ e3 _
    cases e3
/-- The cache (c, u: l) and the reference's (r, w: m), behind the arguments' heap. -/
structure Both (A B : AH) (c r : Nat) (u w : Value) (M : Nat) (l m : List Pr) : Prop where
  le : Le A B
  cc : CacheA B c u 0 (tot l : Int) M l
  hc : A.length ≤ c
  hr : A.length ≤ r
  hu : ∀ k ∈ blkOf u, A.length ≤ k
  rr : rowAt B r = some ([w, .int .i64 (M : Int)], .own, 0, true)
  rf : RfA B w m
  ap : ∀ k ∈ blkOf w, k ∉ blkOf u
section
variable {A B D : AH} {c r : Nat} {u u' w w' : Value} {M : Nat} {l l' m m' : List Pr}
theorem Both.ne (h : Both A B c r u w M l m) : r ≠ c := by
  rintro rfl
  have := h.rr
  rw [h.cc.row] at this
  simp at this
theorem Both.nu (h : Both A B c r u w M l m) : r ∉ blkOf u := by
  obtain ⟨es, h1, _⟩ := h.cc.ents
  exact OwnS.row_apart h1.2 (rowAt_get h.rr) (by decide)
/-- Behind one of the cache's calls. -/
theorem Both.fr (h : Both A B c r u w M l m) (hc : CacheA D c u' 0 (tot l' : Int) M l') (hf : Fr c u B u' D) : Both A D c r u' w M l' m := by
  refine ⟨hf.le0 h.le h.hc h.hu, hc, h.hc, h.hr, fun k hk => ?_, rowAt_own (hf.2.1 r _ (rowAt_get h.rr) h.ne h.nu), h.rf.fr h.cc h.ap hf, fun k hk hk' => ?_⟩
  · rcases hf.2.2 k hk with h1 | h1
    · exact h.hu k h1
    · exact Nat.le_trans h.le.len h1
  · rcases hf.2.2 k hk' with h1 | h1
    · exact h.ap k hk h1
    · have := h.rf.lt k hk; omega
theorem Both.grow (h : Both A B c r u w M l m) (hl : Le B D) : Both A D c r u w M l m :=
  ⟨h.le.trans hl, h.cc.le hl, h.hc, h.hr, h.hu, hl.row h.rr, h.rf.le hl, h.ap⟩
theorem Both.rd (h : Both A B c r u w M l m) (hf : Fr c u B u' D) {R : List Nat} (hR : ∀ k ∈ R, k = r ∨ k < A.length) : RdOk R B D := by
  intro k hk b hb
  refine hf.2.1 k b hb ?_ ?_
  · rcases hR k hk with rfl | h1
    · exact h.ne
    · have := h.hc; omega
  · rcases hR k hk with rfl | h1
    · exact h.nu
    · exact fun h2 => by have := h.hu k h2; omega
/-- The reference's value is put into its variable. -/
theorem Both.ref (h : Both A B c r u w M l m) (hm : RfA B w' m') (ha : ∀ k ∈ blkOf w', k ∉ blkOf u) : Both A (B.set r (.row [w', .int .i64 (M : Int)] .own 0 true)) c r u w' M l m' :=
  ⟨h.le.set h.hr, h.cc.oth (rowAt_get h.rr) h.ne, h.hc, h.hr, h.hu, rowAt_own (set_get (rowAt_get h.rr)), hm.oth (rowAt_get h.rr), ha⟩
end
theorem putP_len {M : Nat} {id : ByteArray} {t : List UInt8} {l : List Pr} : (putP M id t l).length ≤ l.length + 1 := by
  have h1 := (fit_sub ((id, t) :: rmv id l) M).length_le
  have h2 := rmv_len id l
  simp only [List.length_cons] at h1
  unfold putP; omega
theorem tot_sub : ∀ {l m : List Pr}, l.Sublist m → tot l ≤ tot m
  | _, _, .slnil => Nat.le_refl _
  | _, _, .cons p h => by have := tot_sub h; simp only [tot]; omega
  | _, _, .cons_cons p h => by have := tot_sub h; simp only [tot]; omega
theorem putP_tot {M : Nat} {id : ByteArray} {t : List UInt8} {l : List Pr} : tot (putP M id t l) ≤ tot l + t.length := by
  have h1 := tot_sub (fit_sub ((id, t) :: rmv id l) M)
  have h2 := rmv_tot id l
  simp only [tot] at h1
  unfold putP; omega
theorem get_len {p : Pr} {l : List Pr} (hp : p ∈ l) : (p :: rmv p.1 l).length ≤ l.length ∧ True := by
  refine ⟨?_, trivial⟩
  have : p ∉ rmv p.1 l := fun h => rmv_not p.1 l p h rfl
  have hs : (rmv p.1 l).Sublist l := List.filter_sublist
  have h1 := hs.length_le
  have h2 : (rmv p.1 l).length ≠ l.length := fun e => this (by rw [hs.eq_of_length e]; exact hp)
  simp only [List.length_cons]; omega
theorem get_tot {p : Pr} {l : List Pr} (hn : (l.map (·.1)).Nodup) (hp : p ∈ l) : tot (p :: rmv p.1 l) = tot l := by
  obtain ⟨j, hj⟩ := List.getElem?_of_mem hp
  have := (rmv_at hn hj).2
  simp only [tot]; omega
end Go.AS.C


namespace Go.AS.C
open Go Go.Proofs
set_option linter.unusedVariables false
set_option linter.unusedSimpArgs false
set_option maxRecDepth 10000

/-! CacheDoes. -/
theorem nd_uniq : ∀ {l : List Pr} {p q : Pr}, (l.map (·.1)).Nodup → p ∈ l → q ∈ l → p.1 = q.1 → p = q
  | x :: l, p, q, hn, hp, hq, he => by
    rw [List.map_cons, List.nodup_cons] at hn
    rcases List.mem_cons.1 hp with h1 | h1
    · rcases List.mem_cons.1 hq with h2 | h2
      · rw [h1, h2]
      · exact (hn.1 (List.mem_map.2 ⟨q, h2, by rw [← he, h1]⟩)).elim
    · rcases List.mem_cons.1 hq with h2 | h2
      · exact (hn.1 (List.mem_map.2 ⟨p, h1, by rw [he, h2]⟩)).elim
      · exact nd_uniq hn.2 h1 h2 he
theorem OwnS_set {A : AH} {x : Value} {t : List UInt8} {i : Nat} {rc : List Value} {b : Blk} {ex : Bool} (h : Byt A x t) (hi : rowAt A i = some (rc, .own, 0, ex)) : Byt (A.set i b) x t := by
  obtain ⟨g0, h⟩ := h
  refine ⟨g0, ?_⟩
  rcases h with h | h | ⟨j, o, c, rc', st', ex', h1, h2, h3, h4⟩
  · exact .inl h
  · exact .inr (.inl h)
  · refine .inr (.inr ⟨j, o, c, rc', st', ex', h1, h2, ?_, h4⟩)
    rw [List.getElem?_set_ne]
    · exact h3
    · rintro rfl
      rw [rowAt_get hi] at h3
      injection h3 with h3
      injection h3 with _ _ h3 _
      cases h3
set_option maxHeartbeats 4000000 in
theorem CacheDoes_spec {A : AH} {most : Int} {v : Value} {l : List DeedV} {Q : Value → AH → Prop} (h0 : -9223372036854775808 ≤ most) (h1 : most < 9223372036854775808) (hv : DeedsA A v l) (hll : l.length < 2 ^ 50) (hq : ∀ A', Q (.bool true) A') :
    ACalls 0 Try.prog chantrylaw33_CacheDoes [.int .i64 most, v] Q A := by
  refine ACalls.of_fits mixed fits_chantrylaw33_CacheDoes rfl ?_
  unfold ic_chantrylaw33_CacheDoes
  have i0 : initA [.int .i64 most, v] 0 = .int .i64 most := rfl
  have i1 : initA [.int .i64 most, v] 1 = v := rfl
  generalize initA [.int .i64 most, v] = a at i0 i1
  have vl := hv.len
  have hmx : ((max most 0).toNat : Int) = max most 0 := by omega
  simp (maxSteps := 1000000) (disch := omega) only [stepS, reduceIte, Nat.reduceBEq, Nat.reduceEqDiff, tupleOf, stepT, stepX, heapR, lensR, stepM, dsl, Nat.reduceAdd, Nat.reduceLeDiff, i0]
  refine of_spec h0 h1 fun B k1 e1 c1 => ?_
  simp (maxSteps := 1000000) (disch := omega) only [stepS, reduceIte, Nat.reduceBEq, Nat.reduceEqDiff, tupleOf, stepT, stepX, heapR, lensR, stepM, dsl, Nat.reduceAdd, Nat.reduceLeDiff, i0]
  refine refOf_spec fun C k2 => ?_
  simp (maxSteps := 1000000) (disch := omega) only [stepS, reduceIte, Nat.reduceBEq, Nat.reduceEqDiff, tupleOf, stepT, stepX, heapR, lensR, stepM, dsl, Nat.reduceAdd, Nat.reduceLeDiff, i0, i1, vl]
  obtain ⟨M, hM⟩ : ∃ M, M = (max most 0).toNat := ⟨_, rfl⟩
  rw [← hM] at c1 hmx
  have hc := c1.lt
  have hk1 := k1.len
  have hk2 := k2.len
  have r6 : rowAt ((C ++ [Blk.row [.slice none 0 0, .int .i64 0] .own 0 true]).set C.length (.row [.slice none 0 0, .int .i64 (M : Int)] .own 0 true)) C.length = some ([.slice none 0 0, .int .i64 (M : Int)], .own, 0, true) := by simp (maxSteps := 1000000) (disch := omega) only [stepS, reduceIte, Nat.reduceBEq, Nat.reduceEqDiff, tupleOf, stepT, stepX, heapR, lensR, stepM, dsl, Nat.reduceAdd, Nat.reduceLeDiff]
  have hS : Both A ((C ++ [Blk.row [.slice none 0 0, .int .i64 0] .own 0 true]).set C.length (.row [.slice none 0 0, .int .i64 (M : Int)] .own 0 true)) A.length C.length (.slice none 0 0) (.slice none 0 0) M [] [] :=
    ⟨(k1.trans k2).trans (by (repeat first | exact Le.refl _ | assumption | refine Le.app ?_ _ | refine Le.set ?_ ?_ | omega | (simp only [List.length_append, List.length_singleton, List.length_set]; omega))), c1.le (k2.trans (by (repeat first | exact Le.refl _ | assumption | refine Le.app ?_ _ | refine Le.set ?_ ?_ | omega | (simp only [List.length_append, List.length_singleton, List.length_set]; omega)))), Nat.le_refl _, by omega, (fun k hk => by cases hk), r6, RfA.nil _, (fun k hk => by cases hk)⟩
  rw [← hmx]
  obtain ⟨D, hD⟩ : ∃ D : AH, D = (C ++ [Blk.row [.slice none 0 0, .int .i64 0] .own 0 true]).set C.length (.row [.slice none 0 0, .int .i64 (M : Int)] .own 0 true) := ⟨_, rfl⟩
  rw [← hD] at hS ⊢
  obtain ⟨r, hr⟩ : ∃ r, r = C.length := ⟨_, rfl⟩
  obtain ⟨c, hcc⟩ : ∃ c, c = A.length := ⟨_, rfl⟩
  rw [← hr, ← hcc] at hS ⊢
  clear hD r6 hc hk1 hk2 c1 e1 k1 k2 hr
  have cn : ∀ B : AH, (if kindOf (.pointer 55) (ptr c) = true then sIsnil B (ptr c) false else none) = some (.bool false, B) := fun B => rfl
  by_cases hlen : 60 < l.length
  · simp (maxSteps := 1000000) (disch := omega) only [stepS, reduceIte, Nat.reduceBEq, Nat.reduceEqDiff, tupleOf, stepT, stepX, heapR, lensR, stepM, dsl, Nat.reduceAdd, Nat.reduceLeDiff, cn]
    refine awake_spec fun A' => ?_
    simp (maxSteps := 1000000) (disch := omega) only [stepS, reduceIte, Nat.reduceBEq, Nat.reduceEqDiff, tupleOf, stepT, stepX, heapR, lensR, stepM, dsl, Nat.reduceAdd, Nat.reduceLeDiff]
    exact hq _
  simp (maxSteps := 1000000) (disch := omega) only [stepS, reduceIte, Nat.reduceBEq, Nat.reduceEqDiff, tupleOf, stepT, stepX, heapR, lensR, stepM, dsl, Nat.reduceAdd, Nat.reduceLeDiff, cn]
  obtain ⟨I, hI⟩ : ∃ I : AT → AH → Prop, I = fun a B => ∃ (i : Nat) (u w : Value) (L : List Pr), a 1 = v ∧ a 5 = ptr c ∧ a 6 = ptr r ∧ a 7 = .int .i64 (i : Int) ∧ i ≤ l.length ∧ Both A B c r u w M L L ∧ L.length ≤ i ∧ tot L ≤ 200 * i := ⟨_, rfl⟩
  refine W_loop I (fun a B => l.length - (match a 7 with | .int _ n => n.toNat | _ => 0)) (by rw [hI]; exact ⟨0, .slice none 0 0, .slice none 0 0, [], by simp (maxSteps := 1000000) (disch := omega) only [stepS, reduceIte, Nat.reduceBEq, Nat.reduceEqDiff, tupleOf, stepT, stepX, heapR, lensR, stepM, dsl, Nat.reduceAdd, Nat.reduceLeDiff, i1], by simp (maxSteps := 1000000) (disch := omega) only [stepS, reduceIte, Nat.reduceBEq, Nat.reduceEqDiff, tupleOf, stepT, stepX, heapR, lensR, stepM, dsl, Nat.reduceAdd, Nat.reduceLeDiff, i1], by simp (maxSteps := 1000000) (disch := omega) only [stepS, reduceIte, Nat.reduceBEq, Nat.reduceEqDiff, tupleOf, stepT, stepX, heapR, lensR, stepM, dsl, Nat.reduceAdd, Nat.reduceLeDiff, i1], by simp (maxSteps := 1000000) (disch := omega) only [stepS, reduceIte, Nat.reduceBEq, Nat.reduceEqDiff, tupleOf, stepT, stepX, heapR, lensR, stepM, dsl, Nat.reduceAdd, Nat.reduceLeDiff, i1]; rfl, Nat.zero_le _, hS, Nat.le_refl _, Nat.le_refl _⟩) ?_
  clear i0 i1 hS
  intro a B hinv
  have hinv' := hinv
  rw [hI] at hinv'
  obtain ⟨i, u, w, L, g1, g5, g6, g7, hi, hS, hLl, hLt⟩ := hinv'
  by_cases hlt : i < l.length
  rotate_left
  · have hi2 : i = l.length := by omega
    subst hi2
    simp (maxSteps := 1000000) (disch := omega) only [stepS, reduceIte, Nat.reduceBEq, Nat.reduceEqDiff, tupleOf, stepT, stepX, heapR, lensR, stepM, dsl, Nat.reduceAdd, Nat.reduceLeDiff, g1, g5, g6, g7, vl]
    refine awake_spec fun A' => ?_
    simp (maxSteps := 1000000) (disch := omega) only [stepS, reduceIte, Nat.reduceBEq, Nat.reduceEqDiff, tupleOf, stepT, stepX, heapR, lensR, stepM, dsl, Nat.reduceAdd, Nat.reduceLeDiff]
    exact hq _
  have hdec : l.length - ((i : Int) + 1).toNat < l.length - i := by
    have e : ((i : Int) + 1).toNat = i + 1 := by omega
    rw [e]; exact Nat.sub_lt_sub_left hlt (Nat.lt_succ_self i)
  obtain ⟨d, hd⟩ : ∃ d, l[i]? = some d := ⟨_, List.getElem?_eq_getElem hlt⟩
  obtain ⟨x, q, q0, q1, q2, o0, o1, o2, o3, p1, p2, p3, hx, hb1, hb2⟩ := hv.at hd
  have p1 := p1 B hS.le
  have p2B := p2 B hS.le
  have p3B := p3 B hS.le
  have xl : ∀ B, sLens B false x = some (.int .i64 (d.text.length : Int), B) := fun B => Sl.lenB hx B
  refine W_mid (fun a' B' => a' 1 = v ∧ a' 5 = ptr c ∧ a' 6 = ptr r ∧ a' 7 = .int .i64 (i : Int) ∧ B' = B) ?_ ?_
  · simp (maxSteps := 1000000) (disch := omega) only [stepS, reduceIte, Nat.reduceBEq, Nat.reduceEqDiff, tupleOf, stepT, stepX, heapR, lensR, stepM, dsl, Nat.reduceAdd, Nat.reduceLeDiff, g1, g5, g6, g7, vl]
  have g7o := g7
  clear g1 g5 g6 g7 hinv
  rintro b B' ⟨g1, g5, g6, g7, hBB⟩
  subst hBB
  refine W_midR (fun a' B' => a' 1 = v ∧ a' 5 = ptr c ∧ a' 6 = ptr r ∧ a' 7 = .int .i64 (i : Int) ∧ ∃ u w L', Both A B' c r u w M L' L' ∧ L'.length ≤ i + 1 ∧ tot L' ≤ 200 * (i + 1)) ?_ ?_
  rotate_left
  · clear g1 g5 g6 g7 b
    rintro b D ⟨g1, g5, g6, g7, u, w, L', hS, h1, h2⟩
    simp (maxSteps := 1000000) (disch := omega) only [stepS, reduceIte, Nat.reduceBEq, Nat.reduceEqDiff, tupleOf, stepT, stepX, heapR, lensR, stepM, dsl, Nat.reduceAdd, Nat.reduceLeDiff, g1, g5, g6, g7, g7o]
    refine ⟨by rw [hI]; exact ⟨i + 1, u, w, L', by simp (maxSteps := 1000000) (disch := omega) only [stepS, reduceIte, Nat.reduceBEq, Nat.reduceEqDiff, tupleOf, stepT, stepX, heapR, lensR, stepM, dsl, Nat.reduceAdd, Nat.reduceLeDiff, g1], by simp (maxSteps := 1000000) (disch := omega) only [stepS, reduceIte, Nat.reduceBEq, Nat.reduceEqDiff, tupleOf, stepT, stepX, heapR, lensR, stepM, dsl, Nat.reduceAdd, Nat.reduceLeDiff, g5], by simp (maxSteps := 1000000) (disch := omega) only [stepS, reduceIte, Nat.reduceBEq, Nat.reduceEqDiff, tupleOf, stepT, stepX, heapR, lensR, stepM, dsl, Nat.reduceAdd, Nat.reduceLeDiff, g6], by simp (maxSteps := 1000000) (disch := omega) only [stepS, reduceIte, Nat.reduceBEq, Nat.reduceEqDiff, tupleOf, stepT, stepX, heapR, lensR, stepM, dsl, Nat.reduceAdd, Nat.reduceLeDiff, g7]; push_cast; rfl, by omega, hS, h1, h2⟩, hdec⟩
  rw [W_block]
  by_cases hid : 100 < d.id.size
  · simp (maxSteps := 1000000) (disch := omega) only [stepS, reduceIte, Nat.reduceBEq, Nat.reduceEqDiff, tupleOf, stepT, stepX, heapR, lensR, stepM, dsl, Nat.reduceAdd, Nat.reduceLeDiff, g1, g5, g6, g7, o0, o2, p2B]
    refine awake_spec fun A' => ?_
    simp (maxSteps := 1000000) (disch := omega) only [stepS, reduceIte, Nat.reduceBEq, Nat.reduceEqDiff, tupleOf, stepT, stepX, heapR, lensR, stepM, dsl, Nat.reduceAdd, Nat.reduceLeDiff, reduceCtorEq, false_and, false_or, true_and]
    exact hq _
  by_cases htx : 200 < d.text.length
  · simp (maxSteps := 1000000) (disch := omega) only [stepS, reduceIte, Nat.reduceBEq, Nat.reduceEqDiff, tupleOf, stepT, stepX, heapR, lensR, stepM, dsl, Nat.reduceAdd, Nat.reduceLeDiff, g1, g5, g6, g7, o0, o2, o3, p2B, p3B, xl]
    refine awake_spec fun A' => ?_
    simp (maxSteps := 1000000) (disch := omega) only [stepS, reduceIte, Nat.reduceBEq, Nat.reduceEqDiff, tupleOf, stepT, stepX, heapR, lensR, stepM, dsl, Nat.reduceAdd, Nat.reduceLeDiff, reduceCtorEq, false_and, false_or, true_and]
    exact hq _
  refine W_mid (fun a' B'' => a' 1 = v ∧ a' 5 = ptr c ∧ a' 6 = ptr r ∧ a' 7 = .int .i64 (i : Int) ∧ B'' = B') ?_ ?_
  · simp (maxSteps := 1000000) (disch := omega) only [stepS, reduceIte, Nat.reduceBEq, Nat.reduceEqDiff, tupleOf, stepT, stepX, heapR, lensR, stepM, dsl, Nat.reduceAdd, Nat.reduceLeDiff, g1, g5, g6, g7, o0, o2, o3, p2B, p3B, xl]
  clear g1 g5 g6 g7 b
  rintro b B'' ⟨g1, g5, g6, g7, hBB⟩
  subst hBB
  refine W_mid (fun a' B' => a' 1 = v ∧ a' 5 = ptr c ∧ a' 6 = ptr r ∧ a' 7 = .int .i64 (i : Int) ∧ ∃ u w L', Both A B' c r u w M L' L' ∧ L'.length ≤ i + 1 ∧ tot L' ≤ 200 * (i + 1)) ?_ ?_
  · have hcap := hS.cc.len
    cases hput : d.put with
    | true =>
      rw [hput] at p1
      simp (maxSteps := 1000000) (disch := omega) only [stepS, reduceIte, Nat.reduceBEq, Nat.reduceEqDiff, tupleOf, stepT, stepX, heapR, lensR, stepM, dsl, Nat.reduceAdd, Nat.reduceLeDiff, g1, g5, g6, g7, o0, o1, o2, o3, p1, p2B, p3B]
      have hxs := hx.le hS.le
      refine put_spec hS.cc (by omega) (by omega) hxs (by omega) fun u2 B2 c2 f2 => ?_
      have hS2 := hS.fr c2 f2
      have hrr := hS2.rr
      have p2C := p2 B2 hS2.le
      have p3C := p3 B2 hS2.le
      simp (maxSteps := 1000000) (disch := omega) only [stepS, reduceIte, Nat.reduceBEq, Nat.reduceEqDiff, tupleOf, stepT, stepX, heapR, lensR, stepM, dsl, Nat.reduceAdd, Nat.reduceLeDiff, g1, g5, g6, g7, o0, o1, o2, o3, p2C, p3C, hrr]
      refine refPut_spec hS2.rf (by omega) (by omega) (hx.le hS2.le) (by omega) fun w3 B3 k3 hw3 hf3 => ?_
      have hS3 := hS2.grow k3
      have hrr3 := hS3.rr
      have lr3 := lt_of_get (rowAt_get hrr3)
      have how3 : w3.oneCell' = true := hw3.one.2
      have hS4 := hS3.ref hw3 (fun k hk hk' => by have := hf3 k hk; have := hS2.cc.ge k hk'; omega)
      have hl4 := putP_len (M := M) (id := d.id) (t := d.text) (l := L)
      have ht4 := putP_tot (M := M) (id := d.id) (t := d.text) (l := L)
      simp (maxSteps := 1000000) (disch := omega) only [stepS, reduceIte, Nat.reduceBEq, Nat.reduceEqDiff, tupleOf, stepT, stepX, heapR, lensR, stepM, dsl, Nat.reduceAdd, Nat.reduceLeDiff, g1, g5, g6, g7, hrr3, how3]
      exact ⟨u2, w3, _, hS4, by omega, by omega⟩
    | false =>
      rw [hput] at p1
      obtain ⟨Z, hZ⟩ : ∃ Z : AT → AH → Prop, Z = fun a' B' => a' 1 = v ∧ a' 5 = ptr c ∧ a' 6 = ptr r ∧ a' 7 = .int .i64 (i : Int) ∧ ∃ u w L', Both A B' c r u w M L' L' ∧ L'.length ≤ i + 1 ∧ tot L' ≤ 200 * (i + 1) := ⟨_, rfl⟩
      refine W_mono (R := fun e a A => e = .normal ∧ Z a A) (fun e a A h => by rw [hZ] at h; exact h) ?_
      -- what both give, in the end
      have key : ∀ (is : Bool) (u2 w3 x2 y : Value) (L' : List Pr) (t : List UInt8) (B3 : AH) (b : AT) (k : Nat), b 1 = v → b 5 = ptr c → b 6 = ptr r → b 7 = .int .i64 (i : Int) → b 8 = x2 → b 9 = .bool is → b 10 = ptr k → b 11 = y → b 12 = .bool is →
          Both A B3 c r u2 w M L' L → Byt B3 x2 t → Byt B3 y t → rowAt B3 k = some ([w3, .int .i64 (M : Int)], .own, 0, true) → RfA B3 w3 L' → (∀ j ∈ blkOf w3, j ∉ blkOf u2) → L'.length ≤ i + 1 → tot L' ≤ 200 * (i + 1) →
          W 0 Try.prog (.seq (.ops [⟨(some 98), none, false, .loadn (.tmp 10) 2⟩, ⟨none, none, false, .store (.tmp 6) (.tmp 98) 2⟩]) (.seq (.ops [⟨(some 99), none, false, .mov (.tmp 8)⟩, ⟨(some 100), none, false, .b2s (.tmp 99)⟩, ⟨(some 101), none, false, .mov (.tmp 11)⟩, ⟨(some 102), none, false, .b2s (.tmp 101)⟩, ⟨(some 103), none, false, .bin .neq (.tmp 100) (.tmp 102)⟩, ⟨(some 104), none, false, .mov (.tmp 103)⟩, ⟨(some 105), (some (104, false)), false, .mov (.tmp 9)⟩, ⟨(some 106), (some (104, false)), false, .mov (.tmp 12)⟩, ⟨(some 107), (some (104, false)), false, .beq true (.tmp 105) (.tmp 106)⟩, ⟨(some 108), none, false, .pick (.tmp 104) (.const (.bool true)) (.tmp 107)⟩]) (.cond (.tmp 108) (.seq (.ops [⟨(some 4), none, false, .mov (.const (.bool false))⟩]) .ret) .skip))) (fun e a A => e = .normal ∧ Z a A) b B3 := by
        intro is u2 w3 x2 y L' t B3 b k b1 b5 b6 b7 b8 b9 b10 b11 b12 hB hx2 hy hk hw3 hap hl ht
        have hrr := hB.rr
        have lr := lt_of_get (rowAt_get hrr)
        have hB4 := hB.ref hw3 hap
        have how3 : w3.oneCell' = true := hw3.one.2
        have hbx : Byt (B3.set r (.row [w3, .int .i64 (M : Int)] .own 0 true)) x2 t := by
          exact OwnS_set hx2 hrr
        have hby : Byt (B3.set r (.row [w3, .int .i64 (M : Int)] .own 0 true)) y t := OwnS_set hy hrr
        have sx := hbx.str
        have sy := hby.str
        have hbb : (is != is) = false := by cases is <;> rfl
        simp (maxSteps := 1000000) (disch := omega) only [stepS, reduceIte, Nat.reduceBEq, Nat.reduceEqDiff, tupleOf, stepT, stepX, heapR, lensR, stepM, dsl, Nat.reduceAdd, Nat.reduceLeDiff, b1, b5, b6, b7, b8, b9, b10, b11, b12, hk, hrr, how3, sx, sy, hbb]
        rw [hZ]
        exact ⟨by simp (maxSteps := 1000000) (disch := omega) only [stepS, reduceIte, Nat.reduceBEq, Nat.reduceEqDiff, tupleOf, stepT, stepX, heapR, lensR, stepM, dsl, Nat.reduceAdd, Nat.reduceLeDiff, b1], by simp (maxSteps := 1000000) (disch := omega) only [stepS, reduceIte, Nat.reduceBEq, Nat.reduceEqDiff, tupleOf, stepT, stepX, heapR, lensR, stepM, dsl, Nat.reduceAdd, Nat.reduceLeDiff, b5], by simp (maxSteps := 1000000) (disch := omega) only [stepS, reduceIte, Nat.reduceBEq, Nat.reduceEqDiff, tupleOf, stepT, stepX, heapR, lensR, stepM, dsl, Nat.reduceAdd, Nat.reduceLeDiff, b6], by simp (maxSteps := 1000000) (disch := omega) only [stepS, reduceIte, Nat.reduceBEq, Nat.reduceEqDiff, tupleOf, stepT, stepX, heapR, lensR, stepM, dsl, Nat.reduceAdd, Nat.reduceLeDiff, b7], u2, w3, L', hB4, hl, ht⟩
      refine W_mid (fun b' B' => b' 1 = v ∧ b' 5 = ptr c ∧ b' 6 = ptr r ∧ b' 7 = .int .i64 (i : Int) ∧ b' 52 = .bool false ∧ B' = B'') ?_ ?_
      · simp (maxSteps := 1000000) (disch := omega) only [stepS, reduceIte, Nat.reduceBEq, Nat.reduceEqDiff, tupleOf, stepT, stepX, heapR, lensR, stepM, dsl, Nat.reduceAdd, Nat.reduceLeDiff, g1, g5, g6, g7, o0, o1, p1]
      clear g1 g5 g6 g7 b
      rintro b C ⟨g1, g5, g6, g7, g52, hCC⟩
      subst hCC
      rw [W_cond (show ev b (.tmp 52) = .bool false from g52), if_neg (by decide)]
      refine W_mid (fun b' B' => b' 1 = v ∧ b' 5 = ptr c ∧ b' 6 = ptr r ∧ b' 7 = .int .i64 (i : Int) ∧ ∃ (is : Bool) (u2 x2 : Value) (L' : List Pr) (t : List UInt8), b' 8 = x2 ∧ b' 9 = .bool is ∧ Both A B' c r u2 w M L' L ∧ Byt B' x2 t ∧ (is = true → ∃ p ∈ L, p.1 = d.id ∧ t = p.2 ∧ L' = p :: rmv d.id L) ∧ (is = false → (∀ p ∈ L, p.1 ≠ d.id) ∧ t = [] ∧ L' = L)) ?_ ?_
      · simp (maxSteps := 1000000) (disch := omega) only [stepS, reduceIte, Nat.reduceBEq, Nat.reduceEqDiff, tupleOf, stepT, stepX, heapR, lensR, stepM, dsl, Nat.reduceAdd, Nat.reduceLeDiff, g1, g5, g6, g7, o0, o2, p2B]
        refine get_spec hS.cc (by omega) (by omega) (fun hno B2 c2 f2 => ?_) (fun p x2 u2 B2 hp hpe c2 f2 hx2 => ?_)
        · have hS2 := hS.fr c2 f2
          simp (maxSteps := 1000000) (disch := omega) only [stepS, reduceIte, Nat.reduceBEq, Nat.reduceEqDiff, tupleOf, stepT, stepX, heapR, lensR, stepM, dsl, Nat.reduceAdd, Nat.reduceLeDiff, g1, g5, g6, g7]
          exact ⟨false, u, .slice none 0 0, L, [], rfl, rfl, hS2, ⟨rfl, .inl ⟨rfl, rfl⟩⟩, (fun h => by cases h), fun _ => ⟨hno, rfl, rfl⟩⟩
        · have hS2 := hS.fr c2 f2
          simp (maxSteps := 1000000) (disch := omega) only [stepS, reduceIte, Nat.reduceBEq, Nat.reduceEqDiff, tupleOf, stepT, stepX, heapR, lensR, stepM, dsl, Nat.reduceAdd, Nat.reduceLeDiff, g1, g5, g6, g7]
          exact ⟨true, u2, x2, _, p.2, rfl, rfl, hS2, hx2, (fun _ => ⟨p, hp, hpe, rfl, rfl⟩), (fun h => by cases h)⟩
      clear g1 g5 g6 g7 g52 b
      rintro b B2 ⟨g1, g5, g6, g7, is, u2, x2, L', t, g8, g9, hS2, hx2, hyes, hno⟩
      have hrr := hS2.rr
      have p2C := p2 B2 hS2.le
      have hnd := hS.cc.nd
      have hmne : ∀ p ∈ L, p.1 = d.id → is = true := fun p hp he => by
        cases is with
        | true => rfl
        | false => exact absurd he ((hno rfl).1 p hp)
      have hbd : L'.length ≤ i + 1 ∧ tot L' ≤ 200 * (i + 1) := by
        cases is with
        | true =>
          obtain ⟨p, hp, he, _, hL⟩ := hyes rfl
          rw [hL, ← he]
          have h1 := (get_len hp).1
          have h2 := get_tot hnd hp
          omega
        | false =>
          rw [(hno rfl).2.2]; omega
      obtain ⟨Z3, hZ3⟩ : ∃ Z3 : AT → AH → Prop, Z3 = fun b B3 => ∃ (w3 y : Value) (k : Nat), b 1 = v ∧ b 5 = ptr c ∧ b 6 = ptr r ∧ b 7 = .int .i64 (i : Int) ∧ b 8 = x2 ∧ b 9 = .bool is ∧ b 10 = ptr k ∧ b 11 = y ∧ b 12 = .bool is ∧
          Both A B3 c r u2 w M L' L ∧ Byt B3 x2 t ∧ Byt B3 y t ∧ rowAt B3 k = some ([w3, .int .i64 (M : Int)], .own, 0, true) ∧ RfA B3 w3 L' ∧ (∀ j ∈ blkOf w3, j ∉ blkOf u2) := ⟨_, rfl⟩
      refine W_mid Z3 ?_ ?_
      rotate_left
      · rintro b B3 hz
        rw [hZ3] at hz
        obtain ⟨w3, y, k, b1, b5, b6, b7, b8, b9, b10, b11, b12, e1, e2, e3, e4, e5, e6⟩ := hz
        exact key is u2 w3 x2 y L' t B3 b k b1 b5 b6 b7 b8 b9 b10 b11 b12 e1 e2 e3 e4 e5 e6 hbd.1 hbd.2
      have huniq : ∀ p ∈ L, ∀ p' ∈ L, p.1 = p'.1 → p = p' := by
        intro p hp p' hp' he
        have := nd_uniq hnd hp hp' he
        exact this
      have fin : ∀ (B3 : AH) (w3 y : Value) (k : Nat), Le B2 B3 → rowAt B3 k = some ([w3, .int .i64 (M : Int)], .own, 0, true) → RfA B3 w3 L' → (∀ j ∈ blkOf w3, j ∈ blkOf w ∨ B2.length ≤ j) → Byt B3 y t →
          Both A B3 c r u2 w M L' L ∧ Byt B3 x2 t ∧ Byt B3 y t ∧ rowAt B3 k = some ([w3, .int .i64 (M : Int)], .own, 0, true) ∧ RfA B3 w3 L' ∧ (∀ j ∈ blkOf w3, j ∉ blkOf u2) := by
        intro B3 w3 y k hl hk hw3 hj hy
        refine ⟨hS2.grow hl, hx2.le hl, hy, hk, hw3, fun j hj' hu => ?_⟩
        rcases hj j hj' with h | h
        · exact hS2.ap j h hu
        · have := hS2.cc.ge j hu; omega
      have hwo : w.oneCell' = true := hS2.rf.one.2
      have hisF : (∀ p ∈ L, p.1 ≠ d.id) → is = false ∧ L' = L ∧ t = [] := fun hno2 => by
        cases is with
        | true => obtain ⟨p, hp, he, _⟩ := hyes rfl; exact absurd he (hno2 p hp)
        | false => exact ⟨rfl, (hno rfl).2.2, (hno rfl).2.1⟩
      have hisT : ∀ p ∈ L, p.1 = d.id → is = true ∧ L' = p :: rmv d.id L ∧ t = p.2 := fun p hp he => by
        have h1 := hmne p hp he
        obtain ⟨p', hp', he', ht', hL'⟩ := hyes h1
        have := nd_uniq hnd hp hp' (he.trans he'.symm)
        subst this
        exact ⟨h1, hL', ht'⟩
      simp (maxSteps := 1000000) (disch := omega) only [stepS, reduceIte, Nat.reduceBEq, Nat.reduceEqDiff, tupleOf, stepT, stepX, heapR, lensR, stepM, dsl, Nat.reduceAdd, Nat.reduceLeDiff, g1, g5, g6, g7, o0, o2, p2C, hrr]
      refine W_alt ?_ ?_
      · simp (maxSteps := 1000000) (disch := omega) only [stepS, reduceIte, Nat.reduceBEq, Nat.reduceEqDiff, tupleOf, stepT, stepX, heapR, lensR, stepM, dsl, Nat.reduceAdd, Nat.reduceLeDiff, g1, g5, g6, g7]
        refine refGet_spec hS2.rf (by omega) (fun hno2 B3 k3 => ?_) (fun p x3 w3 B3 hp hpe k3 hw3 hwf hx3 => ?_)
        · have hrd : ∀ R, RdOk R B2 (B3 ++ [Blk.row [.slice none 0 0, .int .i64 0] .own 0 true]) := fun R => (k3.trans (.push _ _)).rd R
          have hrd2 : ∀ R, RdOk R B3 (B3 ++ [Blk.row [.slice none 0 0, .int .i64 0] .own 0 true]) := fun R => Le.rd (.push _ _) R
          obtain ⟨z1, z2, z3⟩ := hisF hno2
          have kf : Le B2 ((B3 ++ [Blk.row [.slice none 0 0, .int .i64 0] .own 0 true]).set B3.length (.row [w, .int .i64 (M : Int)] .own 0 true)) := k3.trans (by (repeat first | exact Le.refl _ | assumption | refine Le.app ?_ _ | refine Le.set ?_ ?_ | omega | (simp only [List.length_append, List.length_singleton, List.length_set]; omega)))
          have rk : rowAt ((B3 ++ [Blk.row [.slice none 0 0, .int .i64 0] .own 0 true]).set B3.length (.row [w, .int .i64 (M : Int)] .own 0 true)) B3.length = some ([w, .int .i64 (M : Int)], .own, 0, true) := by simp (maxSteps := 1000000) (disch := omega) only [stepS, reduceIte, Nat.reduceBEq, Nat.reduceEqDiff, tupleOf, stepT, stepX, heapR, lensR, stepM, dsl, Nat.reduceAdd, Nat.reduceLeDiff]
          have fin := fin _ w (.slice none 0 0) B3.length kf rk (by rw [z2]; exact hS2.rf.le kf) (fun j hj => .inl hj) (by rw [z3]; exact ⟨rfl, .inl ⟨rfl, rfl⟩⟩)
          subst z1
          simp (maxSteps := 1000000) (disch := omega) only [stepS, reduceIte, Nat.reduceBEq, Nat.reduceEqDiff, tupleOf, stepT, stepX, heapR, lensR, stepM, dsl, Nat.reduceAdd, Nat.reduceLeDiff, g1, g5, g6, g7, g8, g9, hrd, hrd2, hwo]
          rw [hZ3]
          exact ⟨w, .slice none 0 0, B3.length, by simp (maxSteps := 1000000) (disch := omega) only [stepS, reduceIte, Nat.reduceBEq, Nat.reduceEqDiff, tupleOf, stepT, stepX, heapR, lensR, stepM, dsl, Nat.reduceAdd, Nat.reduceLeDiff, g1], by simp (maxSteps := 1000000) (disch := omega) only [stepS, reduceIte, Nat.reduceBEq, Nat.reduceEqDiff, tupleOf, stepT, stepX, heapR, lensR, stepM, dsl, Nat.reduceAdd, Nat.reduceLeDiff, g5], by simp (maxSteps := 1000000) (disch := omega) only [stepS, reduceIte, Nat.reduceBEq, Nat.reduceEqDiff, tupleOf, stepT, stepX, heapR, lensR, stepM, dsl, Nat.reduceAdd, Nat.reduceLeDiff, g6], by simp (maxSteps := 1000000) (disch := omega) only [stepS, reduceIte, Nat.reduceBEq, Nat.reduceEqDiff, tupleOf, stepT, stepX, heapR, lensR, stepM, dsl, Nat.reduceAdd, Nat.reduceLeDiff, g7], by simp (maxSteps := 1000000) (disch := omega) only [stepS, reduceIte, Nat.reduceBEq, Nat.reduceEqDiff, tupleOf, stepT, stepX, heapR, lensR, stepM, dsl, Nat.reduceAdd, Nat.reduceLeDiff, g8], by simp (maxSteps := 1000000) (disch := omega) only [stepS, reduceIte, Nat.reduceBEq, Nat.reduceEqDiff, tupleOf, stepT, stepX, heapR, lensR, stepM, dsl, Nat.reduceAdd, Nat.reduceLeDiff, g9], by simp (maxSteps := 1000000) (disch := omega) only [stepS, reduceIte, Nat.reduceBEq, Nat.reduceEqDiff, tupleOf, stepT, stepX, heapR, lensR, stepM, dsl, Nat.reduceAdd, Nat.reduceLeDiff], by simp (maxSteps := 1000000) (disch := omega) only [stepS, reduceIte, Nat.reduceBEq, Nat.reduceEqDiff, tupleOf, stepT, stepX, heapR, lensR, stepM, dsl, Nat.reduceAdd, Nat.reduceLeDiff], by simp (maxSteps := 1000000) (disch := omega) only [stepS, reduceIte, Nat.reduceBEq, Nat.reduceEqDiff, tupleOf, stepT, stepX, heapR, lensR, stepM, dsl, Nat.reduceAdd, Nat.reduceLeDiff], fin⟩
        · have hrd : ∀ R, RdOk R B2 (B3 ++ [Blk.row [.slice none 0 0, .int .i64 0] .own 0 true]) := fun R => (k3.trans (.push _ _)).rd R
          have hrd2 : ∀ R, RdOk R B3 (B3 ++ [Blk.row [.slice none 0 0, .int .i64 0] .own 0 true]) := fun R => Le.rd (.push _ _) R
          obtain ⟨z1, z2, z3⟩ := hisT p hp hpe
          have kg : Le B3 ((B3 ++ [Blk.row [.slice none 0 0, .int .i64 0] .own 0 true]).set B3.length (.row [w3, .int .i64 (M : Int)] .own 0 true)) := by (repeat first | exact Le.refl _ | assumption | refine Le.app ?_ _ | refine Le.set ?_ ?_ | omega | (simp only [List.length_append, List.length_singleton, List.length_set]; omega))
          have rk : rowAt ((B3 ++ [Blk.row [.slice none 0 0, .int .i64 0] .own 0 true]).set B3.length (.row [w3, .int .i64 (M : Int)] .own 0 true)) B3.length = some ([w3, .int .i64 (M : Int)], .own, 0, true) := by simp (maxSteps := 1000000) (disch := omega) only [stepS, reduceIte, Nat.reduceBEq, Nat.reduceEqDiff, tupleOf, stepT, stepX, heapR, lensR, stepM, dsl, Nat.reduceAdd, Nat.reduceLeDiff]
          have fin := fin _ w3 x3 B3.length (k3.trans kg) rk (by rw [z2]; exact hw3.le kg) (fun j hj => .inr (hwf j hj)) (by rw [z3]; exact hx3.le kg)
          have hwo3 : w3.oneCell' = true := hw3.one.2
          subst z1
          simp (maxSteps := 1000000) (disch := omega) only [stepS, reduceIte, Nat.reduceBEq, Nat.reduceEqDiff, tupleOf, stepT, stepX, heapR, lensR, stepM, dsl, Nat.reduceAdd, Nat.reduceLeDiff, g1, g5, g6, g7, g8, g9, hrd, hrd2, hwo3]
          rw [hZ3]
          exact ⟨w3, x3, B3.length, by simp (maxSteps := 1000000) (disch := omega) only [stepS, reduceIte, Nat.reduceBEq, Nat.reduceEqDiff, tupleOf, stepT, stepX, heapR, lensR, stepM, dsl, Nat.reduceAdd, Nat.reduceLeDiff, g1], by simp (maxSteps := 1000000) (disch := omega) only [stepS, reduceIte, Nat.reduceBEq, Nat.reduceEqDiff, tupleOf, stepT, stepX, heapR, lensR, stepM, dsl, Nat.reduceAdd, Nat.reduceLeDiff, g5], by simp (maxSteps := 1000000) (disch := omega) only [stepS, reduceIte, Nat.reduceBEq, Nat.reduceEqDiff, tupleOf, stepT, stepX, heapR, lensR, stepM, dsl, Nat.reduceAdd, Nat.reduceLeDiff, g6], by simp (maxSteps := 1000000) (disch := omega) only [stepS, reduceIte, Nat.reduceBEq, Nat.reduceEqDiff, tupleOf, stepT, stepX, heapR, lensR, stepM, dsl, Nat.reduceAdd, Nat.reduceLeDiff, g7], by simp (maxSteps := 1000000) (disch := omega) only [stepS, reduceIte, Nat.reduceBEq, Nat.reduceEqDiff, tupleOf, stepT, stepX, heapR, lensR, stepM, dsl, Nat.reduceAdd, Nat.reduceLeDiff, g8], by simp (maxSteps := 1000000) (disch := omega) only [stepS, reduceIte, Nat.reduceBEq, Nat.reduceEqDiff, tupleOf, stepT, stepX, heapR, lensR, stepM, dsl, Nat.reduceAdd, Nat.reduceLeDiff, g9], by simp (maxSteps := 1000000) (disch := omega) only [stepS, reduceIte, Nat.reduceBEq, Nat.reduceEqDiff, tupleOf, stepT, stepX, heapR, lensR, stepM, dsl, Nat.reduceAdd, Nat.reduceLeDiff], by simp (maxSteps := 1000000) (disch := omega) only [stepS, reduceIte, Nat.reduceBEq, Nat.reduceEqDiff, tupleOf, stepT, stepX, heapR, lensR, stepM, dsl, Nat.reduceAdd, Nat.reduceLeDiff], by simp (maxSteps := 1000000) (disch := omega) only [stepS, reduceIte, Nat.reduceBEq, Nat.reduceEqDiff, tupleOf, stepT, stepX, heapR, lensR, stepM, dsl, Nat.reduceAdd, Nat.reduceLeDiff], fin⟩
      · have hrd0 : ∀ R, RdOk R B2 (B2 ++ [Blk.row [.slice none 0 0, .int .i64 0] .own 0 true]) := fun R => Le.rd (.push _ _) R
        obtain ⟨E, hE⟩ : ∃ E : AH, E = B2 ++ [Blk.row [.slice none 0 0, .int .i64 0] .own 0 true] := ⟨_, rfl⟩
        have kE : Le B2 E := by rw [hE]; exact .push _ _
        have r10 : rowAt E B2.length = some ([.slice none 0 0, .int .i64 0], .own, 0, true) := by rw [hE]; simp (maxSteps := 1000000) (disch := omega) only [stepS, reduceIte, Nat.reduceBEq, Nat.reduceEqDiff, tupleOf, stepT, stepX, heapR, lensR, stepM, dsl, Nat.reduceAdd, Nat.reduceLeDiff]
        simp (maxSteps := 1000000) (disch := omega) only [stepS, reduceIte, Nat.reduceBEq, Nat.reduceEqDiff, tupleOf, stepT, stepX, heapR, lensR, stepM, dsl, Nat.reduceAdd, Nat.reduceLeDiff, g1, g5, g6, g7, hrd0]
        rw [← hE]
        clear hE hrd0
        have hlr := lt_of_get (rowAt_get hrr)
        refine refGet_spec (hS2.rf.le kE) (by omega) (fun hno2 B3 k3 => ?_) (fun p x3 w3 B3 hp hpe k3 hw3 hwf hx3 => ?_)
        · have r10 := k3.row r10
          have l10 := lt_of_get (rowAt_get r10)
          have hrd : ∀ R, RdOk R E B3 := fun R => k3.rd R
          obtain ⟨z1, z2, z3⟩ := hisF hno2
          have kf : Le B2 (B3.set B2.length (.row [w, .int .i64 (M : Int)] .own 0 true)) := (kE.trans k3).set (Nat.le_refl _)
          have fin := fin _ w (.slice none 0 0) B2.length kf (rowAt_own (set_get (rowAt_get r10))) (by rw [z2]; exact hS2.rf.le kf) (fun j hj => .inl hj) (by rw [z3]; exact ⟨rfl, .inl ⟨rfl, rfl⟩⟩)
          subst z1
          simp (maxSteps := 1000000) (disch := omega) only [stepS, reduceIte, Nat.reduceBEq, Nat.reduceEqDiff, tupleOf, stepT, stepX, heapR, lensR, stepM, dsl, Nat.reduceAdd, Nat.reduceLeDiff, g1, g5, g6, g7, g8, g9, hrd, hwo, r10]
          rw [hZ3]
          exact ⟨w, .slice none 0 0, B2.length, by simp (maxSteps := 1000000) (disch := omega) only [stepS, reduceIte, Nat.reduceBEq, Nat.reduceEqDiff, tupleOf, stepT, stepX, heapR, lensR, stepM, dsl, Nat.reduceAdd, Nat.reduceLeDiff, g1], by simp (maxSteps := 1000000) (disch := omega) only [stepS, reduceIte, Nat.reduceBEq, Nat.reduceEqDiff, tupleOf, stepT, stepX, heapR, lensR, stepM, dsl, Nat.reduceAdd, Nat.reduceLeDiff, g5], by simp (maxSteps := 1000000) (disch := omega) only [stepS, reduceIte, Nat.reduceBEq, Nat.reduceEqDiff, tupleOf, stepT, stepX, heapR, lensR, stepM, dsl, Nat.reduceAdd, Nat.reduceLeDiff, g6], by simp (maxSteps := 1000000) (disch := omega) only [stepS, reduceIte, Nat.reduceBEq, Nat.reduceEqDiff, tupleOf, stepT, stepX, heapR, lensR, stepM, dsl, Nat.reduceAdd, Nat.reduceLeDiff, g7], by simp (maxSteps := 1000000) (disch := omega) only [stepS, reduceIte, Nat.reduceBEq, Nat.reduceEqDiff, tupleOf, stepT, stepX, heapR, lensR, stepM, dsl, Nat.reduceAdd, Nat.reduceLeDiff, g8], by simp (maxSteps := 1000000) (disch := omega) only [stepS, reduceIte, Nat.reduceBEq, Nat.reduceEqDiff, tupleOf, stepT, stepX, heapR, lensR, stepM, dsl, Nat.reduceAdd, Nat.reduceLeDiff, g9], by simp (maxSteps := 1000000) (disch := omega) only [stepS, reduceIte, Nat.reduceBEq, Nat.reduceEqDiff, tupleOf, stepT, stepX, heapR, lensR, stepM, dsl, Nat.reduceAdd, Nat.reduceLeDiff], by simp (maxSteps := 1000000) (disch := omega) only [stepS, reduceIte, Nat.reduceBEq, Nat.reduceEqDiff, tupleOf, stepT, stepX, heapR, lensR, stepM, dsl, Nat.reduceAdd, Nat.reduceLeDiff], by simp (maxSteps := 1000000) (disch := omega) only [stepS, reduceIte, Nat.reduceBEq, Nat.reduceEqDiff, tupleOf, stepT, stepX, heapR, lensR, stepM, dsl, Nat.reduceAdd, Nat.reduceLeDiff], fin⟩
        · have r10 := k3.row r10
          have l10 := lt_of_get (rowAt_get r10)
          have hrd : ∀ R, RdOk R E B3 := fun R => k3.rd R
          obtain ⟨z1, z2, z3⟩ := hisT p hp hpe
          have kf : Le B2 (B3.set B2.length (.row [w3, .int .i64 (M : Int)] .own 0 true)) := (kE.trans k3).set (Nat.le_refl _)
          have hwo3 : w3.oneCell' = true := hw3.one.2
          have fin := fin _ w3 x3 B2.length kf (rowAt_own (set_get (rowAt_get r10))) (by rw [z2]; exact hw3.oth (rowAt_get r10)) (fun j hj => .inr (by have := hwf j hj; have := kE.len; omega)) (by rw [z3]; exact OwnS_set hx3 r10)
          subst z1
          simp (maxSteps := 1000000) (disch := omega) only [stepS, reduceIte, Nat.reduceBEq, Nat.reduceEqDiff, tupleOf, stepT, stepX, heapR, lensR, stepM, dsl, Nat.reduceAdd, Nat.reduceLeDiff, g1, g5, g6, g7, g8, g9, hrd, hwo3, r10]
          rw [hZ3]
          exact ⟨w3, x3, B2.length, by simp (maxSteps := 1000000) (disch := omega) only [stepS, reduceIte, Nat.reduceBEq, Nat.reduceEqDiff, tupleOf, stepT, stepX, heapR, lensR, stepM, dsl, Nat.reduceAdd, Nat.reduceLeDiff, g1], by simp (maxSteps := 1000000) (disch := omega) only [stepS, reduceIte, Nat.reduceBEq, Nat.reduceEqDiff, tupleOf, stepT, stepX, heapR, lensR, stepM, dsl, Nat.reduceAdd, Nat.reduceLeDiff, g5], by simp (maxSteps := 1000000) (disch := omega) only [stepS, reduceIte, Nat.reduceBEq, Nat.reduceEqDiff, tupleOf, stepT, stepX, heapR, lensR, stepM, dsl, Nat.reduceAdd, Nat.reduceLeDiff, g6], by simp (maxSteps := 1000000) (disch := omega) only [stepS, reduceIte, Nat.reduceBEq, Nat.reduceEqDiff, tupleOf, stepT, stepX, heapR, lensR, stepM, dsl, Nat.reduceAdd, Nat.reduceLeDiff, g7], by simp (maxSteps := 1000000) (disch := omega) only [stepS, reduceIte, Nat.reduceBEq, Nat.reduceEqDiff, tupleOf, stepT, stepX, heapR, lensR, stepM, dsl, Nat.reduceAdd, Nat.reduceLeDiff, g8], by simp (maxSteps := 1000000) (disch := omega) only [stepS, reduceIte, Nat.reduceBEq, Nat.reduceEqDiff, tupleOf, stepT, stepX, heapR, lensR, stepM, dsl, Nat.reduceAdd, Nat.reduceLeDiff, g9], by simp (maxSteps := 1000000) (disch := omega) only [stepS, reduceIte, Nat.reduceBEq, Nat.reduceEqDiff, tupleOf, stepT, stepX, heapR, lensR, stepM, dsl, Nat.reduceAdd, Nat.reduceLeDiff], by simp (maxSteps := 1000000) (disch := omega) only [stepS, reduceIte, Nat.reduceBEq, Nat.reduceEqDiff, tupleOf, stepT, stepX, heapR, lensR, stepM, dsl, Nat.reduceAdd, Nat.reduceLeDiff], by simp (maxSteps := 1000000) (disch := omega) only [stepS, reduceIte, Nat.reduceBEq, Nat.reduceEqDiff, tupleOf, stepT, stepX, heapR, lensR, stepM, dsl, Nat.reduceAdd, Nat.reduceLeDiff], fin⟩
  · clear g1 g5 g6 g7 b
    rintro b E ⟨g1, g5, g6, g7, u, w, L', hS, h1, h2⟩
    have rds : ∀ {X Y : AH}, (∀ R, (∀ k ∈ R, k = r ∨ k < A.length) → RdOk R X Y) → (RdOk [r] X Y ∧ RdOk [r, r] X Y) ∧ RdOk [r, r, r] X Y := fun h => ⟨⟨h _ (by simp), h _ (by simp)⟩, h _ (by simp)⟩
    have hrr := hS.rr
    have wl := hS.rf.len
    simp (maxSteps := 1000000) (disch := omega) only [stepS, reduceIte, Nat.reduceBEq, Nat.reduceEqDiff, tupleOf, stepT, stepX, heapR, lensR, stepM, dsl, Nat.reduceAdd, Nat.reduceLeDiff, g1, g5, g6, g7, hrr, wl]
    refine len_spec hS.cc (by omega) fun E1 c1 f1 => ?_
    have hS1 := hS.fr c1 f1
    have rd1 := rds (fun R hR => hS.rd f1 hR)
    have hrr1 := hS1.rr
    simp (maxSteps := 1000000) (disch := omega) only [stepS, reduceIte, Nat.reduceBEq, Nat.reduceEqDiff, tupleOf, stepT, stepX, heapR, lensR, stepM, dsl, Nat.reduceAdd, Nat.reduceLeDiff, g1, g5, g6, g7, hrr1, rd1]
    refine size_spec hS1.cc fun E2 c2 f2 => ?_
    have hS2 := hS1.fr c2 f2
    have rd2 := rds (fun R hR => hS1.rd f2 hR)
    simp (maxSteps := 1000000) (disch := omega) only [stepS, reduceIte, Nat.reduceBEq, Nat.reduceEqDiff, tupleOf, stepT, stepX, heapR, lensR, stepM, dsl, Nat.reduceAdd, Nat.reduceLeDiff, g1, g5, g6, g7, rd2]
    refine refSize_spec hS2.rf (by omega) (by omega) fun E3 k3 => ?_
    have hS3 := hS2.grow k3
    have rd3 := rds (fun R hR => Le.rd k3 R)
    have hrr3 := hS3.rr
    simp (maxSteps := 1000000) (disch := omega) only [stepS, reduceIte, Nat.reduceBEq, Nat.reduceEqDiff, tupleOf, stepT, stepX, heapR, lensR, stepM, dsl, Nat.reduceAdd, Nat.reduceLeDiff, g1, g5, g6, g7, rd3, hrr3]
    refine ids_spec hS3.cc (by omega) fun y E4 c4 f4 hy => ?_
    have hS4 := hS3.fr c4 f4
    have rd4 := rds (fun R hR => hS3.rd f4 hR)
    simp (maxSteps := 1000000) (disch := omega) only [stepS, reduceIte, Nat.reduceBEq, Nat.reduceEqDiff, tupleOf, stepT, stepX, heapR, lensR, stepM, dsl, Nat.reduceAdd, Nat.reduceLeDiff, g1, g5, g6, g7, rd4]
    refine refIDs_spec hS4.rf (by omega) fun y2 E5 k5 hy2 => ?_
    have rd5 := rds (fun R hR => Le.rd k5 R)
    have hS5 := hS4.grow k5
    have hy1 : SlT E4 y (L'.map (·.1)) := by
      have := hy.sl
      unfold SlT
      rw [List.length_map, List.map_map]
      exact this
    simp (maxSteps := 1000000) (disch := omega) only [stepS, reduceIte, Nat.reduceBEq, Nat.reduceEqDiff, tupleOf, stepT, stepX, heapR, lensR, stepM, dsl, Nat.reduceAdd, Nat.reduceLeDiff, g1, g5, g6, g7, rd5]
    refine ref01_Texts_spec (Sl.le hy1 k5) hy2 (by rw [List.length_map]; omega) (by rw [List.length_map]; omega) fun bb hbb => ?_
    obtain rfl : bb = true := hbb.2 rfl
    simp (maxSteps := 1000000) (disch := omega) only [stepS, reduceIte, Nat.reduceBEq, Nat.reduceEqDiff, tupleOf, stepT, stepX, heapR, lensR, stepM, dsl, Nat.reduceAdd, Nat.reduceLeDiff, g1, g5, g6, g7, reduceCtorEq, false_and, or_false, true_and]
    exact ⟨u, w, L', hS5, h1, h2⟩
theorem CacheDoes_law {A : AH} {v0 v1 : Value} (g0 : GoodV Try.prog A 9 3 v0) (g1 : GoodV Try.prog A 9 22 v1) : ACalls 0 Try.prog 3 [v0, v1] (fun v _ => v = .bool true) A := by
  obtain ⟨n0, rfl, b0, c0⟩ := law_int Try.underlying3 g0
  obtain ⟨l, hl, hb⟩ := law_deeds g1
  exact CacheDoes_spec b0 c0 hl hb (fun _ => rfl)
end Go.AS.C
