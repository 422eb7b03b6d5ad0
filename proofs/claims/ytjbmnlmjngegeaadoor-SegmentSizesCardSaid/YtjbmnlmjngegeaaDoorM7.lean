/- Lemmas for the proof of a given statement; no conditions. -/
import Derived.Test.YtjbmnlmjngegeaaDoorM6
set_option maxHeartbeats 1000000

namespace Go.AS.C
open Go Go.Proofs
set_option linter.unusedVariables false
set_option linter.unusedSimpArgs false
set_option maxRecDepth 10000

theorem segment_Rescue_spec {A : AH} {v : Value} {bs : List UInt8} {Q : Value → AH → Prop} (hv : Byt A v bs) (hl : bs.length ≤ 2 ^ 38) (hq : ∀ t A', Le A A' → OwnBs A.length A' t (scanF bs).1 → Q t A') : ACalls 1 Tryd.prog segment_Rescue [v] Q A := by
  refine ACalls.of_fits mixed fits_segment_Rescue rfl ?_
  unfold ic_segment_Rescue
  have i0 : initA [v] 0 = v := rfl
  generalize initA [v] = a at i0
  simp (maxSteps := 1000000) (disch := omega) only [stepS, reduceIte, Nat.reduceBEq, Nat.reduceEqDiff, tupleOf, stepT, i0]
  refine frame_Scan_spec hv hl fun t A' k o => ?_
  simp (maxSteps := 1000000) (disch := omega) only [stepS, reduceIte, Nat.reduceBEq, Nat.reduceEqDiff, tupleOf, stepT]
  exact hq _ _ k o
/-- The text of a row. -/
theorem segment_text_spec {A : AH} {i k : Nat} {l : List (List UInt8)} {t : List UInt8} {Q : Value → AH → Prop} (hi : TabA A i l) (hf : ∀ t ∈ l, frE t = 0) (hl : l.length ≤ 4096) (hk : l[k]? = some t) (hq : ∀ A' u, Le A A' → Byt A' u t → (∀ j ∈ blkOf u, A.length ≤ j) → Q u A') :
    ACalls 1 Tryd.prog segment_Table_text [.pointer (some ⟨i, 0, none⟩), .agg (rowC t (bodyL (l.take k)).length).toArray] Q A := by
  refine ACalls.of_fits mixed fits_segment_Table_text rfl ?_
  unfold ic_segment_Table_text
  obtain ⟨rv, bv, fv, hst, hr, hb, hfv⟩ := hi
  generalize hx : Value.agg (rowC t (bodyL (l.take k)).length).toArray = x
  have i0 : initA [.pointer (some ⟨i, 0, none⟩), x] 0 = .pointer (some ⟨i, 0, none⟩) := rfl
  have i1 : initA [.pointer (some ⟨i, 0, none⟩), x] 1 = x := rfl
  generalize initA [.pointer (some ⟨i, 0, none⟩), x] = a at i0 i1
  have bx : sBox A x = some (.pointer (some ⟨A.length, 0, none⟩), A ++ [.row (rowC t (bodyL (l.take k)).length) .own 0 true]) := by rw [← hx]; rfl
  have k1 : Le A (A ++ [.row (rowC t (bodyL (l.take k)).length) .own 0 true]) := .push _ _
  generalize hB : A ++ [.row (rowC t (bodyL (l.take k)).length) .own 0 true] = B at bx k1
  have gx : B[A.length]? = some (.row (rowC t (bodyL (l.take k)).length) .own 0 true) := by rw [← hB]; exact get_snoc
  have l1 := row_load (k1.get hst) (by decide) (o := 0 + 1) (v := bv) rfl
  have l2 := row_load gx (by decide) (o := 0 + 1) (v := ii ((bodyL (l.take k)).length : Nat)) rfl
  have hlt := lt_of_get hk
  have hsp : bodyL l = bodyL (l.take k) ++ (frameB t ++ bodyL (l.drop (k + 1))) := by
    have e : l = l.take k ++ t :: l.drop (k + 1) := by
      have := List.drop_eq_getElem_cons hlt
      rw [List.getElem?_eq_getElem hlt] at hk
      rw [← Option.some.inj hk, ← this, List.take_append_drop]
    conv => lhs; rw [e]
    simp [bodyL]
  have hbl := bodyL_le l hf
  have hbl2 : 65541 * l.length ≤ 65541 * 4096 := Nat.mul_le_mul_left _ (by omega)
  obtain ⟨u, u1, u2⟩ := (hb.le k1).from (l := (bodyL (l.take k)).length) (by rw [hsp, List.length_append]; omega)
  have hd : (bodyL l).drop (bodyL (l.take k)).length = frameB t ++ bodyL (l.drop (k + 1)) := by rw [hsp, List.drop_left]
  rw [hd] at u2
  have ht := frE_zero (hf t (List.mem_of_getElem? hk))
  have hn := nextF_frame (bs := t) (r := bodyL (l.drop (k + 1))) ht.1 ht.2
  simp (maxSteps := 1000000) (disch := omega) only [stepS, reduceIte, Nat.reduceBEq, Nat.reduceEqDiff, tupleOf, stepT, i0, i1, bx, nilc_ptr, faddr_ptr, l1, l2, u1]
  refine frame_Next_spec u2 (by rw [← hd, List.length_drop]; omega) (fun y n tv A' hy k2 o2 b2 => ?_) (fun A' h _ => by rw [hn] at h; cases h)
  rw [hn] at hy
  injection hy with hy; injection hy with h1 h2; subst h1 h2
  simp (maxSteps := 1000000) (disch := omega) only [stepS, reduceIte, Nat.reduceBEq, Nat.reduceEqDiff, tupleOf, stepT]
  refine hq _ _ (k1.trans k2) o2 (fun j hj => ?_)
  have := b2 j hj
  have := k1.len
  omega
theorem seg_find_ok : calleeOk Tryd.prog segment_Table_Find_1 = true := by kernel_rfl
def domR (e : List Value) : Prop := ∃ (s : ByteArray) (o : Int), e = [.string s, ii o]
theorem rowsL_dom : ∀ (l : List (List UInt8)) (o : Nat), ∀ e ∈ rowsL o l, domR e
  | [], _, e, h => by cases h
  | t :: l, o, e, h => by
    rw [rowsL] at h
    rcases List.mem_cons.1 h with rfl | h
    · exact ⟨_, _, rfl⟩
    · exact rowsL_dom l _ e h
theorem seg_find_cmp (s : ByteArray) : CmpT 1 Tryd.prog (.func (.func segment_Table_Find_1) #[] #[]) (.string s) domR (fun e => keyI e < bl s) (fun e => keyI e = bl s) := by
  rintro A _ Q ⟨t, o, rfl⟩ hq
  rw [callD_func]
  refine ⟨seg_find_ok, ?_⟩
  simp only [List.nil_append, List.append_nil]
  refine ACalls.of_fits mixed fits_segment_Table_Find_1 rfl ?_
  unfold ic_segment_Table_Find_1
  generalize hx : Value.agg #[.string t, ii o] = x
  have i0 : initA [x, .string s] 0 = x := rfl
  have i1 : initA [x, .string s] 1 = .string s := rfl
  generalize initA [x, .string s] = a at i0 i1
  have bx : sBox A x = some (.pointer (some ⟨A.length, 0, none⟩), A ++ [.row [.string t, ii o] .own 0 true]) := by rw [← hx]; rfl
  have k1 : Le A (A ++ [.row [.string t, ii o] .own 0 true]) := .push _ _
  have l2 := row_load (A := A ++ [.row [.string t, ii o] .own 0 true]) get_snoc (by decide) (o := 0 + 0) (v := .string t) rfl
  simp (maxSteps := 1000000) (disch := omega) only [stepS, reduceIte, Nat.reduceBEq, Nat.reduceEqDiff, tupleOf, stepT, i0, i1, bx, faddr_ptr, l2]
  refine cmp_Compare_spec fun n h1 h2 h3 => ?_
  simp (maxSteps := 1000000) (disch := omega) only [stepS, reduceIte, Nat.reduceBEq, Nat.reduceEqDiff, tupleOf, stepT]
  exact hq _ n k1 h1 (by rw [h2]; exact bl_inj.symm)
/-- What is found of an ID. -/
def findL (l : List (List UInt8)) (s : ByteArray) : Option (List UInt8) := l.find? fun t => decide (shaF t = bl s)
theorem keyI_rowC (t : List UInt8) (o : Nat) : keyI (rowC t o) = shaF t := by unfold rowC; rw [keyI_at, bl_idT]
theorem rise_split {l : List (List UInt8)} (hr : l.Pairwise (fun a b => shaF a < shaF b)) (s : List UInt8) : ∃ p, p ≤ l.length ∧ (∀ (j : Nat) t, j < p → l[j]? = some t → shaF t < s) ∧ (∀ (j : Nat) t, p ≤ j → l[j]? = some t → ¬ shaF t < s) := by
  induction l with
  | nil => exact ⟨0, by simp, fun j t h => by omega, fun j t _ h => by simp at h⟩
  | cons x l ih =>
    obtain ⟨h1, h2⟩ := List.pairwise_cons.1 hr
    by_cases hx : shaF x < s
    · obtain ⟨p, p1, p2, p3⟩ := ih h2
      refine ⟨p + 1, by simp; omega, fun j t hj ht => ?_, fun j t hj ht => ?_⟩
      · cases j with
        | zero => simp only [List.getElem?_cons_zero, Option.some.injEq] at ht; subst ht; exact hx
        | succ j => exact p2 j t (by omega) (by simpa using ht)
      · cases j with
        | zero => omega
        | succ j => exact p3 j t (by omega) (by simpa using ht)
    · refine ⟨0, by simp, fun j t h => by omega, fun j t _ ht => ?_⟩
      rcases List.mem_cons.1 (List.mem_of_getElem? ht) with rfl | hm
      · exact hx
      · exact fun h => hx (kl_tr (h1 t hm) h)
theorem segment_Find_spec {A : AH} {i : Nat} {l : List (List UInt8)} {s : ByteArray} {Q : Value → AH → Prop} (hi : TabA A i l) (h1 : 1 ≤ l.length) (hl : l.length ≤ 4096) (hf : ∀ t ∈ l, frE t = 0) (hr : l.Pairwise (fun a b => shaF a < shaF b))
    (hok : ∀ A' u t, findL l s = some t → Le A A' → Byt A' u t → Q (.tuple #[u, .bool true]) A') (hno : ∀ A', findL l s = none → Le A A' → Q (.tuple #[.slice none 0 0, .bool false]) A') : ACalls 1 Tryd.prog segment_Table_Find [.pointer (some ⟨i, 0, none⟩), .string s] Q A := by
  refine ACalls.of_fits mixed fits_segment_Table_Find rfl ?_
  unfold ic_segment_Table_Find
  have hi0 := hi
  obtain ⟨rv, bv, fv, hst, hrv, hb, hfv⟩ := hi
  have i0 : initA [.pointer (some ⟨i, 0, none⟩), .string s] 0 = .pointer (some ⟨i, 0, none⟩) := rfl
  have i1 : initA [.pointer (some ⟨i, 0, none⟩), .string s] 1 = .string s := rfl
  generalize initA [.pointer (some ⟨i, 0, none⟩), .string s] = a at i0 i1
  have l1 := row_load hst (by decide) (o := 0 + 2) (v := fv) rfl
  simp (maxSteps := 1000000) (disch := omega) only [stepS, reduceIte, Nat.reduceBEq, Nat.reduceEqDiff, tupleOf, stepT, i0, i1, isnil_ptr, nilc_ptr, faddr_ptr, l1]
  refine fence_Has_spec hfv fun A1 k1 => ?_
  cases hh : hasF (fenceOf l.length (l.map idT)) s with
  | false =>
    have hn : findL l s = none := by
      unfold findL
      rw [List.find?_eq_none]
      intro t ht hk
      simp only [decide_eq_true_eq] at hk
      have hs : s = idT t := bl_inj.1 (by rw [bl_idT, hk])
      have : hasF (fenceOf l.length (l.map idT)) s = true := by
        rw [hs]
        exact fence_has ⟨h1, hl⟩ (List.mem_map.2 ⟨t, ht, rfl⟩) (by unfold idT; exact shaF_length t)
      rw [hh] at this; cases this
    simp (maxSteps := 1000000) (disch := omega) only [stepS, reduceIte, Nat.reduceBEq, Nat.reduceEqDiff, tupleOf, stepT, i0, i1]
    exact hno _ hn k1
  | true =>
    have l2 := row_load (k1.get hst) (by decide) (o := 0 + 0) (v := rv) rfl
    simp (maxSteps := 1000000) (disch := omega) only [stepS, reduceIte, Nat.reduceBEq, Nat.reduceEqDiff, tupleOf, stepT, i0, i1, nilc_ptr, faddr_ptr, l2]
    obtain ⟨p, p1, p2, p3⟩ := rise_split hr (bl s)
    refine bsearch_spec (sz := 2) mixed (tgt := .string s) fits_segment_row_string (seg_find_cmp s) (hrv.le k1) (rowsL_ok l 0) (rowsL_dom l 0) (by rw [rowsL_len]; omega) (p := p) (by rw [rowsL_len]; exact p1) ?_ ?_ fun A2 b k2 hb2 => ?_
    · intro j e hj he
      obtain ⟨t, ht⟩ := get_some (l := l) (k := j) (by have := lt_of_get he; rw [rowsL_len] at this; exact this)
      rw [rowsL_get l 0 j t ht] at he
      injection he with he; subst he
      show keyI (rowC _ _) < _
      rw [keyI_rowC]; exact p2 j t hj ht
    · intro j e hj he
      obtain ⟨t, ht⟩ := get_some (l := l) (k := j) (by have := lt_of_get he; rw [rowsL_len] at this; exact this)
      rw [rowsL_get l 0 j t ht] at he
      injection he with he; subst he
      show ¬ keyI (rowC _ _) < _
      rw [keyI_rowC]; exact p3 j t hj ht
    · cases b with
      | false =>
        have hn : findL l s = none := by
          unfold findL
          rw [List.find?_eq_none]
          intro t ht hk
          simp only [decide_eq_true_eq] at hk
          obtain ⟨j, hj⟩ := List.mem_iff_getElem?.1 ht
          have hjp : p ≤ j := by
            rcases Nat.lt_or_ge j p with h | h
            · have := p2 j t h hj; rw [hk] at this; exact absurd this (kl_irr _)
            · exact h
          obtain ⟨t0, ht0⟩ := get_some (l := l) (k := p) (by have := lt_of_get hj; omega)
          have h0 := p3 p t0 (Nat.le_refl _) ht0
          have heq : shaF t0 = bl s := by
            rcases Nat.lt_or_ge p j with h | h
            · have := List.pairwise_iff_getElem.1 hr p j (lt_of_get ht0) (lt_of_get hj) h
              rw [List.getElem?_eq_getElem (lt_of_get ht0)] at ht0
              rw [List.getElem?_eq_getElem (lt_of_get hj)] at hj
              rw [Option.some.inj ht0, Option.some.inj hj, hk] at this
              exact absurd this h0
            · have : p = j := by omega
              subst this
              rw [hj] at ht0; injection ht0 with ht0; rw [← ht0]; exact hk
          have : (false : Bool) = true := hb2.2 ⟨_, rowsL_get l 0 p t0 ht0, by rw [keyI_rowC]; exact heq⟩
          cases this
        simp (maxSteps := 1000000) (disch := omega) only [stepS, reduceIte, Nat.reduceBEq, Nat.reduceEqDiff, tupleOf, stepT, i0, i1]
        exact hno _ hn (k1.trans k2)
      | true =>
        obtain ⟨e, he, hk⟩ := hb2.1 rfl
        obtain ⟨t, ht⟩ := get_some (l := l) (k := p) (by have := lt_of_get he; rw [rowsL_len] at this; exact this)
        rw [rowsL_get l 0 p t ht] at he
        injection he with he; subst he
        rw [keyI_rowC] at hk
        have hfd : findL l s = some t := by
          unfold findL
          cases hfi : l.find? (fun t => decide (shaF t = bl s)) with
          | none =>
            rw [List.find?_eq_none] at hfi
            exact absurd (by simpa using hk) (hfi t (List.mem_of_getElem? ht))
          | some z =>
            have hz := List.find?_some hfi
            simp only [decide_eq_true_eq] at hz
            rw [rise_get hr (List.mem_of_find?_eq_some hfi) (List.mem_of_getElem? ht) (by rw [hz, hk])]
        have kk := k1.trans k2
        have l3 := row_load (kk.get hst) (by decide) (o := 0 + 0) (v := rv) rfl
        obtain ⟨q, _, q1, q2, _⟩ := (hrv.le kk).el (rowsL_ok l 0) (rowsL_get l 0 p t ht)
        rw [Nat.zero_add] at q2
        simp (maxSteps := 1000000) (disch := omega) only [stepS, reduceIte, Nat.reduceBEq, Nat.reduceEqDiff, tupleOf, stepT, i0, i1, nilc_ptr, faddr_ptr, l3, q1, q2]
        refine segment_text_spec (hi0.le kk) hf hl ht fun A3 u k3 o3 _ => ?_
        simp (maxSteps := 1000000) (disch := omega) only [stepS, reduceIte, Nat.reduceBEq, Nat.reduceEqDiff, tupleOf, stepT]
        exact hok _ _ _ hfd (kk.trans k3) o3
theorem segment_Texts_spec {A : AH} {i : Nat} {l : List (List UInt8)} {Q : Value → AH → Prop} (hi : TabA A i l) (hl : l.length ≤ 4096) (hf : ∀ t ∈ l, frE t = 0) (hq : ∀ A' u, Le A A' → OwnBs A.length A' u l → Q u A') : ACalls 1 Tryd.prog segment_Table_Texts [.pointer (some ⟨i, 0, none⟩)] Q A := by
  refine ACalls.of_fits mixed fits_segment_Table_Texts rfl ?_
  unfold ic_segment_Table_Texts
  have hi0 := hi
  obtain ⟨rv, bv, fv, hst, hrv, hb, hfv⟩ := hi
  have i0 : initA [.pointer (some ⟨i, 0, none⟩)] 0 = .pointer (some ⟨i, 0, none⟩) := rfl
  generalize initA [.pointer (some ⟨i, 0, none⟩)] = a at i0
  have l0 := row_load hst (by decide) (o := 0 + 0) (v := rv) rfl
  have hrl := hrv.lenB
  rw [rowsL_len] at hrl
  simp (maxSteps := 1000000) (disch := omega) only [stepS, reduceIte, Nat.reduceBEq, Nat.reduceEqDiff, tupleOf, stepT, i0, isnil_ptr, nilc_ptr, faddr_ptr, l0, hrl]
  refine W_loop (fun a' B => ∃ k : Nat, k ≤ l.length ∧ Le A B ∧ OwnBs A.length B (a' 3) (l.take k) ∧ a' 0 = .pointer (some ⟨i, 0, none⟩) ∧ a' 12 = rv ∧ a' 13 = ii l.length ∧ a' 14 = ii k) (fun a' _ => l.length - (iv (a' 14)).toNat) ?_ ?_
  · refine ⟨0, by omega, .refl _, ?_⟩
    simp (maxSteps := 1000000) (disch := omega) only [stepS, reduceIte, Nat.reduceBEq, Nat.reduceEqDiff, tupleOf, stepT, i0]
    exact ⟨OwnBs.nil _ _, rfl⟩
  · rintro a2 B ⟨k, hk, hle, ho, g0, g12, g13, g14⟩
    generalize ex : a2 3 = w at ho
    rcases Nat.lt_or_ge k l.length with hlt | hge
    · obtain ⟨t, ht⟩ := get_some hlt
      obtain ⟨p, _, p1, p2, _⟩ := (hrv.le hle).el (rowsL_ok l 0) (rowsL_get l 0 k t ht)
      rw [Nat.zero_add] at p2
      have k1 : Le B (B ++ [.row (rowC t (bodyL (l.take k)).length) .own 0 true]) := .push _ _
      have c1 := copy_el (sz := 2) (z := [.string ⟨#[]⟩, .int .i64 0]) (e := rowC t (bodyL (l.take k)).length) B rfl rfl rfl
      generalize hB1 : B ++ [.row (rowC t (bodyL (l.take k)).length) .own 0 true] = B1 at c1 k1
      have gx : B1[B.length]? = some (.row (rowC t (bodyL (l.take k)).length) .own 0 true) := by rw [← hB1]; exact get_snoc
      have d1 := row_loadn gx (by decide) (m := 2) rfl
      simp (maxSteps := 1000000) (disch := omega) only [stepS, reduceIte, Nat.reduceBEq, Nat.reduceEqDiff, tupleOf, stepT, g0, g12, g13, g14, ex, p1, p2, c1, d1]
      refine segment_text_spec (hi0.le (hle.trans k1)) hf hl ht fun B2 u k2 o2 b2 => ?_
      have kk := hle.trans (k1.trans k2)
      have hown := OwnBs.own ho
      obtain ⟨w', B3, e1, e2, e3, _⟩ := OwnBs.push kk (ho.le (k1.trans k2)) o2 (fun j hj hj2 => by have := b2 j hj; have := (hown j hj2).2; have := k1.len; omega) (by rw [List.length_take]; omega)
      simp (maxSteps := 1000000) (disch := omega) only [stepS, reduceIte, Nat.reduceBEq, Nat.reduceEqDiff, tupleOf, stepT, g0, g12, g13, g14, ex, lit_sl o2.one1, e1]
      refine ⟨⟨k + 1, by omega, e2, ?_, rfl⟩, by omega⟩
      rw [List.take_add_one, ht]
      simpa using e3
    · simp (maxSteps := 1000000) (disch := omega) only [stepS, reduceIte, Nat.reduceBEq, Nat.reduceEqDiff, tupleOf, stepT, g0, g12, g13, g14, ex]
      rw [List.take_of_length_le hge] at ho
      exact hq _ _ hle ho
theorem nil_isnil (t : TypeId) (B : AH) : (if kindOf (.pointer t) (.pointer none) = true then sIsnil B (.pointer none) false else none) = some (.bool true, B) := rfl
theorem segment_Texts_nil {A : AH} {Q : Value → AH → Prop} (hq : Q (.slice none 0 0) A) : ACalls 1 Tryd.prog segment_Table_Texts [.pointer none] Q A := by
  refine ACalls.of_fits mixed fits_segment_Table_Texts rfl ?_
  unfold ic_segment_Table_Texts
  have i0 : initA [.pointer none] 0 = .pointer none := rfl
  generalize initA [.pointer none] = a at i0
  simp (maxSteps := 1000000) (disch := omega) only [stepS, reduceIte, Nat.reduceBEq, Nat.reduceEqDiff, tupleOf, stepT, i0, nil_isnil]
  exact hq
theorem segment_Find_nil {A : AH} {s : ByteArray} {Q : Value → AH → Prop} (hq : Q (.tuple #[.slice none 0 0, .bool false]) A) : ACalls 1 Tryd.prog segment_Table_Find [.pointer none, .string s] Q A := by
  refine ACalls.of_fits mixed fits_segment_Table_Find rfl ?_
  unfold ic_segment_Table_Find
  have i0 : initA [.pointer none, .string s] 0 = .pointer none := rfl
  generalize initA [.pointer none, .string s] = a at i0
  simp (maxSteps := 1000000) (disch := omega) only [stepS, reduceIte, Nat.reduceBEq, Nat.reduceEqDiff, tupleOf, stepT, i0, nil_isnil]
  exact hq

theorem segment_Get_spec {A : AH} {v : Value} {bs : List UInt8} {Q : Value → AH → Prop} (hg : Le [kB] A) (hv : Byt A v bs) (hl : bs.length ≤ 2 ^ 30) (ht : (textsG bs).length ≤ 4096)
    (hok : ∀ A' i, getE bs = 0 → Le A A' → TabA A' i (getL bs) → Q (.tuple #[.pointer (some ⟨i, 0, none⟩), ii 0]) A') (hbad : ∀ A', getE bs ≠ 0 → Le A A' → Q (.tuple #[.pointer none, ii (getE bs : Nat)]) A') : ACalls 1 Tryd.prog segment_Get [v] Q A := by
  refine ACalls.of_fits mixed fits_segment_Get rfl ?_
  unfold ic_segment_Get
  have i0 : initA [v] 0 = v := rfl
  generalize initA [v] = a at i0
  simp (maxSteps := 1000000) (disch := omega) only [stepS, reduceIte, Nat.reduceBEq, Nat.reduceEqDiff, tupleOf, stepT, i0]
  refine crc_Open_spec hv (by omega) (fun own u A1 ho k1 o1 => ?_) (fun A1 ho k1 => ?_)
  rotate_left
  · have e : getE bs = 12 := by unfold getE; rw [if_pos ho]
    have := hbad A1 (by omega) k1
    rw [e] at this
    simp (maxSteps := 1000000) (disch := omega) only [stepS, reduceIte, Nat.reduceBEq, Nat.reduceEqDiff, tupleOf, stepT, i0]
    exact this
  have hne : openB bs ≠ none := by rw [ho]; simp
  have hown : ownG bs = own := by unfold ownG; rw [ho]; rfl
  have hol := openB_len ho
  have five : badG bs → getE bs = 5 := fun h => by unfold getE; rw [if_neg hne, if_pos h]
  have ul := o1.byt.lenB
  by_cases h8 : own.length < 8
  · have e := five (.inl (by rw [hown]; exact h8))
    have := hbad A1 (by omega) k1
    rw [e] at this
    simp (maxSteps := 1000000) (disch := omega) only [stepS, reduceIte, Nat.reduceBEq, Nat.reduceEqDiff, tupleOf, stepT, i0, ul]
    exact this
  · obtain ⟨t4, f1, f2⟩ := o1.byt.from (l := own.length - 4) (by omega)
    have f1' : sSll A1 u (some (.int .i64 ((own.length : Int) - 4))) none none 1 = some (t4, A1) := by
      rw [show ((own.length : Int) - 4) = ((own.length - 4 : Nat) : Int) by omega]; exact f1
    simp (maxSteps := 1000000) (disch := omega) only [stepS, reduceIte, Nat.reduceBEq, Nat.reduceEqDiff, tupleOf, stepT, i0, ul, f1']
    refine num_Unfix_spec f2 ?_
    have htl : tailG bs = unfixN (own.drop (own.length - 4)) := by unfold tailG; rw [hown]
    rw [← htl]
    by_cases he : (tailG bs).2 = 0
    · by_cases hn : own.length < (tailG bs).1
      · have e := five (.inr (.inr (.inl (by rw [hown]; exact hn))))
        have := hbad A1 (by omega) k1
        rw [e] at this
        simp (maxSteps := 1000000) (disch := omega) only [stepS, reduceIte, Nat.reduceBEq, Nat.reduceEqDiff, tupleOf, stepT, i0, ul, he]
        exact this
      · obtain ⟨t5, m1, m2⟩ := o1.byt.upto (k := (tailG bs).1) (by omega)
        have m1' : sSll A1 u none (some (.int .i64 ((tailG bs).1 : Int))) none 1 = some (t5, A1) := m1
        simp (maxSteps := 1000000) (disch := omega) only [stepS, reduceIte, Nat.reduceBEq, Nat.reduceEqDiff, tupleOf, stepT, i0, ul, he, m1']
        refine frame_Scan_spec m2 (by rw [List.length_take]; omega) fun tv A2 k2 o2 => ?_
        have htx : (scanF (own.take (tailG bs).1)).1 = textsG bs := by unfold textsG; rw [hown]
        rw [htx] at o2
        obtain ⟨tx1, tx2⟩ := textsG_len bs
        simp (maxSteps := 1000000) (disch := omega) only [stepS, reduceIte, Nat.reduceBEq, Nat.reduceEqDiff, tupleOf, stepT, i0]
        refine segment_Put_spec (hg.trans (k1.trans k2)) o2.byts ht (fun t h => by have := tx2 t h; omega) fun A3 pv k3 o3 => ?_
        by_cases hp : putE (textsG bs) = 0
        · have hvA := ((hv.le k1).le k2).le k3
          simp (maxSteps := 1000000) (disch := omega) only [stepS, reduceIte, Nat.reduceBEq, Nat.reduceEqDiff, tupleOf, stepT, i0, hp]
          refine slices_Equal_spec o3.byt hvA (by
            unfold putSg
            rw [if_pos hp, sealB_length]
            have := (putE_zero.1 hp).2.2
            omega) ?_
          by_cases heq : putSg (textsG bs) = bs
          · have hz : ¬ badG bs := by
              unfold badG
              rw [hown]
              rintro (h | h | h | h | h)
              · exact h8 h
              · exact h he
              · exact hn h
              · exact h hp
              · exact h heq
            have e : getE bs = 0 := by unfold getE; rw [if_neg hne, if_neg hz]
            rw [heq, beq_self_eq_true]
            simp (maxSteps := 1000000) (disch := omega) only [stepS, reduceIte, Nat.reduceBEq, Nat.reduceEqDiff, tupleOf, stepT, i0]
            have kk := (k1.trans k2).trans k3
            obtain ⟨z1, z2, z3⟩ := putE_zero.1 hp
            refine segment_sorted_spec (hg.trans kk) (o2.byts.le k3) (by omega) (fun t h => by have := tx2 t h; omega) fun A4 w k4 hw => ?_
            simp (maxSteps := 1000000) (disch := omega) only [stepS, reduceIte, Nat.reduceBEq, Nat.reduceEqDiff, tupleOf, stepT]
            have hlen := srtT_len (key := shaF) (textsG bs)
            have hpos : (srtT shaF (textsG bs)).length ≠ 0 := fun h => z1 (srtT_nil_iff.1 h)
            refine segment_table_spec hw (by omega) (by omega) (fun t h => z2 t (srtT_mem t h)) fun A5 i k5 _ ht5 => ?_
            simp (maxSteps := 1000000) (disch := omega) only [stepS, reduceIte, Nat.reduceBEq, Nat.reduceEqDiff, tupleOf, stepT]
            exact hok A5 i e ((kk.trans k4).trans k5) ht5
          · have hb : (putSg (textsG bs) == bs) = false := by simpa using heq
            have e := five (.inr (.inr (.inr (.inr heq))))
            have := hbad A3 (by omega) ((k1.trans k2).trans k3)
            rw [e] at this
            rw [hb]
            simp (maxSteps := 1000000) (disch := omega) only [stepS, reduceIte, Nat.reduceBEq, Nat.reduceEqDiff, tupleOf, stepT, i0]
            exact this
        · have hp' : ¬ ((putE (textsG bs) : Nat) : Int) = 0 := by omega
          have e := five (.inr (.inr (.inr (.inl hp))))
          have := hbad A3 (by omega) ((k1.trans k2).trans k3)
          rw [e] at this
          simp (maxSteps := 1000000) (disch := omega) only [stepS, reduceIte, Nat.reduceBEq, Nat.reduceEqDiff, tupleOf, stepT, i0, hp']
          exact this
    · have he' : ¬ (((tailG bs).2 : Nat) : Int) = 0 := by omega
      have e := five (.inr (.inl he))
      have := hbad A1 (by omega) k1
      rw [e] at this
      simp (maxSteps := 1000000) (disch := omega) only [stepS, reduceIte, Nat.reduceBEq, Nat.reduceEqDiff, tupleOf, stepT, i0, ul, he']
      exact this
end Go.AS.C


namespace Go.AS.C
open Go Go.Proofs
set_option linter.unusedVariables false
set_option linter.unusedSimpArgs false
set_option maxRecDepth 10000

def sumS (l : List Int) : Int := (l.map fun n => sizeF n + 37).sum
def zeroS (l : List Int) : Bool := l.any fun n => decide (sizeF n = 0)
/-- How many bytes a segment of texts of these sizes has. -/
def sizeS (l : List Int) : Int := if l.length = 0 ∨ 4096 < l.length ∨ zeroS l = true ∨ 262144 < 12 + sumS l then 0 else 12 + sumS l
theorem sizeF_bnd (n : Int) : 0 ≤ sizeF n ∧ sizeF n ≤ 65541 := by
  unfold sizeF
  split <;> omega
theorem sumS_snoc (l : List Int) (n : Int) : sumS (l ++ [n]) = sumS l + (sizeF n + 37) := by simp [sumS]
theorem sumS_bnd : ∀ l : List Int, 0 ≤ sumS l ∧ sumS l ≤ 65578 * l.length ∧ 37 * l.length ≤ sumS l
  | [] => by simp [sumS]
  | n :: l => by
    have h := sumS_bnd l
    have hn := sizeF_bnd n
    simp only [sumS, List.map_cons, List.sum_cons, List.length_cons] at h ⊢
    omega
theorem sumS_take (l : List Int) (k : Nat) : sumS (l.take k) ≤ sumS l := by
  have h := (sumS_bnd (l.drop k)).1
  have : sumS l = sumS (l.take k) + sumS (l.drop k) := by
    conv => lhs; rw [← List.take_append_drop k l]
    simp only [sumS, List.map_append, List.sum_append]
  omega
theorem zeroS_snoc (l : List Int) (n : Int) : zeroS (l ++ [n]) = (zeroS l || decide (sizeF n = 0)) := by simp [zeroS]
theorem zeroS_get {l : List Int} {k : Nat} {n : Int} (h : l[k]? = some n) (hz : sizeF n = 0) : zeroS l = true := by
  unfold zeroS
  rw [List.any_eq_true]
  exact ⟨n, List.mem_of_getElem? h, by simpa using hz⟩
theorem segment_Size_spec {A : AH} {v : Value} {l : List Int} {Q : Value → AH → Prop} (hv : Sl A 1 v l.length (ints .i64 l)) (hl : l.length ≤ 2 ^ 40) (hq : Q (ii (sizeS l)) A) : ACalls 1 Tryd.prog segment_Size [v] Q A := by
  refine ACalls.of_fits mixed fits_segment_Size rfl ?_
  unfold ic_segment_Size
  have i0 : initA [v] 0 = v := rfl
  generalize initA [v] = a at i0
  have hvl := hv.lenB
  by_cases h0 : l.length = 0
  · have e : sizeS l = 0 := by unfold sizeS; rw [if_pos (.inl h0)]
    rw [e] at hq
    simp (maxSteps := 1000000) (disch := omega) only [stepS, reduceIte, Nat.reduceBEq, Nat.reduceEqDiff, tupleOf, stepT, i0, hvl]
    exact hq
  · by_cases h1 : 4096 < l.length
    · have e : sizeS l = 0 := by unfold sizeS; rw [if_pos (.inr (.inl h1))]
      rw [e] at hq
      simp (maxSteps := 1000000) (disch := omega) only [stepS, reduceIte, Nat.reduceBEq, Nat.reduceEqDiff, tupleOf, stepT, i0, hvl]
      exact hq
    · simp (maxSteps := 1000000) (disch := omega) only [stepS, reduceIte, Nat.reduceBEq, Nat.reduceEqDiff, tupleOf, stepT, i0, hvl]
      refine W_loop (fun a' B => B = A ∧ ∃ k : Nat, k ≤ l.length ∧ zeroS (l.take k) = false ∧ (0 < k → 12 + sumS (l.take k) ≤ 262144) ∧ a' 3 = ii (12 + sumS (l.take k)) ∧ a' 15 = v ∧ a' 16 = ii l.length ∧ a' 17 = ii k) (fun a' _ => l.length - (iv (a' 17)).toNat) ?_ ?_
      · refine ⟨rfl, 0, by omega, by simp [zeroS], by omega, ?_⟩
        simp (maxSteps := 1000000) (disch := omega) only [stepS, reduceIte, Nat.reduceBEq, Nat.reduceEqDiff, tupleOf, stepT, i0]
        (all_goals (and_intros <;> first | rfl | assumption | (push_cast; rfl) | (congr 1; omega) | omega | (simp; done)))
      · rintro a2 B ⟨rfl, k, hk, hz, hs, g3, g15, g16, g17⟩
        rcases Nat.lt_or_ge k l.length with hlt | hge
        · obtain ⟨n, hn⟩ := get_some hlt
          obtain ⟨p, p1, p2⟩ := hv.at1 (j := k) (v0 := ii n) (by unfold ints; rw [List.getElem?_map, hn]; rfl)
          have hb := sumS_bnd (l.take k)
          rw [List.length_take, Nat.min_eq_left hk] at hb
          have hnb := sizeF_bnd n
          simp (maxSteps := 1000000) (disch := omega) only [stepS, reduceIte, Nat.reduceBEq, Nat.reduceEqDiff, tupleOf, stepT, g3, g15, g16, g17, p1, p2]
          refine frame_Size_spec ?_
          by_cases hn0 : sizeF n = 0
          · have e : sizeS l = 0 := by unfold sizeS; rw [if_pos (.inr (.inr (.inl (zeroS_get hn hn0))))]
            rw [e] at hq
            simp (maxSteps := 1000000) (disch := omega) only [stepS, reduceIte, Nat.reduceBEq, Nat.reduceEqDiff, tupleOf, stepT, g3, g15, g16, g17, hn0]
            exact hq
          · have hsn := sumS_snoc (l.take k) n
            have htk : l.take (k + 1) = l.take k ++ [n] := by rw [List.take_add_one, hn]; rfl
            rw [← htk] at hsn
            by_cases hbig : 262144 < 12 + sumS (l.take (k + 1))
            · have := sumS_take l (k + 1)
              have e : sizeS l = 0 := by unfold sizeS; rw [if_pos (.inr (.inr (.inr (by omega))))]
              rw [e] at hq
              simp (maxSteps := 1000000) (disch := omega) only [stepS, reduceIte, Nat.reduceBEq, Nat.reduceEqDiff, tupleOf, stepT, g3, g15, g16, g17, hn0]
              exact hq
            · simp (maxSteps := 1000000) (disch := omega) only [stepS, reduceIte, Nat.reduceBEq, Nat.reduceEqDiff, tupleOf, stepT, g3, g15, g16, g17, hn0]
              refine ⟨⟨k + 1, by omega, ?_, fun _ => by omega, ?_, rfl⟩, by omega⟩
              · rw [htk, zeroS_snoc, hz]; simp [hn0]
              · congr 1; omega
        · rw [List.take_of_length_le hge] at hz hs g3
          have e : sizeS l = 12 + sumS l := by
            unfold sizeS
            rw [if_neg]
            rintro (h | h | h | h)
            · exact h0 h
            · exact h1 h
            · rw [hz] at h; cases h
            · have := hs (by omega); omega
          rw [e] at hq
          simp (maxSteps := 1000000) (disch := omega) only [stepS, reduceIte, Nat.reduceBEq, Nat.reduceEqDiff, tupleOf, stepT, g3, g15, g16, g17]
          exact hq
theorem ref28_Size_spec {A : AH} {v : Value} {l : List Int} {Q : Value → AH → Prop} (hv : Sl A 1 v l.length (ints .i64 l)) (hl : l.length ≤ 2 ^ 40) (hq : Q (ii (sizeS l)) A) : ACalls 1 Tryd.prog chantryref28_Size [v] Q A := by
  refine ACalls.of_fits mixed fits_chantryref28_Size rfl ?_
  unfold ic_chantryref28_Size
  have i0 : initA [v] 0 = v := rfl
  generalize initA [v] = a at i0
  have hvl := hv.lenB
  simp (maxSteps := 1000000) (disch := omega) only [stepS, reduceIte, Nat.reduceBEq, Nat.reduceEqDiff, tupleOf, stepT, i0]
  refine W_loop (fun a' B => B = A ∧ ∃ k : Nat, k ≤ l.length ∧ k ≤ 4096 ∧ zeroS (l.take k) = false ∧ a' 0 = v ∧ a' 3 = ii (sumS (l.take k)) ∧ a' 4 = ii k) (fun a' _ => l.length - (iv (a' 4)).toNat) ?_ ?_
  · refine ⟨rfl, 0, by omega, by omega, by simp [zeroS], ?_⟩
    simp (maxSteps := 1000000) (disch := omega) only [stepS, reduceIte, Nat.reduceBEq, Nat.reduceEqDiff, tupleOf, stepT, i0]
    (all_goals (and_intros <;> first | rfl | assumption | (push_cast; rfl) | (congr 1; omega) | omega | (simp; done)))
  · rintro a2 B ⟨rfl, k, hk, hk4, hz, g0, g3, g4⟩
    have hb := sumS_bnd (l.take k)
    rw [List.length_take, Nat.min_eq_left hk] at hb
    rcases Nat.lt_or_ge k l.length with hlt | hge
    · obtain ⟨n, hn⟩ := get_some hlt
      obtain ⟨p, p1, p2⟩ := hv.at1 (j := k) (v0 := ii n) (by unfold ints; rw [List.getElem?_map, hn]; rfl)
      have hnb := sizeF_bnd n
      simp (maxSteps := 1000000) (disch := omega) only [stepS, reduceIte, Nat.reduceBEq, Nat.reduceEqDiff, tupleOf, stepT, g0, g3, g4, hvl, p1, p2]
      refine ref26_Size_spec ?_
      by_cases hn0 : sizeF n = 0
      · have e : sizeS l = 0 := by unfold sizeS; rw [if_pos (.inr (.inr (.inl (zeroS_get hn hn0))))]
        rw [e] at hq
        simp (maxSteps := 1000000) (disch := omega) only [stepS, reduceIte, Nat.reduceBEq, Nat.reduceEqDiff, tupleOf, stepT, g0, g3, g4, hn0]
        exact hq
      · by_cases h4 : 4096 ≤ k
        · have e : sizeS l = 0 := by unfold sizeS; rw [if_pos (.inr (.inl (by omega)))]
          rw [e] at hq
          simp (maxSteps := 1000000) (disch := omega) only [stepS, reduceIte, Nat.reduceBEq, Nat.reduceEqDiff, tupleOf, stepT, g0, g3, g4, hn0]
          exact hq
        · have hsn := sumS_snoc (l.take k) n
          have htk : l.take (k + 1) = l.take k ++ [n] := by rw [List.take_add_one, hn]; rfl
          rw [← htk] at hsn
          simp (maxSteps := 1000000) (disch := omega) only [stepS, reduceIte, Nat.reduceBEq, Nat.reduceEqDiff, tupleOf, stepT, g0, g3, g4, hn0]
          refine ⟨⟨k + 1, by omega, by omega, ?_, ?_, rfl⟩, by omega⟩
          · rw [htk, zeroS_snoc, hz]; simp [hn0]
          · congr 1; omega
    · have hkl : k = l.length := by omega
      rw [List.take_of_length_le hge] at hz g3 hb
      by_cases hs0 : sumS l = 0
      · have e : sizeS l = 0 := by unfold sizeS; rw [if_pos (.inl (by omega))]
        rw [e] at hq
        simp (maxSteps := 1000000) (disch := omega) only [stepS, reduceIte, Nat.reduceBEq, Nat.reduceEqDiff, tupleOf, stepT, g0, g3, g4, hvl, hs0]
        exact hq
      · by_cases hbig : 262144 < 12 + sumS l
        · have e : sizeS l = 0 := by unfold sizeS; rw [if_pos (.inr (.inr (.inr hbig)))]
          rw [e] at hq
          simp (maxSteps := 1000000) (disch := omega) only [stepS, reduceIte, Nat.reduceBEq, Nat.reduceEqDiff, tupleOf, stepT, g0, g3, g4, hvl, hs0]
          exact hq
        · have e : sizeS l = 12 + sumS l := by
            unfold sizeS
            rw [if_neg]
            rintro (h | h | h | h)
            · have : l = [] := List.length_eq_zero_iff.1 h
              subst this; exact hs0 rfl
            · omega
            · rw [hz] at h; cases h
            · omega
          rw [e] at hq
          have e2 : sumS l + 12 = 12 + sumS l := Int.add_comm _ _
          simp (maxSteps := 1000000) (disch := omega) only [stepS, reduceIte, Nat.reduceBEq, Nat.reduceEqDiff, tupleOf, stepT, g0, g3, g4, hvl, hs0, e2]
          exact hq
end Go.AS.C


namespace Go.AS.C
open Go Go.Proofs
set_option linter.unusedVariables false
set_option linter.unusedSimpArgs false
set_option maxRecDepth 100000

def wA : List UInt8 := [97]
def wB : List UInt8 := [98, 99]
def wBAB : List (List UInt8) := [wB, wA, wB]
theorem w1 : putE [wA] = 0 := by decide +kernel
theorem w2 : (putSg [wA]).length = 56 := by decide +kernel
theorem w3 : putE wBAB = 0 := by decide +kernel
theorem w4 : (srtT shaF wBAB).length = 2 := by decide +kernel
theorem w5 : openB ((putSg [wA]).drop 1) = none := by decide +kernel
theorem w6 : findL (srtT shaF wBAB) (idT wB) = some wB := by decide +kernel
theorem w7 : findL (srtT shaF wBAB) (idT []) = none := by decide +kernel
theorem w8 : ((putSg wBAB).length : Int) = sizeS [1, 2] := by decide +kernel
theorem w9 : sizeS [1] = 56 := by decide +kernel
theorem w10 : (scanF ((putSg wBAB).take ((putSg wBAB).length / 2))).1.length ≤ 2 := by decide +kernel
end Go.AS.C


namespace Go.AS.C
open Go Go.Proofs
set_option linter.unusedVariables false
set_option linter.unusedSimpArgs false
set_option maxRecDepth 10000

theorem lit_byts {A : AH} {len : Nat} {vs : List Value} {bss : List (List UInt8)} {ps : List (Nat × Nat × Value)} (hp : ps = mkP 0 vs) (hl : len = vs.length) (h : All2 (fun x bs => Byt A x bs) vs bss) :
    sLit A [.slice none 0 0] 1 len ps = some (.slice (some ⟨A.length, 0, none⟩) len len, A ++ [.row vs .own 1 true]) ∧ Byts (A ++ [.row vs .own 1 true]) (.slice (some ⟨A.length, 0, none⟩) len len) bss := by
  subst hl
  refine ⟨lit1 vs hp rfl (fun x hx => ?_), vs, sl_last A (by simp) (Nat.le_refl _), All2.imp (fun _ _ h => Byt.le h (Le.push _ _)) _ _ h⟩
  obtain ⟨bs, _, hb⟩ := all2_mem h x hx
  exact hb.one1
theorem getE_put {ts : List (List UInt8)} (h : putE ts = 0) (hl : ts.length ≤ 4096) : getE (putSg ts) = 0 ∧ getL (putSg ts) = srtT shaF ts ∧ (textsG (putSg ts)).length ≤ 4096 := by
  obtain ⟨h1, h2, h3⟩ := get_put h hl
  refine ⟨by unfold getE; rw [if_neg h1, if_neg h2], by unfold getL; rw [h3, srtT_idem], by rw [h3]; have := srtT_len (key := shaF) ts; omega⟩
theorem putSg_len {ts : List (List UInt8)} : (putSg ts).length ≤ 262144 := by
  unfold putSg
  split
  · rename_i h
    rw [sealB_length]
    exact (putE_zero.1 h).2.2
  · simp
theorem byts_nil (A : AH) : Byts A (.slice none 0 0) [] := ⟨[], ⟨rfl, .inl ⟨rfl, rfl⟩⟩, trivial⟩
theorem byt_nil (A : AH) : Byt A (.slice none 0 0) [] := ⟨rfl, .inl ⟨rfl, rfl⟩⟩
theorem wake {A : AH} {Q : Value → AH → Prop} (hg : Le [kB] A) (hq : ∀ A', Le A A' → Q (.bool true) A') : ACalls 1 Tryd.prog chantrylaw28_awake [] Q A := by
  refine ACalls.of_fits mixed fits_chantrylaw28_awake rfl ?_
  unfold ic_chantrylaw28_awake
  generalize initA [] = a
  -- the two texts
  have la : sLit A [.int .u8 0] 1 1 [(0, 1, .int .u8 97)] = some (.slice (some ⟨A.length, 0, none⟩) 1 1, A ++ [.row (List.map by8 wA) .own 1 true]) := litB A wA (len := 1) (ps := [(0, 1, .int .u8 97)]) rfl rfl
  have ka : Le A (A ++ [.row (List.map by8 wA) .own 1 true]) := .push _ _
  have ba := byt_last A (ex := true) wA
  have ma := mks_last A (cs := List.map by8 wA) (sz := 1) (ex := true) (n := 1) (c := 1) (by omega)
  generalize A ++ [.row (List.map by8 wA) .own 1 true] = A1 at la ka ba ma
  have lb : sLit A1 [.int .u8 0] 1 2 [(0, 1, .int .u8 98), (1, 1, .int .u8 99)] = some (.slice (some ⟨A1.length, 0, none⟩) 2 2, A1 ++ [.row (List.map by8 wB) .own 1 true]) := litB A1 wB (len := 2) (ps := [(0, 1, .int .u8 98), (1, 1, .int .u8 99)]) rfl rfl
  have kb : Le A1 (A1 ++ [.row (List.map by8 wB) .own 1 true]) := .push _ _
  have bb := byt_last A1 (ex := true) wB
  have mb := mks_last A1 (cs := List.map by8 wB) (sz := 1) (ex := true) (n := 2) (c := 2) (by omega)
  generalize A1 ++ [.row (List.map by8 wB) .own 1 true] = A2 at lb kb bb mb
  have hva : Byt A1 (.slice (some ⟨A.length, 0, none⟩) 1 1) wA := ba
  have hvb : Byt A2 (.slice (some ⟨A1.length, 0, none⟩) 2 2) wB := bb
  generalize hA : Value.slice (some ⟨A.length, 0, none⟩) 1 1 = va at la ma hva
  generalize hBv : Value.slice (some ⟨A1.length, 0, none⟩) 2 2 = vb at lb mb hvb
  have hva2 := hva.le kb
  obtain ⟨l1, b1⟩ := lit_byts (A := A2) (len := 1) (vs := [va]) (bss := [wA]) (ps := [(0, 1, va)]) rfl rfl ⟨hva2, trivial⟩
  have k3 : Le A2 (A2 ++ [.row [va] .own 1 true]) := .push _ _
  generalize A2 ++ [.row [va] .own 1 true] = A3 at l1 b1 k3
  have k03 := (ka.trans kb).trans k3
  simp (maxSteps := 1000000) (disch := omega) only [stepS, reduceIte, Nat.reduceBEq, Nat.reduceEqDiff, tupleOf, stepT, la, ma, lb, mb, l1]
  refine segment_Put_spec (hg.trans k03) b1 (by simp) (fun t ht => by simp only [List.mem_singleton] at ht; subst ht; decide) fun A4 p k4 o4 => ?_
  rw [w1]
  have hva4 := (hva2.le k3).le k4
  have hvb4 := (hvb.le k3).le k4
  obtain ⟨l2, b2⟩ := lit_byts (A := A4) (len := 3) (vs := [vb, va, vb]) (bss := wBAB) (ps := [(0, 1, vb), (1, 1, va), (2, 1, vb)]) rfl rfl ⟨hvb4, hva4, hvb4, trivial⟩
  have k5 : Le A4 (A4 ++ [.row [vb, va, vb] .own 1 true]) := .push _ _
  generalize A4 ++ [.row [vb, va, vb] .own 1 true] = A5 at l2 b2 k5
  have k05 := (k03.trans k4).trans k5
  simp (maxSteps := 1000000) (disch := omega) only [stepS, reduceIte, Nat.reduceBEq, Nat.reduceEqDiff, tupleOf, stepT, l2]
  refine segment_Put_spec (hg.trans k05) b2 (by decide) (fun t ht => by
    have : t.length ≤ 2 := by
      simp only [wBAB, List.mem_cons, List.not_mem_nil, or_false] at ht
      rcases ht with rfl | rfl | rfl <;> decide
    omega) fun A6 q k6 o6 => ?_
  rw [w3]
  have pl := o4.byt.lenB
  rw [w2] at pl
  simp (maxSteps := 1000000) (disch := omega) only [stepS, reduceIte, Nat.reduceBEq, Nat.reduceEqDiff, tupleOf, stepT, pl]
  obtain ⟨g1, g2, g3⟩ := getE_put w3 (by decide)
  have k06 := k05.trans k6
  refine segment_Get_spec (hg.trans k06) o6.byt (by have := @putSg_len wBAB; omega) g3 (fun A7 i _ k7 t7 => ?_) (fun A7 h _ => absurd g1 h)
  rw [g2] at t7
  have k07 := k06.trans k7
  have k57 := k5.trans (k6.trans k7)
  have p7 := o4.byt.le k57
  obtain ⟨u, u1, u2⟩ := p7.from (l := 1) (by rw [w2]; omega)
  have u1' : sSll A7 p (some (.int .i64 1)) none none 1 = some (u, A7) := u1
  simp (maxSteps := 1000000) (disch := omega) only [stepS, reduceIte, Nat.reduceBEq, Nat.reduceEqDiff, tupleOf, stepT, pl, u1']
  have e12 : getE ((putSg [wA]).drop 1) = 12 := by unfold getE; rw [if_pos w5]
  have tx : (textsG ((putSg [wA]).drop 1)).length ≤ 4096 := by
    have := (textsG_len ((putSg [wA]).drop 1)).1
    rw [List.length_drop, w2] at this
    omega
  refine segment_Get_spec (hg.trans k07) u2 (by rw [List.length_drop, w2]; omega) tx (fun A8 i h _ _ => by rw [e12] at h; cases h) (fun A8 _ k8 => ?_)
  rw [e12]
  have k08 := k07.trans k8
  simp (maxSteps := 1000000) (disch := omega) only [stepS, reduceIte, Nat.reduceBEq, Nat.reduceEqDiff, tupleOf, stepT]
  refine segment_Put_spec (hg.trans k08) (byts_nil _) (by decide) (fun t ht => by cases ht) fun A9 z k9 o9 => ?_
  have e1 : putE [] = 1 := rfl
  rw [e1]
  obtain ⟨l3, b3⟩ := lit_byts (A := A9) (len := 1) (vs := [.slice none 0 0]) (bss := [[]]) (ps := [(0, 1, .slice none 0 0)]) rfl rfl ⟨byt_nil _, trivial⟩
  have k10 : Le A9 (A9 ++ [.row [.slice none 0 0] .own 1 true]) := .push _ _
  generalize A9 ++ [.row [.slice none 0 0] .own 1 true] = B0 at l3 b3 k10
  have k010 := (k08.trans k9).trans k10
  simp (maxSteps := 1000000) (disch := omega) only [stepS, reduceIte, Nat.reduceBEq, Nat.reduceEqDiff, tupleOf, stepT, l3]
  refine segment_Put_spec (hg.trans k010) b3 (by decide) (fun t ht => by simp only [List.mem_singleton] at ht; subst ht; decide) fun B1 z1 k11 o11 => ?_
  have e2 : putE [[]] = 1 := rfl
  rw [e2]
  have k71 := k8.trans (k9.trans (k10.trans k11))
  have t11 := t7.le k71
  have hvb11 := ((hvb4.le k57).le k71)
  obtain ⟨z1', z2, z3⟩ := putE_zero.1 w3
  have hf : ∀ t ∈ srtT shaF wBAB, frE t = 0 := fun t h => z2 t (srtT_mem t h)
  have hr := (srtT_spec (key := shaF) wBAB).1
  simp (maxSteps := 1000000) (disch := omega) only [stepS, reduceIte, Nat.reduceBEq, Nat.reduceEqDiff, tupleOf, stepT]
  refine ref03_ID_spec hvb11 (by decide) ?_
  have hid : (.string ⟨(shaF wB).toArray⟩ : Value) = .string (idT wB) := rfl
  rw [hid]
  simp (maxSteps := 1000000) (disch := omega) only [stepS, reduceIte, Nat.reduceBEq, Nat.reduceEqDiff, tupleOf, stepT]
  refine segment_Find_spec t11 (by rw [w4]; omega) (by rw [w4]; omega) hf hr (fun B2 y t hy k12 o12 => ?_) (fun B2 h _ => by rw [w6] at h; cases h)
  rw [w6] at hy
  injection hy with hy
  subst hy
  simp (maxSteps := 1000000) (disch := omega) only [stepS, reduceIte, Nat.reduceBEq, Nat.reduceEqDiff, tupleOf, stepT]
  refine ref03_ID_spec (byt_nil _) (by decide) ?_
  have hid0 : (.string ⟨(shaF []).toArray⟩ : Value) = .string (idT []) := rfl
  rw [hid0]
  simp (maxSteps := 1000000) (disch := omega) only [stepS, reduceIte, Nat.reduceBEq, Nat.reduceEqDiff, tupleOf, stepT]
  refine segment_Find_spec (t11.le k12) (by rw [w4]; omega) (by rw [w4]; omega) hf hr (fun B3 y t hy _ _ => by rw [w7] at hy; cases hy) (fun B3 _ k13 => ?_)
  have k6b := k7.trans (k71.trans (k12.trans k13))
  have q13 := o6.byt.le k6b
  have ql := q13.lenB
  obtain ⟨u3, u4, u5⟩ := q13.upto (k := (putSg wBAB).length / 2) (by omega)
  have u4' : sSll B3 q none (some (.int .i64 (((putSg wBAB).length : Int) / 2))) none 1 = some (u3, B3) := by
    have : (((putSg wBAB).length : Int) / 2) = (((putSg wBAB).length / 2 : Nat) : Int) := by omega
    rw [this]; exact u4
  have qll := @putSg_len wBAB
  simp (maxSteps := 1000000) (disch := omega) only [stepS, reduceIte, Nat.reduceBEq, Nat.reduceEqDiff, tupleOf, stepT, ql, u4']
  refine segment_Rescue_spec u5 (by rw [List.length_take]; omega) fun tv B4 k14 o14 => ?_
  have w10' := w10
  have lr : ∀ B, sLens B false tv = some (ii (scanF ((putSg wBAB).take ((putSg wBAB).length / 2))).1.length, B) := fun B => by
    obtain ⟨vs, h1, h2, _⟩ := o14
    rw [All2.len _ _ h2]
    exact h1.sl.lenB B
  have ystr := ((o12.le k13).le k14).str
  have sbc : decide ((⟨wB.toArray⟩ : ByteArray) = ⟨#[98, 99]⟩) = true := rfl
  have plz := pl
  simp (maxSteps := 1000000) (disch := omega) only [stepS, reduceIte, Nat.reduceBEq, Nat.reduceEqDiff, tupleOf, stepT, pl, ql, ystr, sbc]
  have t14 := ((t11.le k12).le k13).le k14
  obtain ⟨rv, bv, fv, hst, hrv, _, _⟩ := id t14
  refine segment_IDs_spec hst hrv (by rw [w4]; omega) fun B5 u6 k15 o15 => ?_
  have l6 := o15.sl.lenB
  rw [List.length_map, w4] at l6
  simp (maxSteps := 1000000) (disch := omega) only [stepS, reduceIte, Nat.reduceBEq, Nat.reduceEqDiff, tupleOf, stepT, l6]
  refine segment_Texts_spec (t14.le k15) (by rw [w4]; omega) hf fun B6 u7 k16 o16 => ?_
  have l7 : ∀ B, sLens B false u7 = some (ii (2 : Nat), B) := fun B => by
    obtain ⟨vs, h1, h2, _⟩ := o16
    have e : vs.length = 2 := by rw [← All2.len _ _ h2, w4]
    have := h1.sl.lenB B
    rw [e] at this
    exact this
  have ls1 := lit1 (A := B6) (z := .int .i64 0) (len := 1) (ps := [(0, 1, ii 1)]) [ii 1] rfl rfl (by
    intro x hx
    simp only [List.mem_singleton] at hx
    subst hx; exact one1_int _ _)
  have k17 : Le B6 (B6 ++ [.row [ii 1] .own 1 true]) := .push _ _
  have sl1 := sl_last B6 (cs := [ii 1]) (st := .own) (ex := true) (c := 1) (by simp) (by simp)
  generalize B6 ++ [.row [ii 1] .own 1 true] = B7 at ls1 k17 sl1
  have l66 : sLens B5 false u6 = some (.int .i64 2, B5) := l6 B5
  have l77 : sLens B6 false u7 = some (.int .i64 2, B6) := l7 B6
  have ls1' : sLit B6 [.int .i64 0] 1 1 [(0, 1, .int .i64 1)] = some (.slice (some ⟨B6.length, 0, none⟩) 1 1, B7) := ls1
  simp (maxSteps := 1000000) (disch := omega) only [stepS, reduceIte, Nat.reduceBEq, Nat.reduceEqDiff, tupleOf, stepT, l77, ls1']
  refine segment_Size_spec (l := [1]) sl1 (by decide) ?_
  rw [w9]
  have ls2 := lit1 (A := B7) (z := .int .i64 0) (len := 2) (ps := [(0, 1, ii 1), (1, 1, ii 2)]) [ii 1, ii 2] rfl rfl (by
    intro x hx
    simp only [List.mem_cons, List.not_mem_nil, or_false] at hx
    rcases hx with rfl | rfl <;> exact one1_int _ _)
  have k18 : Le B7 (B7 ++ [.row [ii 1, ii 2] .own 1 true]) := .push _ _
  have sl2 := sl_last B7 (cs := [ii 1, ii 2]) (st := .own) (ex := true) (c := 2) (by simp) (by simp)
  generalize B7 ++ [.row [ii 1, ii 2] .own 1 true] = B8 at ls2 k18 sl2
  have ls2' : sLit B7 [.int .i64 0] 1 2 [(0, 1, .int .i64 1), (1, 1, .int .i64 2)] = some (.slice (some ⟨B7.length, 0, none⟩) 2 2, B8) := ls2
  simp (maxSteps := 1000000) (disch := omega) only [stepS, reduceIte, Nat.reduceBEq, Nat.reduceEqDiff, tupleOf, stepT, ls2']
  refine segment_Size_spec (l := [1, 2]) sl2 (by decide) ?_
  rw [← w8]
  have ql8 : ∀ B, sLens B false q = some (ii (putSg wBAB).length, B) := ql
  simp (maxSteps := 1000000) (disch := omega) only [stepS, reduceIte, Nat.reduceBEq, Nat.reduceEqDiff, tupleOf, stepT, ql8]
  refine segment_Size_spec (l := []) ⟨rfl, .inl ⟨rfl, rfl⟩⟩ (by decide) ?_
  have s0 : sizeS [] = 0 := rfl
  rw [s0]
  simp (maxSteps := 1000000) (disch := omega) only [stepS, reduceIte, Nat.reduceBEq, Nat.reduceEqDiff, tupleOf, stepT, lr]
  have kfin : Le A B8 := (((((((k06.trans k7).trans k71).trans k12).trans k13).trans k14).trans k15).trans k16).trans (k17.trans k18)
  exact hq _ kfin
end Go.AS.C


namespace Go.AS.C
open Go Go.Proofs
set_option linter.unusedVariables false
set_option linter.unusedSimpArgs false
set_option maxRecDepth 10000

end Go.AS.C


namespace Go.AS.C
open Go Go.Proofs
set_option linter.unusedVariables false
set_option linter.unusedSimpArgs false
set_option maxRecDepth 10000

end Go.AS.C


namespace Go.AS.C
open Go Go.Proofs
set_option linter.unusedVariables false
set_option linter.unusedSimpArgs false
set_option maxRecDepth 10000

theorem SegmentSizes_spec {A : AH} {v : Value} {l : List Int} {Q : Value → AH → Prop} (hg : Le [kB] A) (hv : Sl A 1 v l.length (ints .i64 l)) (hl : l.length < 2 ^ 50) (_ : ∀ n ∈ l, -9223372036854775808 ≤ n ∧ n < 9223372036854775808) (hq : ∀ A', Q (.bool true) A') : ACalls 1 Tryd.prog chantrylaw28_SegmentSizes [v] Q A := by
  refine ACalls.of_fits mixed fits_chantrylaw28_SegmentSizes rfl ?_
  unfold ic_chantrylaw28_SegmentSizes
  have i0 : initA [v] 0 = v := rfl
  generalize initA [v] = a at i0
  have hvl := hv.lenB
  by_cases h : 5000 < l.length
  · simp (maxSteps := 1000000) (disch := omega) only [stepS, reduceIte, Nat.reduceBEq, Nat.reduceEqDiff, tupleOf, stepT, i0, hvl]
    refine wake hg fun A' k => ?_
    simp (maxSteps := 1000000) (disch := omega) only [stepS, reduceIte, Nat.reduceBEq, Nat.reduceEqDiff, tupleOf, stepT]
    exact hq _
  · simp (maxSteps := 1000000) (disch := omega) only [stepS, reduceIte, Nat.reduceBEq, Nat.reduceEqDiff, tupleOf, stepT, i0, hvl]
    refine segment_Find_nil ?_
    simp (maxSteps := 1000000) (disch := omega) only [stepS, reduceIte, Nat.reduceBEq, Nat.reduceEqDiff, tupleOf, stepT, i0]
    refine segment_Size_spec hv (by omega) ?_
    simp (maxSteps := 1000000) (disch := omega) only [stepS, reduceIte, Nat.reduceBEq, Nat.reduceEqDiff, tupleOf, stepT, i0]
    refine ref28_Size_spec hv (by omega) ?_
    simp (maxSteps := 1000000) (disch := omega) only [stepS, reduceIte, Nat.reduceBEq, Nat.reduceEqDiff, tupleOf, stepT, i0]
    refine segment_IDs_nil ?_
    simp (maxSteps := 1000000) (disch := omega) only [stepS, reduceIte, Nat.reduceBEq, Nat.reduceEqDiff, tupleOf, stepT, i0]
    refine segment_Texts_nil ?_
    simp (maxSteps := 1000000) (disch := omega) only [stepS, reduceIte, Nat.reduceBEq, Nat.reduceEqDiff, tupleOf, stepT, i0]
    refine wake hg fun A' k => ?_
    simp (maxSteps := 1000000) (disch := omega) only [stepS, reduceIte, Nat.reduceBEq, Nat.reduceEqDiff, tupleOf, stepT]
    exact hq _

end Go.AS.C


namespace Go.AS.C
open Go Go.Proofs
set_option linter.unusedVariables false
set_option linter.unusedSimpArgs false
set_option maxRecDepth 10000

end Go.AS.C
