/- Lemmas for the proof of a given statement; no conditions. -/
import Derived.Test.YticplnaplklpnaaM5
set_option maxHeartbeats 1000000

namespace Go.AS.C
open Go Go.Proofs
set_option linter.unusedVariables false
set_option linter.unusedSimpArgs false
set_option maxRecDepth 10000

/-! The reference's put and cut. -/
theorem words_hi {A : AH} {v : Value} {l : List WordV} (h : WordsA A v l) {k : Nat} (hk : k ≤ l.length) : ∃ u, sSll A v none (some (ii k)) none 2 = some (u, A) ∧ WordsA A u (l.take k) := by
  obtain ⟨u, h1, h2⟩ := Sl.cut (l := 0) (k := k) h (Nat.zero_le _) (by rw [List.length_map]; exact hk) (fun c hc => bnd_hi (by rw [List.length_map] at hc; omega))
  refine ⟨u, h1, ?_⟩
  have := flatten_cut (sz := 2) (l := 0) (k := k) (wordE_ok l) (Nat.zero_le _) (by rw [List.length_map]; exact hk)
  rw [← this, List.drop_zero] at h2
  unfold WordsA
  rw [List.map_take, List.length_take, List.length_map, Nat.min_eq_left hk]
  simpa using h2
theorem words_lo {A : AH} {v : Value} {l : List WordV} (h : WordsA A v l) {k : Nat} (hk : k ≤ l.length) : ∃ u, sSll A v (some (ii k)) none none 2 = some (u, A) ∧ WordsA A u (l.drop k) := by
  obtain ⟨u, h1, h2⟩ := Sl.cut (l := k) (k := l.length) h hk (by rw [List.length_map]; exact Nat.le_refl _) (fun c hc => by rw [List.length_map] at hc ⊢; exact bnd_lo hk hc)
  refine ⟨u, h1, ?_⟩
  have := flatten_cut (sz := 2) (l := k) (k := l.length) (wordE_ok l) hk (by rw [List.length_map]; exact Nat.le_refl _)
  rw [← this, List.take_of_length_le (by rw [List.length_map]; exact Nat.le_refl _)] at h2
  unfold WordsA
  rw [List.map_drop, List.length_drop, List.length_map]
  exact h2
abbrev OwnW (a0 : Nat) (A : AH) (v : Value) (l : List WordV) : Prop := OwnE a0 A 2 v (l.map wordE)
theorem OwnW.sl {a0 : Nat} {A : AH} {v : Value} {l : List WordV} (h : OwnW a0 A v l) : WordsA A v l := h.2.sl
theorem app_ws {A0 A : AH} {z x : Value} {l m : List WordV} (hl : Le A0 A) (h : OwnW A0.length A z l) (hx : WordsA A x m) (hn : l.length + m.length ≤ 2 ^ 40) :
    ∃ v' A', sApp A z x 2 32 = some (v', A') ∧ Le A0 A' ∧ OwnW A0.length A' v' (l ++ m) := by
  obtain ⟨v', A3, u1, u2, u3, _⟩ := OwnE.app (bytes := 32) hl h hx (wordE_ok m) (by decide) (by rw [List.length_map, List.length_map]; omega) (by decide)
  refine ⟨v', A3, u1, u2, ?_⟩
  show OwnE _ _ 2 _ ((l ++ m).map wordE)
  rw [List.map_append]
  exact u3
theorem lit_ws (A : AH) : sLit A [.string ⟨#[]⟩, .string ⟨#[]⟩] 2 0 [] = some (.slice (some ⟨A.length, 0, none⟩) 0 0, A ++ [.row [] .own 2 true]) ∧ OwnW A.length (A ++ [.row [] .own 2 true]) (.slice (some ⟨A.length, 0, none⟩) 0 0) [] := lit_noneE (A0 := A) A _ 2 (.refl _)
theorem ref41_cut_spec {A : AH} {v : Value} {l : List WordV} {i : Nat} {Q : Value → AH → Prop} (hv : WordsA A v l) (hi : i < l.length) (hl : l.length ≤ 2 ^ 30) (hq : ∀ u A', Le A A' → WordsA A' u (l.take i ++ l.drop (i + 1)) → Q u A') : ACalls 0 Try.prog chantryref41_cut [v, ii i] Q A := by
  refine ACalls.of_fits mixed fits_chantryref41_cut rfl ?_
  unfold ic_chantryref41_cut
  have i0 : initA [v, ii i] 0 = v := rfl
  have i1 : initA [v, ii i] 1 = ii i := rfl
  generalize initA [v, ii i] = a at i0 i1
  obtain ⟨l1, l2⟩ := lit_ws A
  have k1 : Le A (A ++ [.row [] .own 2 true]) := .push _ _
  obtain ⟨x, x1, x2⟩ := words_hi (hv.le k1) (Nat.le_of_lt hi)
  obtain ⟨y, B, y1, y2, y3⟩ := app_ws k1 l2 x2 (by rw [List.length_take]; simp; omega)
  obtain ⟨z, z1, z2⟩ := words_lo (k := i + 1) (hv.le y2) hi
  obtain ⟨w, C, w1, w2, w3⟩ := app_ws y2 y3 z2 (by rw [List.length_append, List.length_take, List.length_drop]; simp; omega)
  have e : ((i : Nat) : Int) + 1 = ((i + 1 : Nat) : Int) := by omega
  have z1 : sSll B v (some (ii (((i : Nat) : Int) + 1))) none none 2 = some (z, B) := by rw [e]; exact z1
  simp (maxSteps := 1000000) (disch := omega) only [stepS, reduceIte, Nat.reduceBEq, Nat.reduceEqDiff, tupleOf, stepT, i0, i1, l1, x1, y1, z1, w1]
  exact hq _ _ w2 (OwnW.sl w3)
theorem ref41_put_spec {A : AH} {v : Value} {l : List WordV} {x : WordV} {Q : Value → AH → Prop} (hv : WordsA A v l) (hl : l.length ≤ 2 ^ 30) (hs : Adj ltWd l) (hx : ¬ x ∈ l) (hq : ∀ u A', Le A A' → WordsA A' u (ins ltWd x l) → Q u A') : ACalls 0 Try.prog chantryref41_put [v, .agg (wordE x).toArray] Q A := by
  refine ACalls.of_fits mixed fits_chantryref41_put rfl ?_
  unfold ic_chantryref41_put
  have i0 : initA [v, .agg (wordE x).toArray] 0 = v := rfl
  have i1 : initA [v, .agg (wordE x).toArray] 1 = .agg #[.string x.name, .string x.text] := rfl
  generalize initA [v, .agg (wordE x).toArray] = a at i0 i1
  have hvl := hv.len
  refine W_mid (fun a B => B = A ++ [.row [.string x.name, .string x.text] .own 0 true] ∧ a 0 = v ∧ a 3 = ptr A.length) ?_ ?_
  · simp (maxSteps := 1000000) (disch := omega) only [stepS, reduceIte, Nat.reduceBEq, Nat.reduceEqDiff, tupleOf, stepT, stepX, heapR, lensR, Nat.reduceAdd, Nat.reduceLeDiff, i0, i1]
  clear i0 i1
  rintro a B0 ⟨hB, g0, g3⟩
  have k0 : Le A B0 := by rw [hB]; exact .push _ _
  have r1 : rowAt B0 A.length = some ([.string x.name, .string x.text], .own, 0, true) := by rw [hB]; exact rowAt_own (get_last _ _)
  clear hB
  have hno : ¬ ∃ y ∈ l, y = x := fun ⟨y, hy, e⟩ => hx (e ▸ hy)
  have fin : ∀ k, k ≤ l.length → (∀ j e, j < k → l[j]? = some e → ltWd e x) → (∀ j e, k ≤ j → l[j]? = some e → ¬ ltWd e x) → l.take k ++ [x] ++ l.drop k = ins ltWd x l := by
    intro k hk h1 h2
    unfold ins
    rw [take_below ord4W h1 h2, drop_above ord4W h1 h2 hno, List.append_assoc]
    rfl
  obtain ⟨Pk, hPk⟩ : ∃ P : Nat → Prop, P = fun k => ∀ j e, j < k → l[j]? = some e → ltWd e x := ⟨_, rfl⟩
  refine W_mid (fun a B => B = B0 ∧ a 0 = v ∧ a 3 = ptr A.length ∧ a 5 = ii ((0 : Nat) : Int)) ?_ ?_
  · simp (maxSteps := 1000000) (disch := omega) only [stepS, reduceIte, Nat.reduceBEq, Nat.reduceEqDiff, tupleOf, stepT, stepX, heapR, lensR, Nat.reduceAdd, Nat.reduceLeDiff, g0, g3]
    rfl
  clear g0 g3
  rintro a B ⟨hB, g0, g3, g5⟩
  obtain rfl : B0 = B := hB.symm
  clear hB
  refine W_mid (fun a B => B = B0 ∧ a 0 = v ∧ a 3 = ptr A.length ∧ ∃ k : Nat, k ≤ l.length ∧ a 5 = ii k ∧ Pk k ∧ ∀ j e, k ≤ j → l[j]? = some e → ¬ ltWd e x) ?_ ?_
  · simp (maxSteps := 1000000) (disch := omega) only [stepS, reduceIte, Nat.reduceBEq, Nat.reduceEqDiff, tupleOf, stepT, stepX, heapR, lensR, Nat.reduceAdd, Nat.reduceLeDiff, g0, g3]
    refine W_loop (fun a' B => ∃ k : Nat, k ≤ l.length ∧ B = B0 ∧ a' 0 = v ∧ a' 3 = ptr A.length ∧ a' 5 = ii k ∧ Pk k) (fun a' _ => l.length - (iv (a' 5)).toNat) ?_ ?_
    · exact ⟨0, by omega, rfl, g0, g3, g5, by rw [hPk]; intro j e h; omega⟩
    · clear g0 g3 g5
      rintro a2 B ⟨k, hk, hB, g0, g3, g5, hs2⟩
      obtain rfl : B0 = B := hB.symm
      clear hB
      rcases Nat.lt_or_ge k l.length with hlt | hge
      · obtain ⟨y, hy⟩ := get_some hlt
        obtain ⟨p, pq, p1, p2, _⟩ := words_at hv hy
        have p2 : sLoadn B0 p 2 = some (.agg #[.string y.name, .string y.text], B0) := p2 B0 k0
        simp (maxSteps := 1000000) (disch := omega) only [stepS, reduceIte, Nat.reduceBEq, Nat.reduceEqDiff, tupleOf, stepT, stepX, heapR, lensR, Nat.reduceAdd, Nat.reduceLeDiff, g0, g3, g5, hvl, p1, p2, r1]
        refine ref41_less_spec (a := y) (b := x) fun c hc => ?_
        cases c with
        | true =>
          have hstep : Pk (k + 1) := by
            rw [hPk] at hs2 ⊢
            intro j e hj he
            rcases Nat.lt_or_ge j k with h | h
            · exact hs2 j e h he
            · obtain rfl : j = k := by omega
              rw [hy] at he; injection he with he
              rw [← he]; exact hc.1 rfl
          simp (maxSteps := 1000000) (disch := omega) only [stepS, reduceIte, Nat.reduceBEq, Nat.reduceEqDiff, tupleOf, stepT, stepX, heapR, lensR, Nat.reduceAdd, Nat.reduceLeDiff, g0, g3, g5]
          exact ⟨⟨k + 1, by omega, rfl, hstep⟩, by omega⟩
        | false =>
          simp (maxSteps := 1000000) (disch := omega) only [stepS, reduceIte, Nat.reduceBEq, Nat.reduceEqDiff, tupleOf, stepT, stepX, heapR, lensR, Nat.reduceAdd, Nat.reduceLeDiff, g0, g3, g5]
          refine ⟨k, hk, rfl, hs2, fun j e hj he h => ?_⟩
          have hnk : ¬ ltWd y x := fun h => by have := hc.2 h; cases this
          rcases Nat.eq_or_lt_of_le hj with rfl | hj
          · rw [hy] at he; injection he with he
            rw [← he] at h; exact hnk h
          · exact hnk (ordW.tr (adj_lt' hs ordW hj hy he) h)
      · simp (maxSteps := 1000000) (disch := omega) only [stepS, reduceIte, Nat.reduceBEq, Nat.reduceEqDiff, tupleOf, stepT, stepX, heapR, lensR, Nat.reduceAdd, Nat.reduceLeDiff, g0, g3, g5, hvl]
        exact ⟨k, hk, rfl, hs2, fun j e hj he => by have := lt_of_get he; omega⟩
  clear g0 g3 g5
  rintro a B ⟨hB, g0, g3, k, hk, g5, hs2, hs3⟩
  obtain rfl : B0 = B := hB.symm
  clear hB
  rw [hPk] at hs2
  have hfin := fin k hk hs2 hs3
  obtain ⟨l1, l2⟩ := lit_ws B0
  have k1 : Le B0 (B0 ++ [.row [] .own 2 true]) := .push _ _
  obtain ⟨u, u1, u2⟩ := words_hi (hv.le (k0.trans k1)) hk
  obtain ⟨y, C, y1, y2, y3⟩ := app_ws k1 l2 u2 (by rw [List.length_take]; simp; omega)
  have r2 := y2.row r1
  have hlit := litE (sz := 2) C (z := [.string ⟨#[]⟩, .string ⟨#[]⟩]) (e := [.string x.name, .string x.text]) rfl rfl rfl
  have k2 : Le C (C ++ [.row [.string x.name, .string x.text] .own 2 true]) := .push _ _
  have hone : WordsA (C ++ [.row [.string x.name, .string x.text] .own 2 true]) (.slice (some ⟨C.length, 0, none⟩) 1 1) [x] := sl_one C (e := wordE x) rfl (by decide)
  obtain ⟨z, D, z1, z2, z3⟩ := app_ws (y2.trans k2) (OwnE.le y3 k2) hone (by rw [List.length_append, List.length_take]; simp; omega)
  obtain ⟨q, q1, q2⟩ := words_lo (k := k) (hv.le (k0.trans z2)) hk
  obtain ⟨w, E, w1, w2, w3⟩ := app_ws z2 z3 q2 (by simp only [List.length_append, List.length_take, List.length_drop, List.length_cons, List.length_nil]; omega)
  simp (maxSteps := 1000000) (disch := omega) only [stepS, reduceIte, Nat.reduceBEq, Nat.reduceEqDiff, tupleOf, stepT, stepX, heapR, lensR, Nat.reduceAdd, Nat.reduceLeDiff, g0, g3, g5, l1, u1, y1, r2, hlit, z1, q1, w1]
  refine hq _ _ (k0.trans w2) ?_
  rw [← hfin]
  exact OwnW.sl w3
end Go.AS.C


namespace Go.AS.C
open Go Go.Proofs
set_option linter.unusedVariables false
set_option linter.unusedSimpArgs false
set_option maxRecDepth 10000

/-! The reference's turn. -/
theorem cut_at {α : Type} {lt eq : α → α → Prop} {l : List α} {i : Nat} {e x : α} (o : Ord4 lt eq) (h : Adj lt l) (he : l[i]? = some e) (hx : eq e x) : l.take i ++ l.drop (i + 1) = rem lt x l := by
  have h1 : ∀ j y, j < i → l[j]? = some y → lt y x := fun j y hj hy => o.le (adj_lt' h o.toOrd3 hj hy he) hx
  have h2 : ∀ j y, i ≤ j → l[j]? = some y → ¬ lt y x := by
    intro j y hj hy hlt
    rcases Nat.eq_or_lt_of_le hj with rfl | hj
    · rw [he] at hy; injection hy with hy; rw [← hy] at hlt; exact o.ne hx hlt
    · exact o.ne hx (o.tr (adj_lt' h o.toOrd3 hj he hy) hlt)
  unfold rem
  rw [take_below o h1 h2, drop_above' o h h1 h2 he hx]
set_option maxHeartbeats 2000000 in
theorem ref41_turn_spec {A : AH} {v : Value} {l : List WordV} {d : DeltaV} {inn : Bool} {Q : Value → AH → Prop} (hv : WordsA A v l) (hl : l.length ≤ 2 ^ 30) (hs : Adj ltWd l) (fl : ∀ x ∈ l, FinW x) (fw : FinW ⟨d.name, d.text⟩)
    (hq1 : (d.n ≠ 0 ∨ ((⟨d.name, d.text⟩ : WordV) ∈ l ↔ inn = true)) → ∀ A', Le A A' → Q (.tuple #[.slice none 0 0, .bool false]) A')
    (hq2 : d.n = 0 → inn = true → ¬ (⟨d.name, d.text⟩ : WordV) ∈ l → ∀ u A', Le A A' → WordsA A' u (ins ltWd ⟨d.name, d.text⟩ l) → Q (.tuple #[u, .bool true]) A')
    (hq3 : d.n = 0 → inn = false → (⟨d.name, d.text⟩ : WordV) ∈ l → ∀ u A', Le A A' → WordsA A' u (rem ltWd ⟨d.name, d.text⟩ l) → Q (.tuple #[u, .bool true]) A') :
    ACalls 0 Try.prog chantryref41_turn [v, .agg #[ii d.kind, .string d.name, .string d.text, ii d.n], .bool inn] Q A := by
  obtain ⟨kd, nm, tx, n⟩ := d
  show ACalls 0 Try.prog chantryref41_turn [v, .agg #[ii kd, .string nm, .string tx, ii n], .bool inn] Q A
  refine ACalls.of_fits mixed fits_chantryref41_turn rfl ?_
  unfold ic_chantryref41_turn
  have i0 : initA [v, .agg #[ii kd, .string nm, .string tx, ii n], .bool inn] 0 = v := rfl
  have i1 : initA [v, .agg #[ii kd, .string nm, .string tx, ii n], .bool inn] 1 = .agg #[ii kd, .string nm, .string tx, ii n] := rfl
  have i2 : initA [v, .agg #[ii kd, .string nm, .string tx, ii n], .bool inn] 2 = .bool inn := rfl
  generalize initA [v, .agg #[ii kd, .string nm, .string tx, ii n], .bool inn] = a at i0 i1 i2
  have hvl := hv.len
  refine W_mid (fun a' B => B = A ++ [.row [ii kd, .string nm, .string tx, ii n] .own 0 true] ∧ a' 0 = v ∧ a' 2 = .bool inn ∧ a' 4 = ptr A.length) ?_ ?_
  · simp (maxSteps := 1000000) (disch := omega) only [stepS, reduceIte, Nat.reduceBEq, Nat.reduceEqDiff, tupleOf, stepT, stepX, heapR, lensR, Nat.reduceAdd, Nat.reduceLeDiff, i0, i1, i2]
  clear i0 i1 i2
  rintro a B0 ⟨hB, g0, g2, g4⟩
  have k0 : Le A B0 := by rw [hB]; exact .push _ _
  have r2 : rowAt B0 A.length = some ([ii kd, .string nm, .string tx, ii n], .own, 0, true) := by rw [hB]; exact rowAt_own (get_last _ _)
  have hbl : B0.length = A.length + 1 := by rw [hB]; simp
  clear hB
  have hset : (B0 ++ [Blk.row [.string ⟨#[]⟩, .string ⟨#[]⟩] .own 0 true]).set B0.length (.row [.string nm, .string tx] .own 0 true) = B0 ++ [Blk.row [.string nm, .string tx] .own 0 true] := by simp
  refine W_mid (fun a' B => B = B0 ++ [Blk.row [.string nm, .string tx] .own 0 true] ∧ a' 0 = v ∧ a' 2 = .bool inn ∧ a' 4 = ptr A.length ∧ a' 8 = ptr B0.length) ?_ ?_
  · simp (maxSteps := 1000000) (disch := omega) only [stepS, reduceIte, Nat.reduceBEq, Nat.reduceEqDiff, tupleOf, stepT, stepX, heapR, lensR, Nat.reduceAdd, Nat.reduceLeDiff, g0, g2, g4, r2, hset]
  clear g0 g2 g4 hset
  rintro a B1 ⟨hB, g0, g2, g4, g8⟩
  have k1 : Le B0 B1 := by rw [hB]; exact .push _ _
  have r3 : rowAt B1 B0.length = some ([.string nm, .string tx], .own, 0, true) := by rw [hB]; exact rowAt_own (get_last _ _)
  have hbl1 : B1.length = A.length + 2 := by rw [hB]; simp; omega
  clear hB
  have kA := k0.trans k1
  have r2 := k1.row r2
  have hft : (false == true) = false := rfl
  have htf : (true == false) = false := rfl
  by_cases hn : n = 0
  · subst hn
    simp (maxSteps := 1000000) (disch := omega) only [stepS, reduceIte, Nat.reduceBEq, Nat.reduceEqDiff, tupleOf, stepT, stepX, heapR, lensR, Nat.reduceAdd, Nat.reduceLeDiff, g0, g2, g4, g8, r2, r3]
    refine ref41_has_spec (w := ⟨nm, tx⟩) (hv.le kA) (by omega) fl fw fun b hb => ?_
    cases inn with
    | true =>
      cases b with
      | true =>
        simp (maxSteps := 1000000) (disch := omega) only [stepS, reduceIte, Nat.reduceBEq, Nat.reduceEqDiff, tupleOf, stepT, stepX, heapR, lensR, Nat.reduceAdd, Nat.reduceLeDiff, g0, g2, g4, g8, r2, r3, beqB, hft, htf]
        exact hq1 (.inr ⟨fun _ => rfl, fun _ => hb.1 rfl⟩) _ kA
      | false =>
        have hno : ¬ (⟨nm, tx⟩ : WordV) ∈ l := fun e => by have := hb.2 e; cases this
        simp (maxSteps := 1000000) (disch := omega) only [stepS, reduceIte, Nat.reduceBEq, Nat.reduceEqDiff, tupleOf, stepT, stepX, heapR, lensR, Nat.reduceAdd, Nat.reduceLeDiff, g0, g2, g4, g8, r2, r3, beqB, hft, htf]
        refine ref41_put_spec (x := ⟨nm, tx⟩) (hv.le kA) hl hs hno fun u A2 e2 hu => ?_
        simp (maxSteps := 1000000) (disch := omega) only [stepS, reduceIte, Nat.reduceBEq, Nat.reduceEqDiff, tupleOf, stepT, stepX, heapR, lensR, Nat.reduceAdd, Nat.reduceLeDiff, g0, g2, g4, g8]
        exact hq2 rfl rfl hno _ _ (kA.trans e2) hu
    | false =>
      cases b with
      | false =>
        have hno : ¬ (⟨nm, tx⟩ : WordV) ∈ l := fun e => by have := hb.2 e; cases this
        simp (maxSteps := 1000000) (disch := omega) only [stepS, reduceIte, Nat.reduceBEq, Nat.reduceEqDiff, tupleOf, stepT, stepX, heapR, lensR, Nat.reduceAdd, Nat.reduceLeDiff, g0, g2, g4, g8, r2, r3, beqB, hft, htf]
        exact hq1 (.inr ⟨fun e => absurd e hno, fun e => by cases e⟩) _ kA
      | true =>
        have hyes := hb.1 rfl
        obtain ⟨Pk, hPk⟩ : ∃ P : Nat → Prop, P = fun k => ∀ y ∈ l.take k, ¬ y = (⟨nm, tx⟩ : WordV) := ⟨_, rfl⟩
        simp (maxSteps := 1000000) (disch := omega) only [stepS, reduceIte, Nat.reduceBEq, Nat.reduceEqDiff, tupleOf, stepT, stepX, heapR, lensR, Nat.reduceAdd, Nat.reduceLeDiff, g0, g2, g4, g8, r2, r3, beqB, hft, htf]
        refine W_loop (fun a' B => ∃ k : Nat, k ≤ l.length ∧ B = B1 ∧ a' 0 = v ∧ a' 8 = ptr B0.length ∧ a' 9 = ii k ∧ Pk k) (fun a' _ => l.length - (iv (a' 9)).toNat) ?_ ?_
        · refine ⟨0, by omega, rfl, ?_⟩
          simp (maxSteps := 1000000) (disch := omega) only [stepS, reduceIte, Nat.reduceBEq, Nat.reduceEqDiff, tupleOf, stepT, stepX, heapR, lensR, Nat.reduceAdd, Nat.reduceLeDiff, g0, g2, g4, g8]
          refine ⟨rfl, ?_⟩
          rw [hPk]
          intro y hy; simp at hy
        · clear g0 g2 g4 g8
          rintro a2 B ⟨k, hk, hB, g0, g8, g9, hs2⟩
          obtain rfl : B1 = B := hB.symm
          clear hB
          rcases Nat.lt_or_ge k l.length with hlt | hge
          · obtain ⟨x, hx⟩ := get_some hlt
            obtain ⟨p, pq, p1, p2, _⟩ := words_at hv hx
            have p2 : sLoadn B1 p 2 = some (.agg #[.string x.name, .string x.text], B1) := p2 B1 kA
            have he := eqW (A := B1) (n := false) (fl x (List.mem_of_getElem? hx)) fw
            by_cases hxw : x = ⟨nm, tx⟩
            · have hd : sEqagg B1 false (Try.prog.keyLits 8 42) (.agg #[.string x.name, .string x.text]) (.agg #[.string nm, .string tx]) = some (Value.bool true, B1) := he.1 hxw
              simp (maxSteps := 1000000) (disch := omega) only [stepS, reduceIte, Nat.reduceBEq, Nat.reduceEqDiff, tupleOf, stepT, stepX, heapR, lensR, Nat.reduceAdd, Nat.reduceLeDiff, g0, g8, g9, hvl, p1, p2, r3, hd]
              refine ref41_cut_spec (hv.le kA) hlt hl fun u A2 e2 hu => ?_
              rw [cut_at ord4W hs hx hxw] at hu
              simp (maxSteps := 1000000) (disch := omega) only [stepS, reduceIte, Nat.reduceBEq, Nat.reduceEqDiff, tupleOf, stepT, stepX, heapR, lensR, Nat.reduceAdd, Nat.reduceLeDiff, g0, g8, g9]
              exact hq3 rfl rfl hyes _ _ (kA.trans e2) hu
            · have hd : sEqagg B1 false (Try.prog.keyLits 8 42) (.agg #[.string x.name, .string x.text]) (.agg #[.string nm, .string tx]) = some (Value.bool false, B1) := he.2 hxw
              have hstep : Pk (k + 1) := by rw [hPk] at hs2 ⊢; exact take_notin hx hs2 hxw
              simp (maxSteps := 1000000) (disch := omega) only [stepS, reduceIte, Nat.reduceBEq, Nat.reduceEqDiff, tupleOf, stepT, stepX, heapR, lensR, Nat.reduceAdd, Nat.reduceLeDiff, g0, g8, g9, hvl, p1, p2, r3, hd]
              exact ⟨⟨k + 1, by omega, rfl, hstep⟩, by omega⟩
          · rw [hPk, List.take_of_length_le hge] at hs2
            exact absurd rfl (hs2 _ hyes)
  · simp (maxSteps := 1000000) (disch := omega) only [stepS, reduceIte, Nat.reduceBEq, Nat.reduceEqDiff, tupleOf, stepT, stepX, heapR, lensR, Nat.reduceAdd, Nat.reduceLeDiff, g0, g2, g4, g8, r2, r3]
    exact hq1 (.inl hn) _ kA
end Go.AS.C


namespace Go.AS.C
open Go Go.Proofs
set_option linter.unusedVariables false
set_option linter.unusedSimpArgs false
set_option maxRecDepth 10000

/-! The reference's line. -/
theorem ins_line {l : List WordV} {x : WordV} (h : Adj ltN l) : ins ltWd x (rem ltN x l) = ins ltN x l := by
  have imp : ∀ {m : List WordV}, m.Pairwise ltN → m.Pairwise ltWd := fun h => h.imp (fun h => .inl h)
  refine pw_ext ordW (pw_ins ord4W (imp (pw_rem ord4N (pw_of ordN h)))) (imp (pw_ins ord4N (pw_of ordN h))) fun y => ?_
  rw [mem_ins, mem_ins, mem_rem]
  constructor
  · rintro (h | ⟨⟨h1, h2⟩, _⟩)
    · exact .inl h
    · exact .inr ⟨h1, h2⟩
  · rintro (h | ⟨h1, h2⟩)
    · exact .inl h
    · exact .inr ⟨⟨h1, h2⟩, h2.imp .inl .inl⟩
theorem rem_none {l : List WordV} {x : WordV} (h : Adj ltN l) (hn : ¬ ∃ y ∈ l, eqN y x) : rem ltN x l = l := by
  refine pw_ext ordN (pw_rem ord4N (pw_of ordN h)) (pw_of ordN h) fun y => ?_
  rw [mem_rem, ord4N.ne_iff]
  exact ⟨fun h => h.1, fun hy => ⟨hy, fun e => hn ⟨y, hy, e⟩⟩⟩
def FailL (l : List WordV) (d : DeltaV) : Prop := d.n ≠ 0 ∨ (d.kind = 7 ∧ ((¬ ∃ y ∈ l, eqN y ⟨d.name, d.text⟩) ∨ d.text ≠ noT)) ∨ (d.kind = 8 ∧ (⟨d.name, d.text⟩ : WordV) ∈ l)
theorem mem_named {l : List WordV} (hs : Adj ltN l) {w : WordV} {nm tx : ByteArray} {k : Nat} (hw : l[k]? = some w) (hn : w.name = nm) : (⟨nm, tx⟩ : WordV) ∈ l ↔ w.text = tx := by
  constructor
  · intro h
    have := pw_uniq ordN (pw_of ordN hs) (fun _ _ h => h.symm) (List.mem_of_getElem? hw) h hn
    rw [this]
  · rintro rfl
    subst hn
    exact List.mem_of_getElem? hw
set_option maxHeartbeats 4000000 in
theorem ref41_line_spec {A : AH} {v : Value} {l : List WordV} {d : DeltaV} {Q : Value → AH → Prop} (hk : d.kind = 7 ∨ d.kind = 8) (hv : WordsA A v l) (hl : l.length ≤ 2 ^ 30) (hs : Adj ltN l)
    (hq1 : FailL l d → ∀ A', Le A A' → Q (.tuple #[.slice none 0 0, .bool false]) A')
    (hq2 : ¬ FailL l d → ∀ u A', Le A A' → WordsA A' u (if d.kind = 7 then rem ltN ⟨d.name, d.text⟩ l else ins ltN ⟨d.name, d.text⟩ l) → Q (.tuple #[u, .bool true]) A') :
    ACalls 0 Try.prog chantryref41_line [v, .agg #[ii d.kind, .string d.name, .string d.text, ii d.n]] Q A := by
  obtain ⟨kd, nm, tx, n⟩ := d
  show ACalls 0 Try.prog chantryref41_line [v, .agg #[ii kd, .string nm, .string tx, ii n]] Q A
  unfold FailL at hq1 hq2
  dsimp only at hk hq1 hq2
  refine ACalls.of_fits mixed fits_chantryref41_line rfl ?_
  unfold ic_chantryref41_line
  have i0 : initA [v, .agg #[ii kd, .string nm, .string tx, ii n]] 0 = v := rfl
  have i1 : initA [v, .agg #[ii kd, .string nm, .string tx, ii n]] 1 = .agg #[ii kd, .string nm, .string tx, ii n] := rfl
  generalize initA [v, .agg #[ii kd, .string nm, .string tx, ii n]] = a at i0 i1
  have hvl := hv.len
  refine W_mid (fun a' B => B = A ++ [.row [ii kd, .string nm, .string tx, ii n] .own 0 true] ∧ a' 0 = v ∧ a' 3 = ptr A.length) ?_ ?_
  · simp (maxSteps := 1000000) (disch := omega) only [stepS, reduceIte, Nat.reduceBEq, Nat.reduceEqDiff, tupleOf, stepT, stepX, heapR, lensR, Nat.reduceAdd, Nat.reduceLeDiff, i0, i1]
  clear i0 i1
  rintro a B0 ⟨hB, g0, g3⟩
  have k0 : Le A B0 := by rw [hB]; exact .push _ _
  have r2 : rowAt B0 A.length = some ([ii kd, .string nm, .string tx, ii n], .own, 0, true) := by rw [hB]; exact rowAt_own (get_last _ _)
  clear hB
  simp (maxSteps := 1000000) (disch := omega) only [stepS, reduceIte, Nat.reduceBEq, Nat.reduceEqDiff, tupleOf, stepT, stepX, heapR, lensR, Nat.reduceAdd, Nat.reduceLeDiff, g0, g3, r2]
  refine ref41_named_spec (hv.le k0) (by omega) fun m hm => ?_
  have hlt := named_lt hm
  by_cases hn : n = 0
  · subst hn
    rcases hk with rfl | rfl
    · rw [if_pos rfl] at hq2
      rcases hm with ⟨hm1, hm2⟩ | ⟨k, w, rfl, hw, hwn, hm2⟩
      · simp (maxSteps := 1000000) (disch := omega) only [stepS, reduceIte, Nat.reduceBEq, Nat.reduceEqDiff, tupleOf, stepT, stepX, heapR, lensR, Nat.reduceAdd, Nat.reduceLeDiff, g0, g3, r2, hm1]
        exact hq1 (.inr (.inl ⟨rfl, .inl (fun ⟨y, hy, e⟩ => hm2 y hy e)⟩)) _ k0
      · have hkl := lt_of_get hw
        by_cases htx : tx = noT
        · have hd : decide (tx ≠ ⟨#[]⟩) = false := decide_eq_false (fun h => h htx)
          have hok : ¬ ((0 : Int) ≠ 0 ∨ ((7 : Int) = 7 ∧ ((¬ ∃ y ∈ l, eqN y ⟨nm, tx⟩) ∨ tx ≠ noT)) ∨ ((7 : Int) = 8 ∧ (⟨nm, tx⟩ : WordV) ∈ l)) := by
            rintro (h | ⟨_, h | h⟩ | ⟨h, _⟩)
            · exact h rfl
            · exact h ⟨w, List.mem_of_getElem? hw, hwn⟩
            · exact h htx
            · exact absurd h (by decide)
          simp (maxSteps := 1000000) (disch := omega) only [stepS, reduceIte, Nat.reduceBEq, Nat.reduceEqDiff, tupleOf, stepT, stepX, heapR, lensR, Nat.reduceAdd, Nat.reduceLeDiff, g0, g3, r2, hd, ne_strD]
          refine ref41_cut_spec (hv.le k0) hkl hl fun u A2 e2 hu => ?_
          rw [cut_at (eq := eqN) ord4N hs hw (x := ⟨nm, tx⟩) (show eqN w ⟨nm, tx⟩ from hwn)] at hu
          have r2' := e2.row r2
          simp (maxSteps := 1000000) (disch := omega) only [stepS, reduceIte, Nat.reduceBEq, Nat.reduceEqDiff, tupleOf, stepT, stepX, heapR, lensR, Nat.reduceAdd, Nat.reduceLeDiff, g0, g3, r2']
          exact hq2 hok _ _ (k0.trans e2) hu
        · have hd : decide (tx ≠ ⟨#[]⟩) = true := decide_eq_true htx
          simp (maxSteps := 1000000) (disch := omega) only [stepS, reduceIte, Nat.reduceBEq, Nat.reduceEqDiff, tupleOf, stepT, stepX, heapR, lensR, Nat.reduceAdd, Nat.reduceLeDiff, g0, g3, r2, hd, ne_strD]
          exact hq1 (.inr (.inl ⟨rfl, .inr htx⟩)) _ k0
    · rw [if_neg (by decide)] at hq2
      rcases hm with ⟨hm1, hm2⟩ | ⟨k, w, rfl, hw, hwn, hm2⟩
      · have hno : ¬ ∃ y ∈ l, eqN y ⟨nm, tx⟩ := fun ⟨y, hy, e⟩ => hm2 y hy e
        have hnin : ¬ (⟨nm, tx⟩ : WordV) ∈ l := fun h => hno ⟨_, h, rfl⟩
        have hok : ¬ ((0 : Int) ≠ 0 ∨ ((8 : Int) = 7 ∧ ((¬ ∃ y ∈ l, eqN y ⟨nm, tx⟩) ∨ tx ≠ noT)) ∨ ((8 : Int) = 8 ∧ (⟨nm, tx⟩ : WordV) ∈ l)) := by
          rintro (h | ⟨h, _⟩ | ⟨_, h⟩)
          · exact h rfl
          · exact absurd h (by decide)
          · exact hnin h
        have hnn : ¬ 0 ≤ m := by omega
        simp (maxSteps := 1000000) (disch := omega) only [stepS, reduceIte, Nat.reduceBEq, Nat.reduceEqDiff, tupleOf, stepT, stepX, heapR, lensR, Nat.reduceAdd, Nat.reduceLeDiff, g0, g3, r2, hm1, hnn]
        refine ref41_put_spec (x := ⟨nm, tx⟩) (hv.le k0) hl (adjN hs) hnin fun u A2 e2 hu => ?_
        simp (maxSteps := 1000000) (disch := omega) only [stepS, reduceIte, Nat.reduceBEq, Nat.reduceEqDiff, tupleOf, stepT, stepX, heapR, lensR, Nat.reduceAdd, Nat.reduceLeDiff, g0, g3]
        refine hq2 hok _ _ (k0.trans e2) ?_
        rw [← ins_line hs, rem_none hs hno]
        exact hu
      · have hkl := lt_of_get hw
        obtain ⟨p, pq, p1, _, _, ⟨p5, p6⟩⟩ := words_at hv hw
        have p6 := p6 B0 k0
        have hmn := mem_named (tx := tx) hs hw hwn
        by_cases htx : w.text = tx
        · have hd : decide (w.text = tx) = true := decide_eq_true htx
          simp (maxSteps := 1000000) (disch := omega) only [stepS, reduceIte, Nat.reduceBEq, Nat.reduceEqDiff, tupleOf, stepT, stepX, heapR, lensR, Nat.reduceAdd, Nat.reduceLeDiff, g0, g3, r2, p1, p5, p6, hd, eq_strD]
          exact hq1 (.inr (.inr ⟨rfl, hmn.2 htx⟩)) _ k0
        · have hd : decide (w.text = tx) = false := decide_eq_false htx
          have hok : ¬ ((0 : Int) ≠ 0 ∨ ((8 : Int) = 7 ∧ ((¬ ∃ y ∈ l, eqN y ⟨nm, tx⟩) ∨ tx ≠ noT)) ∨ ((8 : Int) = 8 ∧ (⟨nm, tx⟩ : WordV) ∈ l)) := by
            rintro (h | ⟨h, _⟩ | ⟨_, h⟩)
            · exact h rfl
            · exact absurd h (by decide)
            · exact htx (hmn.1 h)
          simp (maxSteps := 1000000) (disch := omega) only [stepS, reduceIte, Nat.reduceBEq, Nat.reduceEqDiff, tupleOf, stepT, stepX, heapR, lensR, Nat.reduceAdd, Nat.reduceLeDiff, g0, g3, r2, p1, p5, p6, hd, eq_strD]
          refine ref41_cut_spec (hv.le k0) hkl hl fun u A2 e2 hu => ?_
          rw [cut_at (eq := eqN) ord4N hs hw (x := ⟨nm, tx⟩) (show eqN w ⟨nm, tx⟩ from hwn)] at hu
          have r2' := e2.row r2
          have hnin : ¬ (⟨nm, tx⟩ : WordV) ∈ rem ltN ⟨nm, tx⟩ l := fun h => (ord4N.ne_iff.1 (mem_rem.1 h).2) rfl
          simp (maxSteps := 1000000) (disch := omega) only [stepS, reduceIte, Nat.reduceBEq, Nat.reduceEqDiff, tupleOf, stepT, stepX, heapR, lensR, Nat.reduceAdd, Nat.reduceLeDiff, g0, g3, r2']
          refine ref41_put_spec (x := ⟨nm, tx⟩) hu (Nat.le_trans (rem_len ord4N) hl) (adjN (adj_rem ord4N hs)) hnin fun u' A3 e3 hu' => ?_
          simp (maxSteps := 1000000) (disch := omega) only [stepS, reduceIte, Nat.reduceBEq, Nat.reduceEqDiff, tupleOf, stepT, stepX, heapR, lensR, Nat.reduceAdd, Nat.reduceLeDiff, g0, g3]
          refine hq2 hok _ _ ((k0.trans e2).trans e3) ?_
          rw [← ins_line hs]
          exact hu'
  · simp (maxSteps := 1000000) (disch := omega) only [stepS, reduceIte, Nat.reduceBEq, Nat.reduceEqDiff, tupleOf, stepT, stepX, heapR, lensR, Nat.reduceAdd, Nat.reduceLeDiff, g0, g3, r2]
    exact hq1 (.inl hn) _ k0
end Go.AS.C


namespace Go.AS.C
open Go Go.Proofs
set_option linter.unusedVariables false
set_option linter.unusedSimpArgs false
set_option maxRecDepth 10000

/-! The reference's count. -/
section
variable {α : Type} {lt eq : α → α → Prop} {m : List α} {x y : α}
open Classical in
theorem below_snoc : below lt x (m ++ [y]) = below lt x m ++ (if lt y x then [y] else []) := by
  unfold below
  rw [List.filter_append]
  congr 1
  by_cases h : lt y x <;> simp [h]
open Classical in
theorem above_snoc : above lt x (m ++ [y]) = above lt x m ++ (if lt x y then [y] else []) := by
  unfold above
  rw [List.filter_append]
  congr 1
  by_cases h : lt x y <;> simp [h]
open Classical in
theorem below_all (h : ∀ y ∈ m, lt y x) : below lt x m = m := filter_self fun y hy => decide_eq_true (h y hy)
open Classical in
theorem above_none (h : ∀ y ∈ m, ¬ lt x y) : above lt x m = [] := filter_no fun y hy => by rw [decide_eq_true_iff]; exact h y hy
end
abbrev OwnC (a0 : Nat) (A : AH) (v : Value) (l : List CountV) : Prop := OwnE a0 A 2 v (l.map countE)
theorem app_c {A0 A : AH} {z : Value} {l : List CountV} (hl : Le A0 A) (h : OwnC A0.length A z l) (d : CountV) (hn : l.length ≤ 2 ^ 31) :
    sLit A [.string ⟨#[]⟩, .int .i64 0] 2 1 [(0, 2, .agg #[.string d.name, ii d.n])] = some (.slice (some ⟨A.length, 0, none⟩) 1 1, A ++ [.row (countE d) .own 2 true]) ∧
    ∃ v' A', sApp (A ++ [.row (countE d) .own 2 true]) z (.slice (some ⟨A.length, 0, none⟩) 1 1) 2 24 = some (v', A') ∧ Le A0 A' ∧ OwnC A0.length A' v' (l ++ [d]) := by
  refine ⟨litE (sz := 2) A (e := countE d) rfl rfl rfl, ?_⟩
  obtain ⟨v', A3, u1, u2, u3, _⟩ := OwnE.app (bytes := 24) (hl.trans (.push A (.row (countE d) .own 2 true))) (OwnE.le h (.push _ _)) (x := .slice (some ⟨A.length, 0, none⟩) 1 1) (fs := [countE d]) (sl_one A rfl (by omega)) (by intro e hm; rw [List.mem_singleton] at hm; rw [hm]; exact ⟨rfl, rfl⟩) (by decide) (by rw [List.length_map]; simp only [List.length_cons, List.length_nil]; omega) (by decide)
  refine ⟨v', A3, u1, u2, ?_⟩
  show OwnE _ _ 2 _ ((l ++ [d]).map countE)
  rw [List.map_append]
  exact u3
def FailC (l : List CountV) (d : DeltaV) : Prop := d.text ≠ noT ∨ (d.kind = 1 ∧ ((¬ ∃ y ∈ l, eqCn y ⟨d.name, 0⟩) ∨ d.n ≠ 0)) ∨ (d.kind = 2 ∧ (⟨d.name, d.n⟩ : CountV) ∈ l)
/-- What is done so far: in: it is still to be put in. -/
def Sofar (l : List CountV) (x : CountV) (kd : Int) (k : Nat) (inb : Bool) (out : List CountV) : Prop :=
  (inb = true ∧ kd = 2 ∧ out = l.take k ∧ ∀ y ∈ l.take k, ltC y x) ∨ (inb = false ∧ kd = 2 ∧ out = ins ltC x (l.take k) ∧ ∃ z ∈ l.take k, ¬ ltC z x) ∨ (inb = false ∧ kd = 1 ∧ out = rem ltC x (l.take k))
section
variable {l : List CountV} {x y : CountV} {kd : Int} {k : Nat} {inb : Bool} {out : List CountV}
theorem take_lt (hs : Adj ltC l) (hy : l[k]? = some y) : ∀ z ∈ l.take k, ltC z y := by
  intro z hz
  obtain ⟨j, hj, e⟩ := mem_take hz
  exact adj_lt' hs ordC hj e hy
theorem sofar_len (h : Sofar l x kd k inb out) : out.length ≤ l.length + 1 := by
  have ht : (l.take k).length ≤ l.length := by rw [List.length_take]; omega
  rcases h with ⟨_, _, rfl, _⟩ | ⟨_, _, rfl, _⟩ | ⟨_, _, rfl⟩
  · omega
  · have := ins_len (l := l.take k) (x := x) ord4C; omega
  · have := rem_len (l := l.take k) (x := x) ord4C; omega
theorem neC (h : ltC y x ∨ ltC x y) : ¬ y.name = x.name := fun e => ord4C.ne_iff.1 h e
/-- One goes by, and nothing is put in ahead of it. -/
theorem sofar_on (hs : Adj ltC l) (h : Sofar l x kd k inb out) (hy : l[k]? = some y) (hin : inb = true → ltC y x) : Sofar l x kd (k + 1) inb (if y.name = x.name then out else out ++ [y]) := by
  have hsu : l.take (k + 1) = l.take k ++ [y] := by rw [List.take_add_one, hy]; rfl
  have htl := take_lt hs hy
  rcases h with ⟨rfl, h1, rfl, h2⟩ | ⟨rfl, h1, rfl, z, hz, h2⟩ | ⟨rfl, h1, rfl⟩
  · have hlt := hin rfl
    rw [if_neg (neC (.inl hlt))]
    refine .inl ⟨rfl, h1, hsu.symm, fun w hw => ?_⟩
    rw [hsu, List.mem_append, List.mem_singleton] at hw
    rcases hw with hw | rfl
    · exact h2 w hw
    · exact hlt
  · have hzy := htl z hz
    have hxy : ltC x y := by
      rcases ord4C.tot x y with h | h | h
      · exact h
      · exact absurd (ordC.le hzy (ord4C.sy h)) h2
      · exact absurd (ordC.tr hzy h) h2
    have hn : ¬ ltC y x := fun h => ordC.irr _ (ordC.tr h hxy)
    rw [if_neg (neC (.inr hxy))]
    refine .inr (.inl ⟨rfl, h1, ?_, z, by rw [hsu]; exact List.mem_append_left _ hz, h2⟩)
    unfold ins
    rw [hsu, below_snoc, above_snoc, if_neg hn, if_pos hxy]
    simp
  · refine .inr (.inr ⟨rfl, h1, ?_⟩)
    unfold rem
    rw [hsu, below_snoc, above_snoc]
    rcases ord4C.tot y x with h | h | h
    · rw [if_neg (neC (.inl h)), if_pos h, if_neg (fun k => ordC.irr _ (ordC.tr k h)), above_none (fun z hz k => ordC.irr _ (ordC.tr k (ordC.tr (htl z hz) h)))]
      simp
    · rw [if_pos (show y.name = x.name from h), if_neg (ordC.ne h), if_neg (ordC.ne (ord4C.sy h))]
      simp
    · rw [if_neg (neC (.inr h)), if_neg (fun k => ordC.irr _ (ordC.tr k h)), if_pos h]
      simp
/-- It is put in ahead of one. -/
theorem sofar_put (hs : Adj ltC l) (h : Sofar l x kd k true out) (hy : l[k]? = some y) (hn : ¬ ltC y x) : Sofar l x kd (k + 1) false (if y.name = x.name then out ++ [x] else out ++ [x] ++ [y]) := by
  have hsu : l.take (k + 1) = l.take k ++ [y] := by rw [List.take_add_one, hy]; rfl
  rcases h with ⟨_, h1, rfl, h2⟩ | ⟨e, _⟩ | ⟨e, _⟩
  · refine .inr (.inl ⟨rfl, h1, ?_, y, by rw [hsu]; simp, hn⟩)
    unfold ins
    rw [hsu, below_snoc, above_snoc, if_neg hn, below_all h2, above_none (fun z hz k => ordC.irr _ (ordC.tr k (h2 z hz)))]
    rcases ord4C.tot y x with h | h | h
    · exact absurd h hn
    · rw [if_pos (show y.name = x.name from h), if_neg (ordC.ne (ord4C.sy h))]; simp
    · rw [if_neg (neC (.inr h)), if_pos h]; simp
  · cases e
  · cases e
theorem sofar_end (h : Sofar l x kd l.length inb out) : (if inb = true then out ++ [x] else out) = if kd = 1 then rem ltC x l else ins ltC x l := by
  rw [Sofar, List.take_length] at h
  rcases h with ⟨rfl, rfl, rfl, h2⟩ | ⟨rfl, rfl, rfl, _⟩ | ⟨rfl, rfl, rfl⟩
  · rw [if_pos rfl, if_neg (by decide)]
    unfold ins
    rw [below_all h2, above_none (fun z hz k => ordC.irr _ (ordC.tr k (h2 z hz)))]
  · rw [if_neg (by decide), if_neg (by decide)]
  · rw [if_neg (by decide), if_pos rfl]
end
theorem mem_counted {l : List CountV} (hs : Adj ltC l) {w : CountV} {nm : ByteArray} {n : Int} {k : Nat} (hw : l[k]? = some w) (hn : w.name = nm) : (⟨nm, n⟩ : CountV) ∈ l ↔ w.n = n := by
  constructor
  · intro h
    have := pw_uniq ordC (pw_of ordC hs) (fun _ _ h => h.symm) (List.mem_of_getElem? hw) h hn
    rw [this]
  · rintro rfl
    subst hn
    exact List.mem_of_getElem? hw
set_option maxHeartbeats 4000000 in
theorem ref41_count_spec {A : AH} {v : Value} {l : List CountV} {d : DeltaV} {Q : Value → AH → Prop} (hk : d.kind = 1 ∨ d.kind = 2) (hv : CountsA A v l) (hl : l.length ≤ 2 ^ 30) (hs : Adj ltC l)
    (hq1 : FailC l d → ∀ A', Le A A' → Q (.tuple #[.slice none 0 0, .bool false]) A')
    (hq2 : ¬ FailC l d → ∀ u A', Le A A' → CountsA A' u (if d.kind = 1 then rem ltC ⟨d.name, d.n⟩ l else ins ltC ⟨d.name, d.n⟩ l) → Q (.tuple #[u, .bool true]) A') :
    ACalls 0 Try.prog chantryref41_count [v, .agg #[ii d.kind, .string d.name, .string d.text, ii d.n]] Q A := by
  obtain ⟨kd, nm, tx, n⟩ := d
  show ACalls 0 Try.prog chantryref41_count [v, .agg #[ii kd, .string nm, .string tx, ii n]] Q A
  unfold FailC at hq1 hq2
  dsimp only at hk hq1 hq2
  refine ACalls.of_fits mixed fits_chantryref41_count rfl ?_
  unfold ic_chantryref41_count
  have i0 : initA [v, .agg #[ii kd, .string nm, .string tx, ii n]] 0 = v := rfl
  have i1 : initA [v, .agg #[ii kd, .string nm, .string tx, ii n]] 1 = .agg #[ii kd, .string nm, .string tx, ii n] := rfl
  generalize initA [v, .agg #[ii kd, .string nm, .string tx, ii n]] = a at i0 i1
  have hvl := hv.len
  refine W_mid (fun a' B => B = A ++ [.row [ii kd, .string nm, .string tx, ii n] .own 0 true] ∧ a' 0 = v ∧ a' 3 = ptr A.length) ?_ ?_
  · simp (maxSteps := 1000000) (disch := omega) only [stepS, reduceIte, Nat.reduceBEq, Nat.reduceEqDiff, tupleOf, stepT, stepX, heapR, lensR, Nat.reduceAdd, Nat.reduceLeDiff, i0, i1]
  clear i0 i1
  rintro a B0 ⟨hB, g0, g3⟩
  have k0 : Le A B0 := by rw [hB]; exact .push _ _
  have r2 : rowAt B0 A.length = some ([ii kd, .string nm, .string tx, ii n], .own, 0, true) := by rw [hB]; exact rowAt_own (get_last _ _)
  clear hB
  refine W_mid (fun a' B => B = B0 ∧ a' 0 = v ∧ a' 3 = ptr A.length ∧ ∃ m : Int, NamedAt CountV.name l nm m ∧ a' 6 = ii m) ?_ ?_
  · simp (maxSteps := 1000000) (disch := omega) only [stepS, reduceIte, Nat.reduceBEq, Nat.reduceEqDiff, tupleOf, stepT, stepX, heapR, lensR, Nat.reduceAdd, Nat.reduceLeDiff, g0, g3, r2]
    refine ref41_counted_spec (hv.le k0) (by omega) fun m hm => ?_
    simp (maxSteps := 1000000) (disch := omega) only [stepS, reduceIte, Nat.reduceBEq, Nat.reduceEqDiff, tupleOf, stepT, stepX, heapR, lensR, Nat.reduceAdd, Nat.reduceLeDiff, g0, g3]
    exact ⟨m, hm, rfl⟩
  clear g0 g3
  rintro a B ⟨hB, g0, g3, m, hm, g6⟩
  obtain rfl : B0 = B := hB.symm
  clear hB
  obtain ⟨bad, hbad⟩ : ∃ p : Prop, p = (tx ≠ noT ∨ (kd = 1 ∧ ((¬ ∃ y ∈ l, eqCn y ⟨nm, 0⟩) ∨ n ≠ 0)) ∨ (kd = 2 ∧ (⟨nm, n⟩ : CountV) ∈ l)) := ⟨_, rfl⟩
  rw [← hbad] at hq1 hq2
  refine W_midR (fun a' B => B = B0 ∧ ¬ bad ∧ a' 0 = v ∧ a' 3 = ptr A.length) ?_ ?_
  · by_cases htx : tx = noT
    · have hd : decide (tx ≠ ⟨#[]⟩) = false := decide_eq_false (fun h => h htx)
      rcases hk with rfl | rfl
      · rcases hm with ⟨hm1, hm2⟩ | ⟨k, w, rfl, hw, hwn, hm2⟩
        · have hb : bad := by rw [hbad]; exact .inr (.inl ⟨rfl, .inl (fun ⟨y, hy, e⟩ => hm2 y hy e)⟩)
          simp (maxSteps := 1000000) (disch := omega) only [stepS, reduceIte, Nat.reduceBEq, Nat.reduceEqDiff, tupleOf, stepT, stepX, heapR, lensR, Nat.reduceAdd, Nat.reduceLeDiff, g0, g3, g6, r2, hd, hm1, ne_strD, reduceCtorEq, false_and, false_or, true_and]
          exact hq1 hb _ k0
        · by_cases hn : n = 0
          · have hb : ¬ bad := by
              rw [hbad]
              rintro (h | ⟨_, h | h⟩ | ⟨h, _⟩)
              · exact h htx
              · exact h ⟨w, List.mem_of_getElem? hw, hwn⟩
              · exact h hn
              · exact absurd h (by decide)
            simp (maxSteps := 1000000) (disch := omega) only [stepS, reduceIte, Nat.reduceBEq, Nat.reduceEqDiff, tupleOf, stepT, stepX, heapR, lensR, Nat.reduceAdd, Nat.reduceLeDiff, g0, g3, g6, r2, hd, hn, ne_strD, reduceCtorEq, false_and, or_false, true_and]
            exact hb
          · have hb : bad := by rw [hbad]; exact .inr (.inl ⟨rfl, .inr hn⟩)
            simp (maxSteps := 1000000) (disch := omega) only [stepS, reduceIte, Nat.reduceBEq, Nat.reduceEqDiff, tupleOf, stepT, stepX, heapR, lensR, Nat.reduceAdd, Nat.reduceLeDiff, g0, g3, g6, r2, hd, hn, ne_strD, reduceCtorEq, false_and, false_or, true_and]
            exact hq1 hb _ k0
      · rcases hm with ⟨hm1, hm2⟩ | ⟨k, w, rfl, hw, hwn, hm2⟩
        · have hb : ¬ bad := by
            rw [hbad]
            rintro (h | ⟨h, _⟩ | ⟨_, h⟩)
            · exact h htx
            · exact absurd h (by decide)
            · exact hm2 _ h rfl
          have hmm : ¬ 0 ≤ m := by omega
          simp (maxSteps := 1000000) (disch := omega) only [stepS, reduceIte, Nat.reduceBEq, Nat.reduceEqDiff, tupleOf, stepT, stepX, heapR, lensR, Nat.reduceAdd, Nat.reduceLeDiff, g0, g3, g6, r2, hd, hm1, hmm, ne_strD, reduceCtorEq, false_and, or_false, true_and]
          exact hb
        · obtain ⟨p, pq, p1, _, _, ⟨p5, p6⟩⟩ := counts_at hv hw
          have p6 := p6 B0 k0
          have hmn := mem_counted (n := n) hs hw hwn
          by_cases hn : w.n = n
          · have hb : bad := by rw [hbad]; exact .inr (.inr ⟨rfl, hmn.2 hn⟩)
            simp (maxSteps := 1000000) (disch := omega) only [stepS, reduceIte, Nat.reduceBEq, Nat.reduceEqDiff, tupleOf, stepT, stepX, heapR, lensR, Nat.reduceAdd, Nat.reduceLeDiff, g0, g3, g6, r2, hd, p1, p5, p6, hn, ne_strD, reduceCtorEq, false_and, false_or, true_and]
            exact hq1 hb _ k0
          · have hb : ¬ bad := by
              rw [hbad]
              rintro (h | ⟨h, _⟩ | ⟨_, h⟩)
              · exact h htx
              · exact absurd h (by decide)
              · exact hn (hmn.1 h)
            simp (maxSteps := 1000000) (disch := omega) only [stepS, reduceIte, Nat.reduceBEq, Nat.reduceEqDiff, tupleOf, stepT, stepX, heapR, lensR, Nat.reduceAdd, Nat.reduceLeDiff, g0, g3, g6, r2, hd, p1, p5, p6, hn, ne_strD, reduceCtorEq, false_and, or_false, true_and]
            exact hb
    · have hd : decide (tx ≠ ⟨#[]⟩) = true := decide_eq_true htx
      have hb : bad := by rw [hbad]; exact .inl htx
      simp (maxSteps := 1000000) (disch := omega) only [stepS, reduceIte, Nat.reduceBEq, Nat.reduceEqDiff, tupleOf, stepT, stepX, heapR, lensR, Nat.reduceAdd, Nat.reduceLeDiff, g0, g3, g6, r2, hd, ne_strD, reduceCtorEq, false_and, false_or, true_and]
      exact hq1 hb _ k0
  clear g0 g3 g6
  rintro a B ⟨hB, hnb, g0, g3⟩
  obtain rfl : B0 = B := hB.symm
  clear hB
  refine W_mid (fun a' B => B = B0 ∧ a' 0 = v ∧ a' 3 = ptr A.length ∧ a' 7 = .slice none 0 0) ?_ ?_
  · simp (maxSteps := 1000000) (disch := omega) only [stepS, reduceIte, Nat.reduceBEq, Nat.reduceEqDiff, tupleOf, stepT, stepX, heapR, lensR, Nat.reduceAdd, Nat.reduceLeDiff, g0, g3]
  clear g0 g3
  rintro a B ⟨hB, g0, g3, g7⟩
  obtain rfl : B0 = B := hB.symm
  clear hB
  refine W_mid (fun a' B => B = B0 ∧ a' 0 = v ∧ a' 3 = ptr A.length ∧ a' 7 = .slice none 0 0 ∧ a' 8 = .bool (decide (kd = 2))) ?_ ?_
  · rcases hk with rfl | rfl
    · simp (maxSteps := 1000000) (disch := omega) only [stepS, reduceIte, Nat.reduceBEq, Nat.reduceEqDiff, tupleOf, stepT, stepX, heapR, lensR, Nat.reduceAdd, Nat.reduceLeDiff, g0, g3, g7, r2]
      (all_goals (and_intros <;> first | rfl | assumption | (push_cast; rfl) | (congr 1; omega) | omega | (simp; done)))
    · simp (maxSteps := 1000000) (disch := omega) only [stepS, reduceIte, Nat.reduceBEq, Nat.reduceEqDiff, tupleOf, stepT, stepX, heapR, lensR, Nat.reduceAdd, Nat.reduceLeDiff, g0, g3, g7, r2]
      (all_goals (and_intros <;> first | rfl | assumption | (push_cast; rfl) | (congr 1; omega) | omega | (simp; done)))
  clear g0 g3 g7
  rintro a B ⟨hB, g0, g3, g7, g8⟩
  obtain rfl : B0 = B := hB.symm
  clear hB
  obtain ⟨P, hP⟩ : ∃ P : Nat → Value → Value → AH → Prop, P = fun k z7 z8 B => ∃ inb out, z8 = .bool inb ∧ OwnC B0.length B z7 out ∧ Sofar l ⟨nm, n⟩ kd k inb out ∧ Le B0 B := ⟨_, rfl⟩
  have mk : ∀ {k : Nat} {z7 : Value} {inb : Bool} {out : List CountV} {B : AH}, OwnC B0.length B z7 out → Sofar l ⟨nm, n⟩ kd k inb out → Le B0 B → P k z7 (.bool inb) B := fun h1 h2 h3 => by rw [hP]; exact ⟨_, _, rfl, h1, h2, h3⟩
  refine W_mid (fun a' B => a' 3 = ptr A.length ∧ P l.length (a' 7) (a' 8) B) ?_ ?_
  · have hp0 : P 0 (.slice none 0 0) (.bool (decide (kd = 2))) B0 := by
      refine mk (out := []) (OwnE.nil _ _ _) ?_ (.refl _)
      rcases hk with rfl | rfl
      · exact .inr (.inr ⟨rfl, rfl, by rw [List.take_zero]; rfl⟩)
      · exact .inl ⟨rfl, rfl, by rw [List.take_zero], by rw [List.take_zero]; intro y hy; cases hy⟩
    simp (maxSteps := 1000000) (disch := omega) only [stepS, reduceIte, Nat.reduceBEq, Nat.reduceEqDiff, tupleOf, stepT, stepX, heapR, lensR, Nat.reduceAdd, Nat.reduceLeDiff, g0, g3]
    refine W_loop (fun a' B => ∃ k : Nat, k ≤ l.length ∧ a' 0 = v ∧ a' 3 = ptr A.length ∧ a' 9 = ii k ∧ P k (a' 7) (a' 8) B) (fun a' _ => l.length - (iv (a' 9)).toNat) ?_ ?_
    · refine ⟨0, by omega, ?_⟩
      simp (maxSteps := 1000000) (disch := omega) only [stepS, reduceIte, Nat.reduceBEq, Nat.reduceEqDiff, tupleOf, stepT, stepX, heapR, lensR, Nat.reduceAdd, Nat.reduceLeDiff, g0, g3, g7, g8]
      exact ⟨rfl, hp0⟩
    · clear g0 g3 g7 g8 hp0
      rintro a B ⟨k, hkl, g0, g3, g9, hp⟩
      obtain ⟨z7, g7⟩ : ∃ z, a 7 = z := ⟨_, rfl⟩
      obtain ⟨z8, g8⟩ : ∃ z, a 8 = z := ⟨_, rfl⟩
      rw [g7, g8] at hp
      rcases Nat.lt_or_ge k l.length with hlt | hge
      · rw [hP] at hp
        obtain ⟨inb, out, rfl, o1, o2, o3⟩ := hp
        obtain ⟨y, hy⟩ := get_some hlt
        obtain ⟨p, pq, p1, p2, ⟨p3, p4⟩, _⟩ := counts_at hv hy
        have p2' : ∀ C, Le B C → sLoadn C p 2 = some (.agg #[.string y.name, ii y.n], C) := fun C h => p2 C ((k0.trans o3).trans h)
        have p4' : ∀ C, Le B C → sLoad1 C pq.1 = some (.string y.name, C) := fun C h => p4 C ((k0.trans o3).trans h)
        have r2' := o3.row r2
        have b2 := p2' B (.refl _)
        have b4 := p4' B (.refl _)
        have hlen := sofar_len o2
        have on := sofar_on hs o2 hy
        cases inb with
        | false =>
          have hlts : True := trivial
          have on := on (fun h => by cases h)
          by_cases hnm : y.name = nm
          · have hd : decide (y.name ≠ nm) = false := decide_eq_false (fun h => h hnm)
            rw [if_pos hnm] at on
            have hnew := mk o1 on o3
            simp (maxSteps := 1000000) (disch := omega) only [stepS, reduceIte, Nat.reduceBEq, Nat.reduceEqDiff, tupleOf, stepT, stepX, heapR, lensR, Nat.reduceAdd, Nat.reduceLeDiff, g0, g3, g9, g7, g8, r2', hvl, p1, p3, b4, hlts, hd, geS, ne_strD]
            exact ⟨⟨k + 1, by omega, rfl, hnew⟩, by omega⟩
          · have hd : decide (y.name ≠ nm) = true := decide_eq_true hnm
            rw [if_neg hnm] at on
            obtain ⟨q1, u, A', q2, q3, q4⟩ := app_c o3 o1 y (by omega)
            have hnew := mk q4 on q3
            simp (maxSteps := 1000000) (disch := omega) only [stepS, reduceIte, Nat.reduceBEq, Nat.reduceEqDiff, tupleOf, stepT, stepX, heapR, lensR, Nat.reduceAdd, Nat.reduceLeDiff, g0, g3, g9, g7, g8, r2', hvl, p1, p3, b4, b2, q1, q2, hlts, hd, geS, ne_strD]
            exact ⟨⟨k + 1, by omega, rfl, hnew⟩, by omega⟩
        | true =>
          by_cases hyx : bl y.name < bl nm
          · have hlts : decide (¬ bl y.name < bl nm) = false := decide_eq_false (fun h => h hyx)
            have on := on (fun _ => hyx)
            by_cases hnm : y.name = nm
            · have hd : decide (y.name ≠ nm) = false := decide_eq_false (fun h => h hnm)
              rw [if_pos hnm] at on
              have hnew := mk o1 on o3
              simp (maxSteps := 1000000) (disch := omega) only [stepS, reduceIte, Nat.reduceBEq, Nat.reduceEqDiff, tupleOf, stepT, stepX, heapR, lensR, Nat.reduceAdd, Nat.reduceLeDiff, g0, g3, g9, g7, g8, r2', hvl, p1, p3, b4, hlts, hd, geS, ne_strD]
              exact ⟨⟨k + 1, by omega, rfl, hnew⟩, by omega⟩
            · have hd : decide (y.name ≠ nm) = true := decide_eq_true hnm
              rw [if_neg hnm] at on
              obtain ⟨q1, u, A', q2, q3, q4⟩ := app_c o3 o1 y (by omega)
              have hnew := mk q4 on q3
              simp (maxSteps := 1000000) (disch := omega) only [stepS, reduceIte, Nat.reduceBEq, Nat.reduceEqDiff, tupleOf, stepT, stepX, heapR, lensR, Nat.reduceAdd, Nat.reduceLeDiff, g0, g3, g9, g7, g8, r2', hvl, p1, p3, b4, b2, q1, q2, hlts, hd, geS, ne_strD]
              exact ⟨⟨k + 1, by omega, rfl, hnew⟩, by omega⟩
          · have hlts : decide (¬ bl y.name < bl nm) = true := decide_eq_true hyx
            have on := sofar_put hs o2 hy hyx
            obtain ⟨q1, u, A', q2, q3, q4⟩ := app_c o3 o1 ⟨nm, n⟩ (by omega)
            have r2'' := q3.row r2
            have c2 : sLoadn A' p 2 = some (.agg #[.string y.name, ii y.n], A') := p2 A' (k0.trans q3)
            have c4 := p4 A' (k0.trans q3)
            by_cases hnm : y.name = nm
            · have hd : decide (y.name ≠ nm) = false := decide_eq_false (fun h => h hnm)
              rw [if_pos hnm] at on
              have hnew := mk q4 on q3
              simp (maxSteps := 1000000) (disch := omega) only [stepS, reduceIte, Nat.reduceBEq, Nat.reduceEqDiff, tupleOf, stepT, stepX, heapR, lensR, Nat.reduceAdd, Nat.reduceLeDiff, g0, g3, g9, g7, g8, r2', r2'', hvl, p1, p3, b4, c4, q1, q2, hlts, hd, geS, ne_strD]
              exact ⟨⟨k + 1, by omega, rfl, hnew⟩, by omega⟩
            · have hd : decide (y.name ≠ nm) = true := decide_eq_true hnm
              rw [if_neg hnm] at on
              obtain ⟨s1, w, A3, s2, s3, s4⟩ := app_c q3 q4 y (by simp only [List.length_append, List.length_cons, List.length_nil]; omega)
              have hnew := mk s4 on s3
              simp (maxSteps := 1000000) (disch := omega) only [stepS, reduceIte, Nat.reduceBEq, Nat.reduceEqDiff, tupleOf, stepT, stepX, heapR, lensR, Nat.reduceAdd, Nat.reduceLeDiff, g0, g3, g9, g7, g8, r2', r2'', hvl, p1, p3, b4, c4, c2, q1, q2, s1, s2, hlts, hd, geS, ne_strD]
              exact ⟨⟨k + 1, by omega, rfl, hnew⟩, by omega⟩
      · obtain rfl : k = l.length := by omega
        simp (maxSteps := 1000000) (disch := omega) only [stepS, reduceIte, Nat.reduceBEq, Nat.reduceEqDiff, tupleOf, stepT, stepX, heapR, lensR, Nat.reduceAdd, Nat.reduceLeDiff, g0, g3, g9, g7, g8, hvl]
        exact hp
  clear g0 g3 g7 g8
  rintro a B ⟨g3, hp⟩
  obtain ⟨z7, g7⟩ : ∃ z, a 7 = z := ⟨_, rfl⟩
  obtain ⟨z8, g8⟩ : ∃ z, a 8 = z := ⟨_, rfl⟩
  rw [g7, g8, hP] at hp
  obtain ⟨inb, out, rfl, o1, o2, o3⟩ := hp
  have hend := sofar_end o2
  have r2' := o3.row r2
  have hlen := sofar_len o2
  cases inb with
  | false =>
    rw [if_neg (by decide)] at hend
    simp (maxSteps := 1000000) (disch := omega) only [stepS, reduceIte, Nat.reduceBEq, Nat.reduceEqDiff, tupleOf, stepT, stepX, heapR, lensR, Nat.reduceAdd, Nat.reduceLeDiff, g3, g7, g8]
    refine hq2 hnb _ _ (k0.trans o3) ?_
    rw [← hend]
    exact o1.2.sl
  | true =>
    rw [if_pos rfl] at hend
    obtain ⟨q1, u, A', q2, q3, q4⟩ := app_c o3 o1 ⟨nm, n⟩ (by omega)
    simp (maxSteps := 1000000) (disch := omega) only [stepS, reduceIte, Nat.reduceBEq, Nat.reduceEqDiff, tupleOf, stepT, stepX, heapR, lensR, Nat.reduceAdd, Nat.reduceLeDiff, g3, g7, g8, r2', q1, q2]
    refine hq2 hnb _ _ (k0.trans q3) ?_
    rw [← hend]
    exact q4.2.sl
end Go.AS.C


namespace Go.AS.C
open Go Go.Proofs
set_option linter.unusedVariables false
set_option linter.unusedSimpArgs false
set_option maxRecDepth 10000

/-! The reference's Apply (printed by gen41refapply.py). -/
theorem deltas_at {A : AH} {v : Value} {l : List DeltaV} (h : DeltasA A v l) {j : Nat} {w : DeltaV} (hj : l[j]? = some w) : ∃ p q, (∀ (B : AH) (n : Int), n = (j : Int) → sIaddr B v (.int .i64 n) 4 = some (p, B)) ∧ (∀ B, Le A B → sLoadn B p 4 = some (.agg #[ii w.kind, .string w.name, .string w.text, ii w.n], B)) ∧ (∀ B, sFaddr B p 0 = some (q, B)) ∧ ∀ B, Le A B → sLoad1 B q = some (ii w.kind, B) := by
  obtain ⟨p, p1, p2⟩ := h.at hj
  obtain ⟨p', q, u1, u2, u3⟩ := Sl.elfL h (deltaE_ok l) (j := j) (o := 0) (e := deltaE w) (x := ii w.kind) (by rw [List.getElem?_map, hj]; rfl) rfl
  have e : p' = p := by
    have h1 := p1 A j rfl
    rw [u1 A j rfl] at h1
    injection h1 with h1
    injection h1 with h1 _
  subst e
  exact ⟨p', q, p1, p2, u2, u3⟩
section
variable {s : StateV} {nm tx : ByteArray} {n : Int}
theorem bad1 (h : FailC s.counts ⟨1, nm, tx, n⟩) : stepD s ⟨1, nm, tx, n⟩ = none := by
  rcases h with h | ⟨_, h | h⟩ | ⟨h, _⟩
  · exact stepD_odd (.inr ⟨.inl rfl, h⟩)
  · exact stepD_none (turn1.trans (if_neg h))
  · exact stepD_odd (.inl ⟨by simp, h⟩)
  · exact absurd (show (1 : Int) = 2 from h) (by decide)
theorem ok1 (h : ¬ FailC s.counts ⟨1, nm, tx, n⟩) : stepD s ⟨1, nm, tx, n⟩ = some { s with counts := rem ltC ⟨nm, n⟩ s.counts } := by
  have h1 : ∃ y ∈ s.counts, eqCn y ⟨nm, 0⟩ := Classical.not_not.1 fun k => h (.inr (.inl ⟨rfl, .inl k⟩))
  have h2 : n = 0 := Classical.not_not.1 fun k => h (.inr (.inl ⟨rfl, .inr k⟩))
  have h3 : tx = noT := Classical.not_not.1 fun k => h (.inl k)
  rw [stepD_turn (by rintro (⟨_, k⟩ | ⟨_, k⟩); exact k h2; exact k h3), turn1, if_pos h1]
  rfl
theorem bad2 (h : FailC s.counts ⟨2, nm, tx, n⟩) : stepD s ⟨2, nm, tx, n⟩ = none := by
  rcases h with h | ⟨h, _⟩ | ⟨_, h⟩
  · exact stepD_odd (.inr ⟨.inr (.inl rfl), h⟩)
  · exact absurd (show (2 : Int) = 1 from h) (by decide)
  · exact stepD_none (turn2.trans (if_pos ⟨⟨_, h, rfl⟩, .inr h⟩))
theorem ok2 (h : ¬ FailC s.counts ⟨2, nm, tx, n⟩) : stepD s ⟨2, nm, tx, n⟩ = some { s with counts := ins ltC ⟨nm, n⟩ s.counts } := by
  have h1 : ¬ (⟨nm, n⟩ : CountV) ∈ s.counts := fun k => h (.inr (.inr ⟨rfl, k⟩))
  have h3 : tx = noT := Classical.not_not.1 fun k => h (.inl k)
  rw [stepD_turn (by rintro (⟨k, _⟩ | ⟨_, k⟩); exact k rfl; exact k h3), turn2, if_neg]
  rintro ⟨_, k | k⟩
  · cases k
  · exact h1 k
theorem bad7 (h : FailL s.lines ⟨7, nm, tx, n⟩) : stepD s ⟨7, nm, tx, n⟩ = none := by
  rcases h with h | ⟨_, h | h⟩ | ⟨h, _⟩
  · exact stepD_odd (.inl ⟨by simp, h⟩)
  · exact stepD_none (turn7.trans (if_neg h))
  · exact stepD_odd (.inr ⟨.inr (.inr rfl), h⟩)
  · exact absurd (show (7 : Int) = 8 from h) (by decide)
theorem ok7 (h : ¬ FailL s.lines ⟨7, nm, tx, n⟩) : stepD s ⟨7, nm, tx, n⟩ = some { s with lines := rem ltN ⟨nm, tx⟩ s.lines } := by
  have h1 : ∃ y ∈ s.lines, eqN y ⟨nm, tx⟩ := Classical.not_not.1 fun k => h (.inr (.inl ⟨rfl, .inl k⟩))
  have h2 : n = 0 := Classical.not_not.1 fun k => h (.inl k)
  have h3 : tx = noT := Classical.not_not.1 fun k => h (.inr (.inl ⟨rfl, .inr k⟩))
  rw [stepD_turn (by rintro (⟨_, k⟩ | ⟨_, k⟩); exact k h2; exact k h3), turn7, if_pos h1]
theorem bad8 (h : FailL s.lines ⟨8, nm, tx, n⟩) : stepD s ⟨8, nm, tx, n⟩ = none := by
  rcases h with h | ⟨h, _⟩ | ⟨_, h⟩
  · exact stepD_odd (.inl ⟨by simp, h⟩)
  · exact absurd (show (8 : Int) = 7 from h) (by decide)
  · exact stepD_none (turn8.trans (if_pos ⟨⟨_, h, rfl⟩, .inr h⟩))
theorem ok8 (h : ¬ FailL s.lines ⟨8, nm, tx, n⟩) : stepD s ⟨8, nm, tx, n⟩ = some { s with lines := ins ltN ⟨nm, tx⟩ s.lines } := by
  have h1 : ¬ (⟨nm, tx⟩ : WordV) ∈ s.lines := fun k => h (.inr (.inr ⟨rfl, k⟩))
  have h2 : n = 0 := Classical.not_not.1 fun k => h (.inl k)
  rw [stepD_turn (by rintro (⟨_, k⟩ | ⟨k, _⟩); exact k h2; exact absurd (show (8 : Int) = 1 ∨ (8 : Int) = 2 ∨ (8 : Int) = 7 from k) (by decide)), turn8, if_neg]
  rintro ⟨_, k | k⟩
  · cases k
  · exact h1 k
theorem bad3 (h : n ≠ 0 ∨ ((⟨nm, tx⟩ : WordV) ∈ s.members ↔ false = true)) : stepD s ⟨3, nm, tx, n⟩ = none := by
  rcases h with h | h
  · exact stepD_odd (.inl ⟨by simp, h⟩)
  · exact stepD_none (turn3.trans (if_neg (fun ⟨y, hy, e⟩ => by subst e; have := h.1 hy; cases this)))
theorem ok3 (h : n = 0) (k : (⟨nm, tx⟩ : WordV) ∈ s.members) : stepD s ⟨3, nm, tx, n⟩ = some { s with members := rem ltWd ⟨nm, tx⟩ s.members } := by
  rw [stepD_turn (by rintro (⟨_, k⟩ | ⟨k, _⟩); exact k h; exact absurd (show (3 : Int) = 1 ∨ (3 : Int) = 2 ∨ (3 : Int) = 7 from k) (by decide)), turn3, if_pos ⟨_, k, rfl⟩]
theorem bad4 (h : n ≠ 0 ∨ ((⟨nm, tx⟩ : WordV) ∈ s.members ↔ true = true)) : stepD s ⟨4, nm, tx, n⟩ = none := by
  rcases h with h | h
  · exact stepD_odd (.inl ⟨by simp, h⟩)
  · exact stepD_none (turn4.trans (if_pos ⟨⟨_, h.2 rfl, rfl⟩, .inl rfl⟩))
theorem ok4 (h : n = 0) (k : ¬ (⟨nm, tx⟩ : WordV) ∈ s.members) : stepD s ⟨4, nm, tx, n⟩ = some { s with members := ins ltWd ⟨nm, tx⟩ s.members } := by
  rw [stepD_turn (by rintro (⟨_, k⟩ | ⟨k, _⟩); exact k h; exact absurd (show (4 : Int) = 1 ∨ (4 : Int) = 2 ∨ (4 : Int) = 7 from k) (by decide)), turn4, if_neg (fun ⟨⟨y, hy, e⟩, _⟩ => k (e ▸ hy))]
theorem bad5 (h : n ≠ 0 ∨ ((⟨nm, tx⟩ : WordV) ∈ s.values ↔ false = true)) : stepD s ⟨5, nm, tx, n⟩ = none := by
  rcases h with h | h
  · exact stepD_odd (.inl ⟨by simp, h⟩)
  · exact stepD_none (turn5.trans (if_neg (fun ⟨y, hy, e⟩ => by subst e; have := h.1 hy; cases this)))
theorem ok5 (h : n = 0) (k : (⟨nm, tx⟩ : WordV) ∈ s.values) : stepD s ⟨5, nm, tx, n⟩ = some { s with values := rem ltWd ⟨nm, tx⟩ s.values } := by
  rw [stepD_turn (by rintro (⟨_, k⟩ | ⟨k, _⟩); exact k h; exact absurd (show (5 : Int) = 1 ∨ (5 : Int) = 2 ∨ (5 : Int) = 7 from k) (by decide)), turn5, if_pos ⟨_, k, rfl⟩]
theorem bad6 (h : n ≠ 0 ∨ ((⟨nm, tx⟩ : WordV) ∈ s.values ↔ true = true)) : stepD s ⟨6, nm, tx, n⟩ = none := by
  rcases h with h | h
  · exact stepD_odd (.inl ⟨by simp, h⟩)
  · exact stepD_none (turn6.trans (if_pos ⟨⟨_, h.2 rfl, rfl⟩, .inl rfl⟩))
theorem ok6 (h : n = 0) (k : ¬ (⟨nm, tx⟩ : WordV) ∈ s.values) : stepD s ⟨6, nm, tx, n⟩ = some { s with values := ins ltWd ⟨nm, tx⟩ s.values } := by
  rw [stepD_turn (by rintro (⟨_, k⟩ | ⟨k, _⟩); exact k h; exact absurd (show (6 : Int) = 1 ∨ (6 : Int) = 2 ∨ (6 : Int) = 7 from k) (by decide)), turn6, if_neg (fun ⟨⟨y, hy, e⟩, _⟩ => k (e ▸ hy))]
end
theorem ref41_Tidy_spec' {A : AH} {x : Value} {s : StateV} {Q : Value → AH → Prop} (hx : StateA A x s) (hs : BigS s (2 ^ 25)) (hq : ∀ b : Bool, (b = true ↔ TidyS s) → Q (.bool b) A) : ACalls 0 Try.prog chantryref41_Tidy [x] Q A := by
  obtain ⟨⟨a1, a2⟩, ⟨b1, b2⟩, ⟨c1, c2⟩, d1, d2⟩ := hs
  exact ref41_Tidy_spec hx ⟨⟨by omega, a2⟩, ⟨by omega, b2⟩, ⟨by omega, c2⟩, by omega, d2⟩ hq
set_option maxHeartbeats 16000000 in
theorem ref41_Apply_spec {A : AH} {x w : Value} {s : StateV} {l : List DeltaV} {N : Nat} {Q : Value → AH → Prop} (hx : StateA A x s) (hw : DeltasA A w l) (fs : BigS s N) (hN : N + l.length ≤ 2 ^ 25) (fd : ∀ d ∈ l, FinC ⟨d.name, d.n⟩ ∧ FinW ⟨d.name, d.text⟩)
    (hq : ∀ y A', Le A A' → StateA A' y (applyR s l).1 → Q (.tuple #[y, ii (applyR s l).2]) A') : ACalls 0 Try.prog chantryref41_Apply [x, w] Q A := by
  have hx' := hx
  obtain ⟨c, m, v, q, rfl, hc, hm, hv, hl⟩ := hx
  refine ACalls.of_fits mixed fits_chantryref41_Apply rfl ?_
  unfold ic_chantryref41_Apply
  have i0 : initA [.agg #[c, m, v, q], w] 0 = .agg #[c, m, v, q] := rfl
  have i1 : initA [.agg #[c, m, v, q], w] 1 = w := rfl
  generalize initA [.agg #[c, m, v, q], w] = a at i0 i1
  have oc := (Sl.one1 hc).2
  have om := (Sl.one1 hm).2
  have ov := (Sl.one1 hv).2
  have ol := (Sl.one1 hl).2
  have hwl := hw.len
  refine W_mid (fun a B => B = A ++ [.row [c, m, v, q] .own 0 true] ++ [.row [nl, nl, nl, nl] .own 0 true] ∧ a 1 = w ∧ a 2 = ptr A.length ∧ a 4 = ptr (A.length + 1)) ?_ ?_
  · simp (maxSteps := 1000000) (disch := omega) only [stepS, reduceIte, Nat.reduceBEq, Nat.reduceEqDiff, tupleOf, stepT, stepX, heapR, lensR, Nat.reduceAdd, Nat.reduceLeDiff, i0, i1, oc, om, ov, ol]
  clear i0 i1
  rintro a B0 ⟨hB, g1, g2, g4⟩
  have k0 : Le A B0 := by rw [hB]; exact (Le.push _ _).trans (.push _ _)
  have r1 : rowAt B0 A.length = some ([c, m, v, q], .own, 0, true) := by rw [hB]; exact (Le.push _ _).row (rowAt_own (get_last _ _))
  have r2 : rowAt B0 (A.length + 1) = some ([nl, nl, nl, nl], .own, 0, true) := by
    have := rowAt_own (get_last (A ++ [Blk.row [c, m, v, q] .own 0 true]) (.row [nl, nl, nl, nl] .own 0 true))
    rw [hB]; simpa using this
  have hbl : B0.length = A.length + 2 := by rw [hB]; simp
  clear hB
  have hps : PtrS B0 A.length s := ⟨c, m, v, q, r1, hc.le k0, hm.le k0, hv.le k0, hl.le k0⟩
  refine W_midR (fun a B => B = B0 ∧ TidyS s ∧ a 1 = w ∧ a 2 = ptr A.length ∧ a 4 = ptr (A.length + 1)) ?_ ?_
  · simp (maxSteps := 1000000) (disch := omega) only [stepS, reduceIte, Nat.reduceBEq, Nat.reduceEqDiff, tupleOf, stepT, stepX, heapR, lensR, Nat.reduceAdd, Nat.reduceLeDiff, g1, g2, g4, r1, r2]
    refine ref41_Tidy_spec' (hx'.le k0) (fs.up (by omega)) fun b1 h1 => ?_
    cases b1 with
    | false =>
      have hns : ¬ TidyS s := fun h => by have := h1.2 h; cases this
      rw [applyR_1 hns] at hq
      simp (maxSteps := 1000000) (disch := omega) only [stepS, reduceIte, Nat.reduceBEq, Nat.reduceEqDiff, tupleOf, stepT, stepX, heapR, lensR, Nat.reduceAdd, Nat.reduceLeDiff, g1, g2, g4, r1, r2, reduceCtorEq, false_and, false_or, true_and]
      exact hq _ _ (((k0.kp _).trans (.set _ (A.length + 1) _)).le (.refl A) (by omega)) (emptyA _)
    | true =>
      simp (maxSteps := 1000000) (disch := omega) only [stepS, reduceIte, Nat.reduceBEq, Nat.reduceEqDiff, tupleOf, stepT, stepX, heapR, lensR, Nat.reduceAdd, Nat.reduceLeDiff, g1, g2, g4, r1, r2, reduceCtorEq, false_and, or_false, true_and]
      exact h1.1 rfl
  clear g1 g2 g4
  rintro a B ⟨hB, ts, g1, g2, g4⟩
  obtain rfl : B0 = B := hB.symm
  clear hB
  obtain ⟨Inv, hInv⟩ : ∃ P : Nat → AH → Prop, P = fun k B => ∃ sk, applyD s (l.take k) = some sk ∧ TidyS sk ∧ BigS sk (N + k) ∧ PtrS B A.length sk ∧ Le A B ∧ rowAt B (A.length + 1) = some ([nl, nl, nl, nl], .own, 0, true) := ⟨_, rfl⟩
  have hinv0 : Inv 0 B0 := by
    rw [hInv]
    exact ⟨s, by rw [List.take_zero]; rfl, ts, fs, hps, k0, r2⟩
  simp (maxSteps := 1000000) (disch := omega) only [stepS, reduceIte, Nat.reduceBEq, Nat.reduceEqDiff, tupleOf, stepT, stepX, heapR, lensR, Nat.reduceAdd, Nat.reduceLeDiff, g1, g2, g4, hwl]
  refine W_loop (fun a' B => ∃ k : Nat, k ≤ l.length ∧ a' 1 = w ∧ a' 2 = ptr A.length ∧ a' 4 = ptr (A.length + 1) ∧ a' 6 = ii k ∧ Inv k B) (fun a' _ => l.length - (iv (a' 6)).toNat) ?_ ?_
  · refine ⟨0, by omega, ?_⟩
    simp (maxSteps := 1000000) (disch := omega) only [stepS, reduceIte, Nat.reduceBEq, Nat.reduceEqDiff, tupleOf, stepT, stepX, heapR, lensR, Nat.reduceAdd, Nat.reduceLeDiff, g1, g2, g4]
    exact ⟨rfl, hinv0⟩
  · clear g1 g2 g4
    rintro a B ⟨k, hk, g1, g2, g4, g6, hi⟩
    rw [hInv] at hi
    obtain ⟨sk, s1, s2, s3, s4, s5, s6⟩ := hi
    have hlt4 := lt_of_get (rowAt_get s6)
    rcases Nat.lt_or_ge k l.length with hlt | hge
    · obtain ⟨d, hd⟩ := get_some hlt
      obtain ⟨p, pq, p1, p2, p3, p4⟩ := deltas_at hw hd
      have hap : applyD s (l.take (k + 1)) = stepD sk d := by rw [List.take_add_one, hd, applyD_append, s1]; exact applyD_one sk d
      have hfd := fd d (List.mem_of_getElem? hd)
      obtain ⟨c', m', v', q', t1, t2, t3, t4, t5⟩ := s4.ex
      have oc' := (Sl.one1 t2).2
      have om' := (Sl.one1 t3).2
      have ov' := (Sl.one1 t4).2
      have ol' := (Sl.one1 t5).2
      have on : (Value.slice none 0 0).oneCell' = true := rfl
      have good : ∀ {s' : StateV} {A' : AH}, stepD sk d = some s' → PtrS A' A.length s' → Le A A' → rowAt A' (A.length + 1) = some ([nl, nl, nl, nl], .own, 0, true) → Inv (k + 1) A' := by
        intro s' A' hs hp hle hr
        have keep := keeps hs s2 s3 hfd
        rw [hInv]
        exact ⟨s', by rw [hap, hs], keep.1, keep.2, hp, hle, hr⟩
      have none5 : stepD sk d = none → applyR s l = (emptyS, 5) := by
        intro hn
        refine applyR_5 ts ?_
        rw [← List.take_append_drop (k + 1) l, applyD_append, hap, hn]; rfl
      obtain ⟨fd1, fd2⟩ := hfd
      obtain ⟨kd, nm, tx, n⟩ := d
      have p2 : sLoadn B p 4 = some (.agg #[ii kd, .string nm, .string tx, ii n], B) := p2 B s5
      have p4 : sLoad1 B pq = some (ii kd, B) := p4 B s5
      have hb25 := s3.up (show N + k ≤ 2 ^ 25 by omega)
      by_cases h1 : kd = 1
      · subst h1
        simp (maxSteps := 1000000) (disch := omega) only [stepS, reduceIte, Nat.reduceBEq, Nat.reduceEqDiff, tupleOf, stepT, stepX, heapR, lensR, Nat.reduceAdd, Nat.reduceLeDiff, g1, g2, g4, g6, hwl, p1, p2, p3, p4, t1, oc', om', ov', ol']
        refine ref41_count_spec (d := ⟨1, nm, tx, n⟩) (.inl rfl) t2 (Nat.le_trans hb25.1.1 (by decide)) s2.1 (fun hf A2 e2 => ?_) (fun hnf u A2 e2 hu => ?_)
        · have r1' := e2.row t1
          have r2' := e2.row s6
          have hlt2 := lt_of_get (rowAt_get r2')
          rw [none5 (bad1 hf)] at hq
          simp (maxSteps := 1000000) (disch := omega) only [stepS, reduceIte, Nat.reduceBEq, Nat.reduceEqDiff, tupleOf, stepT, stepX, heapR, lensR, Nat.reduceAdd, Nat.reduceLeDiff, g1, g2, g4, g6, r1', r2', on, oc', om', ov', ol']
          refine hq _ _ ?_ (emptyA _)
          exact (Keep.set _ (A.length + 1) _).le ((Keep.set A2 A.length _).le (s5.trans e2) (Nat.le_refl _)) (by omega)
        · have r1' := e2.row t1
          have r2' := e2.row s6
          have hlt2 := lt_of_get (rowAt_get r2')
          rw [if_pos rfl] at hu
          have ou : ∀ A', stQ (some ([c', m', v', q'], .own, 0, true)) A.length 0 1 u A' = some (undef, A'.set A.length (.row [u, m', v', q'] .own 0 true)) := fun A' => stQ_one (Sl.one1 hu) (by simp)
          have kk : Keep A2 A.length (A2.set A.length (.row [u, m', v', q'] .own 0 true)) := .set _ _ _
          have hinv1 := good (ok1 hnf) ⟨u, m', v', q', rowAt_own (List.getElem?_set_self (by omega)), kpr hu r1' kk, kpr (t3.le e2) r1' kk, kpr (t4.le e2) r1' kk, kpr (t5.le e2) r1' kk⟩ (kk.le (s5.trans e2) (Nat.le_refl _)) (keep_row kk r2' (by omega))
          simp (maxSteps := 1000000) (disch := omega) only [stepS, reduceIte, Nat.reduceBEq, Nat.reduceEqDiff, tupleOf, stepT, stepX, heapR, lensR, Nat.reduceAdd, Nat.reduceLeDiff, g1, g2, g4, g6, r1', r2', ou, oc', om', ov', ol']
          exact ⟨⟨k + 1, by omega, rfl, hinv1⟩, by omega⟩
      by_cases h2 : kd = 2
      · subst h2
        simp (maxSteps := 1000000) (disch := omega) only [stepS, reduceIte, Nat.reduceBEq, Nat.reduceEqDiff, tupleOf, stepT, stepX, heapR, lensR, Nat.reduceAdd, Nat.reduceLeDiff, g1, g2, g4, g6, hwl, p1, p2, p3, p4, t1, oc', om', ov', ol']
        refine ref41_count_spec (d := ⟨2, nm, tx, n⟩) (.inr rfl) t2 (Nat.le_trans hb25.1.1 (by decide)) s2.1 (fun hf A2 e2 => ?_) (fun hnf u A2 e2 hu => ?_)
        · have r1' := e2.row t1
          have r2' := e2.row s6
          have hlt2 := lt_of_get (rowAt_get r2')
          rw [none5 (bad2 hf)] at hq
          simp (maxSteps := 1000000) (disch := omega) only [stepS, reduceIte, Nat.reduceBEq, Nat.reduceEqDiff, tupleOf, stepT, stepX, heapR, lensR, Nat.reduceAdd, Nat.reduceLeDiff, g1, g2, g4, g6, r1', r2', on, oc', om', ov', ol']
          refine hq _ _ ?_ (emptyA _)
          exact (Keep.set _ (A.length + 1) _).le ((Keep.set A2 A.length _).le (s5.trans e2) (Nat.le_refl _)) (by omega)
        · have r1' := e2.row t1
          have r2' := e2.row s6
          have hlt2 := lt_of_get (rowAt_get r2')
          rw [if_neg (by simp)] at hu
          have ou : ∀ A', stQ (some ([c', m', v', q'], .own, 0, true)) A.length 0 1 u A' = some (undef, A'.set A.length (.row [u, m', v', q'] .own 0 true)) := fun A' => stQ_one (Sl.one1 hu) (by simp)
          have kk : Keep A2 A.length (A2.set A.length (.row [u, m', v', q'] .own 0 true)) := .set _ _ _
          have hinv1 := good (ok2 hnf) ⟨u, m', v', q', rowAt_own (List.getElem?_set_self (by omega)), kpr hu r1' kk, kpr (t3.le e2) r1' kk, kpr (t4.le e2) r1' kk, kpr (t5.le e2) r1' kk⟩ (kk.le (s5.trans e2) (Nat.le_refl _)) (keep_row kk r2' (by omega))
          simp (maxSteps := 1000000) (disch := omega) only [stepS, reduceIte, Nat.reduceBEq, Nat.reduceEqDiff, tupleOf, stepT, stepX, heapR, lensR, Nat.reduceAdd, Nat.reduceLeDiff, g1, g2, g4, g6, r1', r2', ou, oc', om', ov', ol']
          exact ⟨⟨k + 1, by omega, rfl, hinv1⟩, by omega⟩
      by_cases h3 : kd = 3
      · subst h3
        simp (maxSteps := 1000000) (disch := omega) only [stepS, reduceIte, Nat.reduceBEq, Nat.reduceEqDiff, tupleOf, stepT, stepX, heapR, lensR, Nat.reduceAdd, Nat.reduceLeDiff, g1, g2, g4, g6, hwl, p1, p2, p3, p4, t1, oc', om', ov', ol']
        refine ref41_turn_spec (d := ⟨3, nm, tx, n⟩) (inn := false) t3 (Nat.le_trans hb25.2.1.1 (by decide)) s2.2.1 hb25.2.1.2 fd2 (fun hf A2 e2 => ?_) (fun _ e => by cases e) (fun hn0 _ hin u A2 e2 hu => ?_)
        · have r1' := e2.row t1
          have r2' := e2.row s6
          have hlt2 := lt_of_get (rowAt_get r2')
          rw [none5 (bad3 hf)] at hq
          simp (maxSteps := 1000000) (disch := omega) only [stepS, reduceIte, Nat.reduceBEq, Nat.reduceEqDiff, tupleOf, stepT, stepX, heapR, lensR, Nat.reduceAdd, Nat.reduceLeDiff, g1, g2, g4, g6, r1', r2', on, oc', om', ov', ol']
          refine hq _ _ ?_ (emptyA _)
          exact (Keep.set _ (A.length + 1) _).le ((Keep.set A2 A.length _).le (s5.trans e2) (Nat.le_refl _)) (by omega)
        · have r1' := e2.row t1
          have r2' := e2.row s6
          have hlt2 := lt_of_get (rowAt_get r2')
          have ou : ∀ A', stQ (some ([c', m', v', q'], .own, 0, true)) A.length 1 1 u A' = some (undef, A'.set A.length (.row [c', u, v', q'] .own 0 true)) := fun A' => stQ_one (Sl.one1 hu) (by simp)
          have kk : Keep A2 A.length (A2.set A.length (.row [c', u, v', q'] .own 0 true)) := .set _ _ _
          have hinv1 := good (ok3 hn0 hin) ⟨c', u, v', q', rowAt_own (List.getElem?_set_self (by omega)), kpr (t2.le e2) r1' kk, kpr hu r1' kk, kpr (t4.le e2) r1' kk, kpr (t5.le e2) r1' kk⟩ (kk.le (s5.trans e2) (Nat.le_refl _)) (keep_row kk r2' (by omega))
          simp (maxSteps := 1000000) (disch := omega) only [stepS, reduceIte, Nat.reduceBEq, Nat.reduceEqDiff, tupleOf, stepT, stepX, heapR, lensR, Nat.reduceAdd, Nat.reduceLeDiff, g1, g2, g4, g6, r1', r2', ou, oc', om', ov', ol']
          exact ⟨⟨k + 1, by omega, rfl, hinv1⟩, by omega⟩
      by_cases h4 : kd = 4
      · subst h4
        simp (maxSteps := 1000000) (disch := omega) only [stepS, reduceIte, Nat.reduceBEq, Nat.reduceEqDiff, tupleOf, stepT, stepX, heapR, lensR, Nat.reduceAdd, Nat.reduceLeDiff, g1, g2, g4, g6, hwl, p1, p2, p3, p4, t1, oc', om', ov', ol']
        refine ref41_turn_spec (d := ⟨4, nm, tx, n⟩) (inn := true) t3 (Nat.le_trans hb25.2.1.1 (by decide)) s2.2.1 hb25.2.1.2 fd2 (fun hf A2 e2 => ?_) (fun hn0 _ hin u A2 e2 hu => ?_) (fun _ e => by cases e)
        · have r1' := e2.row t1
          have r2' := e2.row s6
          have hlt2 := lt_of_get (rowAt_get r2')
          rw [none5 (bad4 hf)] at hq
          simp (maxSteps := 1000000) (disch := omega) only [stepS, reduceIte, Nat.reduceBEq, Nat.reduceEqDiff, tupleOf, stepT, stepX, heapR, lensR, Nat.reduceAdd, Nat.reduceLeDiff, g1, g2, g4, g6, r1', r2', on, oc', om', ov', ol']
          refine hq _ _ ?_ (emptyA _)
          exact (Keep.set _ (A.length + 1) _).le ((Keep.set A2 A.length _).le (s5.trans e2) (Nat.le_refl _)) (by omega)
        · have r1' := e2.row t1
          have r2' := e2.row s6
          have hlt2 := lt_of_get (rowAt_get r2')
          have ou : ∀ A', stQ (some ([c', m', v', q'], .own, 0, true)) A.length 1 1 u A' = some (undef, A'.set A.length (.row [c', u, v', q'] .own 0 true)) := fun A' => stQ_one (Sl.one1 hu) (by simp)
          have kk : Keep A2 A.length (A2.set A.length (.row [c', u, v', q'] .own 0 true)) := .set _ _ _
          have hinv1 := good (ok4 hn0 hin) ⟨c', u, v', q', rowAt_own (List.getElem?_set_self (by omega)), kpr (t2.le e2) r1' kk, kpr hu r1' kk, kpr (t4.le e2) r1' kk, kpr (t5.le e2) r1' kk⟩ (kk.le (s5.trans e2) (Nat.le_refl _)) (keep_row kk r2' (by omega))
          simp (maxSteps := 1000000) (disch := omega) only [stepS, reduceIte, Nat.reduceBEq, Nat.reduceEqDiff, tupleOf, stepT, stepX, heapR, lensR, Nat.reduceAdd, Nat.reduceLeDiff, g1, g2, g4, g6, r1', r2', ou, oc', om', ov', ol']
          exact ⟨⟨k + 1, by omega, rfl, hinv1⟩, by omega⟩
      by_cases h5 : kd = 5
      · subst h5
        simp (maxSteps := 1000000) (disch := omega) only [stepS, reduceIte, Nat.reduceBEq, Nat.reduceEqDiff, tupleOf, stepT, stepX, heapR, lensR, Nat.reduceAdd, Nat.reduceLeDiff, g1, g2, g4, g6, hwl, p1, p2, p3, p4, t1, oc', om', ov', ol']
        refine ref41_turn_spec (d := ⟨5, nm, tx, n⟩) (inn := false) t4 (Nat.le_trans hb25.2.2.1.1 (by decide)) s2.2.2.1 hb25.2.2.1.2 fd2 (fun hf A2 e2 => ?_) (fun _ e => by cases e) (fun hn0 _ hin u A2 e2 hu => ?_)
        · have r1' := e2.row t1
          have r2' := e2.row s6
          have hlt2 := lt_of_get (rowAt_get r2')
          rw [none5 (bad5 hf)] at hq
          simp (maxSteps := 1000000) (disch := omega) only [stepS, reduceIte, Nat.reduceBEq, Nat.reduceEqDiff, tupleOf, stepT, stepX, heapR, lensR, Nat.reduceAdd, Nat.reduceLeDiff, g1, g2, g4, g6, r1', r2', on, oc', om', ov', ol']
          refine hq _ _ ?_ (emptyA _)
          exact (Keep.set _ (A.length + 1) _).le ((Keep.set A2 A.length _).le (s5.trans e2) (Nat.le_refl _)) (by omega)
        · have r1' := e2.row t1
          have r2' := e2.row s6
          have hlt2 := lt_of_get (rowAt_get r2')
          have ou : ∀ A', stQ (some ([c', m', v', q'], .own, 0, true)) A.length 2 1 u A' = some (undef, A'.set A.length (.row [c', m', u, q'] .own 0 true)) := fun A' => stQ_one (Sl.one1 hu) (by simp)
          have kk : Keep A2 A.length (A2.set A.length (.row [c', m', u, q'] .own 0 true)) := .set _ _ _
          have hinv1 := good (ok5 hn0 hin) ⟨c', m', u, q', rowAt_own (List.getElem?_set_self (by omega)), kpr (t2.le e2) r1' kk, kpr (t3.le e2) r1' kk, kpr hu r1' kk, kpr (t5.le e2) r1' kk⟩ (kk.le (s5.trans e2) (Nat.le_refl _)) (keep_row kk r2' (by omega))
          simp (maxSteps := 1000000) (disch := omega) only [stepS, reduceIte, Nat.reduceBEq, Nat.reduceEqDiff, tupleOf, stepT, stepX, heapR, lensR, Nat.reduceAdd, Nat.reduceLeDiff, g1, g2, g4, g6, r1', r2', ou, oc', om', ov', ol']
          exact ⟨⟨k + 1, by omega, rfl, hinv1⟩, by omega⟩
      by_cases h6 : kd = 6
      · subst h6
        simp (maxSteps := 1000000) (disch := omega) only [stepS, reduceIte, Nat.reduceBEq, Nat.reduceEqDiff, tupleOf, stepT, stepX, heapR, lensR, Nat.reduceAdd, Nat.reduceLeDiff, g1, g2, g4, g6, hwl, p1, p2, p3, p4, t1, oc', om', ov', ol']
        refine ref41_turn_spec (d := ⟨6, nm, tx, n⟩) (inn := true) t4 (Nat.le_trans hb25.2.2.1.1 (by decide)) s2.2.2.1 hb25.2.2.1.2 fd2 (fun hf A2 e2 => ?_) (fun hn0 _ hin u A2 e2 hu => ?_) (fun _ e => by cases e)
        · have r1' := e2.row t1
          have r2' := e2.row s6
          have hlt2 := lt_of_get (rowAt_get r2')
          rw [none5 (bad6 hf)] at hq
          simp (maxSteps := 1000000) (disch := omega) only [stepS, reduceIte, Nat.reduceBEq, Nat.reduceEqDiff, tupleOf, stepT, stepX, heapR, lensR, Nat.reduceAdd, Nat.reduceLeDiff, g1, g2, g4, g6, r1', r2', on, oc', om', ov', ol']
          refine hq _ _ ?_ (emptyA _)
          exact (Keep.set _ (A.length + 1) _).le ((Keep.set A2 A.length _).le (s5.trans e2) (Nat.le_refl _)) (by omega)
        · have r1' := e2.row t1
          have r2' := e2.row s6
          have hlt2 := lt_of_get (rowAt_get r2')
          have ou : ∀ A', stQ (some ([c', m', v', q'], .own, 0, true)) A.length 2 1 u A' = some (undef, A'.set A.length (.row [c', m', u, q'] .own 0 true)) := fun A' => stQ_one (Sl.one1 hu) (by simp)
          have kk : Keep A2 A.length (A2.set A.length (.row [c', m', u, q'] .own 0 true)) := .set _ _ _
          have hinv1 := good (ok6 hn0 hin) ⟨c', m', u, q', rowAt_own (List.getElem?_set_self (by omega)), kpr (t2.le e2) r1' kk, kpr (t3.le e2) r1' kk, kpr hu r1' kk, kpr (t5.le e2) r1' kk⟩ (kk.le (s5.trans e2) (Nat.le_refl _)) (keep_row kk r2' (by omega))
          simp (maxSteps := 1000000) (disch := omega) only [stepS, reduceIte, Nat.reduceBEq, Nat.reduceEqDiff, tupleOf, stepT, stepX, heapR, lensR, Nat.reduceAdd, Nat.reduceLeDiff, g1, g2, g4, g6, r1', r2', ou, oc', om', ov', ol']
          exact ⟨⟨k + 1, by omega, rfl, hinv1⟩, by omega⟩
      by_cases h7 : kd = 7
      · subst h7
        simp (maxSteps := 1000000) (disch := omega) only [stepS, reduceIte, Nat.reduceBEq, Nat.reduceEqDiff, tupleOf, stepT, stepX, heapR, lensR, Nat.reduceAdd, Nat.reduceLeDiff, g1, g2, g4, g6, hwl, p1, p2, p3, p4, t1, oc', om', ov', ol']
        refine ref41_line_spec (d := ⟨7, nm, tx, n⟩) (.inl rfl) t5 (Nat.le_trans hb25.2.2.2.1 (by decide)) s2.2.2.2 (fun hf A2 e2 => ?_) (fun hnf u A2 e2 hu => ?_)
        · have r1' := e2.row t1
          have r2' := e2.row s6
          have hlt2 := lt_of_get (rowAt_get r2')
          rw [none5 (bad7 hf)] at hq
          simp (maxSteps := 1000000) (disch := omega) only [stepS, reduceIte, Nat.reduceBEq, Nat.reduceEqDiff, tupleOf, stepT, stepX, heapR, lensR, Nat.reduceAdd, Nat.reduceLeDiff, g1, g2, g4, g6, r1', r2', on, oc', om', ov', ol']
          refine hq _ _ ?_ (emptyA _)
          exact (Keep.set _ (A.length + 1) _).le ((Keep.set A2 A.length _).le (s5.trans e2) (Nat.le_refl _)) (by omega)
        · have r1' := e2.row t1
          have r2' := e2.row s6
          have hlt2 := lt_of_get (rowAt_get r2')
          rw [if_pos rfl] at hu
          have ou : ∀ A', stQ (some ([c', m', v', q'], .own, 0, true)) A.length 3 1 u A' = some (undef, A'.set A.length (.row [c', m', v', u] .own 0 true)) := fun A' => stQ_one (Sl.one1 hu) (by simp)
          have kk : Keep A2 A.length (A2.set A.length (.row [c', m', v', u] .own 0 true)) := .set _ _ _
          have hinv1 := good (ok7 hnf) ⟨c', m', v', u, rowAt_own (List.getElem?_set_self (by omega)), kpr (t2.le e2) r1' kk, kpr (t3.le e2) r1' kk, kpr (t4.le e2) r1' kk, kpr hu r1' kk⟩ (kk.le (s5.trans e2) (Nat.le_refl _)) (keep_row kk r2' (by omega))
          simp (maxSteps := 1000000) (disch := omega) only [stepS, reduceIte, Nat.reduceBEq, Nat.reduceEqDiff, tupleOf, stepT, stepX, heapR, lensR, Nat.reduceAdd, Nat.reduceLeDiff, g1, g2, g4, g6, r1', r2', ou, oc', om', ov', ol']
          exact ⟨⟨k + 1, by omega, rfl, hinv1⟩, by omega⟩
      by_cases h8 : kd = 8
      · subst h8
        simp (maxSteps := 1000000) (disch := omega) only [stepS, reduceIte, Nat.reduceBEq, Nat.reduceEqDiff, tupleOf, stepT, stepX, heapR, lensR, Nat.reduceAdd, Nat.reduceLeDiff, g1, g2, g4, g6, hwl, p1, p2, p3, p4, t1, oc', om', ov', ol']
        refine ref41_line_spec (d := ⟨8, nm, tx, n⟩) (.inr rfl) t5 (Nat.le_trans hb25.2.2.2.1 (by decide)) s2.2.2.2 (fun hf A2 e2 => ?_) (fun hnf u A2 e2 hu => ?_)
        · have r1' := e2.row t1
          have r2' := e2.row s6
          have hlt2 := lt_of_get (rowAt_get r2')
          rw [none5 (bad8 hf)] at hq
          simp (maxSteps := 1000000) (disch := omega) only [stepS, reduceIte, Nat.reduceBEq, Nat.reduceEqDiff, tupleOf, stepT, stepX, heapR, lensR, Nat.reduceAdd, Nat.reduceLeDiff, g1, g2, g4, g6, r1', r2', on, oc', om', ov', ol']
          refine hq _ _ ?_ (emptyA _)
          exact (Keep.set _ (A.length + 1) _).le ((Keep.set A2 A.length _).le (s5.trans e2) (Nat.le_refl _)) (by omega)
        · have r1' := e2.row t1
          have r2' := e2.row s6
          have hlt2 := lt_of_get (rowAt_get r2')
          rw [if_neg (by simp)] at hu
          have ou : ∀ A', stQ (some ([c', m', v', q'], .own, 0, true)) A.length 3 1 u A' = some (undef, A'.set A.length (.row [c', m', v', u] .own 0 true)) := fun A' => stQ_one (Sl.one1 hu) (by simp)
          have kk : Keep A2 A.length (A2.set A.length (.row [c', m', v', u] .own 0 true)) := .set _ _ _
          have hinv1 := good (ok8 hnf) ⟨c', m', v', u, rowAt_own (List.getElem?_set_self (by omega)), kpr (t2.le e2) r1' kk, kpr (t3.le e2) r1' kk, kpr (t4.le e2) r1' kk, kpr hu r1' kk⟩ (kk.le (s5.trans e2) (Nat.le_refl _)) (keep_row kk r2' (by omega))
          simp (maxSteps := 1000000) (disch := omega) only [stepS, reduceIte, Nat.reduceBEq, Nat.reduceEqDiff, tupleOf, stepT, stepX, heapR, lensR, Nat.reduceAdd, Nat.reduceLeDiff, g1, g2, g4, g6, r1', r2', ou, oc', om', ov', ol']
          exact ⟨⟨k + 1, by omega, rfl, hinv1⟩, by omega⟩
      rw [none5 (stepD_none (turn0 (by omega)))] at hq
      simp (maxSteps := 1000000) (disch := omega) only [stepS, reduceIte, Nat.reduceBEq, Nat.reduceEqDiff, tupleOf, stepT, stepX, heapR, lensR, Nat.reduceAdd, Nat.reduceLeDiff, g1, g2, g4, g6, hwl, p1, p2, p3, p4, t1, s6, oc', om', ov', ol']
      exact hq _ _ ((Keep.set B (A.length + 1) _).le s5 (by omega)) (emptyA _)
    · rw [List.take_of_length_le hge] at s1
      rw [applyR_0 ts s1] at hq
      obtain ⟨c', m', v', q', t1, t2, t3, t4, t5⟩ := s4.ex
      have oc' := (Sl.one1 t2).2
      have om' := (Sl.one1 t3).2
      have ov' := (Sl.one1 t4).2
      have ol' := (Sl.one1 t5).2
      simp (maxSteps := 1000000) (disch := omega) only [stepS, reduceIte, Nat.reduceBEq, Nat.reduceEqDiff, tupleOf, stepT, stepX, heapR, lensR, Nat.reduceAdd, Nat.reduceLeDiff, g1, g2, g4, g6, hwl, t1, s6, oc', om', ov', ol']
      have kk : Keep B (A.length + 1) (B.set (A.length + 1) (.row [c', m', v', q'] .own 0 true)) := .set _ _ _
      exact hq _ _ (kk.le s5 (by omega)) ⟨c', m', v', q', rfl, kpr t2 s6 kk, kpr t3 s6 kk, kpr t4 s6 kk, kpr t5 s6 kk⟩
end Go.AS.C


namespace Go.AS.C
open Go Go.Proofs
set_option linter.unusedVariables false
set_option linter.unusedSimpArgs false
set_option maxRecDepth 10000

/-! DiffApplies. -/
theorem good_delta {A : AH} {F : Nat} (cs : List Value) (h : Good Try.prog A (F + 2) 35 cs) : ∃ w : DeltaV, cs = deltaE w ∧ FinD w := by
  obtain ⟨hl, hf⟩ := good_fields Try.underlying35 h
  have hc : Try.prog.cellsOf 35 = 4 := by kernel_rfl
  rw [hc] at hl
  match cs, hl with
  | [c0, c1, c2, c3], _ =>
    have e3 : Try.prog.cellsOf 3 = 1 := by kernel_rfl
    have e9 : Try.prog.cellsOf 9 = 1 := by kernel_rfl
    simp only [List.forall_mem_cons, e3, e9, List.drop_zero, List.drop_succ_cons, List.take_succ_cons, List.take_zero] at hf
    obtain ⟨h0, h1, h2, h3, _⟩ := hf
    obtain ⟨k, r0, b0⟩ := cell_int Try.underlying3 h0
    obtain ⟨s, r1, b1⟩ := cell_str Try.underlying9 h1
    obtain ⟨t, r2, b2⟩ := cell_str Try.underlying9 h2
    obtain ⟨n, r3, b3⟩ := cell_int Try.underlying3 h3
    injection r0 with r0 _
    injection r1 with r1 _
    injection r2 with r2 _
    injection r3 with r3 _
    subst r0 r1 r2 r3
    have hm : maxLen = 9223372036854775807 := by decide
    exact ⟨⟨k, s, t, n⟩, rfl, b0, (show s.size ≤ maxLen by omega), (show t.size ≤ maxLen by omega), b3⟩
theorem law_deltas {A : AH} {F : Nat} {v : Value} (h : GoodV Try.prog A (F + 3) 28 v) : ∃ l : List DeltaV, DeltasA A v l ∧ l.length < 2 ^ 50 ∧ ∀ w ∈ l, FinD w :=
  law_rows Try.underlying28 (by kernel_rfl) (by decide +kernel) good_delta h
theorem big_of {s : StateV} (h : SmallS0 s) (hr : RangeS s) : BigS s 20 := by
  obtain ⟨⟨f1, f2, f3, f4⟩, _⟩ := fin_of h hr
  obtain ⟨⟨a1, _⟩, ⟨b1, _⟩, ⟨c1, _⟩, d1, _⟩ := h
  exact ⟨⟨a1, f1.2⟩, ⟨b1, f2.2⟩, ⟨c1, f3.2⟩, d1, f4.2⟩
theorem BigS.fin {s : StateV} (h : BigS s (2 ^ 25)) : FinS s := by
  obtain ⟨⟨a1, a2⟩, ⟨b1, b2⟩, ⟨c1, c2⟩, d1, d2⟩ := h
  exact ⟨⟨by omega, a2⟩, ⟨by omega, b2⟩, ⟨by omega, c2⟩, by omega, d2⟩
theorem applyR_big {s : StateV} {l : List DeltaV} {N : Nat} (h : BigS s N) (hN : N + l.length ≤ 2 ^ 25) (fd : ∀ d ∈ l, FinC ⟨d.name, d.n⟩ ∧ FinW ⟨d.name, d.text⟩) : BigS (applyR s l).1 (2 ^ 25) ∧ ((applyR s l).2 = 0 → TidyS (applyR s l).1) := by
  have em : BigS emptyS (2 ^ 25) := ⟨⟨Nat.zero_le _, fun w h => by cases h⟩, ⟨Nat.zero_le _, fun w h => by cases h⟩, ⟨Nat.zero_le _, fun w h => by cases h⟩, Nat.zero_le _, fun w h => by cases h⟩
  by_cases ts : TidyS s
  · cases ha : applyD s l with
    | none => rw [applyR_5 ts ha]; exact ⟨em, fun h => by cases h⟩
    | some s' =>
      rw [applyR_0 ts ha]
      obtain ⟨k1, k2⟩ := apply_keeps l s s' N ha ts h fd
      exact ⟨k2.up hN, fun _ => k1⟩
  · rw [applyR_1 ts]; exact ⟨em, fun h => by cases h⟩
def SmallD (d : DeltaV) : Prop := d.name.size ≤ 60 ∧ d.text.size ≤ 100
set_option maxHeartbeats 4000000 in
theorem DiffApplies_spec {A : AH} {x v w : Value} {s : StateV} {l m : List DeltaV} {Q : Value → AH → Prop} (hx : StateA A x s) (rs : RangeS s) (hv : DeltasA A v l) (hw : DeltasA A w m) (fl : ∀ d ∈ l, FinD d) (fm : ∀ d ∈ m, FinD d) (hll : l.length < 2 ^ 50) (hml : m.length < 2 ^ 50) (hq : ∀ A', Q (.bool true) A') : ACalls 0 Try.prog chantrylaw41_DiffApplies [x, v, w] Q A := by
  have hx' := hx
  obtain ⟨c, mm, vv, q, rfl, hc, hm, hvv, hl⟩ := hx
  refine ACalls.of_fits mixed fits_chantrylaw41_DiffApplies rfl ?_
  unfold ic_chantrylaw41_DiffApplies
  have i0 : initA [.agg #[c, mm, vv, q], v, w] 0 = .agg #[c, mm, vv, q] := rfl
  have i1 : initA [.agg #[c, mm, vv, q], v, w] 1 = v := rfl
  have i2 : initA [.agg #[c, mm, vv, q], v, w] 2 = w := rfl
  generalize initA [.agg #[c, mm, vv, q], v, w] = a at i0 i1 i2
  have oc := (Sl.one1 hc).2
  have om := (Sl.one1 hm).2
  have ov := (Sl.one1 hvv).2
  have ol := (Sl.one1 hl).2
  have lv := hv.len
  have lw := hw.len
  refine W_mid (fun a B => B = A ++ [.row [c, mm, vv, q] .own 0 true] ∧ a 1 = v ∧ a 2 = w ∧ a 3 = ptr A.length) ?_ ?_
  · simp (maxSteps := 1000000) (disch := omega) only [stepS, reduceIte, Nat.reduceBEq, Nat.reduceEqDiff, tupleOf, stepT, stepX, heapR, lensR, Nat.reduceAdd, Nat.reduceLeDiff, i0, i1, i2, oc, om, ov, ol]
  clear i0 i1 i2
  rintro a B0 ⟨hB, g1, g2, g3⟩
  have k0 : Le A B0 := by rw [hB]; exact .push _ _
  have r1 : rowAt B0 A.length = some ([c, mm, vv, q], .own, 0, true) := by rw [hB]; exact rowAt_own (get_last _ _)
  clear hB
  refine W_midR (fun a B => B = B0 ∧ (SmallS0 s ∧ l.length ≤ 30 ∧ m.length ≤ 30) ∧ a 1 = v ∧ a 2 = w ∧ a 3 = ptr A.length) ?_ ?_
  · simp (maxSteps := 1000000) (disch := omega) only [stepS, reduceIte, Nat.reduceBEq, Nat.reduceEqDiff, tupleOf, stepT, stepX, heapR, lensR, Nat.reduceAdd, Nat.reduceLeDiff, g1, g2, g3, r1]
    refine large_spec (hx'.le k0) fun b1 h1 => ?_
    cases b1 with
    | true =>
      simp (maxSteps := 1000000) (disch := omega) only [stepS, reduceIte, Nat.reduceBEq, Nat.reduceEqDiff, tupleOf, stepT, stepX, heapR, lensR, Nat.reduceAdd, Nat.reduceLeDiff, g1, g2, g3, r1]
      refine wake ?_
      simp (maxSteps := 1000000) (disch := omega) only [stepS, reduceIte, Nat.reduceBEq, Nat.reduceEqDiff, tupleOf, stepT, stepX, heapR, lensR, Nat.reduceAdd, Nat.reduceLeDiff, reduceCtorEq, false_and, false_or, true_and]
      exact hq _
    | false =>
      by_cases h2 : l.length ≤ 30
      · by_cases h3 : m.length ≤ 30
        · simp (maxSteps := 1000000) (disch := omega) only [stepS, reduceIte, Nat.reduceBEq, Nat.reduceEqDiff, tupleOf, stepT, stepX, heapR, lensR, Nat.reduceAdd, Nat.reduceLeDiff, g1, g2, g3, r1, lv, lw, reduceCtorEq, false_and, or_false, true_and]
          exact h1 rfl
        · simp (maxSteps := 1000000) (disch := omega) only [stepS, reduceIte, Nat.reduceBEq, Nat.reduceEqDiff, tupleOf, stepT, stepX, heapR, lensR, Nat.reduceAdd, Nat.reduceLeDiff, g1, g2, g3, r1, lv, lw]
          refine wake ?_
          simp (maxSteps := 1000000) (disch := omega) only [stepS, reduceIte, Nat.reduceBEq, Nat.reduceEqDiff, tupleOf, stepT, stepX, heapR, lensR, Nat.reduceAdd, Nat.reduceLeDiff, reduceCtorEq, false_and, false_or, true_and]
          exact hq _
      · simp (maxSteps := 1000000) (disch := omega) only [stepS, reduceIte, Nat.reduceBEq, Nat.reduceEqDiff, tupleOf, stepT, stepX, heapR, lensR, Nat.reduceAdd, Nat.reduceLeDiff, g1, g2, g3, r1, lv, lw]
        refine wake ?_
        simp (maxSteps := 1000000) (disch := omega) only [stepS, reduceIte, Nat.reduceBEq, Nat.reduceEqDiff, tupleOf, stepT, stepX, heapR, lensR, Nat.reduceAdd, Nat.reduceLeDiff, reduceCtorEq, false_and, false_or, true_and]
        exact hq _
  clear g1 g2 g3
  rintro a B ⟨hB, ⟨sm, ll, lm⟩, g1, g2, g3⟩
  obtain rfl : B0 = B := hB.symm
  clear hB
  refine W_midR (fun a B => B = B0 ∧ (∀ d ∈ l, SmallD d) ∧ a 1 = v ∧ a 2 = w ∧ a 3 = ptr A.length) ?_ ?_
  · simp (maxSteps := 1000000) (disch := omega) only [stepS, reduceIte, Nat.reduceBEq, Nat.reduceEqDiff, tupleOf, stepT, stepX, heapR, lensR, Nat.reduceAdd, Nat.reduceLeDiff, g1, g2, g3]
    refine W_loop (fun a' D => ∃ j : Nat, j ≤ l.length ∧ D = B0 ∧ a' 1 = v ∧ a' 2 = w ∧ a' 3 = ptr A.length ∧ a' 7 = ii j ∧ ∀ d ∈ l.take j, SmallD d) (fun a' _ => l.length - (iv (a' 7)).toNat) ?_ ?_
    · refine ⟨0, Nat.zero_le _, rfl, ?_⟩
      simp (maxSteps := 1000000) (disch := omega) only [stepS, reduceIte, Nat.reduceBEq, Nat.reduceEqDiff, tupleOf, stepT, stepX, heapR, lensR, Nat.reduceAdd, Nat.reduceLeDiff, g1, g2, g3]
      exact ⟨rfl, fun d h => by simp at h⟩
    · clear g1 g2 g3
      rintro a2 D ⟨j, hj, hD, g1, g2, g3, g7, hs⟩
      obtain rfl : B0 = D := hD.symm
      clear hD
      rcases Nat.lt_or_ge j l.length with hlt | hge
      · obtain ⟨d, hd⟩ := get_some hlt
        obtain ⟨p, p2⟩ := SlR.elfs (Sl.r hv) (deltaE_ok l) (j := j) (e := deltaE d) (by rw [List.getElem?_map, hd]; rfl) rfl
        obtain ⟨p1, p2⟩ := p2
        obtain ⟨q1, c1, c2⟩ := p2 1 _ rfl
        obtain ⟨q2, d1, d2⟩ := p2 2 _ rfl
        have c2 := c2 B0 k0
        have d2 := d2 B0 k0
        have htk : l.take (j + 1) = l.take j ++ [d] := by rw [List.take_add_one, hd]; rfl
        by_cases h5 : d.name.size ≤ 60
        · by_cases h6 : d.text.size ≤ 100
          · simp (maxSteps := 1000000) (disch := omega) only [stepS, reduceIte, Nat.reduceBEq, Nat.reduceEqDiff, tupleOf, stepT, stepX, heapR, lensR, Nat.reduceAdd, Nat.reduceLeDiff, g1, g2, g3, g7, lv, p1, c1, c2, d1, d2]
            refine ⟨⟨j + 1, by omega, rfl, fun x hx => ?_⟩, by omega⟩
            rw [htk, List.mem_append, List.mem_singleton] at hx
            rcases hx with hx | rfl
            · exact hs x hx
            · exact ⟨h5, h6⟩
          · simp (maxSteps := 1000000) (disch := omega) only [stepS, reduceIte, Nat.reduceBEq, Nat.reduceEqDiff, tupleOf, stepT, stepX, heapR, lensR, Nat.reduceAdd, Nat.reduceLeDiff, g1, g2, g3, g7, lv, p1, c1, c2, d1, d2]
            refine wake ?_
            simp (maxSteps := 1000000) (disch := omega) only [stepS, reduceIte, Nat.reduceBEq, Nat.reduceEqDiff, tupleOf, stepT, stepX, heapR, lensR, Nat.reduceAdd, Nat.reduceLeDiff, reduceCtorEq, false_and, false_or, true_and]
            exact hq _
        · simp (maxSteps := 1000000) (disch := omega) only [stepS, reduceIte, Nat.reduceBEq, Nat.reduceEqDiff, tupleOf, stepT, stepX, heapR, lensR, Nat.reduceAdd, Nat.reduceLeDiff, g1, g2, g3, g7, lv, p1, c1, c2]
          refine wake ?_
          simp (maxSteps := 1000000) (disch := omega) only [stepS, reduceIte, Nat.reduceBEq, Nat.reduceEqDiff, tupleOf, stepT, stepX, heapR, lensR, Nat.reduceAdd, Nat.reduceLeDiff, reduceCtorEq, false_and, false_or, true_and]
          exact hq _
      · simp (maxSteps := 1000000) (disch := omega) only [stepS, reduceIte, Nat.reduceBEq, Nat.reduceEqDiff, tupleOf, stepT, stepX, heapR, lensR, Nat.reduceAdd, Nat.reduceLeDiff, g1, g2, g3, g7, lv]
        rw [List.take_of_length_le hge] at hs
        exact .inl hs
  clear g1 g2 g3
  rintro a B ⟨hB, sd, g1, g2, g3⟩
  obtain rfl : B0 = B := hB.symm
  clear hB
  have big := big_of sm rs
  have fd : ∀ d ∈ l, FinC ⟨d.name, d.n⟩ ∧ FinW ⟨d.name, d.text⟩ := fun d hd => by
    obtain ⟨s1, s2⟩ := sd d hd
    exact ⟨⟨show d.name.size ≤ 200 by omega, (fl d hd).2.2.2⟩, show d.name.size ≤ 200 by omega, show d.text.size ≤ 200 by omega⟩
  have hN : 20 + l.length ≤ 2 ^ 25 := by omega
  obtain ⟨rb, rt⟩ := applyR_big big hN fd
  obtain ⟨R, hR⟩ : ∃ R, R = applyR s l := ⟨_, rfl⟩
  rw [← hR] at rb rt
  obtain ⟨sr, er⟩ := R
  dsimp only at rb rt
  simp (maxSteps := 1000000) (disch := omega) only [stepS, reduceIte, Nat.reduceBEq, Nat.reduceEqDiff, tupleOf, stepT, stepX, heapR, lensR, Nat.reduceAdd, Nat.reduceLeDiff, g1, g2, g3, r1]
  refine diff_Apply_spec (hx'.le k0) (hv.le k0) big hN fd fun y A1 e1 hy => ?_
  rw [← hR] at hy ⊢
  dsimp only at hy ⊢
  have hy0 := hy
  obtain ⟨y0, y1, y2, y3, rfl, u0, u1, u2, u3⟩ := hy
  have p0 := (Sl.one1 u0).2
  have p1 := (Sl.one1 u1).2
  have p2 := (Sl.one1 u2).2
  have p3 := (Sl.one1 u3).2
  obtain ⟨A2, hA2⟩ : ∃ X, X = A1 ++ [Blk.row [y0, y1, y2, y3] .own 0 true] := ⟨_, rfl⟩
  have hset1 : (A1 ++ [Blk.row [nl, nl, nl, nl] .own 0 true]).set A1.length (.row [y0, y1, y2, y3] .own 0 true) = A2 := by rw [hA2]; simp
  have e2 : Le A1 A2 := by rw [hA2]; exact .push _ _
  have s1 : rowAt A2 A1.length = some ([y0, y1, y2, y3], .own, 0, true) := by rw [hA2]; exact rowAt_own (get_last _ _)
  clear hA2
  have r2 := (e1.trans e2).row r1
  simp (maxSteps := 1000000) (disch := omega) only [stepS, reduceIte, Nat.reduceBEq, Nat.reduceEqDiff, tupleOf, stepT, stepX, heapR, lensR, Nat.reduceAdd, Nat.reduceLeDiff, g1, g2, g3, r1, p0, p1, p2, p3, hset1, r2]
  have kA := (k0.trans e1).trans e2
  refine ref41_Apply_spec (hx'.le kA) (hv.le kA) big hN fd fun z A3 e3 hz => ?_
  rw [← hR] at hz ⊢
  dsimp only at hz ⊢
  have hz0 := hz
  obtain ⟨z0, z1, z2, z3, rfl, w0, w1, w2, w3⟩ := hz
  have q0 := (Sl.one1 w0).2
  have q1 := (Sl.one1 w1).2
  have q2 := (Sl.one1 w2).2
  have q3 := (Sl.one1 w3).2
  obtain ⟨A4, hA4⟩ : ∃ X, X = A3 ++ [Blk.row [z0, z1, z2, z3] .own 0 true] := ⟨_, rfl⟩
  have hset2 : (A3 ++ [Blk.row [nl, nl, nl, nl] .own 0 true]).set A3.length (.row [z0, z1, z2, z3] .own 0 true) = A4 := by rw [hA4]; simp
  have e4 : Le A3 A4 := by rw [hA4]; exact .push _ _
  have s2 : rowAt A4 A3.length = some ([z0, z1, z2, z3], .own, 0, true) := by rw [hA4]; exact rowAt_own (get_last _ _)
  clear hA4
  have s1' := (e3.trans e4).row s1
  have kB := (kA.trans e3).trans e4
  simp (maxSteps := 1000000) (disch := omega) only [stepS, reduceIte, Nat.reduceBEq, Nat.reduceEqDiff, tupleOf, stepT, stepX, heapR, lensR, Nat.reduceAdd, Nat.reduceLeDiff, g1, g2, g3, q0, q1, q2, q3, hset2, s1', s2]
  refine ref23_Same_spec (hy0.le ((e2.trans e3).trans e4)) (hz0.le e4) rb.fin rb.fin fun b hb => ?_
  obtain rfl : b = true := hb.2 rfl
  by_cases her : er = 0
  · subst her
    simp (maxSteps := 1000000) (disch := omega) only [stepS, reduceIte, Nat.reduceBEq, Nat.reduceEqDiff, tupleOf, stepT, stepX, heapR, lensR, Nat.reduceAdd, Nat.reduceLeDiff, g1, g2, g3, s1', s2]
    refine diff_Tidy_spec (hy0.le ((e2.trans e3).trans e4)) rb.fin fun b hb => ?_
    obtain rfl : b = true := hb.2 (rt rfl)
    simp (maxSteps := 1000000) (disch := omega) only [stepS, reduceIte, Nat.reduceBEq, Nat.reduceEqDiff, tupleOf, stepT, stepX, heapR, lensR, Nat.reduceAdd, Nat.reduceLeDiff, g1, g2, g3, s1', s2]
    refine diff_Same_spec (hv.le kB) (hw.le kB) fl fm hll hml fun b1 hb1 => ?_
    simp (maxSteps := 1000000) (disch := omega) only [stepS, reduceIte, Nat.reduceBEq, Nat.reduceEqDiff, tupleOf, stepT, stepX, heapR, lensR, Nat.reduceAdd, Nat.reduceLeDiff, g1, g2, g3, s1', s2]
    refine ref41_Same_spec (hv.le kB) (hw.le kB) fl fm hll hml fun b2 hb2 => ?_
    obtain rfl : b1 = b2 := by
      have := hb1.trans hb2.symm
      cases b1 <;> cases b2 <;> simp at this ⊢
    simp (maxSteps := 1000000) (disch := omega) only [stepS, reduceIte, Nat.reduceBEq, Nat.reduceEqDiff, tupleOf, stepT, stepX, heapR, lensR, Nat.reduceAdd, Nat.reduceLeDiff, g1, g2, g3, beqB, beq_self_eq_true]
    refine wake ?_
    simp (maxSteps := 1000000) (disch := omega) only [stepS, reduceIte, Nat.reduceBEq, Nat.reduceEqDiff, tupleOf, stepT, stepX, heapR, lensR, Nat.reduceAdd, Nat.reduceLeDiff]
    exact hq _
  · simp (maxSteps := 1000000) (disch := omega) only [stepS, reduceIte, Nat.reduceBEq, Nat.reduceEqDiff, tupleOf, stepT, stepX, heapR, lensR, Nat.reduceAdd, Nat.reduceLeDiff, g1, g2, g3, s1', s2, her]
    refine diff_Same_spec (hv.le kB) (hw.le kB) fl fm hll hml fun b1 hb1 => ?_
    simp (maxSteps := 1000000) (disch := omega) only [stepS, reduceIte, Nat.reduceBEq, Nat.reduceEqDiff, tupleOf, stepT, stepX, heapR, lensR, Nat.reduceAdd, Nat.reduceLeDiff, g1, g2, g3, s1', s2]
    refine ref41_Same_spec (hv.le kB) (hw.le kB) fl fm hll hml fun b2 hb2 => ?_
    obtain rfl : b1 = b2 := by
      have := hb1.trans hb2.symm
      cases b1 <;> cases b2 <;> simp at this ⊢
    simp (maxSteps := 1000000) (disch := omega) only [stepS, reduceIte, Nat.reduceBEq, Nat.reduceEqDiff, tupleOf, stepT, stepX, heapR, lensR, Nat.reduceAdd, Nat.reduceLeDiff, g1, g2, g3, beqB, beq_self_eq_true]
    refine wake ?_
    simp (maxSteps := 1000000) (disch := omega) only [stepS, reduceIte, Nat.reduceBEq, Nat.reduceEqDiff, tupleOf, stepT, stepX, heapR, lensR, Nat.reduceAdd, Nat.reduceLeDiff]
    exact hq _
theorem DiffApplies_law {A : AH} {v0 v1 v2 : Value} (g0 : GoodV Try.prog A 9 25 v0) (g1 : GoodV Try.prog A 9 28 v1) (g2 : GoodV Try.prog A 9 28 v2) : ACalls 0 Try.prog chantrylaw41_DiffApplies [v0, v1, v2] (fun v _ => v = .bool true) A := by
  obtain ⟨s, hs, rs⟩ := law_state g0
  obtain ⟨l, hl, bl, fl⟩ := law_deltas g1
  obtain ⟨m, hm, bm, fm⟩ := law_deltas g2
  exact DiffApplies_spec hs rs hl hm fl fm bl bm fun _ => rfl
end Go.AS.C
