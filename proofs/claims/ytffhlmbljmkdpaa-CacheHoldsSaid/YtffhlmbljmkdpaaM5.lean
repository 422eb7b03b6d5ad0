/- Lemmas for the proof of a given statement; no conditions. -/
import Derived.Test.YtffhlmbljmkdpaaM4
set_option maxHeartbeats 1000000

namespace Go.AS.C
open Go Go.Proofs
set_option linter.unusedVariables false
set_option linter.unusedSimpArgs false
set_option maxRecDepth 10000

/-! CacheHolds. -/
theorem put_nil {A : AH} {x y : Value} {Q : Value → AH → Prop} (hq : Q undef A) : ACalls 0 Try.prog cache_Cache_Put [.pointer none, x, y] Q A := by
  refine ACalls.of_fitsD mixed fits_cache_Cache_Put rfl ?_
  unfold ic_cache_Cache_Put
  have i0 : initA [.pointer none, x, y] 0 = .pointer none := rfl
  have i3 : initA [.pointer none, x, y] 1000000 = .tuple #[] := initA_dsl (by simp)
  generalize initA [.pointer none, x, y] = a at i0 i3
  have c1 : (if kindOf (.pointer 55) (.pointer none) = true then sIsnil A (.pointer none) false else none) = some (.bool true, A) := rfl
  simp (maxSteps := 1000000) (disch := omega) only [stepS, reduceIte, Nat.reduceBEq, Nat.reduceEqDiff, tupleOf, stepT, stepX, heapR, lensR, stepM, dsl, Nat.reduceAdd, Nat.reduceLeDiff, i0, i3, c1]
  refine ⟨_, rfl, ?_⟩
  rw [runD_nil]; exact hq
theorem get_nil {A : AH} {x : Value} {Q : Value → AH → Prop} (hq : Q (.tuple #[.slice none 0 0, .bool false]) A) : ACalls 0 Try.prog cache_Cache_Get [.pointer none, x] Q A := by
  refine ACalls.of_fitsD mixed fits_cache_Cache_Get rfl ?_
  unfold ic_cache_Cache_Get
  have i0 : initA [.pointer none, x] 0 = .pointer none := rfl
  have i3 : initA [.pointer none, x] 1000000 = .tuple #[] := initA_dsl (by simp)
  generalize initA [.pointer none, x] = a at i0 i3
  have c1 : (if kindOf (.pointer 55) (.pointer none) = true then sIsnil A (.pointer none) false else none) = some (.bool true, A) := rfl
  simp (maxSteps := 1000000) (disch := omega) only [stepS, reduceIte, Nat.reduceBEq, Nat.reduceEqDiff, tupleOf, stepT, stepX, heapR, lensR, stepM, dsl, Nat.reduceAdd, Nat.reduceLeDiff, i0, i3, c1]
  refine ⟨_, rfl, ?_⟩
  rw [runD_nil]; exact hq
theorem size_nil {A : AH} {Q : Value → AH → Prop} (hq : Q (.int .i64 0) A) : ACalls 0 Try.prog cache_Cache_Size [.pointer none] Q A := by
  refine ACalls.of_fitsD mixed fits_cache_Cache_Size rfl ?_
  unfold ic_cache_Cache_Size
  have i0 : initA [.pointer none] 0 = .pointer none := rfl
  have i3 : initA [.pointer none] 1000000 = .tuple #[] := initA_dsl (by simp)
  generalize initA [.pointer none] = a at i0 i3
  have c1 : (if kindOf (.pointer 55) (.pointer none) = true then sIsnil A (.pointer none) false else none) = some (.bool true, A) := rfl
  simp (maxSteps := 1000000) (disch := omega) only [stepS, reduceIte, Nat.reduceBEq, Nat.reduceEqDiff, tupleOf, stepT, stepX, heapR, lensR, stepM, dsl, Nat.reduceAdd, Nat.reduceLeDiff, i0, i3, c1]
  refine ⟨_, rfl, ?_⟩
  rw [runD_nil]; exact hq
theorem ids_nil {A : AH} {Q : Value → AH → Prop} (hq : Q (.slice none 0 0) A) : ACalls 0 Try.prog cache_Cache_IDs [.pointer none] Q A := by
  refine ACalls.of_fitsD mixed fits_cache_Cache_IDs rfl ?_
  unfold ic_cache_Cache_IDs
  have i0 : initA [.pointer none] 0 = .pointer none := rfl
  have i3 : initA [.pointer none] 1000000 = .tuple #[] := initA_dsl (by simp)
  generalize initA [.pointer none] = a at i0 i3
  have c1 : (if kindOf (.pointer 55) (.pointer none) = true then sIsnil A (.pointer none) false else none) = some (.bool true, A) := rfl
  simp (maxSteps := 1000000) (disch := omega) only [stepS, reduceIte, Nat.reduceBEq, Nat.reduceEqDiff, tupleOf, stepT, stepX, heapR, lensR, stepM, dsl, Nat.reduceAdd, Nat.reduceLeDiff, i0, i3, c1]
  refine ⟨_, rfl, ?_⟩
  rw [runD_nil]; exact hq
theorem len_nil {A : AH} {Q : Value → AH → Prop} (hq : Q (.int .i64 0) A) : ACalls 0 Try.prog cache_Cache_Len [.pointer none] Q A := by
  refine ACalls.of_fits mixed fits_cache_Cache_Len rfl ?_
  unfold ic_cache_Cache_Len
  have i0 : initA [.pointer none] 0 = .pointer none := rfl
  generalize initA [.pointer none] = a at i0
  simp (maxSteps := 1000000) (disch := omega) only [stepS, reduceIte, Nat.reduceBEq, Nat.reduceEqDiff, tupleOf, stepT, stepX, heapR, lensR, stepM, dsl, Nat.reduceAdd, Nat.reduceLeDiff, i0]
  refine ids_nil ?_
  simp (maxSteps := 1000000) (disch := omega) only [stepS, reduceIte, Nat.reduceBEq, Nat.reduceEqDiff, tupleOf, stepT, stepX, heapR, lensR, stepM, dsl, Nat.reduceAdd, Nat.reduceLeDiff]
  exact hq

theorem rmv_mem {id : ByteArray} {l : List Pr} {p : Pr} (h : p ∈ rmv id l) : p ∈ l := (List.mem_filter.1 h).1
/-- What is held is what was put last of its ID, of the first n deeds. -/
def Hist (l : List DeedV) (n : Nat) (L : List Pr) : Prop := ∀ p ∈ L, ∃ j d, j < n ∧ l[j]? = some d ∧ d.id = p.1 ∧ d.text = p.2 ∧ ∀ j' d', j < j' → j' < n → l[j']? = some d' → d'.id ≠ p.1
theorem Hist.put {l : List DeedV} {n M : Nat} {L : List Pr} (h : Hist l n L) {d : DeedV} (hd : l[n]? = some d) : Hist l (n + 1) (putP M d.id d.text L) := by
  intro p hp
  unfold putP at hp
  rcases List.mem_cons.1 ((fit_sub _ M).subset hp) with h1 | h1
  · subst h1
    exact ⟨n, d, by omega, hd, rfl, rfl, fun j' d' h2 h3 => by omega⟩
  · have hne := rmv_not d.id L p h1
    have hpL : p ∈ L := rmv_mem h1
    obtain ⟨j, d0, e1, e2, e3, e4, e5⟩ := h p hpL
    refine ⟨j, d0, by omega, e2, e3, e4, fun j' d' h2 h3 h4 => ?_⟩
    rcases Nat.lt_or_ge j' n with h5 | h5
    · exact e5 j' d' h2 h5 h4
    · have : j' = n := by omega
      subst this
      rw [hd] at h4
      obtain rfl := Option.some.inj h4
      exact fun e => hne e.symm
theorem Hist.get {l : List DeedV} {n : Nat} {L : List Pr} (h : Hist l n L) {p : Pr} (hp : p ∈ L) (id : ByteArray) : Hist l n (p :: rmv id L) := by
  intro q hq
  rcases List.mem_cons.1 hq with h1 | h1
  · subst h1; exact h q hp
  · exact h q (rmv_mem h1)
set_option maxHeartbeats 8000000 in
theorem CacheHolds_spec {A : AH} {most : Int} {v : Value} {l : List DeedV} {Q : Value → AH → Prop} (h0 : -9223372036854775808 ≤ most) (h1 : most < 9223372036854775808) (hv : DeedsA A v l) (hll : l.length < 2 ^ 50) (hq : ∀ A', Q (.bool true) A') :
    ACalls 0 Try.prog chantrylaw33_CacheHolds [.int .i64 most, v] Q A := by
  refine ACalls.of_fits mixed fits_chantrylaw33_CacheHolds rfl ?_
  unfold ic_chantrylaw33_CacheHolds
  have i0 : initA [.int .i64 most, v] 0 = .int .i64 most := rfl
  have i1 : initA [.int .i64 most, v] 1 = v := rfl
  generalize initA [.int .i64 most, v] = a at i0 i1
  have vl := hv.len
  have hmx : ((max most 0).toNat : Int) = max most 0 := by omega
  simp (maxSteps := 1000000) (disch := omega) only [stepS, reduceIte, Nat.reduceBEq, Nat.reduceEqDiff, tupleOf, stepT, stepX, heapR, lensR, stepM, dsl, Nat.reduceAdd, Nat.reduceLeDiff, i0]
  refine of_spec h0 h1 fun D k1 e1 c1 => ?_
  obtain ⟨M, hM⟩ : ∃ M, M = (max most 0).toNat := ⟨_, rfl⟩
  rw [← hM] at c1 hmx
  have hS : One A D A.length (.slice none 0 0) M [] := ⟨k1, c1, Nat.le_refl _, (fun k hk => by cases hk)⟩
  obtain ⟨c, hcc⟩ : ∃ c, c = A.length := ⟨_, rfl⟩
  rw [← hcc] at hS ⊢
  clear c1 e1 k1
  have cn : ∀ B : AH, (if kindOf (.pointer 55) (ptr c) = true then sIsnil B (ptr c) false else none) = some (.bool false, B) := fun B => rfl
  by_cases hlen : 60 < l.length
  · simp (maxSteps := 1000000) (disch := omega) only [stepS, reduceIte, Nat.reduceBEq, Nat.reduceEqDiff, tupleOf, stepT, stepX, heapR, lensR, stepM, dsl, Nat.reduceAdd, Nat.reduceLeDiff, i0, i1, vl, cn]
    refine awake_spec fun A' => ?_
    simp (maxSteps := 1000000) (disch := omega) only [stepS, reduceIte, Nat.reduceBEq, Nat.reduceEqDiff, tupleOf, stepT, stepX, heapR, lensR, stepM, dsl, Nat.reduceAdd, Nat.reduceLeDiff]
    exact hq _
  simp (maxSteps := 1000000) (disch := omega) only [stepS, reduceIte, Nat.reduceBEq, Nat.reduceEqDiff, tupleOf, stepT, stepX, heapR, lensR, stepM, dsl, Nat.reduceAdd, Nat.reduceLeDiff, i0, i1, vl, cn]
  obtain ⟨I, hI⟩ : ∃ I : AT → AH → Prop, I = fun a B => ∃ (i : Nat) (u : Value) (L : List Pr), a 0 = .int .i64 most ∧ a 1 = v ∧ a 5 = ptr c ∧ a 6 = .int .i64 (i : Int) ∧ i ≤ l.length ∧ One A B c u M L ∧ L.length ≤ i ∧ tot L ≤ 200 * i ∧ Hist l i L := ⟨_, rfl⟩
  refine W_loop I (fun a B => l.length - (match a 6 with | .int _ n => n.toNat | _ => 0)) (by rw [hI]; exact ⟨0, .slice none 0 0, [], by simp (maxSteps := 1000000) (disch := omega) only [stepS, reduceIte, Nat.reduceBEq, Nat.reduceEqDiff, tupleOf, stepT, stepX, heapR, lensR, stepM, dsl, Nat.reduceAdd, Nat.reduceLeDiff, i0], by simp (maxSteps := 1000000) (disch := omega) only [stepS, reduceIte, Nat.reduceBEq, Nat.reduceEqDiff, tupleOf, stepT, stepX, heapR, lensR, stepM, dsl, Nat.reduceAdd, Nat.reduceLeDiff, i1], by simp (maxSteps := 1000000) (disch := omega) only [stepS, reduceIte, Nat.reduceBEq, Nat.reduceEqDiff, tupleOf, stepT, stepX, heapR, lensR, stepM, dsl, Nat.reduceAdd, Nat.reduceLeDiff, i1], by simp (maxSteps := 1000000) (disch := omega) only [stepS, reduceIte, Nat.reduceBEq, Nat.reduceEqDiff, tupleOf, stepT, stepX, heapR, lensR, stepM, dsl, Nat.reduceAdd, Nat.reduceLeDiff, i1]; rfl, Nat.zero_le _, hS, Nat.le_refl _, Nat.le_refl _, fun p hp => by cases hp⟩) ?_
  clear i0 i1 hS
  intro a B hinv
  have hinv' := hinv
  rw [hI] at hinv'
  obtain ⟨i, u, L, g0, g1, g5, g6, hi, hS, hLl, hLt, hh⟩ := hinv'
  by_cases hlt : i < l.length
  rotate_left
  · have hi2 : i = l.length := by omega
    subst hi2
    simp (maxSteps := 1000000) (disch := omega) only [stepS, reduceIte, Nat.reduceBEq, Nat.reduceEqDiff, tupleOf, stepT, stepX, heapR, lensR, stepM, dsl, Nat.reduceAdd, Nat.reduceLeDiff, g0, g1, g5, g6, vl]
    refine put_nil ?_
    simp (maxSteps := 1000000) (disch := omega) only [stepS, reduceIte, Nat.reduceBEq, Nat.reduceEqDiff, tupleOf, stepT, stepX, heapR, lensR, stepM, dsl, Nat.reduceAdd, Nat.reduceLeDiff]
    refine get_nil ?_
    simp (maxSteps := 1000000) (disch := omega) only [stepS, reduceIte, Nat.reduceBEq, Nat.reduceEqDiff, tupleOf, stepT, stepX, heapR, lensR, stepM, dsl, Nat.reduceAdd, Nat.reduceLeDiff]
    refine len_nil ?_
    simp (maxSteps := 1000000) (disch := omega) only [stepS, reduceIte, Nat.reduceBEq, Nat.reduceEqDiff, tupleOf, stepT, stepX, heapR, lensR, stepM, dsl, Nat.reduceAdd, Nat.reduceLeDiff]
    refine size_nil ?_
    simp (maxSteps := 1000000) (disch := omega) only [stepS, reduceIte, Nat.reduceBEq, Nat.reduceEqDiff, tupleOf, stepT, stepX, heapR, lensR, stepM, dsl, Nat.reduceAdd, Nat.reduceLeDiff]
    refine ids_nil ?_
    simp (maxSteps := 1000000) (disch := omega) only [stepS, reduceIte, Nat.reduceBEq, Nat.reduceEqDiff, tupleOf, stepT, stepX, heapR, lensR, stepM, dsl, Nat.reduceAdd, Nat.reduceLeDiff]
    refine awake_spec fun A' => ?_
    simp (maxSteps := 1000000) (disch := omega) only [stepS, reduceIte, Nat.reduceBEq, Nat.reduceEqDiff, tupleOf, stepT, stepX, heapR, lensR, stepM, dsl, Nat.reduceAdd, Nat.reduceLeDiff]
    exact hq _
  have hdec : l.length - ((i : Int) + 1).toNat < l.length - i := by
    have e : ((i : Int) + 1).toNat = i + 1 := by omega
    rw [e]; exact Nat.sub_lt_sub_left hlt (Nat.lt_succ_self i)
  obtain ⟨d, hd⟩ : ∃ d, l[i]? = some d := ⟨_, List.getElem?_eq_getElem hlt⟩
  obtain ⟨x, q, q0, q1, q2, o0, o1, o2, o3, p1, p2, p3, hx, hb1, hb2⟩ := hv.at hd
  have p3B := p3 B hS.le
  have p2B := p2 B hS.le
  have xl : ∀ B, sLens B false x = some (.int .i64 (d.text.length : Int), B) := fun B => Sl.lenB hx B
  refine W_mid (fun a' B' => a' 0 = .int .i64 most ∧ a' 1 = v ∧ a' 5 = ptr c ∧ a' 6 = .int .i64 (i : Int) ∧ B' = B) ?_ ?_
  · simp (maxSteps := 1000000) (disch := omega) only [stepS, reduceIte, Nat.reduceBEq, Nat.reduceEqDiff, tupleOf, stepT, stepX, heapR, lensR, stepM, dsl, Nat.reduceAdd, Nat.reduceLeDiff, g0, g1, g5, g6, vl]
  have g6o := g6
  clear g0 g1 g5 g6 hinv
  rintro b B' ⟨g0, g1, g5, g6, hBB⟩
  subst hBB
  obtain ⟨Z, hZ⟩ : ∃ Z : AT → AH → Prop, Z = fun b E => b 0 = .int .i64 most ∧ b 1 = v ∧ b 5 = ptr c ∧ b 6 = .int .i64 (i : Int) ∧ ∃ (u : Value) (L : List Pr), One A E c u M L ∧ L.length ≤ i + 1 ∧ tot L ≤ 200 * (i + 1) ∧ Hist l (i + 1) L := ⟨_, rfl⟩
  refine W_midR Z ?_ ?_
  rotate_left
  · clear g0 g1 g5 g6 b
    intro b E hz
    rw [hZ] at hz
    obtain ⟨g0, g1, g5, g6, u, L, hS, e1, e2, e3⟩ := hz
    simp (maxSteps := 1000000) (disch := omega) only [stepS, reduceIte, Nat.reduceBEq, Nat.reduceEqDiff, tupleOf, stepT, stepX, heapR, lensR, stepM, dsl, Nat.reduceAdd, Nat.reduceLeDiff, g0, g1, g5, g6, g6o]
    refine ⟨by rw [hI]; exact ⟨i + 1, u, L, by simp (maxSteps := 1000000) (disch := omega) only [stepS, reduceIte, Nat.reduceBEq, Nat.reduceEqDiff, tupleOf, stepT, stepX, heapR, lensR, stepM, dsl, Nat.reduceAdd, Nat.reduceLeDiff, g0], by simp (maxSteps := 1000000) (disch := omega) only [stepS, reduceIte, Nat.reduceBEq, Nat.reduceEqDiff, tupleOf, stepT, stepX, heapR, lensR, stepM, dsl, Nat.reduceAdd, Nat.reduceLeDiff, g1], by simp (maxSteps := 1000000) (disch := omega) only [stepS, reduceIte, Nat.reduceBEq, Nat.reduceEqDiff, tupleOf, stepT, stepX, heapR, lensR, stepM, dsl, Nat.reduceAdd, Nat.reduceLeDiff, g5], by simp (maxSteps := 1000000) (disch := omega) only [stepS, reduceIte, Nat.reduceBEq, Nat.reduceEqDiff, tupleOf, stepT, stepX, heapR, lensR, stepM, dsl, Nat.reduceAdd, Nat.reduceLeDiff, g6]; push_cast; rfl, by omega, hS, e1, e2, e3⟩, hdec⟩
  rw [W_block]
  by_cases htx : 200 < d.text.length
  · simp (maxSteps := 1000000) (disch := omega) only [stepS, reduceIte, Nat.reduceBEq, Nat.reduceEqDiff, tupleOf, stepT, stepX, heapR, lensR, stepM, dsl, Nat.reduceAdd, Nat.reduceLeDiff, g0, g1, g5, g6, o0, o3, p3B, xl]
    refine awake_spec fun A' => ?_
    simp (maxSteps := 1000000) (disch := omega) only [stepS, reduceIte, Nat.reduceBEq, Nat.reduceEqDiff, tupleOf, stepT, stepX, heapR, lensR, stepM, dsl, Nat.reduceAdd, Nat.reduceLeDiff, reduceCtorEq, false_and, false_or, true_and]
    exact hq _
  refine W_mid (fun a' E => a' 0 = .int .i64 most ∧ a' 1 = v ∧ a' 5 = ptr c ∧ a' 6 = .int .i64 (i : Int) ∧ E = B') ?_ ?_
  · simp (maxSteps := 1000000) (disch := omega) only [stepS, reduceIte, Nat.reduceBEq, Nat.reduceEqDiff, tupleOf, stepT, stepX, heapR, lensR, stepM, dsl, Nat.reduceAdd, Nat.reduceLeDiff, g0, g1, g5, g6, o0, o3, p3B, xl]
  clear g0 g1 g5 g6 b
  rintro b E ⟨g0, g1, g5, g6, hBB⟩
  subst hBB
  refine W_mid (fun b E => b 0 = .int .i64 most ∧ b 1 = v ∧ b 5 = ptr c ∧ b 6 = .int .i64 (i : Int) ∧ ∃ (u : Value) (L : List Pr), One A E c u M L ∧ L.length ≤ i + 1 ∧ tot L ≤ 200 * (i + 1) ∧ Hist l (i + 1) L ∧ tot L ≤ M) ?_ ?_
  · simp (maxSteps := 1000000) (disch := omega) only [stepS, reduceIte, Nat.reduceBEq, Nat.reduceEqDiff, tupleOf, stepT, stepX, heapR, lensR, stepM, dsl, Nat.reduceAdd, Nat.reduceLeDiff, g0, g1, g5, g6, o0, o2, o3, p2B, p3B]
    refine put_spec hS.cc (by omega) (by omega) (hx.le hS.le) (by omega) fun u2 B2 c2 f2 => ?_
    have hS2 := hS.fr c2 f2
    have hl4 := putP_len (M := M) (id := d.id) (t := d.text) (l := L)
    have ht4 := putP_tot (M := M) (id := d.id) (t := d.text) (l := L)
    simp (maxSteps := 1000000) (disch := omega) only [stepS, reduceIte, Nat.reduceBEq, Nat.reduceEqDiff, tupleOf, stepT, stepX, heapR, lensR, stepM, dsl, Nat.reduceAdd, Nat.reduceLeDiff, g0, g1, g5, g6]
    exact ⟨u2, _, hS2, by omega, by omega, hh.put hd, fit_le _ _⟩
  clear g0 g1 g5 g6 b hS hLl hLt hh p2B p3B u L
  rintro b B2 ⟨g0, g1, g5, g6, u, L, hS, hLl, hLt, hh, hfit⟩
  refine W_mid Z ?_ ?_
  · have fin : ∀ (b : AT) (E : AH) (u : Value), b 0 = .int .i64 most → b 1 = v → b 5 = ptr c → b 6 = .int .i64 (i : Int) → One A E c u M L → Z b E := by
      intro b E u g0 g1 g5 g6 hS
      rw [hZ]; exact ⟨g0, g1, g5, g6, u, L, hS, hLl, hLt, hh⟩
    simp (maxSteps := 1000000) (disch := omega) only [stepS, reduceIte, Nat.reduceBEq, Nat.reduceEqDiff, tupleOf, stepT, stepX, heapR, lensR, stepM, dsl, Nat.reduceAdd, Nat.reduceLeDiff, g0, g1, g5, g6]
    refine size_spec hS.cc fun B3 c3 f3 => ?_
    have hS3 := hS.fr c3 f3
    by_cases hgt : most < (tot L : Int)
    · have hz : tot L = 0 := by omega
      have dz : decide ((tot L : Int) > 0) = false := by rw [decide_eq_false_iff_not]; omega
      simp (maxSteps := 1000000) (disch := omega) only [stepS, reduceIte, Nat.reduceBEq, Nat.reduceEqDiff, tupleOf, stepT, stepX, heapR, lensR, stepM, dsl, Nat.reduceAdd, Nat.reduceLeDiff, g0, g1, g5, g6]
      refine size_spec hS3.cc fun B4 c4 f4 => ?_
      have hS4 := hS3.fr c4 f4
      simp (maxSteps := 1000000) (disch := omega) only [stepS, reduceIte, Nat.reduceBEq, Nat.reduceEqDiff, tupleOf, stepT, stepX, heapR, lensR, stepM, dsl, Nat.reduceAdd, Nat.reduceLeDiff, g0, g1, g5, g6, dz]
      refine len_spec hS4.cc (by omega) fun B5 c5 f5 => ?_
      have hS5 := hS4.fr c5 f5
      simp (maxSteps := 1000000) (disch := omega) only [stepS, reduceIte, Nat.reduceBEq, Nat.reduceEqDiff, tupleOf, stepT, stepX, heapR, lensR, stepM, dsl, Nat.reduceAdd, Nat.reduceLeDiff, g0, g1, g5, g6]
      refine ids_spec hS5.cc (by omega) fun y B6 c6 f6 hy => ?_
      have hS6 := hS5.fr c6 f6
      have yl := Sl.lenB hy.sl
      simp (maxSteps := 1000000) (disch := omega) only [stepS, reduceIte, Nat.reduceBEq, Nat.reduceEqDiff, tupleOf, stepT, stepX, heapR, lensR, stepM, dsl, Nat.reduceAdd, Nat.reduceLeDiff, g0, g1, g5, g6, yl]
      exact fin _ _ _ (by simp (maxSteps := 1000000) (disch := omega) only [stepS, reduceIte, Nat.reduceBEq, Nat.reduceEqDiff, tupleOf, stepT, stepX, heapR, lensR, stepM, dsl, Nat.reduceAdd, Nat.reduceLeDiff, g0]) (by simp (maxSteps := 1000000) (disch := omega) only [stepS, reduceIte, Nat.reduceBEq, Nat.reduceEqDiff, tupleOf, stepT, stepX, heapR, lensR, stepM, dsl, Nat.reduceAdd, Nat.reduceLeDiff, g1]) (by simp (maxSteps := 1000000) (disch := omega) only [stepS, reduceIte, Nat.reduceBEq, Nat.reduceEqDiff, tupleOf, stepT, stepX, heapR, lensR, stepM, dsl, Nat.reduceAdd, Nat.reduceLeDiff, g5]) (by simp (maxSteps := 1000000) (disch := omega) only [stepS, reduceIte, Nat.reduceBEq, Nat.reduceEqDiff, tupleOf, stepT, stepX, heapR, lensR, stepM, dsl, Nat.reduceAdd, Nat.reduceLeDiff, g6]) hS6
    · simp (maxSteps := 1000000) (disch := omega) only [stepS, reduceIte, Nat.reduceBEq, Nat.reduceEqDiff, tupleOf, stepT, stepX, heapR, lensR, stepM, dsl, Nat.reduceAdd, Nat.reduceLeDiff, g0, g1, g5, g6]
      refine len_spec hS3.cc (by omega) fun B5 c5 f5 => ?_
      have hS5 := hS3.fr c5 f5
      simp (maxSteps := 1000000) (disch := omega) only [stepS, reduceIte, Nat.reduceBEq, Nat.reduceEqDiff, tupleOf, stepT, stepX, heapR, lensR, stepM, dsl, Nat.reduceAdd, Nat.reduceLeDiff, g0, g1, g5, g6]
      refine ids_spec hS5.cc (by omega) fun y B6 c6 f6 hy => ?_
      have hS6 := hS5.fr c6 f6
      have yl := Sl.lenB hy.sl
      simp (maxSteps := 1000000) (disch := omega) only [stepS, reduceIte, Nat.reduceBEq, Nat.reduceEqDiff, tupleOf, stepT, stepX, heapR, lensR, stepM, dsl, Nat.reduceAdd, Nat.reduceLeDiff, g0, g1, g5, g6, yl]
      exact fin _ _ _ (by simp (maxSteps := 1000000) (disch := omega) only [stepS, reduceIte, Nat.reduceBEq, Nat.reduceEqDiff, tupleOf, stepT, stepX, heapR, lensR, stepM, dsl, Nat.reduceAdd, Nat.reduceLeDiff, g0]) (by simp (maxSteps := 1000000) (disch := omega) only [stepS, reduceIte, Nat.reduceBEq, Nat.reduceEqDiff, tupleOf, stepT, stepX, heapR, lensR, stepM, dsl, Nat.reduceAdd, Nat.reduceLeDiff, g1]) (by simp (maxSteps := 1000000) (disch := omega) only [stepS, reduceIte, Nat.reduceBEq, Nat.reduceEqDiff, tupleOf, stepT, stepX, heapR, lensR, stepM, dsl, Nat.reduceAdd, Nat.reduceLeDiff, g5]) (by simp (maxSteps := 1000000) (disch := omega) only [stepS, reduceIte, Nat.reduceBEq, Nat.reduceEqDiff, tupleOf, stepT, stepX, heapR, lensR, stepM, dsl, Nat.reduceAdd, Nat.reduceLeDiff, g6]) hS6
  clear g0 g1 g5 g6 b hS hLl hLt hh hfit u L
  intro b E hz
  rw [hZ] at hz
  obtain ⟨g0, g1, g5, g6, u, L, hS, hLl, hLt, hh⟩ := hz
  simp (maxSteps := 1000000) (disch := omega) only [stepS, reduceIte, Nat.reduceBEq, Nat.reduceEqDiff, tupleOf, stepT, stepX, heapR, lensR, stepM, dsl, Nat.reduceAdd, Nat.reduceLeDiff, g0, g1, g5, g6]
  obtain ⟨J, hJ⟩ : ∃ J : AT → AH → Prop, J = fun b E => ∃ (k : Nat) (u : Value) (L : List Pr), b 0 = .int .i64 most ∧ b 1 = v ∧ b 5 = ptr c ∧ b 6 = .int .i64 (i : Int) ∧ b 7 = .int .i64 (k : Int) ∧ k ≤ i + 1 ∧ One A E c u M L ∧ L.length ≤ i + 1 ∧ tot L ≤ 200 * (i + 1) ∧ Hist l (i + 1) L := ⟨_, rfl⟩
  refine W_loop J (fun b E => i + 1 - (match b 7 with | .int _ n => n.toNat | _ => 0)) (by rw [hJ]; exact ⟨0, u, L, by simp (maxSteps := 1000000) (disch := omega) only [stepS, reduceIte, Nat.reduceBEq, Nat.reduceEqDiff, tupleOf, stepT, stepX, heapR, lensR, stepM, dsl, Nat.reduceAdd, Nat.reduceLeDiff, g0], by simp (maxSteps := 1000000) (disch := omega) only [stepS, reduceIte, Nat.reduceBEq, Nat.reduceEqDiff, tupleOf, stepT, stepX, heapR, lensR, stepM, dsl, Nat.reduceAdd, Nat.reduceLeDiff, g1], by simp (maxSteps := 1000000) (disch := omega) only [stepS, reduceIte, Nat.reduceBEq, Nat.reduceEqDiff, tupleOf, stepT, stepX, heapR, lensR, stepM, dsl, Nat.reduceAdd, Nat.reduceLeDiff, g5], by simp (maxSteps := 1000000) (disch := omega) only [stepS, reduceIte, Nat.reduceBEq, Nat.reduceEqDiff, tupleOf, stepT, stepX, heapR, lensR, stepM, dsl, Nat.reduceAdd, Nat.reduceLeDiff, g6], by simp (maxSteps := 1000000) (disch := omega) only [stepS, reduceIte, Nat.reduceBEq, Nat.reduceEqDiff, tupleOf, stepT, stepX, heapR, lensR, stepM, dsl, Nat.reduceAdd, Nat.reduceLeDiff, g6]; rfl, Nat.zero_le _, hS, hLl, hLt, hh⟩) ?_
  clear g0 g1 g5 g6 b hS hLl hLt hh u L
  intro b C hinv
  have hinv' := hinv
  rw [hJ] at hinv'
  obtain ⟨k, u, L, g0, g1, g5, g6, g7, hk, hS, hLl, hLt, hh⟩ := hinv'
  by_cases hki : k ≤ i
  rotate_left
  · have : k = i + 1 := by omega
    subst this
    simp (maxSteps := 1000000) (disch := omega) only [stepS, reduceIte, Nat.reduceBEq, Nat.reduceEqDiff, tupleOf, stepT, stepX, heapR, lensR, stepM, dsl, Nat.reduceAdd, Nat.reduceLeDiff, g0, g1, g5, g6, g7, reduceCtorEq, false_and, or_false, true_and]
    rw [hZ]
    exact ⟨by simp (maxSteps := 1000000) (disch := omega) only [stepS, reduceIte, Nat.reduceBEq, Nat.reduceEqDiff, tupleOf, stepT, stepX, heapR, lensR, stepM, dsl, Nat.reduceAdd, Nat.reduceLeDiff, g0], by simp (maxSteps := 1000000) (disch := omega) only [stepS, reduceIte, Nat.reduceBEq, Nat.reduceEqDiff, tupleOf, stepT, stepX, heapR, lensR, stepM, dsl, Nat.reduceAdd, Nat.reduceLeDiff, g1], by simp (maxSteps := 1000000) (disch := omega) only [stepS, reduceIte, Nat.reduceBEq, Nat.reduceEqDiff, tupleOf, stepT, stepX, heapR, lensR, stepM, dsl, Nat.reduceAdd, Nat.reduceLeDiff, g5], by simp (maxSteps := 1000000) (disch := omega) only [stepS, reduceIte, Nat.reduceBEq, Nat.reduceEqDiff, tupleOf, stepT, stepX, heapR, lensR, stepM, dsl, Nat.reduceAdd, Nat.reduceLeDiff, g6], u, L, hS, hLl, hLt, hh⟩
  have hdec2 : i + 1 - ((k : Int) + 1).toNat < i + 1 - k := by
    have e : ((k : Int) + 1).toNat = k + 1 := by omega
    rw [e]; omega
  obtain ⟨dk, hdk⟩ : ∃ dk, l[k]? = some dk := ⟨_, List.getElem?_eq_getElem (by omega)⟩
  obtain ⟨xk, qk, qk0, qk1, qk2, r0, r1, r2, r3, s1, s2, s3, hxk, _, _⟩ := hv.at hdk
  have s2C := s2 C hS.le
  simp (maxSteps := 1000000) (disch := omega) only [stepS, reduceIte, Nat.reduceBEq, Nat.reduceEqDiff, tupleOf, stepT, stepX, heapR, lensR, stepM, dsl, Nat.reduceAdd, Nat.reduceLeDiff, g0, g1, g5, g6, g7]
  obtain ⟨K, hK⟩ : ∃ K : AT → AH → Prop, K = fun b E => ∃ (j : Nat) (la : Bool), b 0 = .int .i64 most ∧ b 1 = v ∧ b 5 = ptr c ∧ b 6 = .int .i64 (i : Int) ∧ b 7 = .int .i64 (k : Int) ∧ b 8 = .bool la ∧ b 9 = .int .i64 (j : Int) ∧ k < j ∧ j ≤ i + 1 ∧ E = C ∧ (la = true → ∀ j' d', k < j' → j' < j → l[j']? = some d' → d'.id ≠ dk.id) := ⟨_, rfl⟩
  refine W_loop K (fun b E => i + 1 - (match b 9 with | .int _ n => n.toNat | _ => 0)) (by rw [hK]; exact ⟨k + 1, true, by simp (maxSteps := 1000000) (disch := omega) only [stepS, reduceIte, Nat.reduceBEq, Nat.reduceEqDiff, tupleOf, stepT, stepX, heapR, lensR, stepM, dsl, Nat.reduceAdd, Nat.reduceLeDiff, g0], by simp (maxSteps := 1000000) (disch := omega) only [stepS, reduceIte, Nat.reduceBEq, Nat.reduceEqDiff, tupleOf, stepT, stepX, heapR, lensR, stepM, dsl, Nat.reduceAdd, Nat.reduceLeDiff, g1], by simp (maxSteps := 1000000) (disch := omega) only [stepS, reduceIte, Nat.reduceBEq, Nat.reduceEqDiff, tupleOf, stepT, stepX, heapR, lensR, stepM, dsl, Nat.reduceAdd, Nat.reduceLeDiff, g5], by simp (maxSteps := 1000000) (disch := omega) only [stepS, reduceIte, Nat.reduceBEq, Nat.reduceEqDiff, tupleOf, stepT, stepX, heapR, lensR, stepM, dsl, Nat.reduceAdd, Nat.reduceLeDiff, g6], by simp (maxSteps := 1000000) (disch := omega) only [stepS, reduceIte, Nat.reduceBEq, Nat.reduceEqDiff, tupleOf, stepT, stepX, heapR, lensR, stepM, dsl, Nat.reduceAdd, Nat.reduceLeDiff, g7], by simp (maxSteps := 1000000) (disch := omega) only [stepS, reduceIte, Nat.reduceBEq, Nat.reduceEqDiff, tupleOf, stepT, stepX, heapR, lensR, stepM, dsl, Nat.reduceAdd, Nat.reduceLeDiff, g7], by simp (maxSteps := 1000000) (disch := omega) only [stepS, reduceIte, Nat.reduceBEq, Nat.reduceEqDiff, tupleOf, stepT, stepX, heapR, lensR, stepM, dsl, Nat.reduceAdd, Nat.reduceLeDiff, g7]; push_cast; rfl, by omega, by omega, rfl, fun _ j' d' h1 h2 => by omega⟩) ?_
  have g7o := g7
  clear g0 g1 g5 g6 g7
  intro b2 C2 hinv2
  have hinv2' := hinv2
  rw [hK] at hinv2'
  obtain ⟨j, la, g0, g1, g5, g6, g7, g8, g9, hj, hji, rfl, hla⟩ := hinv2'
  by_cases hjl : j ≤ i
  · obtain ⟨dj, hdj⟩ : ∃ dj, l[j]? = some dj := ⟨_, List.getElem?_eq_getElem (by omega)⟩
    obtain ⟨xj, qj, qj0, qj1, qj2, t0, t1, t2, t3, w1, w2, w3, hxj, _, _⟩ := hv.at hdj
    have w2C := w2 C2 hS.le
    have hdec3 : i + 1 - ((j : Int) + 1).toNat < i + 1 - j := by
      have e : ((j : Int) + 1).toNat = j + 1 := by omega
      rw [e]; omega
    cases la with
    | true =>
      have hnew : decide (dj.id ≠ dk.id) = true → ∀ j' d', k < j' → j' < j + 1 → l[j']? = some d' → d'.id ≠ dk.id := by
        intro h j' d' h1 h2 h3
        rcases Nat.lt_or_ge j' j with h4 | h4
        · exact hla rfl j' d' h1 h4 h3
        · have : j' = j := by omega
          subst this
          rw [hdj] at h3
          obtain rfl := Option.some.inj h3
          simpa using h
      simp (maxSteps := 1000000) (disch := omega) only [stepS, reduceIte, Nat.reduceBEq, Nat.reduceEqDiff, tupleOf, stepT, stepX, heapR, lensR, stepM, dsl, Nat.reduceAdd, Nat.reduceLeDiff, g0, g1, g5, g6, g7, g8, g9, r0, r2, s2C, t0, t2, w2C]
      refine ⟨by rw [hK]; exact ⟨j + 1, decide (dj.id ≠ dk.id), by simp (maxSteps := 1000000) (disch := omega) only [stepS, reduceIte, Nat.reduceBEq, Nat.reduceEqDiff, tupleOf, stepT, stepX, heapR, lensR, stepM, dsl, Nat.reduceAdd, Nat.reduceLeDiff, g0], by simp (maxSteps := 1000000) (disch := omega) only [stepS, reduceIte, Nat.reduceBEq, Nat.reduceEqDiff, tupleOf, stepT, stepX, heapR, lensR, stepM, dsl, Nat.reduceAdd, Nat.reduceLeDiff, g1], by simp (maxSteps := 1000000) (disch := omega) only [stepS, reduceIte, Nat.reduceBEq, Nat.reduceEqDiff, tupleOf, stepT, stepX, heapR, lensR, stepM, dsl, Nat.reduceAdd, Nat.reduceLeDiff, g5], by simp (maxSteps := 1000000) (disch := omega) only [stepS, reduceIte, Nat.reduceBEq, Nat.reduceEqDiff, tupleOf, stepT, stepX, heapR, lensR, stepM, dsl, Nat.reduceAdd, Nat.reduceLeDiff, g6], by simp (maxSteps := 1000000) (disch := omega) only [stepS, reduceIte, Nat.reduceBEq, Nat.reduceEqDiff, tupleOf, stepT, stepX, heapR, lensR, stepM, dsl, Nat.reduceAdd, Nat.reduceLeDiff, g7], by simp (maxSteps := 1000000) (disch := omega) only [stepS, reduceIte, Nat.reduceBEq, Nat.reduceEqDiff, tupleOf, stepT, stepX, heapR, lensR, stepM, dsl, Nat.reduceAdd, Nat.reduceLeDiff, g7], by simp (maxSteps := 1000000) (disch := omega) only [stepS, reduceIte, Nat.reduceBEq, Nat.reduceEqDiff, tupleOf, stepT, stepX, heapR, lensR, stepM, dsl, Nat.reduceAdd, Nat.reduceLeDiff, g7]; push_cast; rfl, by omega, by omega, rfl, hnew⟩, hdec3⟩
    | false =>
      simp (maxSteps := 1000000) (disch := omega) only [stepS, reduceIte, Nat.reduceBEq, Nat.reduceEqDiff, tupleOf, stepT, stepX, heapR, lensR, stepM, dsl, Nat.reduceAdd, Nat.reduceLeDiff, g0, g1, g5, g6, g7, g8, g9]
      refine ⟨by rw [hK]; exact ⟨j + 1, false, by simp (maxSteps := 1000000) (disch := omega) only [stepS, reduceIte, Nat.reduceBEq, Nat.reduceEqDiff, tupleOf, stepT, stepX, heapR, lensR, stepM, dsl, Nat.reduceAdd, Nat.reduceLeDiff, g0], by simp (maxSteps := 1000000) (disch := omega) only [stepS, reduceIte, Nat.reduceBEq, Nat.reduceEqDiff, tupleOf, stepT, stepX, heapR, lensR, stepM, dsl, Nat.reduceAdd, Nat.reduceLeDiff, g1], by simp (maxSteps := 1000000) (disch := omega) only [stepS, reduceIte, Nat.reduceBEq, Nat.reduceEqDiff, tupleOf, stepT, stepX, heapR, lensR, stepM, dsl, Nat.reduceAdd, Nat.reduceLeDiff, g5], by simp (maxSteps := 1000000) (disch := omega) only [stepS, reduceIte, Nat.reduceBEq, Nat.reduceEqDiff, tupleOf, stepT, stepX, heapR, lensR, stepM, dsl, Nat.reduceAdd, Nat.reduceLeDiff, g6], by simp (maxSteps := 1000000) (disch := omega) only [stepS, reduceIte, Nat.reduceBEq, Nat.reduceEqDiff, tupleOf, stepT, stepX, heapR, lensR, stepM, dsl, Nat.reduceAdd, Nat.reduceLeDiff, g7], by simp (maxSteps := 1000000) (disch := omega) only [stepS, reduceIte, Nat.reduceBEq, Nat.reduceEqDiff, tupleOf, stepT, stepX, heapR, lensR, stepM, dsl, Nat.reduceAdd, Nat.reduceLeDiff, g7], by simp (maxSteps := 1000000) (disch := omega) only [stepS, reduceIte, Nat.reduceBEq, Nat.reduceEqDiff, tupleOf, stepT, stepX, heapR, lensR, stepM, dsl, Nat.reduceAdd, Nat.reduceLeDiff, g7]; push_cast; rfl, by omega, by omega, rfl, fun h => by cases h⟩, hdec3⟩
  · have hj2 : j = i + 1 := by omega
    subst hj2
    have finJ : ∀ (b : AT) (E : AH) (u : Value) (L : List Pr), b 0 = .int .i64 most → b 1 = v → b 5 = ptr c → b 6 = .int .i64 (i : Int) → b 7 = .int .i64 ((k : Int) + 1) → One A E c u M L → L.length ≤ i + 1 → tot L ≤ 200 * (i + 1) → Hist l (i + 1) L → J b E := by
      intro b E u L g0 g1 g5 g6 g7 hS e1 e2 e3
      rw [hJ]; exact ⟨k + 1, u, L, g0, g1, g5, g6, by rw [g7]; push_cast; rfl, by omega, hS, e1, e2, e3⟩
    simp (maxSteps := 1000000) (disch := omega) only [stepS, reduceIte, Nat.reduceBEq, Nat.reduceEqDiff, tupleOf, stepT, stepX, heapR, lensR, stepM, dsl, Nat.reduceAdd, Nat.reduceLeDiff, g0, g1, g5, g6, g7, g8, g9, r0, r2, s2C]
    refine get_spec hS.cc (by omega) (by omega) (fun hno B3 c3 f3 => ?_) (fun p y u3 B3 hp hpe c3 f3 hy => ?_)
    · have hS3 := hS.fr c3 f3
      simp (maxSteps := 1000000) (disch := omega) only [stepS, reduceIte, Nat.reduceBEq, Nat.reduceEqDiff, tupleOf, stepT, stepX, heapR, lensR, stepM, dsl, Nat.reduceAdd, Nat.reduceLeDiff, g0, g1, g5, g6, g7, g8, g9]
      refine ⟨finJ _ _ u L (by simp (maxSteps := 1000000) (disch := omega) only [stepS, reduceIte, Nat.reduceBEq, Nat.reduceEqDiff, tupleOf, stepT, stepX, heapR, lensR, stepM, dsl, Nat.reduceAdd, Nat.reduceLeDiff, g0]) (by simp (maxSteps := 1000000) (disch := omega) only [stepS, reduceIte, Nat.reduceBEq, Nat.reduceEqDiff, tupleOf, stepT, stepX, heapR, lensR, stepM, dsl, Nat.reduceAdd, Nat.reduceLeDiff, g1]) (by simp (maxSteps := 1000000) (disch := omega) only [stepS, reduceIte, Nat.reduceBEq, Nat.reduceEqDiff, tupleOf, stepT, stepX, heapR, lensR, stepM, dsl, Nat.reduceAdd, Nat.reduceLeDiff, g5]) (by simp (maxSteps := 1000000) (disch := omega) only [stepS, reduceIte, Nat.reduceBEq, Nat.reduceEqDiff, tupleOf, stepT, stepX, heapR, lensR, stepM, dsl, Nat.reduceAdd, Nat.reduceLeDiff, g6]) (by simp (maxSteps := 1000000) (disch := omega) only [stepS, reduceIte, Nat.reduceBEq, Nat.reduceEqDiff, tupleOf, stepT, stepX, heapR, lensR, stepM, dsl, Nat.reduceAdd, Nat.reduceLeDiff, g7]) hS3 hLl hLt hh, hdec2⟩
    · have hS3 := hS.fr c3 f3
      have s3C := s3 B3 hS3.le
      have sx := (hxk.le hS3.le).str
      have sy := hy.str
      have hl5 : (p :: rmv dk.id L).length ≤ L.length := by rw [← hpe]; exact (get_len hp).1
      have ht5 : tot (p :: rmv dk.id L) = tot L := by rw [← hpe]; exact get_tot hS.cc.nd hp
      have hh5 := hh.get hp dk.id
      cases la with
      | true =>
        obtain ⟨jj, dd, z1, z2, z3, z4, z5⟩ := hh p hp
        have hjk : jj = k := by
          rcases Nat.lt_trichotomy jj k with h | h | h
          · exact absurd hpe.symm (z5 k dk h (by omega) hdk)
          · exact h
          · exact absurd (z3.trans hpe) (hla rfl jj dd h z1 z2)
        subst hjk
        rw [hdk] at z2
        obtain rfl := Option.some.inj z2
        rw [← z4] at sy
        simp (maxSteps := 1000000) (disch := omega) only [stepS, reduceIte, Nat.reduceBEq, Nat.reduceEqDiff, tupleOf, stepT, stepX, heapR, lensR, stepM, dsl, Nat.reduceAdd, Nat.reduceLeDiff, g0, g1, g5, g6, g7, g8, g9, r0, r3, s3C, sx, sy]
        refine ⟨finJ _ _ u3 _ (by simp (maxSteps := 1000000) (disch := omega) only [stepS, reduceIte, Nat.reduceBEq, Nat.reduceEqDiff, tupleOf, stepT, stepX, heapR, lensR, stepM, dsl, Nat.reduceAdd, Nat.reduceLeDiff, g0]) (by simp (maxSteps := 1000000) (disch := omega) only [stepS, reduceIte, Nat.reduceBEq, Nat.reduceEqDiff, tupleOf, stepT, stepX, heapR, lensR, stepM, dsl, Nat.reduceAdd, Nat.reduceLeDiff, g1]) (by simp (maxSteps := 1000000) (disch := omega) only [stepS, reduceIte, Nat.reduceBEq, Nat.reduceEqDiff, tupleOf, stepT, stepX, heapR, lensR, stepM, dsl, Nat.reduceAdd, Nat.reduceLeDiff, g5]) (by simp (maxSteps := 1000000) (disch := omega) only [stepS, reduceIte, Nat.reduceBEq, Nat.reduceEqDiff, tupleOf, stepT, stepX, heapR, lensR, stepM, dsl, Nat.reduceAdd, Nat.reduceLeDiff, g6]) (by simp (maxSteps := 1000000) (disch := omega) only [stepS, reduceIte, Nat.reduceBEq, Nat.reduceEqDiff, tupleOf, stepT, stepX, heapR, lensR, stepM, dsl, Nat.reduceAdd, Nat.reduceLeDiff, g7]) hS3 (by omega) (by omega) hh5, hdec2⟩
      | false =>
        simp (maxSteps := 1000000) (disch := omega) only [stepS, reduceIte, Nat.reduceBEq, Nat.reduceEqDiff, tupleOf, stepT, stepX, heapR, lensR, stepM, dsl, Nat.reduceAdd, Nat.reduceLeDiff, g0, g1, g5, g6, g7, g8, g9]
        refine ⟨finJ _ _ u3 _ (by simp (maxSteps := 1000000) (disch := omega) only [stepS, reduceIte, Nat.reduceBEq, Nat.reduceEqDiff, tupleOf, stepT, stepX, heapR, lensR, stepM, dsl, Nat.reduceAdd, Nat.reduceLeDiff, g0]) (by simp (maxSteps := 1000000) (disch := omega) only [stepS, reduceIte, Nat.reduceBEq, Nat.reduceEqDiff, tupleOf, stepT, stepX, heapR, lensR, stepM, dsl, Nat.reduceAdd, Nat.reduceLeDiff, g1]) (by simp (maxSteps := 1000000) (disch := omega) only [stepS, reduceIte, Nat.reduceBEq, Nat.reduceEqDiff, tupleOf, stepT, stepX, heapR, lensR, stepM, dsl, Nat.reduceAdd, Nat.reduceLeDiff, g5]) (by simp (maxSteps := 1000000) (disch := omega) only [stepS, reduceIte, Nat.reduceBEq, Nat.reduceEqDiff, tupleOf, stepT, stepX, heapR, lensR, stepM, dsl, Nat.reduceAdd, Nat.reduceLeDiff, g6]) (by simp (maxSteps := 1000000) (disch := omega) only [stepS, reduceIte, Nat.reduceBEq, Nat.reduceEqDiff, tupleOf, stepT, stepX, heapR, lensR, stepM, dsl, Nat.reduceAdd, Nat.reduceLeDiff, g7]) hS3 (by omega) (by omega) hh5, hdec2⟩
theorem CacheHolds_law {A : AH} {v0 v1 : Value} (g0 : GoodV Try.prog A 9 3 v0) (g1 : GoodV Try.prog A 9 22 v1) : ACalls 0 Try.prog 4 [v0, v1] (fun v _ => v = .bool true) A := by
  obtain ⟨n0, rfl, b0, c0⟩ := law_int Try.underlying3 g0
  obtain ⟨l, hl, hb⟩ := law_deeds g1
  exact CacheHolds_spec b0 c0 hl hb (fun _ => rfl)
end Go.AS.C
