/- Lemmas for the proof of a given statement; no conditions. -/
import Derived.Test.YtjbmnlmjngegeaaDoorM6
set_option maxHeartbeats 1000000

namespace Go.AS.C
open Go Go.Proofs
set_option linter.unusedVariables false
set_option linter.unusedSimpArgs false
set_option maxRecDepth 10000

theorem ref28_Sorted_spec {A : AH} {v : Value} {ts : List (List UInt8)} {Q : Value → AH → Prop} (hv : Byts A v ts) (hl : ts.length ≤ 2 ^ 30) (ht : ∀ t ∈ ts, t.length < 2 ^ 36) (hq : ∀ A' u, Le A A' → ItemS A' u (srtT shaF ts) → Q u A') : ACalls 1 Tryd.prog chantryref28_Sorted [v] Q A := by
  refine ACalls.of_fits mixed fits_chantryref28_Sorted rfl ?_
  unfold ic_chantryref28_Sorted
  have i0 : initA [v] 0 = v := rfl
  generalize initA [v] = a at i0
  obtain ⟨vs, hvs, hval⟩ := id hv
  have lvs := All2.len _ _ hval
  have hvl : ∀ B, sLens B false v = some (ii ts.length, B) := fun B => by rw [lvs]; exact hvs.lenB B
  simp (maxSteps := 1000000) (disch := omega) only [stepS, reduceIte, Nat.reduceBEq, Nat.reduceEqDiff, tupleOf, stepT, i0]
  refine W_loop (fun a' B => ∃ (k : Nat) (es : List (List Value)), k ≤ ts.length ∧ Le A B ∧ OwnE A.length B 2 (a' 3) es ∧ All2 (itR A) es (srtT shaF (ts.take k)) ∧ a' 0 = v ∧ a' 4 = ii k) (fun a' _ => ts.length - (iv (a' 4)).toNat) ?_ ?_
  · refine ⟨0, [], by omega, .refl _, ?_⟩
    simp (maxSteps := 1000000) (disch := omega) only [stepS, reduceIte, Nat.reduceBEq, Nat.reduceEqDiff, tupleOf, stepT, i0]
    exact ⟨OwnE.nil _ _ _, trivial, rfl⟩
  · rintro a2 B ⟨k, es, hk, hle, ho, hal, g0, g4⟩
    generalize ex : a2 3 = w at ho
    have hlen := All2.len _ _ hal
    have hsl := srtT_len (key := shaF) (ts.take k)
    rw [List.length_take, Nat.min_eq_left hk] at hsl
    rcases Nat.lt_or_ge k ts.length with hlt | hge
    · obtain ⟨t, htk⟩ := get_some hlt
      obtain ⟨x, hxv, hx⟩ := all2_get hval htk
      have htl := ht t (List.mem_of_getElem? htk)
      obtain ⟨p, p1, p2⟩ := hvs.at1 hxv
      have p1' := iaddr_any p1
      have p2' : ∀ C, Le A C → sLoad1 C p = some (x, C) := fun C hC => load1_keep p2 (fun k b hb _ => hC.get hb)
      have hxB := hx.le hle
      have p2B := p2' B hle
      simp (maxSteps := 1000000) (disch := omega) only [stepS, reduceIte, Nat.reduceBEq, Nat.reduceEqDiff, tupleOf, stepT, g0, g4, ex, hvl, p1', p2B]
      refine ref03_ID_spec hxB htl ?_
      have hid : (.string ⟨(shaF t).toArray⟩ : Value) = .string (idT t) := rfl
      rw [hid]
      simp (maxSteps := 1000000) (disch := omega) only [stepS, reduceIte, Nat.reduceBEq, Nat.reduceEqDiff, tupleOf, stepT, g0, g4, ex]
      refine W_loop (fun a' C => C = B ∧ ∃ q : Nat, q ≤ es.length ∧ (∀ z ∈ (srtT shaF (ts.take k)).take q, shaF z < shaF t) ∧ a' 0 = v ∧ a' 3 = w ∧ a' 4 = ii k ∧ a' 5 = .string (idT t) ∧ a' 6 = ii q) (fun a' _ => es.length - (iv (a' 6)).toNat) ?_ ?_
      · refine ⟨rfl, 0, by omega, by simp, ?_⟩
        simp (maxSteps := 1000000) (disch := omega) only [stepS, reduceIte, Nat.reduceBEq, Nat.reduceEqDiff, tupleOf, stepT, g0, g4, ex]
        (all_goals (and_intros <;> first | rfl | assumption | (push_cast; rfl) | (congr 1; omega) | omega | (simp; done)))
      · rintro a3 C ⟨rfl, q, hq1, hq2, g0, g3, g4, g5, g6⟩
        have hwl := ho.2.sl.lenB
        have fin : (∀ r, (srtT shaF (ts.take k))[q]? = some r → ¬ shaF r < shaF t ∧ shaF r ≠ shaF t) → All2 (itR A) (es.take q ++ [[.string (idT t), x]] ++ es.drop q) (srtT shaF (ts.take (k + 1))) := fun h => by
          rw [List.take_add_one, htk, Option.toList_some, srtT_push, insT_new hq2 (by omega) h]
          have : es.take q ++ [[.string (idT t), x]] ++ es.drop q = es.take q ++ ([.string (idT t), x] :: es.drop q) := by simp
          rw [this]
          exact all2_append (all2_take q hal) ⟨⟨x, rfl, hx⟩, all2_drop q hal⟩
        rcases Nat.lt_or_ge q es.length with hqlt | hqge
        · obtain ⟨e, he⟩ := get_some hqlt
          obtain ⟨r, hr, hre⟩ := all2_get' hal he
          obtain ⟨y, rfl, hy⟩ := hre
          obtain ⟨p', q', _, f1, f2, f3⟩ := ho.2.sl.elf ho.1 he (o := 0) (x := .string (idT r)) rfl
          by_cases hlt2 : shaF r < shaF t
          · have dt : decide (bl (idT r) < bl (idT t)) = true := by rw [bl_idT, bl_idT]; exact decide_eq_true hlt2
            simp (maxSteps := 1000000) (disch := omega) only [stepS, reduceIte, Nat.reduceBEq, Nat.reduceEqDiff, tupleOf, stepT, g0, g3, g4, g5, g6, hwl, f1, f2, f3, ltS, dt]
            refine ⟨⟨q + 1, by omega, ?_, rfl⟩, by omega⟩
            intro z hz
            rw [List.take_add_one, hr, Option.toList_some] at hz
            rcases List.mem_append.1 hz with hz | hz
            · exact hq2 z hz
            · rw [List.mem_singleton.1 hz]; exact hlt2
          · have dt : decide (bl (idT r) < bl (idT t)) = false := by rw [bl_idT, bl_idT]; exact decide_eq_false hlt2
            by_cases heq : shaF r = shaF t
            · have de : decide (idT r = idT t) = true := by rw [decS, bl_idT, bl_idT]; exact decide_eq_true heq
              simp (maxSteps := 1000000) (disch := omega) only [stepS, reduceIte, Nat.reduceBEq, Nat.reduceEqDiff, tupleOf, stepT, g0, g3, g4, g5, g6, hwl, f1, f2, f3, ltS, dt, de]
              refine ⟨⟨k + 1, es, by omega, hle, ho, ?_, rfl⟩, by omega⟩
              rw [List.take_add_one, htk, Option.toList_some, srtT_push, insT_same hq2 hr heq]
              exact hal
            · have de : decide (idT r = idT t) = false := by rw [decS, bl_idT, bl_idT]; exact decide_eq_false heq
              obtain ⟨_, ho0⟩ := lit_noneE (A0 := A) C [.string ⟨#[]⟩, .slice none 0 0] 2 hle
              have lit0 := (lit_noneE (A0 := A) C [.string ⟨#[]⟩, .slice none 0 0] 2 hle).1
              have k1 : Le C (C ++ [.row [] .own 2 true]) := .push _ _
              have o1 := ho.le k1
              obtain ⟨u1, _, _, hu1⟩ := o1.cut (l := 0) (k := q) (lo := none) (hi := some (ii (q : Nat))) (by omega) hq1 (fun c hc => bnd_hi (by omega))
              obtain ⟨c1, c2⟩ := hu1 _ es o1 rfl
              obtain ⟨n1, B1, m1, m2, m3, m4⟩ := ho0.app (x := u1) (fs := (es.take q).drop 0) (bytes := 40) (hle.trans k1) c2.2.sl c2.1 (by omega) (by simp; omega) (by omega)
              have bn1 := sApp_blk m1
              have hwC := ho.ge
              have d1 : ∀ j ∈ blkOf w, j ∉ blkOf (.slice (some ⟨C.length, 0, none⟩) 0 0) := fun j hj h => by
                simp only [blkOf, List.mem_singleton] at h
                have := (hwC j hj).2; omega
              have o2 := o1.kv m4 d1
              have d2 : ∀ j ∈ blkOf w, j ∉ blkOf n1 := fun j hj h => by
                rcases bn1 j h with h | h
                · exact d1 j hj h
                · have := (hwC j hj).2; have := k1.len; omega
              simp only [List.nil_append, List.drop_zero] at m3
              have hxC := hx.le m2
              have p2C := p2' B1 m2
              obtain ⟨b1, b2, n2, B2, b3, b4, b5, b6⟩ := push_item (s := idT t) hxC m2 m3 (by rw [List.length_take]; omega)
              have bn2 := sApp_blk b3
              have o3 := o2.kv b6 d2
              have d3 : ∀ j ∈ blkOf w, j ∉ blkOf n2 := fun j hj h => by
                rcases bn2 j h with h | h
                · exact d2 j hj h
                · have := (o2.ge j hj).2; simp at h; omega
              obtain ⟨u2, _, _, hu2⟩ := o3.cut (l := q) (k := es.length) (lo := some (ii (q : Nat))) (hi := none) hq1 (Nat.le_refl _) (fun c hc => bnd_lo hq1 hc)
              obtain ⟨c3, c4⟩ := hu2 _ es o3 rfl
              obtain ⟨n3, B3, m5, m6, m7, m8⟩ := b5.app (x := u2) (fs := (es.take es.length).drop q) (bytes := 40) b4 c4.2.sl c4.1 (by omega) (by simp; omega) (by omega)
              rw [List.take_length] at m7
              simp (maxSteps := 1000000) (disch := omega) only [stepS, reduceIte, Nat.reduceBEq, Nat.reduceEqDiff, tupleOf, stepT, g0, g3, g4, g5, g6, hwl, f1, f2, f3, ltS, dt, de, lit0, c1, m1, p1', p2C, b1, b2, b3, c3, m5]
              refine ⟨⟨k + 1, _, by omega, m6, m7, fin (fun r' hr' => ?_), rfl⟩, by omega⟩
              rw [hr] at hr'; injection hr' with hr'; subst hr'
              exact ⟨hlt2, heq⟩
        · skip
          obtain ⟨_, ho0⟩ := lit_noneE (A0 := A) C [.string ⟨#[]⟩, .slice none 0 0] 2 hle
          have lit0 := (lit_noneE (A0 := A) C [.string ⟨#[]⟩, .slice none 0 0] 2 hle).1
          have k1 : Le C (C ++ [.row [] .own 2 true]) := .push _ _
          have o1 := ho.le k1
          obtain ⟨u1, _, _, hu1⟩ := o1.cut (l := 0) (k := q) (lo := none) (hi := some (ii (q : Nat))) (by omega) hq1 (fun c hc => bnd_hi (by omega))
          obtain ⟨c1, c2⟩ := hu1 _ es o1 rfl
          obtain ⟨n1, B1, m1, m2, m3, m4⟩ := ho0.app (x := u1) (fs := (es.take q).drop 0) (bytes := 40) (hle.trans k1) c2.2.sl c2.1 (by omega) (by simp; omega) (by omega)
          have bn1 := sApp_blk m1
          have hwC := ho.ge
          have d1 : ∀ j ∈ blkOf w, j ∉ blkOf (.slice (some ⟨C.length, 0, none⟩) 0 0) := fun j hj h => by
            simp only [blkOf, List.mem_singleton] at h
            have := (hwC j hj).2; omega
          have o2 := o1.kv m4 d1
          have d2 : ∀ j ∈ blkOf w, j ∉ blkOf n1 := fun j hj h => by
            rcases bn1 j h with h | h
            · exact d1 j hj h
            · have := (hwC j hj).2; have := k1.len; omega
          simp only [List.nil_append, List.drop_zero] at m3
          have hxC := hx.le m2
          have p2C := p2' B1 m2
          obtain ⟨b1, b2, n2, B2, b3, b4, b5, b6⟩ := push_item (s := idT t) hxC m2 m3 (by rw [List.length_take]; omega)
          have bn2 := sApp_blk b3
          have o3 := o2.kv b6 d2
          have d3 : ∀ j ∈ blkOf w, j ∉ blkOf n2 := fun j hj h => by
            rcases bn2 j h with h | h
            · exact d2 j hj h
            · have := (o2.ge j hj).2; simp at h; omega
          obtain ⟨u2, _, _, hu2⟩ := o3.cut (l := q) (k := es.length) (lo := some (ii (q : Nat))) (hi := none) hq1 (Nat.le_refl _) (fun c hc => bnd_lo hq1 hc)
          obtain ⟨c3, c4⟩ := hu2 _ es o3 rfl
          obtain ⟨n3, B3, m5, m6, m7, m8⟩ := b5.app (x := u2) (fs := (es.take es.length).drop q) (bytes := 40) b4 c4.2.sl c4.1 (by omega) (by simp; omega) (by omega)
          rw [List.take_length] at m7
          simp (maxSteps := 1000000) (disch := omega) only [stepS, reduceIte, Nat.reduceBEq, Nat.reduceEqDiff, tupleOf, stepT, g0, g3, g4, g5, g6, hwl, lit0, c1, m1, p1', p2C, b1, b2, b3, c3, m5]
          refine ⟨⟨k + 1, _, by omega, m6, m7, fin (fun r' hr' => ?_), rfl⟩, by omega⟩
          have := lt_of_get hr'; omega
    · simp (maxSteps := 1000000) (disch := omega) only [stepS, reduceIte, Nat.reduceBEq, Nat.reduceEqDiff, tupleOf, stepT, g0, g4, ex, hvl]
      rw [List.take_of_length_le hge] at hal
      exact hq _ _ hle ⟨es, fun e he => (itR_txt hal e he).2.2, ho.2.sl, All2.imp (fun _ _ h => itR.le h hle) _ _ hal⟩
end Go.AS.C


namespace Go.AS.C
open Go Go.Proofs
set_option linter.unusedVariables false
set_option linter.unusedSimpArgs false
set_option maxRecDepth 10000

end Go.AS.C


namespace Go.AS.C
open Go Go.Proofs
set_option linter.unusedVariables false
set_option linter.unusedSimpArgs false
set_option maxRecDepth 10000

end Go.AS.C


namespace Go.AS.C
open Go
set_option linter.unusedVariables false
set_option linter.unusedSimpArgs false
set_option maxRecDepth 10000

/-- Texts' frames, one behind the other. -/
def allB (l : List (List UInt8)) : List UInt8 := l.flatMap frameB
/-- Where the k-th frame ends. -/
def endK (l : List (List UInt8)) (k : Nat) : Nat := (allB (l.take k)).length
theorem nextF_cut {x r : List UInt8} {n : Nat} (h1 : 1 ≤ x.length) (h2 : x.length ≤ 65535) (hn : n < x.length + 6) : nextF ((frameB x ++ r).take n) = none := by
  unfold nextF
  rw [if_neg]
  rintro ⟨g1, g2, g3⟩
  have hl := frameB_length x
  have hn7 : 7 ≤ n := by rw [List.length_take] at g1; omega
  have e2 : ((frameB x ++ r).take n).take 2 = leB x.length 2 := by
    rw [List.take_take, Nat.min_eq_left (by omega)]
    unfold frameB sealB
    rw [List.append_assoc, List.append_assoc, List.take_append_of_le_length (by rw [leB_length]; omega), List.take_of_length_le (by rw [leB_length]; omega)]
  rw [e2, leN_leB 2 _ (by omega)] at g3
  rw [List.length_take] at g3
  omega
theorem scan_cut : ∀ (l : List (List UInt8)) (n k : Nat), (∀ x ∈ l, 1 ≤ x.length ∧ x.length ≤ 65535) → k ≤ l.length → endK l k ≤ n → (k < l.length → n < endK l (k + 1)) → n ≤ (allB l).length → scanF ((allB l).take n) = (l.take k, endK l k)
  | [], n, k, _, hk, _, _, _ => by
    have : k = 0 := by simpa using hk
    subst this
    have : (allB []).take n = [] := by simp [allB]
    rw [this]
    rfl
  | x :: l, n, k, hx, hk, h1, h2, h3 => by
    have hx0 := hx x (by simp)
    have hl := frameB_length x
    have e : allB (x :: l) = frameB x ++ allB l := by simp [allB]
    have ek : ∀ j, endK (x :: l) (j + 1) = x.length + 6 + endK l j := by
      intro j
      simp only [endK, allB, List.take_succ_cons, List.flatMap_cons, List.length_append, hl]
    cases k with
    | zero =>
      have := h2 (by simp)
      rw [ek 0] at this
      have e0 : endK l 0 = 0 := by simp [endK, allB]
      rw [e, scanF_none (nextF_cut hx0.1 hx0.2 (by omega))]
      simp [endK, allB]
    | succ k =>
      rw [ek] at h1
      have e4 : (allB (x :: l)).take n = frameB x ++ (allB l).take (n - (x.length + 6)) := by
        rw [e, List.take_append, hl, List.take_of_length_le (by omega)]
      rw [e4, scanF_some (nextF_frame hx0.1 hx0.2)]
      have e5 : (frameB x ++ (allB l).take (n - (x.length + 6))).drop (x.length + 6) = (allB l).take (n - (x.length + 6)) := by
        rw [← hl, List.drop_left]
      rw [e5, scan_cut l (n - (x.length + 6)) k (fun y hy => hx y (by simp [hy])) (by simpa using hk) (by omega) (fun h => by have := h2 (by simpa using h); rw [ek] at this; omega) (by rw [e, List.length_append, hl] at h3; omega), ek]
      simp

end Go.AS.C


namespace Go.AS.C
open Go Go.Proofs
set_option linter.unusedVariables false
set_option linter.unusedSimpArgs false
set_option maxRecDepth 10000

theorem bitAt_test (bs : List UInt8) (b : Nat) : bitAt bs b = (bs.getD (b / 8) 0).toNat.testBit (b % 8) := by
  unfold bitAt
  rw [Nat.testBit_eq_decide_div_mod_eq, Bool.eq_iff_iff, beq_iff_eq, decide_eq_true_eq]
theorem two_pow8 {j : Nat} (h : j < 8) : (UInt8.ofNat (2 ^ j)).toNat = 2 ^ j := by
  rw [UInt8.toNat_ofNat', Nat.mod_eq_of_lt]
  have : 2 ^ j ≤ 2 ^ 7 := Nat.pow_le_pow_right (by omega) (by omega)
  omega
theorem bitAt_setB {bs : List UInt8} {m : Nat} (h : m < 8 * bs.length) (b : Nat) : bitAt (setB bs m) b = (bitAt bs b || decide (b = m)) := by
  simp only [bitAt_test, setB]
  have hm : m / 8 < bs.length := by omega
  by_cases hb : b / 8 = m / 8
  · rw [List.getD_eq_getElem?_getD, hb, List.getElem?_set_self hm, Option.getD_some, UInt8.toNat_or, Nat.testBit_or, two_pow8 (Nat.mod_lt _ (by omega)), Nat.testBit_two_pow]
    congr 1
    rw [decide_eq_decide]
    omega
  · rw [List.getD_eq_getElem?_getD, List.getElem?_set_ne (by omega), ← List.getD_eq_getElem?_getD]
    have : ¬ (b = m) := by omega
    simp [this]
theorem bitAt_setBs {l : List Nat} : ∀ {bs : List UInt8}, (∀ m ∈ l, m < 8 * bs.length) → ∀ b, bitAt (setBs bs l) b = (bitAt bs b || decide (b ∈ l)) := by
  induction l with
  | nil => intro bs _ b; simp [setBs]
  | cons m l ih =>
    intro bs h b
    show bitAt (setBs (setB bs m) l) b = _
    rw [ih (fun x hx => by rw [setB_length]; exact h x (by simp [hx])), bitAt_setB (h m (by simp))]
    simp [Bool.or_assoc]
theorem marks3_lt {n : Nat} (hn : 1 ≤ n) (s : ByteArray) : ∀ m ∈ marks3 n s, m < 8 * n := by
  intro m hm
  simp only [marks3, List.mem_cons, List.not_mem_nil, or_false] at hm
  rcases hm with rfl | rfl | rfl <;> exact markN_lt hn _ _
theorem bitAt_zero (n b : Nat) : bitAt (List.replicate n 0) b = false := by
  rw [bitAt_test, List.getD_eq_getElem?_getD, List.getElem?_replicate]
  split <;> simp
theorem bitAt_fence {n : Nat} (hn : 1 ≤ n) (l : List ByteArray) (b : Nat) : bitAt (fenceOf n l) b = l.any fun s => decide (b ∈ marks3 n s) := by
  have : ∀ (l : List ByteArray) (bs : List UInt8), bs.length = n → bitAt (l.foldl (fun b s => setBs b (marks3 n s)) bs) b = (bitAt bs b || l.any fun s => decide (b ∈ marks3 n s)) := by
    intro l
    induction l with
    | nil => intro bs _; simp
    | cons s l ih =>
      intro bs hl
      rw [List.foldl_cons, ih _ (by rw [setBs_length, hl]), bitAt_setBs (by rw [hl]; exact marks3_lt hn s)]
      simp [Bool.or_assoc]
  unfold fenceOf
  rw [this l _ (by simp), bitAt_zero, Bool.false_or]
theorem fence_has {n : Nat} (hn : 1 ≤ n ∧ n ≤ 4096) {l : List ByteArray} {s : ByteArray} (hs : s ∈ l) (h32 : s.size = 32) : hasF (fenceOf n l) s = true := by
  have hb : ∀ k, markN n s k ∈ marks3 n s → bitAt (fenceOf n l) (markN n s k) = true := by
    intro k hk
    rw [bitAt_fence hn.1, List.any_eq_true]
    exact ⟨s, hs, by simpa using hk⟩
  unfold hasF
  rw [fenceOf_length, hb 0 (by simp [marks3]), hb 1 (by simp [marks3]), hb 2 (by simp [marks3])]
  simp [hn, h32]
end Go.AS.C


namespace Go.AS.C
open Go Go.Proofs
set_option linter.unusedVariables false
set_option linter.unusedSimpArgs false
set_option maxRecDepth 10000

def ownG (bs : List UInt8) : List UInt8 := (openB bs).getD []
def tailG (bs : List UInt8) : Nat × Nat := unfixN ((ownG bs).drop ((ownG bs).length - 4))
/-- The texts that are scanned. -/
def textsG (bs : List UInt8) : List (List UInt8) := (scanF ((ownG bs).take (tailG bs).1)).1
def badG (bs : List UInt8) : Prop := (ownG bs).length < 8 ∨ (tailG bs).2 ≠ 0 ∨ (ownG bs).length < (tailG bs).1 ∨ putE (textsG bs) ≠ 0 ∨ putSg (textsG bs) ≠ bs
open Classical in
/-- What Get tells. -/
noncomputable def getE (bs : List UInt8) : Nat := if openB bs = none then 12 else if badG bs then 5 else 0
noncomputable def getL (bs : List UInt8) : List (List UInt8) := srtT shaF (textsG bs)

theorem srtT_idem {α : Type} {key : α → List UInt8} (l : List α) : srtT key (srtT key l) = srtT key l := by
  obtain ⟨a1, a2⟩ := srtT_spec (key := key) l
  obtain ⟨b1, b2⟩ := srtT_spec (key := key) (srtT key l)
  refine rise_ext b1 a1 fun x => ⟨fun h => srtT_mem x h, fun h => (b2 x).2 ?_⟩
  cases hf : (srtT key l).find? (fun e => decide (key e = key x)) with
  | none =>
    rw [List.find?_eq_none] at hf
    exact absurd (by simp) (hf x h)
  | some y =>
    have hk : key y = key x := by have := List.find?_some hf; simpa using this
    rw [rise_get a1 (List.mem_of_find?_eq_some hf) h hk]
theorem srtT_nil_iff {α : Type} {key : α → List UInt8} {l : List α} : (srtT key l).length = 0 ↔ l.length = 0 := by
  constructor
  · intro h
    cases l with
    | nil => rfl
    | cons t l =>
      exfalso
      have hs : ((t :: l).find? (fun e => decide (key e = key t))).isSome := by rw [List.find?_isSome]; exact ⟨t, by simp, by simp⟩
      obtain ⟨z, hz⟩ := Option.isSome_iff_exists.1 hs
      have hzk : key z = key t := by have := List.find?_some hz; simpa using this
      have : z ∈ srtT key (t :: l) := ((srtT_spec _).2 z).2 (by rw [hzk]; exact hz)
      have := List.length_pos_of_mem this
      omega
  · intro h
    have := srtT_len (key := key) l
    omega
theorem putE_zero {ts : List (List UInt8)} : putE ts = 0 ↔ ts.length ≠ 0 ∧ (∀ t ∈ ts, frE t = 0) ∧ (segB (srtT shaF ts)).length + 4 ≤ 262144 := by
  unfold putE
  by_cases h0 : ts.length = 0
  · rw [if_pos h0]
    exact ⟨(fun h => by cases h), fun h => absurd h0 h.1⟩
  · rw [if_neg h0]
    cases hf : ts.find? (fun t => decide (frE t ≠ 0)) with
    | some t =>
      have h1 := List.find?_some hf
      simp only [decide_eq_true_eq] at h1
      have h2 := List.mem_of_find?_eq_some hf
      exact ⟨fun h => absurd h h1, fun h => absurd (h.2.1 t h2) h1⟩
    | none =>
      rw [List.find?_eq_none] at hf
      simp only
      constructor
      · intro h
        refine ⟨h0, fun t ht => ?_, ?_⟩
        · have := hf t ht; simpa using this
        · split at h
          · cases h
          · omega
      · rintro ⟨_, _, h⟩
        rw [if_neg (by omega)]
/-- What is put of sorted texts is what is put of the texts. -/
theorem put_srt {ts : List (List UInt8)} (h : putE ts = 0) : putE (srtT shaF ts) = 0 ∧ putSg (srtT shaF ts) = putSg ts := by
  obtain ⟨h1, h2, h3⟩ := putE_zero.1 h
  have e : putE (srtT shaF ts) = 0 := putE_zero.2 ⟨fun h => h1 (srtT_nil_iff.1 h), fun t ht => h2 t (srtT_mem t ht), by rw [srtT_idem]; exact h3⟩
  refine ⟨e, ?_⟩
  unfold putSg
  rw [if_pos e, if_pos h, srtT_idem]
theorem bodyL_allB (l : List (List UInt8)) : bodyL l = allB l := by unfold bodyL allB; rw [List.flatMap_def]
theorem scan_body {l : List (List UInt8)} (h : ∀ t ∈ l, frE t = 0) : (scanF (bodyL l)).1 = l := by
  have := scan_cut l (allB l).length l.length (fun x hx => frE_zero (h x hx)) (Nat.le_refl _) (by unfold endK; rw [List.take_length]; exact Nat.le_refl _) (fun h => absurd h (Nat.lt_irrefl _)) (Nat.le_refl _)
  rw [List.take_length, List.take_length] at this
  rw [bodyL_allB, this]
/-- What was put is got. -/
theorem get_put {ts : List (List UInt8)} (h : putE ts = 0) (hl : ts.length ≤ 4096) : openB (putSg ts) ≠ none ∧ ¬ badG (putSg ts) ∧ textsG (putSg ts) = srtT shaF ts := by
  obtain ⟨h1, h2, h3⟩ := putE_zero.1 h
  have hp : putSg ts = sealB (segB (srtT shaF ts)) := by unfold putSg; rw [if_pos h]
  have ho : openB (putSg ts) = some (segB (srtT shaF ts)) := by rw [hp, openB_sealB]
  have hown : ownG (putSg ts) = segB (srtT shaF ts) := by unfold ownG; rw [ho]; rfl
  have hs := fun t ht => h2 t (srtT_mem (key := shaF) t ht)
  have hll := srtT_len (key := shaF) ts
  generalize hL : srtT shaF ts = l at *
  have hsl := segB_len l
  have hbl := bodyL_le l hs
  have hbl2 : 65541 * l.length ≤ 65541 * 4096 := Nat.mul_le_mul_left _ (by omega)
  have htail : tailG (putSg ts) = ((bodyL l).length, 0) := by
    unfold tailG
    rw [hown]
    have e : segB l = (bodyL l ++ (entL 0 l ++ (fenceOf l.length (l.map idT) ++ leB l.length 4))) ++ leB (bodyL l).length 4 := by simp [segB]
    have el : (segB l).length - 4 = (bodyL l ++ (entL 0 l ++ (fenceOf l.length (l.map idT) ++ leB l.length 4))).length := by
      have := congrArg List.length e
      simp only [List.length_append, leB_length] at this ⊢
      omega
    rw [el]
    conv => lhs; rw [e, List.drop_left]
    unfold unfixN
    rw [leB_length, if_neg (by omega), leN_leB 4 _ (by omega), if_pos (by omega)]
  have htx : textsG (putSg ts) = l := by
    unfold textsG
    rw [htail, hown]
    have : (segB l).take (bodyL l).length = bodyL l := by unfold segB; rw [List.take_left]
    simp only
    rw [this, scan_body hs]
  have hps := put_srt h
  rw [hL] at hps
  refine ⟨by rw [ho]; simp, ?_, htx⟩
  unfold badG
  rw [htx, htail, hown]
  rintro (h | h | h | h | h)
  · omega
  · exact h rfl
  · simp only at h; omega
  · exact h hps.1
  · exact h hps.2
theorem textsG_len (bs : List UInt8) : (textsG bs).length ≤ bs.length ∧ ∀ t ∈ textsG bs, t.length ≤ bs.length := by
  have hown : (ownG bs).length ≤ bs.length := by
    unfold ownG
    cases ho : openB bs with
    | none => simp
    | some x => have := openB_len ho; simp; omega
  have hs := scanF_le ((ownG bs).take (tailG bs).1)
  have hm : ∀ (n : Nat) (b : List UInt8), b.length ≤ n → ∀ t ∈ (scanF b).1, t.length ≤ b.length := by
    intro n
    induction n with
    | zero =>
      intro b hb t ht
      have : b = [] := List.length_eq_zero_iff.1 (by omega)
      subst this
      rw [scanF_none nextF_nil] at ht; cases ht
    | succ n ih =>
      intro b hb t ht
      cases hx : nextF b with
      | none => rw [scanF_none hx] at ht; cases ht
      | some r =>
        obtain ⟨x, k⟩ := r
        have hk := nextF_ok hx
        rw [scanF_some hx] at ht
        rcases List.mem_cons.1 ht with rfl | ht
        · omega
        · have := ih (b.drop k) (by rw [List.length_drop]; omega) t ht
          rw [List.length_drop] at this; omega
  constructor
  · unfold textsG
    have := hs.2
    rw [List.length_take] at this
    omega
  · intro t ht
    have := hm _ _ (Nat.le_refl _) t ht
    rw [List.length_take] at this
    omega
end Go.AS.C


namespace Go.AS
open Go
set_option maxRecDepth 100000
/-! Codes of library functions that are alike in many chapters (printed by geni.py). -/
noncomputable def icG_bsearch (sz : Nat) : IC :=
  (.seq (.ops [
    ⟨(some 6), none, false, .mov (.const (.int .i64 0))⟩,
    ⟨(some 7), none, false, .mov (.const (.bool false))⟩]) (.seq (.ops [
    ⟨(some 12), none, false, .mov (.tmp 0)⟩,
    ⟨(some 13), none, false, .lens false (.tmp 12)⟩,
    ⟨(some 8), none, false, .mov (.tmp 13)⟩]) (.seq (.ops [
    ⟨(some 14), none, false, .mov (.tmp 8)⟩,
    ⟨(some 9), none, false, .mov (.const (.int .i64 0))⟩,
    ⟨(some 10), none, false, .mov (.tmp 14)⟩]) (.seq (.block 0 (.loop (.seq (.seq (.ops [
    ⟨(some 15), none, false, .mov (.tmp 9)⟩,
    ⟨(some 16), none, false, .mov (.tmp 10)⟩,
    ⟨(some 17), none, false, .bin .lss (.tmp 15) (.tmp 16)⟩]) (.cond (.tmp 17) .skip (.exit 0))) (.block 1 (.seq (.ops [
    ⟨(some 18), none, false, .mov (.tmp 9)⟩,
    ⟨(some 19), none, false, .mov (.tmp 10)⟩,
    ⟨(some 20), none, false, .bin .add (.tmp 18) (.tmp 19)⟩,
    ⟨(some 21), none, false, .conv .u64 (.tmp 20)⟩,
    ⟨(some 22), none, false, .bin .shr (.tmp 21) (.const (.int .u64 1))⟩,
    ⟨(some 23), none, false, .conv .i64 (.tmp 22)⟩,
    ⟨(some 11), none, false, .mov (.tmp 23)⟩]) (.seq (.ops [
    ⟨(some 24), none, false, .mov (.tmp 2)⟩,
    ⟨(some 25), none, false, .mov (.tmp 0)⟩,
    ⟨(some 26), none, false, .mov (.tmp 11)⟩,
    ⟨(some 27), none, false, .iaddr (.tmp 25) (.tmp 26) sz⟩,
    ⟨(some 28), none, false, .loadn (.tmp 27) sz⟩,
    ⟨(some 29), none, false, .mov (.tmp 1)⟩,
    ⟨(some 30), none, false, .calld (.tmp 24) [(.tmp 28), (.tmp 29)]⟩,
    ⟨(some 31), none, false, .bin .lss (.tmp 30) (.const (.int .i64 0))⟩]) (.cond (.tmp 31) (.ops [
    ⟨(some 32), none, false, .mov (.tmp 11)⟩,
    ⟨(some 33), none, false, .bin .add (.tmp 32) (.const (.int .i64 1))⟩,
    ⟨(some 9), none, false, .mov (.tmp 33)⟩]) (.ops [
    ⟨(some 34), none, false, .mov (.tmp 11)⟩,
    ⟨(some 10), none, false, .mov (.tmp 34)⟩])))))))) (.seq (.ops [
    ⟨(some 35), none, false, .mov (.tmp 9)⟩,
    ⟨(some 36), none, false, .mov (.tmp 9)⟩,
    ⟨(some 37), none, false, .mov (.tmp 8)⟩,
    ⟨(some 38), none, false, .bin .lss (.tmp 36) (.tmp 37)⟩,
    ⟨(some 39), none, false, .mov (.tmp 38)⟩,
    ⟨(some 40), (some (39, true)), false, .mov (.tmp 2)⟩,
    ⟨(some 41), (some (39, true)), false, .mov (.tmp 0)⟩,
    ⟨(some 42), (some (39, true)), false, .mov (.tmp 9)⟩,
    ⟨(some 43), (some (39, true)), false, .iaddr (.tmp 41) (.tmp 42) sz⟩,
    ⟨(some 44), (some (39, true)), false, .loadn (.tmp 43) sz⟩,
    ⟨(some 45), (some (39, true)), false, .mov (.tmp 1)⟩,
    ⟨(some 46), (some (39, true)), false, .calld (.tmp 40) [(.tmp 44), (.tmp 45)]⟩,
    ⟨(some 47), (some (39, true)), false, .bin .eql (.tmp 46) (.const (.int .i64 0))⟩,
    ⟨(some 48), none, false, .pick (.tmp 39) (.tmp 47) (.const (.bool false))⟩,
    ⟨(some 6), none, false, .mov (.tmp 35)⟩,
    ⟨(some 7), none, false, .mov (.tmp 48)⟩]) .ret)))))
end Go.AS


namespace Go.AS
open Go
set_option linter.unusedVariables false
set_option linter.unusedSimpArgs false
set_option maxRecDepth 10000

/-- fv, called with an element and what is sought, tells how they compare. -/
def CmpT (G : Nat) (P : Program) (fv tgt : Value) (dom lt eq : List Value → Prop) : Prop :=
  ∀ (A : AH) (x : List Value) (Q : Value → AH → Prop), dom x → (∀ A' n, Le A A' → (n < 0 ↔ lt x) → (n = 0 ↔ eq x) → Q (ii n) A') → callD fv G P [.agg x.toArray, tgt] Q A

section
variable {G : Nat} {P : Program} (hm : P.follows .mixedOrders = true) {sz : Nat} {A : AH} {v fv tgt : Value} {Q : Value → AH → Prop} {dom lt eq : List Value → Prop}
include hm
/-- slices.BinarySearchFunc. -/
theorem bsearch_spec {f : FuncId} (hf : Fits P G f (icG_bsearch sz) [.tmp 6, .tmp 7] 3) (hc : CmpT G P fv tgt dom lt eq) {es : List (List Value)} (hv : Sl A sz v es.length es.flatten) (hok : ∀ e ∈ es, e.length = sz ∧ ones e = true) (hd : ∀ x ∈ es, dom x) (hl : es.length < 1152921504606846976) {p : Nat} (hp : p ≤ es.length)
    (h1 : ∀ j e, j < p → es[j]? = some e → lt e) (h2 : ∀ j e, p ≤ j → es[j]? = some e → ¬ lt e) (hq : ∀ A' b, Le A A' → (b = true ↔ ∃ e, es[p]? = some e ∧ eq e) → Q (.tuple #[ii (p : Nat), .bool b]) A') : ACalls G P f [v, tgt, fv] Q A := by
  refine ACalls.of_fits hm hf rfl ?_
  unfold icG_bsearch
  have i0 : initA [v, tgt, fv] 0 = v := rfl
  have i1 : initA [v, tgt, fv] 1 = tgt := rfl
  have i2 : initA [v, tgt, fv] 2 = fv := rfl
  generalize initA [v, tgt, fv] = r at i0 i1 i2
  have hvl := hv.lenB
  simp (maxSteps := 1000000) (disch := omega) only [stepS, reduceIte, Nat.reduceBEq, Nat.reduceEqDiff, tupleOf, stepT, i0, i1, i2, hvl]
  refine W_loop (fun r' B => ∃ c d : Nat, c ≤ p ∧ p ≤ d ∧ d ≤ es.length ∧ Le A B ∧ r' 0 = v ∧ r' 1 = tgt ∧ r' 2 = fv ∧ r' 8 = ii es.length ∧ r' 9 = ii (c : Nat) ∧ r' 10 = ii (d : Nat)) (fun r' _ => (iv (r' 10)).toNat - (iv (r' 9)).toNat) ?_ ?_
  · refine ⟨0, es.length, by omega, hp, Nat.le_refl _, .refl _, ?_⟩
    simp (maxSteps := 1000000) (disch := omega) only [stepS, reduceIte, Nat.reduceBEq, Nat.reduceEqDiff, tupleOf, stepT, i0, i1, i2]
    (all_goals (and_intros <;> first | rfl | assumption | (push_cast; rfl) | (congr 1; omega) | omega | (simp; done)))
  · rintro r B ⟨c, d, hc1, hd1, hdl, hle, g0, g1, g2, g8, g9, g10⟩
    rcases Nat.lt_or_ge c d with hlt | hge
    · obtain ⟨e, he⟩ := get_some (l := es) (k := (c + d) / 2) (by omega)
      obtain ⟨q, _, q1, q2, _⟩ := (hv.le hle).el hok he
      simp (maxSteps := 1000000) (disch := omega) only [stepS, reduceIte, Nat.reduceBEq, Nat.reduceEqDiff, tupleOf, stepT, g0, g1, g2, g8, g9, g10, convU, convS, half, q1, q2]
      refine hc _ e _ (hd e (List.mem_of_getElem? he)) fun B2 n k2 hn _ => ?_
      by_cases hx : lt e
      · have hn0 : n < 0 := hn.2 hx
        have hpp : (c + d) / 2 < p := by
          rcases Nat.lt_or_ge ((c + d) / 2) p with h | h
          · exact h
          · exact absurd hx (h2 _ _ h he)
        simp (maxSteps := 1000000) (disch := omega) only [stepS, reduceIte, Nat.reduceBEq, Nat.reduceEqDiff, tupleOf, stepT, g0, g1, g2, g8, g9, g10, hn0]
        refine ⟨⟨(c + d) / 2 + 1, d, by omega, hd1, hdl, hle.trans k2, ?_⟩, by omega⟩
        (all_goals (and_intros <;> first | rfl | assumption | (push_cast; rfl) | (congr 1; omega) | omega | (simp; done)))
      · have hn0 : ¬ n < 0 := fun h => hx (hn.1 h)
        have hpp : p ≤ (c + d) / 2 := by
          rcases Nat.lt_or_ge ((c + d) / 2) p with h | h
          · exact absurd (h1 _ _ h he) hx
          · exact h
        simp (maxSteps := 1000000) (disch := omega) only [stepS, reduceIte, Nat.reduceBEq, Nat.reduceEqDiff, tupleOf, stepT, g0, g1, g2, g8, g9, g10, hn0]
        refine ⟨⟨c, (c + d) / 2, hc1, hpp, by omega, hle.trans k2, ?_⟩, by omega⟩
        (all_goals (and_intros <;> first | rfl | assumption | (push_cast; rfl) | (congr 1; omega) | omega | (simp; done)))
    · have hcp : c = p := by omega
      subst hcp
      rcases Nat.lt_or_ge c es.length with hlt2 | hge2
      · obtain ⟨e, he⟩ := get_some (l := es) (k := c) hlt2
        obtain ⟨q, _, q1, q2, _⟩ := (hv.le hle).el hok he
        simp (maxSteps := 1000000) (disch := omega) only [stepS, reduceIte, Nat.reduceBEq, Nat.reduceEqDiff, tupleOf, stepT, g0, g1, g2, g8, g9, g10, q1, q2]
        refine hc _ e _ (hd e (List.mem_of_getElem? he)) fun B2 n k2 _ hn => ?_
        simp (maxSteps := 1000000) (disch := omega) only [stepS, reduceIte, Nat.reduceBEq, Nat.reduceEqDiff, tupleOf, stepT, g0, g1, g2, g8, g9, g10]
        refine hq _ _ (hle.trans k2) ?_
        rw [decide_eq_true_eq, hn]
        constructor
        · intro h; exact ⟨e, he, h⟩
        · rintro ⟨e', he', h⟩; rw [he] at he'; injection he' with he'; subst he'; exact h
      · simp (maxSteps := 1000000) (disch := omega) only [stepS, reduceIte, Nat.reduceBEq, Nat.reduceEqDiff, tupleOf, stepT, g0, g1, g2, g8, g9, g10]
        refine hq _ _ hle ⟨(fun h => by cases h), ?_⟩
        rintro ⟨e, he, _⟩
        have := lt_of_get he; omega
end
end Go.AS


namespace Go.AS.C
open Go Go.Proofs
set_option linter.unusedVariables false
set_option linter.unusedSimpArgs false
set_option maxRecDepth 10000

theorem OwnBs.own {a0 : Nat} {A : AH} {w : Value} {bss : List (List UInt8)} (h : OwnBs a0 A w bss) : ∀ k ∈ blkOf w, a0 ≤ k ∧ k < A.length := by
  obtain ⟨vs, h1, _⟩ := h
  exact h1.ge
theorem lit_sl {A : AH} {t : Value} (ht : one1 t) : sLit A [.slice none 0 0] 1 1 [(0, 1, t)] = some (.slice (some ⟨A.length, 0, none⟩) 1 1, A ++ [.row [t] .own 1 true]) := by
  have := lit1 (A := A) (z := .slice none 0 0) (len := 1) (ps := [(0, 1, t)]) [t] rfl rfl (by
    intro x hx
    rw [List.mem_singleton] at hx
    subst hx; exact ht)
  exact this
theorem byt_one {A : AH} {v : Value} {bs : List UInt8} (h : Byt A v bs) : one1 v := by
  obtain ⟨p, c, hs, _⟩ := h.shape
  rw [hs]; exact one1_sl _ _ _

theorem frame_Scan_spec {A : AH} {v : Value} {bs : List UInt8} {Q : Value → AH → Prop} (hv : Byt A v bs) (hl : bs.length ≤ 2 ^ 38) (hq : ∀ t A', Le A A' → OwnBs A.length A' t (scanF bs).1 → Q (.tuple #[t, ii ((scanF bs).2 : Nat)]) A') : ACalls 1 Tryd.prog frame_Scan [v] Q A := by
  refine ACalls.of_fits mixed fits_frame_Scan rfl ?_
  unfold ic_frame_Scan
  have i0 : initA [v] 0 = v := rfl
  generalize initA [v] = a at i0
  simp (maxSteps := 1000000) (disch := omega) only [stepS, reduceIte, Nat.reduceBEq, Nat.reduceEqDiff, tupleOf, stepT, i0, W_scope]
  refine W_loop (fun a' B => ∃ (k : Nat) (done : List (List UInt8)), k ≤ bs.length ∧ done.length ≤ k ∧ Le A B ∧ a' 0 = v ∧ a' 5 = ii k ∧ OwnBs A.length B (a' 4) done ∧ scanF bs = (done ++ (scanF (bs.drop k)).1, k + (scanF (bs.drop k)).2)) (fun a' _ => bs.length - (iv (a' 5)).toNat) ?_ ?_
  · refine ⟨0, [], by omega, by simp, .refl _, ?_⟩
    simp (maxSteps := 1000000) (disch := omega) only [stepS, reduceIte, Nat.reduceBEq, Nat.reduceEqDiff, tupleOf, stepT, i0]
    exact ⟨rfl, OwnBs.nil _ _, by simp⟩
  · rintro a2 B ⟨k, done, hk, hd, hle, g0, g5, g4, hs⟩
    have hvB := hv.le hle
    rcases Nat.lt_or_ge k bs.length with hlt | hge
    · obtain ⟨u, u1, u2⟩ := hvB.from (l := k) (by omega)
      simp (maxSteps := 1000000) (disch := omega) only [stepS, reduceIte, Nat.reduceBEq, Nat.reduceEqDiff, tupleOf, stepT, g0, g5, hvB.len, u1]
      refine frame_Next_spec u2 (by simp; omega) (fun x n t B1 hx k1 t1 t2 => ?_) (fun B1 hx k1 => ?_)
      · obtain ⟨n1, n2, _, _⟩ := nextF_ok hx
        rw [List.length_drop] at n2
        have gown := OwnBs.own g4
        obtain ⟨w', B2, p1, p2, p3, _⟩ := OwnBs.push (hle.trans k1) (g4.le k1) t1 (fun j hj hj2 => by have := t2 j hj; have := (gown j hj2).2; omega) (by omega)
        simp (maxSteps := 1000000) (disch := omega) only [stepS, reduceIte, Nat.reduceBEq, Nat.reduceEqDiff, tupleOf, stepT, g0, g5, lit_sl (byt_one t1), p1]
        refine ⟨⟨k + n, done ++ [x], by omega, by simp; omega, p2, by simp, p3, ?_⟩, by first | omega | (simp; omega)⟩
        rw [hs, scanF_some hx, List.drop_drop]
        simp [Nat.add_assoc]
      · rw [scanF_none hx] at hs
        have e6 : nextE (bs.drop k) = 5 := by unfold nextE; rw [if_neg (by simp; omega)]
        rw [e6]
        simp (maxSteps := 1000000) (disch := omega) only [stepS, reduceIte, Nat.reduceBEq, Nat.reduceEqDiff, tupleOf, stepT, g0, g5]
        have := hq _ _ (hle.trans k1) (by rw [hs]; simpa using g4.le k1)
        rw [hs] at this
        simpa using this
    · simp (maxSteps := 1000000) (disch := omega) only [stepS, reduceIte, Nat.reduceBEq, Nat.reduceEqDiff, tupleOf, stepT, g0, g5, hvB.len]
      have hkk : k = bs.length := by omega
      subst hkk
      rw [List.drop_length, scanF_none nextF_nil] at hs
      have := hq _ _ hle (by rw [hs]; simpa using g4)
      rw [hs] at this
      simpa using this

theorem ref26_Scan_spec {A : AH} {v : Value} {bs : List UInt8} {Q : Value → AH → Prop} (hv : Byt A v bs) (hl : bs.length ≤ 2 ^ 38) (hq : ∀ t A', Le A A' → OwnBs A.length A' t (scanF bs).1 → Q (.tuple #[t, ii ((scanF bs).2 : Nat)]) A') : ACalls 1 Tryd.prog chantryref26_Scan [v] Q A := by
  refine ACalls.of_fits mixed fits_chantryref26_Scan rfl ?_
  unfold ic_chantryref26_Scan
  have i0 : initA [v] 0 = v := rfl
  generalize initA [v] = a at i0
  simp (maxSteps := 1000000) (disch := omega) only [stepS, reduceIte, Nat.reduceBEq, Nat.reduceEqDiff, tupleOf, stepT, i0]
  refine W_loop (fun a' B => ∃ (k : Nat) (done : List (List UInt8)), k ≤ bs.length ∧ done.length ≤ k ∧ Le A B ∧ a' 0 = v ∧ a' 5 = ii k ∧ OwnBs A.length B (a' 4) done ∧ scanF bs = (done ++ (scanF (bs.drop k)).1, k + (scanF (bs.drop k)).2)) (fun a' _ => bs.length - (iv (a' 5)).toNat) ?_ ?_
  · refine ⟨0, [], by omega, by simp, .refl _, ?_⟩
    simp (maxSteps := 1000000) (disch := omega) only [stepS, reduceIte, Nat.reduceBEq, Nat.reduceEqDiff, tupleOf, stepT, i0]
    exact ⟨rfl, OwnBs.nil _ _, by simp⟩
  · rintro a2 B ⟨k, done, hk, hd, hle, g0, g5, g4, hs⟩
    have hvB := hv.le hle
    obtain ⟨u, u1, u2⟩ := hvB.from (l := k) (by omega)
    simp (maxSteps := 1000000) (disch := omega) only [stepS, reduceIte, Nat.reduceBEq, Nat.reduceEqDiff, tupleOf, stepT, g0, g5, hvB.len, u1]
    refine ref26_Next_spec u2 (by simp; omega) (fun x n t B1 hx k1 t1 t2 => ?_) (fun B1 hx k1 => ?_)
    · obtain ⟨n1, n2, _, _⟩ := nextF_ok hx
      rw [List.length_drop] at n2
      have gown := OwnBs.own g4
      obtain ⟨w', B2, p1, p2, p3, _⟩ := OwnBs.push (hle.trans k1) (g4.le k1) t1 (fun j hj hj2 => by have := hv.lt j (sll_blk u1 j (t2 j hj)); have := (gown j hj2).1; omega) (by omega)
      simp (maxSteps := 1000000) (disch := omega) only [stepS, reduceIte, Nat.reduceBEq, Nat.reduceEqDiff, tupleOf, stepT, g0, g5, lit_sl (byt_one t1), p1]
      refine ⟨⟨k + n, done ++ [x], by omega, by simp; omega, p2, by simp, p3, ?_⟩, by first | omega | (simp; omega)⟩
      rw [hs, scanF_some hx, List.drop_drop]
      simp [Nat.add_assoc]
    · rw [scanF_none hx] at hs
      have e6 : nextE (bs.drop k) ≠ 0 := by unfold nextE; split <;> decide
      generalize nextE (bs.drop k) = e at e6
      simp (maxSteps := 1000000) (disch := omega) only [stepS, reduceIte, Nat.reduceBEq, Nat.reduceEqDiff, tupleOf, stepT, g0, g5]
      have := hq _ _ (hle.trans k1) (by rw [hs]; simpa using g4.le k1)
      rw [hs] at this
      simpa using this
end Go.AS.C


namespace Go.AS.C
open Go Go.Proofs
set_option linter.unusedVariables false
set_option linter.unusedSimpArgs false
set_option maxRecDepth 10000

theorem segment_Rescue_spec {A : AH} {v : Value} {bs : List UInt8} {Q : Value → AH → Prop} (hv : Byt A v bs) (hl : bs.length ≤ 2 ^ 38) (hq : ∀ t A', Le A A' → OwnBs A.length A' t (scanF bs).1 → Q t A') : ACalls 1 Tryd.prog segment_Rescue [v] Q A := by
  refine ACalls.of_fits mixed fits_segment_Rescue rfl ?_
  unfold ic_segment_Rescue
  have i0 : initA [v] 0 = v := rfl
  generalize initA [v] = a at i0
  simp (maxSteps := 1000000) (disch := omega) only [stepS, reduceIte, Nat.reduceBEq, Nat.reduceEqDiff, tupleOf, stepT, i0]
  refine frame_Scan_spec hv hl fun t A' k o => ?_
  simp (maxSteps := 1000000) (disch := omega) only [stepS, reduceIte, Nat.reduceBEq, Nat.reduceEqDiff, tupleOf, stepT]
  exact hq _ _ k o
/-- The text of a row. -/
theorem segment_text_spec {A : AH} {i k : Nat} {l : List (List UInt8)} {t : List UInt8} {Q : Value → AH → Prop} (hi : TabA A i l) (hf : ∀ t ∈ l, frE t = 0) (hl : l.length ≤ 4096) (hk : l[k]? = some t) (hq : ∀ A' u, Le A A' → Byt A' u t → (∀ j ∈ blkOf u, A.length ≤ j) → Q u A') :
    ACalls 1 Tryd.prog segment_Table_text [.pointer (some ⟨i, 0, none⟩), .agg (rowC t (bodyL (l.take k)).length).toArray] Q A := by
  refine ACalls.of_fits mixed fits_segment_Table_text rfl ?_
  unfold ic_segment_Table_text
  obtain ⟨rv, bv, fv, hst, hr, hb, hfv⟩ := hi
  generalize hx : Value.agg (rowC t (bodyL (l.take k)).length).toArray = x
  have i0 : initA [.pointer (some ⟨i, 0, none⟩), x] 0 = .pointer (some ⟨i, 0, none⟩) := rfl
  have i1 : initA [.pointer (some ⟨i, 0, none⟩), x] 1 = x := rfl
  generalize initA [.pointer (some ⟨i, 0, none⟩), x] = a at i0 i1
  have bx : sBox A x = some (.pointer (some ⟨A.length, 0, none⟩), A ++ [.row (rowC t (bodyL (l.take k)).length) .own 0 true]) := by rw [← hx]; rfl
  have k1 : Le A (A ++ [.row (rowC t (bodyL (l.take k)).length) .own 0 true]) := .push _ _
  generalize hB : A ++ [.row (rowC t (bodyL (l.take k)).length) .own 0 true] = B at bx k1
  have gx : B[A.length]? = some (.row (rowC t (bodyL (l.take k)).length) .own 0 true) := by rw [← hB]; exact get_snoc
  have l1 := row_load (k1.get hst) (by decide) (o := 0 + 1) (v := bv) rfl
  have l2 := row_load gx (by decide) (o := 0 + 1) (v := ii ((bodyL (l.take k)).length : Nat)) rfl
  have hlt := lt_of_get hk
  have hsp : bodyL l = bodyL (l.take k) ++ (frameB t ++ bodyL (l.drop (k + 1))) := by
    have e : l = l.take k ++ t :: l.drop (k + 1) := by
      have := List.drop_eq_getElem_cons hlt
      rw [List.getElem?_eq_getElem hlt] at hk
      rw [← Option.some.inj hk, ← this, List.take_append_drop]
    conv => lhs; rw [e]
    simp [bodyL]
  have hbl := bodyL_le l hf
  have hbl2 : 65541 * l.length ≤ 65541 * 4096 := Nat.mul_le_mul_left _ (by omega)
  obtain ⟨u, u1, u2⟩ := (hb.le k1).from (l := (bodyL (l.take k)).length) (by rw [hsp, List.length_append]; omega)
  have hd : (bodyL l).drop (bodyL (l.take k)).length = frameB t ++ bodyL (l.drop (k + 1)) := by rw [hsp, List.drop_left]
  rw [hd] at u2
  have ht := frE_zero (hf t (List.mem_of_getElem? hk))
  have hn := nextF_frame (bs := t) (r := bodyL (l.drop (k + 1))) ht.1 ht.2
  simp (maxSteps := 1000000) (disch := omega) only [stepS, reduceIte, Nat.reduceBEq, Nat.reduceEqDiff, tupleOf, stepT, i0, i1, bx, nilc_ptr, faddr_ptr, l1, l2, u1]
  refine frame_Next_spec u2 (by rw [← hd, List.length_drop]; omega) (fun y n tv A' hy k2 o2 b2 => ?_) (fun A' h _ => by rw [hn] at h; cases h)
  rw [hn] at hy
  injection hy with hy; injection hy with h1 h2; subst h1 h2
  simp (maxSteps := 1000000) (disch := omega) only [stepS, reduceIte, Nat.reduceBEq, Nat.reduceEqDiff, tupleOf, stepT]
  refine hq _ _ (k1.trans k2) o2 (fun j hj => ?_)
  have := b2 j hj
  have := k1.len
  omega
theorem seg_find_ok : calleeOk Tryd.prog segment_Table_Find_1 = true := by kernel_rfl
def domR (e : List Value) : Prop := ∃ (s : ByteArray) (o : Int), e = [.string s, ii o]
theorem rowsL_dom : ∀ (l : List (List UInt8)) (o : Nat), ∀ e ∈ rowsL o l, domR e
  | [], _, e, h => by cases h
  | t :: l, o, e, h => by
    rw [rowsL] at h
    rcases List.mem_cons.1 h with rfl | h
    · exact ⟨_, _, rfl⟩
    · exact rowsL_dom l _ e h
theorem seg_find_cmp (s : ByteArray) : CmpT 1 Tryd.prog (.func (.func segment_Table_Find_1) #[] #[]) (.string s) domR (fun e => keyI e < bl s) (fun e => keyI e = bl s) := by
  rintro A _ Q ⟨t, o, rfl⟩ hq
  rw [callD_func]
  refine ⟨seg_find_ok, ?_⟩
  simp only [List.nil_append, List.append_nil]
  refine ACalls.of_fits mixed fits_segment_Table_Find_1 rfl ?_
  unfold ic_segment_Table_Find_1
  generalize hx : Value.agg #[.string t, ii o] = x
  have i0 : initA [x, .string s] 0 = x := rfl
  have i1 : initA [x, .string s] 1 = .string s := rfl
  generalize initA [x, .string s] = a at i0 i1
  have bx : sBox A x = some (.pointer (some ⟨A.length, 0, none⟩), A ++ [.row [.string t, ii o] .own 0 true]) := by rw [← hx]; rfl
  have k1 : Le A (A ++ [.row [.string t, ii o] .own 0 true]) := .push _ _
  have l2 := row_load (A := A ++ [.row [.string t, ii o] .own 0 true]) get_snoc (by decide) (o := 0 + 0) (v := .string t) rfl
  simp (maxSteps := 1000000) (disch := omega) only [stepS, reduceIte, Nat.reduceBEq, Nat.reduceEqDiff, tupleOf, stepT, i0, i1, bx, faddr_ptr, l2]
  refine cmp_Compare_spec fun n h1 h2 h3 => ?_
  simp (maxSteps := 1000000) (disch := omega) only [stepS, reduceIte, Nat.reduceBEq, Nat.reduceEqDiff, tupleOf, stepT]
  exact hq _ n k1 h1 (by rw [h2]; exact bl_inj.symm)
/-- What is found of an ID. -/
def findL (l : List (List UInt8)) (s : ByteArray) : Option (List UInt8) := l.find? fun t => decide (shaF t = bl s)
theorem keyI_rowC (t : List UInt8) (o : Nat) : keyI (rowC t o) = shaF t := by unfold rowC; rw [keyI_at, bl_idT]
theorem rise_split {l : List (List UInt8)} (hr : l.Pairwise (fun a b => shaF a < shaF b)) (s : List UInt8) : ∃ p, p ≤ l.length ∧ (∀ (j : Nat) t, j < p → l[j]? = some t → shaF t < s) ∧ (∀ (j : Nat) t, p ≤ j → l[j]? = some t → ¬ shaF t < s) := by
  induction l with
  | nil => exact ⟨0, by simp, fun j t h => by omega, fun j t _ h => by simp at h⟩
  | cons x l ih =>
    obtain ⟨h1, h2⟩ := List.pairwise_cons.1 hr
    by_cases hx : shaF x < s
    · obtain ⟨p, p1, p2, p3⟩ := ih h2
      refine ⟨p + 1, by simp; omega, fun j t hj ht => ?_, fun j t hj ht => ?_⟩
      · cases j with
        | zero => simp only [List.getElem?_cons_zero, Option.some.injEq] at ht; subst ht; exact hx
        | succ j => exact p2 j t (by omega) (by simpa using ht)
      · cases j with
        | zero => omega
        | succ j => exact p3 j t (by omega) (by simpa using ht)
    · refine ⟨0, by simp, fun j t h => by omega, fun j t _ ht => ?_⟩
      rcases List.mem_cons.1 (List.mem_of_getElem? ht) with rfl | hm
      · exact hx
      · exact fun h => hx (kl_tr (h1 t hm) h)
theorem segment_Find_spec {A : AH} {i : Nat} {l : List (List UInt8)} {s : ByteArray} {Q : Value → AH → Prop} (hi : TabA A i l) (h1 : 1 ≤ l.length) (hl : l.length ≤ 4096) (hf : ∀ t ∈ l, frE t = 0) (hr : l.Pairwise (fun a b => shaF a < shaF b))
    (hok : ∀ A' u t, findL l s = some t → Le A A' → Byt A' u t → Q (.tuple #[u, .bool true]) A') (hno : ∀ A', findL l s = none → Le A A' → Q (.tuple #[.slice none 0 0, .bool false]) A') : ACalls 1 Tryd.prog segment_Table_Find [.pointer (some ⟨i, 0, none⟩), .string s] Q A := by
  refine ACalls.of_fits mixed fits_segment_Table_Find rfl ?_
  unfold ic_segment_Table_Find
  have hi0 := hi
  obtain ⟨rv, bv, fv, hst, hrv, hb, hfv⟩ := hi
  have i0 : initA [.pointer (some ⟨i, 0, none⟩), .string s] 0 = .pointer (some ⟨i, 0, none⟩) := rfl
  have i1 : initA [.pointer (some ⟨i, 0, none⟩), .string s] 1 = .string s := rfl
  generalize initA [.pointer (some ⟨i, 0, none⟩), .string s] = a at i0 i1
  have l1 := row_load hst (by decide) (o := 0 + 2) (v := fv) rfl
  simp (maxSteps := 1000000) (disch := omega) only [stepS, reduceIte, Nat.reduceBEq, Nat.reduceEqDiff, tupleOf, stepT, i0, i1, isnil_ptr, nilc_ptr, faddr_ptr, l1]
  refine fence_Has_spec hfv fun A1 k1 => ?_
  cases hh : hasF (fenceOf l.length (l.map idT)) s with
  | false =>
    have hn : findL l s = none := by
      unfold findL
      rw [List.find?_eq_none]
      intro t ht hk
      simp only [decide_eq_true_eq] at hk
      have hs : s = idT t := bl_inj.1 (by rw [bl_idT, hk])
      have : hasF (fenceOf l.length (l.map idT)) s = true := by
        rw [hs]
        exact fence_has ⟨h1, hl⟩ (List.mem_map.2 ⟨t, ht, rfl⟩) (by unfold idT; exact shaF_length t)
      rw [hh] at this; cases this
    simp (maxSteps := 1000000) (disch := omega) only [stepS, reduceIte, Nat.reduceBEq, Nat.reduceEqDiff, tupleOf, stepT, i0, i1]
    exact hno _ hn k1
  | true =>
    have l2 := row_load (k1.get hst) (by decide) (o := 0 + 0) (v := rv) rfl
    simp (maxSteps := 1000000) (disch := omega) only [stepS, reduceIte, Nat.reduceBEq, Nat.reduceEqDiff, tupleOf, stepT, i0, i1, nilc_ptr, faddr_ptr, l2]
    obtain ⟨p, p1, p2, p3⟩ := rise_split hr (bl s)
    refine bsearch_spec (sz := 2) mixed (tgt := .string s) fits_segment_row_string (seg_find_cmp s) (hrv.le k1) (rowsL_ok l 0) (rowsL_dom l 0) (by rw [rowsL_len]; omega) (p := p) (by rw [rowsL_len]; exact p1) ?_ ?_ fun A2 b k2 hb2 => ?_
    · intro j e hj he
      obtain ⟨t, ht⟩ := get_some (l := l) (k := j) (by have := lt_of_get he; rw [rowsL_len] at this; exact this)
      rw [rowsL_get l 0 j t ht] at he
      injection he with he; subst he
      show keyI (rowC _ _) < _
      rw [keyI_rowC]; exact p2 j t hj ht
    · intro j e hj he
      obtain ⟨t, ht⟩ := get_some (l := l) (k := j) (by have := lt_of_get he; rw [rowsL_len] at this; exact this)
      rw [rowsL_get l 0 j t ht] at he
      injection he with he; subst he
      show ¬ keyI (rowC _ _) < _
      rw [keyI_rowC]; exact p3 j t hj ht
    · cases b with
      | false =>
        have hn : findL l s = none := by
          unfold findL
          rw [List.find?_eq_none]
          intro t ht hk
          simp only [decide_eq_true_eq] at hk
          obtain ⟨j, hj⟩ := List.mem_iff_getElem?.1 ht
          have hjp : p ≤ j := by
            rcases Nat.lt_or_ge j p with h | h
            · have := p2 j t h hj; rw [hk] at this; exact absurd this (kl_irr _)
            · exact h
          obtain ⟨t0, ht0⟩ := get_some (l := l) (k := p) (by have := lt_of_get hj; omega)
          have h0 := p3 p t0 (Nat.le_refl _) ht0
          have heq : shaF t0 = bl s := by
            rcases Nat.lt_or_ge p j with h | h
            · have := List.pairwise_iff_getElem.1 hr p j (lt_of_get ht0) (lt_of_get hj) h
              rw [List.getElem?_eq_getElem (lt_of_get ht0)] at ht0
              rw [List.getElem?_eq_getElem (lt_of_get hj)] at hj
              rw [Option.some.inj ht0, Option.some.inj hj, hk] at this
              exact absurd this h0
            · have : p = j := by omega
              subst this
              rw [hj] at ht0; injection ht0 with ht0; rw [← ht0]; exact hk
          have : (false : Bool) = true := hb2.2 ⟨_, rowsL_get l 0 p t0 ht0, by rw [keyI_rowC]; exact heq⟩
          cases this
        simp (maxSteps := 1000000) (disch := omega) only [stepS, reduceIte, Nat.reduceBEq, Nat.reduceEqDiff, tupleOf, stepT, i0, i1]
        exact hno _ hn (k1.trans k2)
      | true =>
        obtain ⟨e, he, hk⟩ := hb2.1 rfl
        obtain ⟨t, ht⟩ := get_some (l := l) (k := p) (by have := lt_of_get he; rw [rowsL_len] at this; exact this)
        rw [rowsL_get l 0 p t ht] at he
        injection he with he; subst he
        rw [keyI_rowC] at hk
        have hfd : findL l s = some t := by
          unfold findL
          cases hfi : l.find? (fun t => decide (shaF t = bl s)) with
          | none =>
            rw [List.find?_eq_none] at hfi
            exact absurd (by simpa using hk) (hfi t (List.mem_of_getElem? ht))
          | some z =>
            have hz := List.find?_some hfi
            simp only [decide_eq_true_eq] at hz
            rw [rise_get hr (List.mem_of_find?_eq_some hfi) (List.mem_of_getElem? ht) (by rw [hz, hk])]
        have kk := k1.trans k2
        have l3 := row_load (kk.get hst) (by decide) (o := 0 + 0) (v := rv) rfl
        obtain ⟨q, _, q1, q2, _⟩ := (hrv.le kk).el (rowsL_ok l 0) (rowsL_get l 0 p t ht)
        rw [Nat.zero_add] at q2
        simp (maxSteps := 1000000) (disch := omega) only [stepS, reduceIte, Nat.reduceBEq, Nat.reduceEqDiff, tupleOf, stepT, i0, i1, nilc_ptr, faddr_ptr, l3, q1, q2]
        refine segment_text_spec (hi0.le kk) hf hl ht fun A3 u k3 o3 _ => ?_
        simp (maxSteps := 1000000) (disch := omega) only [stepS, reduceIte, Nat.reduceBEq, Nat.reduceEqDiff, tupleOf, stepT]
        exact hok _ _ _ hfd (kk.trans k3) o3
theorem segment_Texts_spec {A : AH} {i : Nat} {l : List (List UInt8)} {Q : Value → AH → Prop} (hi : TabA A i l) (hl : l.length ≤ 4096) (hf : ∀ t ∈ l, frE t = 0) (hq : ∀ A' u, Le A A' → OwnBs A.length A' u l → Q u A') : ACalls 1 Tryd.prog segment_Table_Texts [.pointer (some ⟨i, 0, none⟩)] Q A := by
  refine ACalls.of_fits mixed fits_segment_Table_Texts rfl ?_
  unfold ic_segment_Table_Texts
  have hi0 := hi
  obtain ⟨rv, bv, fv, hst, hrv, hb, hfv⟩ := hi
  have i0 : initA [.pointer (some ⟨i, 0, none⟩)] 0 = .pointer (some ⟨i, 0, none⟩) := rfl
  generalize initA [.pointer (some ⟨i, 0, none⟩)] = a at i0
  have l0 := row_load hst (by decide) (o := 0 + 0) (v := rv) rfl
  have hrl := hrv.lenB
  rw [rowsL_len] at hrl
  simp (maxSteps := 1000000) (disch := omega) only [stepS, reduceIte, Nat.reduceBEq, Nat.reduceEqDiff, tupleOf, stepT, i0, isnil_ptr, nilc_ptr, faddr_ptr, l0, hrl]
  refine W_loop (fun a' B => ∃ k : Nat, k ≤ l.length ∧ Le A B ∧ OwnBs A.length B (a' 3) (l.take k) ∧ a' 0 = .pointer (some ⟨i, 0, none⟩) ∧ a' 12 = rv ∧ a' 13 = ii l.length ∧ a' 14 = ii k) (fun a' _ => l.length - (iv (a' 14)).toNat) ?_ ?_
  · refine ⟨0, by omega, .refl _, ?_⟩
    simp (maxSteps := 1000000) (disch := omega) only [stepS, reduceIte, Nat.reduceBEq, Nat.reduceEqDiff, tupleOf, stepT, i0]
    exact ⟨OwnBs.nil _ _, rfl⟩
  · rintro a2 B ⟨k, hk, hle, ho, g0, g12, g13, g14⟩
    generalize ex : a2 3 = w at ho
    rcases Nat.lt_or_ge k l.length with hlt | hge
    · obtain ⟨t, ht⟩ := get_some hlt
      obtain ⟨p, _, p1, p2, _⟩ := (hrv.le hle).el (rowsL_ok l 0) (rowsL_get l 0 k t ht)
      rw [Nat.zero_add] at p2
      have k1 : Le B (B ++ [.row (rowC t (bodyL (l.take k)).length) .own 0 true]) := .push _ _
      have c1 := copy_el (sz := 2) (z := [.string ⟨#[]⟩, .int .i64 0]) (e := rowC t (bodyL (l.take k)).length) B rfl rfl rfl
      generalize hB1 : B ++ [.row (rowC t (bodyL (l.take k)).length) .own 0 true] = B1 at c1 k1
      have gx : B1[B.length]? = some (.row (rowC t (bodyL (l.take k)).length) .own 0 true) := by rw [← hB1]; exact get_snoc
      have d1 := row_loadn gx (by decide) (m := 2) rfl
      simp (maxSteps := 1000000) (disch := omega) only [stepS, reduceIte, Nat.reduceBEq, Nat.reduceEqDiff, tupleOf, stepT, g0, g12, g13, g14, ex, p1, p2, c1, d1]
      refine segment_text_spec (hi0.le (hle.trans k1)) hf hl ht fun B2 u k2 o2 b2 => ?_
      have kk := hle.trans (k1.trans k2)
      have hown := OwnBs.own ho
      obtain ⟨w', B3, e1, e2, e3, _⟩ := OwnBs.push kk (ho.le (k1.trans k2)) o2 (fun j hj hj2 => by have := b2 j hj; have := (hown j hj2).2; have := k1.len; omega) (by rw [List.length_take]; omega)
      simp (maxSteps := 1000000) (disch := omega) only [stepS, reduceIte, Nat.reduceBEq, Nat.reduceEqDiff, tupleOf, stepT, g0, g12, g13, g14, ex, lit_sl o2.one1, e1]
      refine ⟨⟨k + 1, by omega, e2, ?_, rfl⟩, by omega⟩
      rw [List.take_add_one, ht]
      simpa using e3
    · simp (maxSteps := 1000000) (disch := omega) only [stepS, reduceIte, Nat.reduceBEq, Nat.reduceEqDiff, tupleOf, stepT, g0, g12, g13, g14, ex]
      rw [List.take_of_length_le hge] at ho
      exact hq _ _ hle ho
theorem segment_Get_spec {A : AH} {v : Value} {bs : List UInt8} {Q : Value → AH → Prop} (hg : Le [kB] A) (hv : Byt A v bs) (hl : bs.length ≤ 2 ^ 30) (ht : (textsG bs).length ≤ 4096)
    (hok : ∀ A' i, getE bs = 0 → Le A A' → TabA A' i (getL bs) → Q (.tuple #[.pointer (some ⟨i, 0, none⟩), ii 0]) A') (hbad : ∀ A', getE bs ≠ 0 → Le A A' → Q (.tuple #[.pointer none, ii (getE bs : Nat)]) A') : ACalls 1 Tryd.prog segment_Get [v] Q A := by
  refine ACalls.of_fits mixed fits_segment_Get rfl ?_
  unfold ic_segment_Get
  have i0 : initA [v] 0 = v := rfl
  generalize initA [v] = a at i0
  simp (maxSteps := 1000000) (disch := omega) only [stepS, reduceIte, Nat.reduceBEq, Nat.reduceEqDiff, tupleOf, stepT, i0]
  refine crc_Open_spec hv (by omega) (fun own u A1 ho k1 o1 => ?_) (fun A1 ho k1 => ?_)
  rotate_left
  · have e : getE bs = 12 := by unfold getE; rw [if_pos ho]
    have := hbad A1 (by omega) k1
    rw [e] at this
    simp (maxSteps := 1000000) (disch := omega) only [stepS, reduceIte, Nat.reduceBEq, Nat.reduceEqDiff, tupleOf, stepT, i0]
    exact this
  have hne : openB bs ≠ none := by rw [ho]; simp
  have hown : ownG bs = own := by unfold ownG; rw [ho]; rfl
  have hol := openB_len ho
  have five : badG bs → getE bs = 5 := fun h => by unfold getE; rw [if_neg hne, if_pos h]
  have ul := o1.byt.lenB
  by_cases h8 : own.length < 8
  · have e := five (.inl (by rw [hown]; exact h8))
    have := hbad A1 (by omega) k1
    rw [e] at this
    simp (maxSteps := 1000000) (disch := omega) only [stepS, reduceIte, Nat.reduceBEq, Nat.reduceEqDiff, tupleOf, stepT, i0, ul]
    exact this
  · obtain ⟨t4, f1, f2⟩ := o1.byt.from (l := own.length - 4) (by omega)
    have f1' : sSll A1 u (some (.int .i64 ((own.length : Int) - 4))) none none 1 = some (t4, A1) := by
      rw [show ((own.length : Int) - 4) = ((own.length - 4 : Nat) : Int) by omega]; exact f1
    simp (maxSteps := 1000000) (disch := omega) only [stepS, reduceIte, Nat.reduceBEq, Nat.reduceEqDiff, tupleOf, stepT, i0, ul, f1']
    refine num_Unfix_spec f2 ?_
    have htl : tailG bs = unfixN (own.drop (own.length - 4)) := by unfold tailG; rw [hown]
    rw [← htl]
    by_cases he : (tailG bs).2 = 0
    · by_cases hn : own.length < (tailG bs).1
      · have e := five (.inr (.inr (.inl (by rw [hown]; exact hn))))
        have := hbad A1 (by omega) k1
        rw [e] at this
        simp (maxSteps := 1000000) (disch := omega) only [stepS, reduceIte, Nat.reduceBEq, Nat.reduceEqDiff, tupleOf, stepT, i0, ul, he]
        exact this
      · obtain ⟨t5, m1, m2⟩ := o1.byt.upto (k := (tailG bs).1) (by omega)
        have m1' : sSll A1 u none (some (.int .i64 ((tailG bs).1 : Int))) none 1 = some (t5, A1) := m1
        simp (maxSteps := 1000000) (disch := omega) only [stepS, reduceIte, Nat.reduceBEq, Nat.reduceEqDiff, tupleOf, stepT, i0, ul, he, m1']
        refine frame_Scan_spec m2 (by rw [List.length_take]; omega) fun tv A2 k2 o2 => ?_
        have htx : (scanF (own.take (tailG bs).1)).1 = textsG bs := by unfold textsG; rw [hown]
        rw [htx] at o2
        obtain ⟨tx1, tx2⟩ := textsG_len bs
        simp (maxSteps := 1000000) (disch := omega) only [stepS, reduceIte, Nat.reduceBEq, Nat.reduceEqDiff, tupleOf, stepT, i0]
        refine segment_Put_spec (hg.trans (k1.trans k2)) o2.byts ht (fun t h => by have := tx2 t h; omega) fun A3 pv k3 o3 => ?_
        by_cases hp : putE (textsG bs) = 0
        · have hvA := ((hv.le k1).le k2).le k3
          simp (maxSteps := 1000000) (disch := omega) only [stepS, reduceIte, Nat.reduceBEq, Nat.reduceEqDiff, tupleOf, stepT, i0, hp]
          refine slices_Equal_spec o3.byt hvA (by
            unfold putSg
            rw [if_pos hp, sealB_length]
            have := (putE_zero.1 hp).2.2
            omega) ?_
          by_cases heq : putSg (textsG bs) = bs
          · have hz : ¬ badG bs := by
              unfold badG
              rw [hown]
              rintro (h | h | h | h | h)
              · exact h8 h
              · exact h he
              · exact hn h
              · exact h hp
              · exact h heq
            have e : getE bs = 0 := by unfold getE; rw [if_neg hne, if_neg hz]
            rw [heq, beq_self_eq_true]
            simp (maxSteps := 1000000) (disch := omega) only [stepS, reduceIte, Nat.reduceBEq, Nat.reduceEqDiff, tupleOf, stepT, i0]
            have kk := (k1.trans k2).trans k3
            obtain ⟨z1, z2, z3⟩ := putE_zero.1 hp
            refine segment_sorted_spec (hg.trans kk) (o2.byts.le k3) (by omega) (fun t h => by have := tx2 t h; omega) fun A4 w k4 hw => ?_
            simp (maxSteps := 1000000) (disch := omega) only [stepS, reduceIte, Nat.reduceBEq, Nat.reduceEqDiff, tupleOf, stepT]
            have hlen := srtT_len (key := shaF) (textsG bs)
            have hpos : (srtT shaF (textsG bs)).length ≠ 0 := fun h => z1 (srtT_nil_iff.1 h)
            refine segment_table_spec hw (by omega) (by omega) (fun t h => z2 t (srtT_mem t h)) fun A5 i k5 _ ht5 => ?_
            simp (maxSteps := 1000000) (disch := omega) only [stepS, reduceIte, Nat.reduceBEq, Nat.reduceEqDiff, tupleOf, stepT]
            exact hok A5 i e ((kk.trans k4).trans k5) ht5
          · have hb : (putSg (textsG bs) == bs) = false := by simpa using heq
            have e := five (.inr (.inr (.inr (.inr heq))))
            have := hbad A3 (by omega) ((k1.trans k2).trans k3)
            rw [e] at this
            rw [hb]
            simp (maxSteps := 1000000) (disch := omega) only [stepS, reduceIte, Nat.reduceBEq, Nat.reduceEqDiff, tupleOf, stepT, i0]
            exact this
        · have hp' : ¬ ((putE (textsG bs) : Nat) : Int) = 0 := by omega
          have e := five (.inr (.inr (.inr (.inl hp))))
          have := hbad A3 (by omega) ((k1.trans k2).trans k3)
          rw [e] at this
          simp (maxSteps := 1000000) (disch := omega) only [stepS, reduceIte, Nat.reduceBEq, Nat.reduceEqDiff, tupleOf, stepT, i0, hp']
          exact this
    · have he' : ¬ (((tailG bs).2 : Nat) : Int) = 0 := by omega
      have e := five (.inr (.inl he))
      have := hbad A1 (by omega) k1
      rw [e] at this
      simp (maxSteps := 1000000) (disch := omega) only [stepS, reduceIte, Nat.reduceBEq, Nat.reduceEqDiff, tupleOf, stepT, i0, ul, he']
      exact this
end Go.AS.C


namespace Go.AS.C
open Go Go.Proofs
set_option linter.unusedVariables false
set_option linter.unusedSimpArgs false
set_option maxRecDepth 10000

def sumS (l : List Int) : Int := (l.map fun n => sizeF n + 37).sum
def zeroS (l : List Int) : Bool := l.any fun n => decide (sizeF n = 0)
/-- How many bytes a segment of texts of these sizes has. -/
def sizeS (l : List Int) : Int := if l.length = 0 ∨ 4096 < l.length ∨ zeroS l = true ∨ 262144 < 12 + sumS l then 0 else 12 + sumS l
theorem sizeF_bnd (n : Int) : 0 ≤ sizeF n ∧ sizeF n ≤ 65541 := by
  unfold sizeF
  split <;> omega
theorem sumS_snoc (l : List Int) (n : Int) : sumS (l ++ [n]) = sumS l + (sizeF n + 37) := by simp [sumS]
theorem sumS_bnd : ∀ l : List Int, 0 ≤ sumS l ∧ sumS l ≤ 65578 * l.length ∧ 37 * l.length ≤ sumS l
  | [] => by simp [sumS]
  | n :: l => by
    have h := sumS_bnd l
    have hn := sizeF_bnd n
    simp only [sumS, List.map_cons, List.sum_cons, List.length_cons] at h ⊢
    omega
theorem sumS_take (l : List Int) (k : Nat) : sumS (l.take k) ≤ sumS l := by
  have h := (sumS_bnd (l.drop k)).1
  have : sumS l = sumS (l.take k) + sumS (l.drop k) := by
    conv => lhs; rw [← List.take_append_drop k l]
    simp only [sumS, List.map_append, List.sum_append]
  omega
theorem zeroS_snoc (l : List Int) (n : Int) : zeroS (l ++ [n]) = (zeroS l || decide (sizeF n = 0)) := by simp [zeroS]
theorem zeroS_get {l : List Int} {k : Nat} {n : Int} (h : l[k]? = some n) (hz : sizeF n = 0) : zeroS l = true := by
  unfold zeroS
  rw [List.any_eq_true]
  exact ⟨n, List.mem_of_getElem? h, by simpa using hz⟩
theorem segment_Size_spec {A : AH} {v : Value} {l : List Int} {Q : Value → AH → Prop} (hv : Sl A 1 v l.length (ints .i64 l)) (hl : l.length ≤ 2 ^ 40) (hq : Q (ii (sizeS l)) A) : ACalls 1 Tryd.prog segment_Size [v] Q A := by
  refine ACalls.of_fits mixed fits_segment_Size rfl ?_
  unfold ic_segment_Size
  have i0 : initA [v] 0 = v := rfl
  generalize initA [v] = a at i0
  have hvl := hv.lenB
  by_cases h0 : l.length = 0
  · have e : sizeS l = 0 := by unfold sizeS; rw [if_pos (.inl h0)]
    rw [e] at hq
    simp (maxSteps := 1000000) (disch := omega) only [stepS, reduceIte, Nat.reduceBEq, Nat.reduceEqDiff, tupleOf, stepT, i0, hvl]
    exact hq
  · by_cases h1 : 4096 < l.length
    · have e : sizeS l = 0 := by unfold sizeS; rw [if_pos (.inr (.inl h1))]
      rw [e] at hq
      simp (maxSteps := 1000000) (disch := omega) only [stepS, reduceIte, Nat.reduceBEq, Nat.reduceEqDiff, tupleOf, stepT, i0, hvl]
      exact hq
    · simp (maxSteps := 1000000) (disch := omega) only [stepS, reduceIte, Nat.reduceBEq, Nat.reduceEqDiff, tupleOf, stepT, i0, hvl]
      refine W_loop (fun a' B => B = A ∧ ∃ k : Nat, k ≤ l.length ∧ zeroS (l.take k) = false ∧ (0 < k → 12 + sumS (l.take k) ≤ 262144) ∧ a' 3 = ii (12 + sumS (l.take k)) ∧ a' 15 = v ∧ a' 16 = ii l.length ∧ a' 17 = ii k) (fun a' _ => l.length - (iv (a' 17)).toNat) ?_ ?_
      · refine ⟨rfl, 0, by omega, by simp [zeroS], by omega, ?_⟩
        simp (maxSteps := 1000000) (disch := omega) only [stepS, reduceIte, Nat.reduceBEq, Nat.reduceEqDiff, tupleOf, stepT, i0]
        (all_goals (and_intros <;> first | rfl | assumption | (push_cast; rfl) | (congr 1; omega) | omega | (simp; done)))
      · rintro a2 B ⟨rfl, k, hk, hz, hs, g3, g15, g16, g17⟩
        rcases Nat.lt_or_ge k l.length with hlt | hge
        · obtain ⟨n, hn⟩ := get_some hlt
          obtain ⟨p, p1, p2⟩ := hv.at1 (j := k) (v0 := ii n) (by unfold ints; rw [List.getElem?_map, hn]; rfl)
          have hb := sumS_bnd (l.take k)
          rw [List.length_take, Nat.min_eq_left hk] at hb
          have hnb := sizeF_bnd n
          simp (maxSteps := 1000000) (disch := omega) only [stepS, reduceIte, Nat.reduceBEq, Nat.reduceEqDiff, tupleOf, stepT, g3, g15, g16, g17, p1, p2]
          refine frame_Size_spec ?_
          by_cases hn0 : sizeF n = 0
          · have e : sizeS l = 0 := by unfold sizeS; rw [if_pos (.inr (.inr (.inl (zeroS_get hn hn0))))]
            rw [e] at hq
            simp (maxSteps := 1000000) (disch := omega) only [stepS, reduceIte, Nat.reduceBEq, Nat.reduceEqDiff, tupleOf, stepT, g3, g15, g16, g17, hn0]
            exact hq
          · have hsn := sumS_snoc (l.take k) n
            have htk : l.take (k + 1) = l.take k ++ [n] := by rw [List.take_add_one, hn]; rfl
            rw [← htk] at hsn
            by_cases hbig : 262144 < 12 + sumS (l.take (k + 1))
            · have := sumS_take l (k + 1)
              have e : sizeS l = 0 := by unfold sizeS; rw [if_pos (.inr (.inr (.inr (by omega))))]
              rw [e] at hq
              simp (maxSteps := 1000000) (disch := omega) only [stepS, reduceIte, Nat.reduceBEq, Nat.reduceEqDiff, tupleOf, stepT, g3, g15, g16, g17, hn0]
              exact hq
            · simp (maxSteps := 1000000) (disch := omega) only [stepS, reduceIte, Nat.reduceBEq, Nat.reduceEqDiff, tupleOf, stepT, g3, g15, g16, g17, hn0]
              refine ⟨⟨k + 1, by omega, ?_, fun _ => by omega, ?_, rfl⟩, by omega⟩
              · rw [htk, zeroS_snoc, hz]; simp [hn0]
              · congr 1; omega
        · rw [List.take_of_length_le hge] at hz hs g3
          have e : sizeS l = 12 + sumS l := by
            unfold sizeS
            rw [if_neg]
            rintro (h | h | h | h)
            · exact h0 h
            · exact h1 h
            · rw [hz] at h; cases h
            · have := hs (by omega); omega
          rw [e] at hq
          simp (maxSteps := 1000000) (disch := omega) only [stepS, reduceIte, Nat.reduceBEq, Nat.reduceEqDiff, tupleOf, stepT, g3, g15, g16, g17]
          exact hq
end Go.AS.C


namespace Go.AS.C
open Go Go.Proofs
set_option linter.unusedVariables false
set_option linter.unusedSimpArgs false
set_option maxRecDepth 100000

def wA : List UInt8 := [97]
def wB : List UInt8 := [98, 99]
def wBAB : List (List UInt8) := [wB, wA, wB]
theorem w1 : putE [wA] = 0 := by decide +kernel
theorem w2 : (putSg [wA]).length = 56 := by decide +kernel
theorem w3 : putE wBAB = 0 := by decide +kernel
theorem w4 : (srtT shaF wBAB).length = 2 := by decide +kernel
theorem w5 : openB ((putSg [wA]).drop 1) = none := by decide +kernel
theorem w6 : findL (srtT shaF wBAB) (idT wB) = some wB := by decide +kernel
theorem w7 : findL (srtT shaF wBAB) (idT []) = none := by decide +kernel
theorem w8 : ((putSg wBAB).length : Int) = sizeS [1, 2] := by decide +kernel
theorem w9 : sizeS [1] = 56 := by decide +kernel
theorem w10 : (scanF ((putSg wBAB).take ((putSg wBAB).length / 2))).1.length ≤ 2 := by decide +kernel
end Go.AS.C


namespace Go.AS.C
open Go Go.Proofs
set_option linter.unusedVariables false
set_option linter.unusedSimpArgs false
set_option maxRecDepth 10000

theorem lit_byts {A : AH} {len : Nat} {vs : List Value} {bss : List (List UInt8)} {ps : List (Nat × Nat × Value)} (hp : ps = mkP 0 vs) (hl : len = vs.length) (h : All2 (fun x bs => Byt A x bs) vs bss) :
    sLit A [.slice none 0 0] 1 len ps = some (.slice (some ⟨A.length, 0, none⟩) len len, A ++ [.row vs .own 1 true]) ∧ Byts (A ++ [.row vs .own 1 true]) (.slice (some ⟨A.length, 0, none⟩) len len) bss := by
  subst hl
  refine ⟨lit1 vs hp rfl (fun x hx => ?_), vs, sl_last A (by simp) (Nat.le_refl _), All2.imp (fun _ _ h => Byt.le h (Le.push _ _)) _ _ h⟩
  obtain ⟨bs, _, hb⟩ := all2_mem h x hx
  exact hb.one1
theorem getE_put {ts : List (List UInt8)} (h : putE ts = 0) (hl : ts.length ≤ 4096) : getE (putSg ts) = 0 ∧ getL (putSg ts) = srtT shaF ts ∧ (textsG (putSg ts)).length ≤ 4096 := by
  obtain ⟨h1, h2, h3⟩ := get_put h hl
  refine ⟨by unfold getE; rw [if_neg h1, if_neg h2], by unfold getL; rw [h3, srtT_idem], by rw [h3]; have := srtT_len (key := shaF) ts; omega⟩
theorem putSg_len {ts : List (List UInt8)} : (putSg ts).length ≤ 262144 := by
  unfold putSg
  split
  · rename_i h
    rw [sealB_length]
    exact (putE_zero.1 h).2.2
  · simp
theorem byts_nil (A : AH) : Byts A (.slice none 0 0) [] := ⟨[], ⟨rfl, .inl ⟨rfl, rfl⟩⟩, trivial⟩
theorem byt_nil (A : AH) : Byt A (.slice none 0 0) [] := ⟨rfl, .inl ⟨rfl, rfl⟩⟩
theorem wake {A : AH} {Q : Value → AH → Prop} (hg : Le [kB] A) (hq : ∀ A', Le A A' → Q (.bool true) A') : ACalls 1 Tryd.prog chantrylaw28_awake [] Q A := by
  refine ACalls.of_fits mixed fits_chantrylaw28_awake rfl ?_
  unfold ic_chantrylaw28_awake
  generalize initA [] = a
  -- the two texts
  have la : sLit A [.int .u8 0] 1 1 [(0, 1, .int .u8 97)] = some (.slice (some ⟨A.length, 0, none⟩) 1 1, A ++ [.row (List.map by8 wA) .own 1 true]) := litB A wA (len := 1) (ps := [(0, 1, .int .u8 97)]) rfl rfl
  have ka : Le A (A ++ [.row (List.map by8 wA) .own 1 true]) := .push _ _
  have ba := byt_last A (ex := true) wA
  have ma := mks_last A (cs := List.map by8 wA) (sz := 1) (ex := true) (n := 1) (c := 1) (by omega)
  generalize A ++ [.row (List.map by8 wA) .own 1 true] = A1 at la ka ba ma
  have lb : sLit A1 [.int .u8 0] 1 2 [(0, 1, .int .u8 98), (1, 1, .int .u8 99)] = some (.slice (some ⟨A1.length, 0, none⟩) 2 2, A1 ++ [.row (List.map by8 wB) .own 1 true]) := litB A1 wB (len := 2) (ps := [(0, 1, .int .u8 98), (1, 1, .int .u8 99)]) rfl rfl
  have kb : Le A1 (A1 ++ [.row (List.map by8 wB) .own 1 true]) := .push _ _
  have bb := byt_last A1 (ex := true) wB
  have mb := mks_last A1 (cs := List.map by8 wB) (sz := 1) (ex := true) (n := 2) (c := 2) (by omega)
  generalize A1 ++ [.row (List.map by8 wB) .own 1 true] = A2 at lb kb bb mb
  have hva : Byt A1 (.slice (some ⟨A.length, 0, none⟩) 1 1) wA := ba
  have hvb : Byt A2 (.slice (some ⟨A1.length, 0, none⟩) 2 2) wB := bb
  generalize hA : Value.slice (some ⟨A.length, 0, none⟩) 1 1 = va at la ma hva
  generalize hBv : Value.slice (some ⟨A1.length, 0, none⟩) 2 2 = vb at lb mb hvb
  have hva2 := hva.le kb
  obtain ⟨l1, b1⟩ := lit_byts (A := A2) (len := 1) (vs := [va]) (bss := [wA]) (ps := [(0, 1, va)]) rfl rfl ⟨hva2, trivial⟩
  have k3 : Le A2 (A2 ++ [.row [va] .own 1 true]) := .push _ _
  generalize A2 ++ [.row [va] .own 1 true] = A3 at l1 b1 k3
  have k03 := (ka.trans kb).trans k3
  simp (maxSteps := 1000000) (disch := omega) only [stepS, reduceIte, Nat.reduceBEq, Nat.reduceEqDiff, tupleOf, stepT, la, ma, lb, mb, l1]
  refine segment_Put_spec (hg.trans k03) b1 (by simp) (fun t ht => by simp only [List.mem_singleton] at ht; subst ht; decide) fun A4 p k4 o4 => ?_
  rw [w1]
  have hva4 := (hva2.le k3).le k4
  have hvb4 := (hvb.le k3).le k4
  obtain ⟨l2, b2⟩ := lit_byts (A := A4) (len := 3) (vs := [vb, va, vb]) (bss := wBAB) (ps := [(0, 1, vb), (1, 1, va), (2, 1, vb)]) rfl rfl ⟨hvb4, hva4, hvb4, trivial⟩
  have k5 : Le A4 (A4 ++ [.row [vb, va, vb] .own 1 true]) := .push _ _
  generalize A4 ++ [.row [vb, va, vb] .own 1 true] = A5 at l2 b2 k5
  have k05 := (k03.trans k4).trans k5
  simp (maxSteps := 1000000) (disch := omega) only [stepS, reduceIte, Nat.reduceBEq, Nat.reduceEqDiff, tupleOf, stepT, l2]
  refine segment_Put_spec (hg.trans k05) b2 (by decide) (fun t ht => by
    have : t.length ≤ 2 := by
      simp only [wBAB, List.mem_cons, List.not_mem_nil, or_false] at ht
      rcases ht with rfl | rfl | rfl <;> decide
    omega) fun A6 q k6 o6 => ?_
  rw [w3]
  have pl := o4.byt.lenB
  rw [w2] at pl
  simp (maxSteps := 1000000) (disch := omega) only [stepS, reduceIte, Nat.reduceBEq, Nat.reduceEqDiff, tupleOf, stepT, pl]
  obtain ⟨g1, g2, g3⟩ := getE_put w3 (by decide)
  have k06 := k05.trans k6
  refine segment_Get_spec (hg.trans k06) o6.byt (by have := @putSg_len wBAB; omega) g3 (fun A7 i _ k7 t7 => ?_) (fun A7 h _ => absurd g1 h)
  rw [g2] at t7
  have k07 := k06.trans k7
  have k57 := k5.trans (k6.trans k7)
  have p7 := o4.byt.le k57
  obtain ⟨u, u1, u2⟩ := p7.from (l := 1) (by rw [w2]; omega)
  have u1' : sSll A7 p (some (.int .i64 1)) none none 1 = some (u, A7) := u1
  simp (maxSteps := 1000000) (disch := omega) only [stepS, reduceIte, Nat.reduceBEq, Nat.reduceEqDiff, tupleOf, stepT, pl, u1']
  have e12 : getE ((putSg [wA]).drop 1) = 12 := by unfold getE; rw [if_pos w5]
  have tx : (textsG ((putSg [wA]).drop 1)).length ≤ 4096 := by
    have := (textsG_len ((putSg [wA]).drop 1)).1
    rw [List.length_drop, w2] at this
    omega
  refine segment_Get_spec (hg.trans k07) u2 (by rw [List.length_drop, w2]; omega) tx (fun A8 i h _ _ => by rw [e12] at h; cases h) (fun A8 _ k8 => ?_)
  rw [e12]
  have k08 := k07.trans k8
  simp (maxSteps := 1000000) (disch := omega) only [stepS, reduceIte, Nat.reduceBEq, Nat.reduceEqDiff, tupleOf, stepT]
  refine segment_Put_spec (hg.trans k08) (byts_nil _) (by decide) (fun t ht => by cases ht) fun A9 z k9 o9 => ?_
  have e1 : putE [] = 1 := rfl
  rw [e1]
  obtain ⟨l3, b3⟩ := lit_byts (A := A9) (len := 1) (vs := [.slice none 0 0]) (bss := [[]]) (ps := [(0, 1, .slice none 0 0)]) rfl rfl ⟨byt_nil _, trivial⟩
  have k10 : Le A9 (A9 ++ [.row [.slice none 0 0] .own 1 true]) := .push _ _
  generalize A9 ++ [.row [.slice none 0 0] .own 1 true] = B0 at l3 b3 k10
  have k010 := (k08.trans k9).trans k10
  simp (maxSteps := 1000000) (disch := omega) only [stepS, reduceIte, Nat.reduceBEq, Nat.reduceEqDiff, tupleOf, stepT, l3]
  refine segment_Put_spec (hg.trans k010) b3 (by decide) (fun t ht => by simp only [List.mem_singleton] at ht; subst ht; decide) fun B1 z1 k11 o11 => ?_
  have e2 : putE [[]] = 1 := rfl
  rw [e2]
  have k71 := k8.trans (k9.trans (k10.trans k11))
  have t11 := t7.le k71
  have hvb11 := ((hvb4.le k57).le k71)
  obtain ⟨z1', z2, z3⟩ := putE_zero.1 w3
  have hf : ∀ t ∈ srtT shaF wBAB, frE t = 0 := fun t h => z2 t (srtT_mem t h)
  have hr := (srtT_spec (key := shaF) wBAB).1
  simp (maxSteps := 1000000) (disch := omega) only [stepS, reduceIte, Nat.reduceBEq, Nat.reduceEqDiff, tupleOf, stepT]
  refine ref03_ID_spec hvb11 (by decide) ?_
  have hid : (.string ⟨(shaF wB).toArray⟩ : Value) = .string (idT wB) := rfl
  rw [hid]
  simp (maxSteps := 1000000) (disch := omega) only [stepS, reduceIte, Nat.reduceBEq, Nat.reduceEqDiff, tupleOf, stepT]
  refine segment_Find_spec t11 (by rw [w4]; omega) (by rw [w4]; omega) hf hr (fun B2 y t hy k12 o12 => ?_) (fun B2 h _ => by rw [w6] at h; cases h)
  rw [w6] at hy
  injection hy with hy
  subst hy
  simp (maxSteps := 1000000) (disch := omega) only [stepS, reduceIte, Nat.reduceBEq, Nat.reduceEqDiff, tupleOf, stepT]
  refine ref03_ID_spec (byt_nil _) (by decide) ?_
  have hid0 : (.string ⟨(shaF []).toArray⟩ : Value) = .string (idT []) := rfl
  rw [hid0]
  simp (maxSteps := 1000000) (disch := omega) only [stepS, reduceIte, Nat.reduceBEq, Nat.reduceEqDiff, tupleOf, stepT]
  refine segment_Find_spec (t11.le k12) (by rw [w4]; omega) (by rw [w4]; omega) hf hr (fun B3 y t hy _ _ => by rw [w7] at hy; cases hy) (fun B3 _ k13 => ?_)
  have k6b := k7.trans (k71.trans (k12.trans k13))
  have q13 := o6.byt.le k6b
  have ql := q13.lenB
  obtain ⟨u3, u4, u5⟩ := q13.upto (k := (putSg wBAB).length / 2) (by omega)
  have u4' : sSll B3 q none (some (.int .i64 (((putSg wBAB).length : Int) / 2))) none 1 = some (u3, B3) := by
    have : (((putSg wBAB).length : Int) / 2) = (((putSg wBAB).length / 2 : Nat) : Int) := by omega
    rw [this]; exact u4
  have qll := @putSg_len wBAB
  simp (maxSteps := 1000000) (disch := omega) only [stepS, reduceIte, Nat.reduceBEq, Nat.reduceEqDiff, tupleOf, stepT, ql, u4']
  refine segment_Rescue_spec u5 (by rw [List.length_take]; omega) fun tv B4 k14 o14 => ?_
  have w10' := w10
  have lr : ∀ B, sLens B false tv = some (ii (scanF ((putSg wBAB).take ((putSg wBAB).length / 2))).1.length, B) := fun B => by
    obtain ⟨vs, h1, h2, _⟩ := o14
    rw [All2.len _ _ h2]
    exact h1.sl.lenB B
  have ystr := ((o12.le k13).le k14).str
  have sbc : decide ((⟨wB.toArray⟩ : ByteArray) = ⟨#[98, 99]⟩) = true := rfl
  have plz := pl
  simp (maxSteps := 1000000) (disch := omega) only [stepS, reduceIte, Nat.reduceBEq, Nat.reduceEqDiff, tupleOf, stepT, pl, ql, ystr, sbc]
  have t14 := ((t11.le k12).le k13).le k14
  obtain ⟨rv, bv, fv, hst, hrv, _, _⟩ := id t14
  refine segment_IDs_spec hst hrv (by rw [w4]; omega) fun B5 u6 k15 o15 => ?_
  have l6 := o15.sl.lenB
  rw [List.length_map, w4] at l6
  simp (maxSteps := 1000000) (disch := omega) only [stepS, reduceIte, Nat.reduceBEq, Nat.reduceEqDiff, tupleOf, stepT, l6]
  refine segment_Texts_spec (t14.le k15) (by rw [w4]; omega) hf fun B6 u7 k16 o16 => ?_
  have l7 : ∀ B, sLens B false u7 = some (ii (2 : Nat), B) := fun B => by
    obtain ⟨vs, h1, h2, _⟩ := o16
    have e : vs.length = 2 := by rw [← All2.len _ _ h2, w4]
    have := h1.sl.lenB B
    rw [e] at this
    exact this
  have ls1 := lit1 (A := B6) (z := .int .i64 0) (len := 1) (ps := [(0, 1, ii 1)]) [ii 1] rfl rfl (by
    intro x hx
    simp only [List.mem_singleton] at hx
    subst hx; exact one1_int _ _)
  have k17 : Le B6 (B6 ++ [.row [ii 1] .own 1 true]) := .push _ _
  have sl1 := sl_last B6 (cs := [ii 1]) (st := .own) (ex := true) (c := 1) (by simp) (by simp)
  generalize B6 ++ [.row [ii 1] .own 1 true] = B7 at ls1 k17 sl1
  have l66 : sLens B5 false u6 = some (.int .i64 2, B5) := l6 B5
  have l77 : sLens B6 false u7 = some (.int .i64 2, B6) := l7 B6
  have ls1' : sLit B6 [.int .i64 0] 1 1 [(0, 1, .int .i64 1)] = some (.slice (some ⟨B6.length, 0, none⟩) 1 1, B7) := ls1
  simp (maxSteps := 1000000) (disch := omega) only [stepS, reduceIte, Nat.reduceBEq, Nat.reduceEqDiff, tupleOf, stepT, l77, ls1']
  refine segment_Size_spec (l := [1]) sl1 (by decide) ?_
  rw [w9]
  have ls2 := lit1 (A := B7) (z := .int .i64 0) (len := 2) (ps := [(0, 1, ii 1), (1, 1, ii 2)]) [ii 1, ii 2] rfl rfl (by
    intro x hx
    simp only [List.mem_cons, List.not_mem_nil, or_false] at hx
    rcases hx with rfl | rfl <;> exact one1_int _ _)
  have k18 : Le B7 (B7 ++ [.row [ii 1, ii 2] .own 1 true]) := .push _ _
  have sl2 := sl_last B7 (cs := [ii 1, ii 2]) (st := .own) (ex := true) (c := 2) (by simp) (by simp)
  generalize B7 ++ [.row [ii 1, ii 2] .own 1 true] = B8 at ls2 k18 sl2
  have ls2' : sLit B7 [.int .i64 0] 1 2 [(0, 1, .int .i64 1), (1, 1, .int .i64 2)] = some (.slice (some ⟨B7.length, 0, none⟩) 2 2, B8) := ls2
  simp (maxSteps := 1000000) (disch := omega) only [stepS, reduceIte, Nat.reduceBEq, Nat.reduceEqDiff, tupleOf, stepT, ls2']
  refine segment_Size_spec (l := [1, 2]) sl2 (by decide) ?_
  rw [← w8]
  have ql8 : ∀ B, sLens B false q = some (ii (putSg wBAB).length, B) := ql
  simp (maxSteps := 1000000) (disch := omega) only [stepS, reduceIte, Nat.reduceBEq, Nat.reduceEqDiff, tupleOf, stepT, ql8]
  refine segment_Size_spec (l := []) ⟨rfl, .inl ⟨rfl, rfl⟩⟩ (by decide) ?_
  have s0 : sizeS [] = 0 := rfl
  rw [s0]
  simp (maxSteps := 1000000) (disch := omega) only [stepS, reduceIte, Nat.reduceBEq, Nat.reduceEqDiff, tupleOf, stepT, lr]
  have kfin : Le A B8 := (((((((k06.trans k7).trans k71).trans k12).trans k13).trans k14).trans k15).trans k16).trans (k17.trans k18)
  exact hq _ kfin
end Go.AS.C


namespace Go.AS.C
open Go Go.Proofs
set_option linter.unusedVariables false
set_option linter.unusedSimpArgs false
set_option maxRecDepth 10000

theorem take_eq_succ {α : Type} {xs ys : List α} {k : Nat} {x y : α} (hx : xs[k]? = some x) (hy : ys[k]? = some y) : xs.take (k + 1) = ys.take (k + 1) ↔ xs.take k = ys.take k ∧ x = y := by
  rw [List.take_add_one, List.take_add_one, hx, hy]
  constructor
  · intro h
    have := List.append_inj' h rfl
    exact ⟨this.1, by simpa using this.2⟩
  · rintro ⟨h1, rfl⟩; rw [h1]
theorem str_inj {a b : List UInt8} : ((⟨a.toArray⟩ : ByteArray) = ⟨b.toArray⟩) ↔ a = b := by
  constructor
  · intro h; injection h with h; simpa using h
  · rintro rfl; rfl
theorem ref01_Bytes_spec {A : AH} {u v : Value} {xs ys : List (List UInt8)} {Q : Value → AH → Prop} (hu : Byts A u xs) (hv : Byts A v ys) (hl : xs.length < 2 ^ 60) (hl2 : ys.length < 2 ^ 60) (hq : Q (.bool (decide (xs = ys))) A) : ACalls 1 Tryd.prog chantryref01_Bytes [u, v] Q A := by
  refine ACalls.of_fits mixed fits_chantryref01_Bytes rfl ?_
  unfold ic_chantryref01_Bytes
  have i0 : initA [u, v] 0 = u := rfl
  have i1 : initA [u, v] 1 = v := rfl
  generalize initA [u, v] = a at i0 i1
  by_cases h : xs.length = ys.length
  · simp (maxSteps := 1000000) (disch := omega) only [stepS, reduceIte, Nat.reduceBEq, Nat.reduceEqDiff, tupleOf, stepT, i0, i1, hu.len, hv.len]
    refine W_loop (fun a' B => B = A ∧ ∃ k : Nat, k ≤ xs.length ∧ a' 0 = u ∧ a' 1 = v ∧ a' 5 = ii k ∧ xs.take k = ys.take k) (fun a' _ => xs.length - (iv (a' 5)).toNat) ?_ ?_
    · refine ⟨rfl, 0, by omega, ?_⟩
      simp (maxSteps := 1000000) (disch := omega) only [stepS, reduceIte, Nat.reduceBEq, Nat.reduceEqDiff, tupleOf, stepT, i0, i1]
      exact ⟨rfl, rfl⟩
    · rintro a2 B ⟨rfl, k, hk, g0, g1, g5, he⟩
      rcases Nat.lt_or_ge k xs.length with hlt | hge
      · obtain ⟨x, hx⟩ : ∃ x, xs[k]? = some x := ⟨_, List.getElem?_eq_getElem hlt⟩
        obtain ⟨y, hy⟩ : ∃ y, ys[k]? = some y := ⟨_, List.getElem?_eq_getElem (by omega)⟩
        obtain ⟨p, x', p1, p2, p3⟩ := hu.at1 hx
        obtain ⟨q, y', q1, q2, q3⟩ := hv.at1 hy
        by_cases hxy : x = y
        · subst hxy
          simp (maxSteps := 1000000) (disch := omega) only [stepS, reduceIte, Nat.reduceBEq, Nat.reduceEqDiff, tupleOf, stepT, g0, g1, g5, hu.len, hv.len, p1, p2, p3.str, q1, q2, q3.str]
          exact ⟨⟨k + 1, by omega, rfl, (take_eq_succ hx hy).2 ⟨he, rfl⟩⟩, by omega⟩
        · have hne : decide ((⟨x.toArray⟩ : ByteArray) ≠ ⟨y.toArray⟩) = true := by simpa [str_inj] using hxy
          simp (maxSteps := 1000000) (disch := omega) only [stepS, reduceIte, Nat.reduceBEq, Nat.reduceEqDiff, tupleOf, stepT, g0, g1, g5, hu.len, hv.len, p1, p2, p3.str, q1, q2, q3.str, hne]
          have hf : decide (xs = ys) = false := by
            apply decide_eq_false
            rintro rfl
            rw [hx] at hy
            exact hxy (Option.some.inj hy)
          rw [hf] at hq
          exact hq
      · simp (maxSteps := 1000000) (disch := omega) only [stepS, reduceIte, Nat.reduceBEq, Nat.reduceEqDiff, tupleOf, stepT, g0, g1, g5, hu.len, hv.len]
        rw [List.take_of_length_le hge, List.take_of_length_le (by omega)] at he
        have hf : decide (xs = ys) = true := decide_eq_true he
        rw [hf] at hq
        exact hq
  · simp (maxSteps := 1000000) (disch := omega) only [stepS, reduceIte, Nat.reduceBEq, Nat.reduceEqDiff, tupleOf, stepT, i0, i1, hu.len, hv.len]
    have hf : decide (xs = ys) = false := decide_eq_false (fun e => h (by rw [e]))
    rw [hf] at hq
    exact hq
end Go.AS.C


namespace Go.AS.C
open Go Go.Proofs
set_option linter.unusedVariables false
set_option linter.unusedSimpArgs false
set_option maxRecDepth 10000

def fewB (ts : List (List UInt8)) : Bool := decide (ts.length ≤ 30) && ts.all fun t => decide (t.length ≤ 500)
theorem fewB_true {ts : List (List UInt8)} (h : fewB ts = true) : ts.length ≤ 30 ∧ ∀ t ∈ ts, t.length ≤ 500 := by
  unfold fewB at h
  rw [Bool.and_eq_true, decide_eq_true_eq, List.all_eq_true] at h
  exact ⟨h.1, fun t ht => by simpa using h.2 t ht⟩
theorem law28_Few_spec {A : AH} {v : Value} {ts : List (List UInt8)} {Q : Value → AH → Prop} (hv : Byts A v ts) (hl : ts.length < 2 ^ 50) (hb : ∀ t ∈ ts, t.length < 2 ^ 50) (hq : Q (.bool (fewB ts)) A) : ACalls 1 Tryd.prog chantrylaw28_Few [v] Q A := by
  refine ACalls.of_fits mixed fits_chantrylaw28_Few rfl ?_
  unfold ic_chantrylaw28_Few
  have i0 : initA [v] 0 = v := rfl
  generalize initA [v] = a at i0
  have hvl := hv.len
  by_cases h : 30 < ts.length
  · have e : fewB ts = false := by unfold fewB; rw [decide_eq_false (by omega)]; rfl
    rw [e] at hq
    simp (maxSteps := 1000000) (disch := omega) only [stepS, reduceIte, Nat.reduceBEq, Nat.reduceEqDiff, tupleOf, stepT, i0, hvl]
    exact hq
  · simp (maxSteps := 1000000) (disch := omega) only [stepS, reduceIte, Nat.reduceBEq, Nat.reduceEqDiff, tupleOf, stepT, i0, hvl]
    refine W_loop (fun a' B => B = A ∧ ∃ k : Nat, k ≤ ts.length ∧ (∀ t ∈ ts.take k, t.length ≤ 500) ∧ a' 0 = v ∧ a' 3 = ii k) (fun a' _ => ts.length - (iv (a' 3)).toNat) ?_ ?_
    · refine ⟨rfl, 0, by omega, by simp, ?_⟩
      simp (maxSteps := 1000000) (disch := omega) only [stepS, reduceIte, Nat.reduceBEq, Nat.reduceEqDiff, tupleOf, stepT, i0]
      (all_goals (and_intros <;> first | rfl | assumption | (push_cast; rfl) | (congr 1; omega) | omega | (simp; done)))
    · rintro a2 B ⟨rfl, k, hk, hz, g0, g3⟩
      rcases Nat.lt_or_ge k ts.length with hlt | hge
      · obtain ⟨t, ht⟩ := get_some hlt
        obtain ⟨p, x, p1, p2, p3⟩ := hv.at1 ht
        have := hb t (List.mem_of_getElem? ht)
        by_cases hbig : 500 < t.length
        · have e : fewB ts = false := by
            unfold fewB
            rw [Bool.and_eq_false_iff]
            right
            rw [List.all_eq_false]
            exact ⟨t, List.mem_of_getElem? ht, by simp; omega⟩
          rw [e] at hq
          simp (maxSteps := 1000000) (disch := omega) only [stepS, reduceIte, Nat.reduceBEq, Nat.reduceEqDiff, tupleOf, stepT, g0, g3, hvl, p1, p2, p3.len]
          exact hq
        · simp (maxSteps := 1000000) (disch := omega) only [stepS, reduceIte, Nat.reduceBEq, Nat.reduceEqDiff, tupleOf, stepT, g0, g3, hvl, p1, p2, p3.len]
          refine ⟨⟨k + 1, by omega, ?_, rfl⟩, by omega⟩
          intro x hx
          rw [List.take_add_one, ht, Option.toList_some] at hx
          rcases List.mem_append.1 hx with hx | hx
          · exact hz x hx
          · rw [List.mem_singleton.1 hx]; omega
      · rw [List.take_of_length_le hge] at hz
        have e : fewB ts = true := by
          unfold fewB
          rw [decide_eq_true (by omega), Bool.true_and, List.all_eq_true]
          intro t ht
          simpa using hz t ht
        rw [e] at hq
        simp (maxSteps := 1000000) (disch := omega) only [stepS, reduceIte, Nat.reduceBEq, Nat.reduceEqDiff, tupleOf, stepT, g0, g3, hvl]
        exact hq

theorem items_len {A : AH} {v : Value} {l : List (List UInt8)} (h : ItemS A v l) (B : AH) : sLens B false v = some (ii l.length, B) := by
  obtain ⟨es, _, h1, h2⟩ := h
  rw [All2.len _ _ h2]
  exact h1.lenB B
theorem items_at {A : AH} {v : Value} {l : List (List UInt8)} (h : ItemS A v l) {k : Nat} {t : List UInt8} (hk : l[k]? = some t) :
    ∃ p q q' x, (∀ (B : AH) (n : Int), n = (k : Int) → sIaddr B v (.int .i64 n) 2 = some (p, B)) ∧ (∀ B, sFaddr B p 0 = some (q, B)) ∧ (∀ B, Le A B → sLoad1 B q = some (.string (idT t), B)) ∧ (∀ B, sFaddr B p 1 = some (q', B)) ∧ (∀ B, Le A B → sLoad1 B q' = some (x, B)) ∧ Byt A x t ∧ (∀ j ∈ blkOf x, j < A.length) := by
  obtain ⟨es, hed, hes, hal⟩ := h
  have heo : ∀ e ∈ es, e.length = 2 ∧ ones e = true := fun e he => domI_len (hed e he)
  obtain ⟨ee, hee, x, rfl, hx⟩ := all2_get hal hk
  obtain ⟨p, q, p1, p2, p3⟩ := hes.elfL heo hee (o := 0) (x := .string (idT t)) rfl
  obtain ⟨p', q', p1', p2', p3'⟩ := hes.elfL heo hee (o := 1) (x := x) rfl
  have hpp : p' = p := by
    have h1 := p1 A k rfl
    rw [p1' A k rfl] at h1
    injection h1 with h1; injection h1
  subst hpp
  exact ⟨p', q, q', x, p1, p2, p3, p2', p3', hx, hx.lt⟩
end Go.AS.C


namespace Go.AS.C
open Go Go.Proofs
set_option linter.unusedVariables false
set_option linter.unusedSimpArgs false
set_option maxRecDepth 10000

end Go.AS.C


namespace Go.AS.C
open Go Go.Proofs
set_option linter.unusedVariables false
set_option linter.unusedSimpArgs false
set_option maxRecDepth 10000

def endI (l : List (List UInt8)) (j : Nat) : Int := ((l.take j).map fun t => sizeF (t.length : Int)).sum
theorem endI_succ {l : List (List UInt8)} {j : Nat} {t : List UInt8} (h : l[j]? = some t) : endI l (j + 1) = endI l j + sizeF (t.length : Int) := by
  unfold endI
  rw [List.take_add_one, h]
  simp
theorem endI_bnd (l : List (List UInt8)) (j : Nat) : 0 ≤ endI l j ∧ endI l j ≤ 65541 * (l.take j).length := by
  unfold endI
  generalize l.take j = m
  induction m with
  | nil => simp
  | cons t m ih =>
    have := sizeF_bnd (t.length : Int)
    simp only [List.map_cons, List.sum_cons, List.length_cons] at ih ⊢
    omega
theorem endI_endK {l : List (List UInt8)} (h : ∀ t ∈ l, frE t = 0) (j : Nat) : endI l j = (endK l j : Nat) := by
  have h' : ∀ t ∈ l.take j, frE t = 0 := fun t ht => h t (List.mem_of_mem_take ht)
  unfold endI endK
  generalize l.take j = m at h'
  induction m with
  | nil => simp [allB]
  | cons t m ih =>
    have ht := frE_zero (h' t (List.mem_cons_self ..))
    have e : sizeF (t.length : Int) = t.length + 6 := by unfold sizeF; rw [if_neg (by omega)]
    have ih := ih fun x hx => h' x (List.mem_cons_of_mem _ hx)
    have e2 : (allB (t :: m)).length = t.length + 6 + (allB m).length := by
      unfold allB; rw [List.flatMap_cons, List.length_append, frameB_length]
    rw [List.map_cons, List.sum_cons, ih, e, e2]
    push_cast
    omega
theorem endK_mono (l : List (List UInt8)) {i j : Nat} (h : i ≤ j) : endK l i ≤ endK l j := by
  unfold endK
  have : l.take j = l.take i ++ (l.take j).drop i := by
    conv => lhs; rw [← List.take_append_drop i (l.take j)]
    rw [List.take_take, Nat.min_eq_left h]
  rw [this]
  unfold allB
  rw [List.flatMap_append, List.length_append]
  omega
theorem endK_at (l : List (List UInt8)) (n : Nat) : ∃ k, k ≤ l.length ∧ endK l k ≤ n ∧ (k < l.length → n < endK l (k + 1)) := by
  have : ∀ m, m ≤ l.length → ∃ k, k ≤ m ∧ endK l k ≤ n ∧ (k < m → n < endK l (k + 1)) := by
    intro m
    induction m with
    | zero => intro _; exact ⟨0, Nat.le_refl _, by simp [endK, allB], fun h => by omega⟩
    | succ m ih =>
      intro hm
      obtain ⟨k, k1, k2, k3⟩ := ih (by omega)
      by_cases h : k < m
      · exact ⟨k, by omega, k2, fun _ => k3 h⟩
      · have : k = m := by omega
        subst this
        by_cases h2 : endK l (k + 1) ≤ n
        · exact ⟨k + 1, Nat.le_refl _, h2, fun h => by omega⟩
        · exact ⟨k, by omega, k2, fun _ => by omega⟩
  exact this l.length (Nat.le_refl _)
theorem SegmentRescues_spec {A : AH} {v w : Value} {ts : List (List UInt8)} {n : Int} {bs : List UInt8} {Q : Value → AH → Prop} (hg : Le [kB] A) (hv : Byts A v ts) (hl : ts.length < 2 ^ 50) (hb : ∀ t ∈ ts, t.length < 2 ^ 50) (hn1 : -9223372036854775808 ≤ n) (hn2 : n < 9223372036854775808) (hw : Byt A w bs) (_ : bs.length < 2 ^ 50)
    (hq : ∀ A', Q (.bool true) A') : ACalls 1 Tryd.prog chantrylaw28_SegmentRescues [v, ii n, w] Q A := by
  refine ACalls.of_fits mixed fits_chantrylaw28_SegmentRescues rfl ?_
  unfold ic_chantrylaw28_SegmentRescues
  have i0 : initA [v, ii n, w] 0 = v := rfl
  have i1 : initA [v, ii n, w] 1 = ii n := rfl
  have i2 : initA [v, ii n, w] 2 = w := rfl
  generalize initA [v, ii n, w] = a at i0 i1 i2
  have hwl := hw.lenB
  simp (maxSteps := 1000000) (disch := omega) only [stepS, reduceIte, Nat.reduceBEq, Nat.reduceEqDiff, tupleOf, stepT, i0, i1, i2]
  refine law28_Few_spec hv hl hb ?_
  cases hfew : fewB ts with
  | false =>
    simp (maxSteps := 1000000) (disch := omega) only [stepS, reduceIte, Nat.reduceBEq, Nat.reduceEqDiff, tupleOf, stepT, i0, i1, i2]
    refine wake hg fun A' k => ?_
    simp (maxSteps := 1000000) (disch := omega) only [stepS, reduceIte, Nat.reduceBEq, Nat.reduceEqDiff, tupleOf, stepT]
    exact hq _
  | true =>
    obtain ⟨f1, f2⟩ := fewB_true hfew
    by_cases hbig : 1000 < bs.length
    · simp (maxSteps := 1000000) (disch := omega) only [stepS, reduceIte, Nat.reduceBEq, Nat.reduceEqDiff, tupleOf, stepT, i0, i1, i2, hwl]
      refine wake hg fun A' k => ?_
      simp (maxSteps := 1000000) (disch := omega) only [stepS, reduceIte, Nat.reduceBEq, Nat.reduceEqDiff, tupleOf, stepT]
      exact hq _
    · simp (maxSteps := 1000000) (disch := omega) only [stepS, reduceIte, Nat.reduceBEq, Nat.reduceEqDiff, tupleOf, stepT, i0, i1, i2, hwl]
      refine ref26_Scan_spec hw (by omega) fun u1 A1 k1 o1 => ?_
      simp (maxSteps := 1000000) (disch := omega) only [stepS, reduceIte, Nat.reduceBEq, Nat.reduceEqDiff, tupleOf, stepT, i0, i1, i2]
      refine segment_Rescue_spec (hw.le k1) (by omega) fun u2 A2 k2 o2 => ?_
      have sle := (scanF_le bs).2
      simp (maxSteps := 1000000) (disch := omega) only [stepS, reduceIte, Nat.reduceBEq, Nat.reduceEqDiff, tupleOf, stepT, i0, i1, i2]
      refine ref01_Bytes_spec o2.byts (o1.byts.le k2) (by omega) (by omega) ?_
      have k02 := k1.trans k2
      simp (maxSteps := 1000000) (disch := omega) only [stepS, reduceIte, Nat.reduceBEq, Nat.reduceEqDiff, tupleOf, stepT, i0, i1, i2]
      refine segment_Put_spec (hg.trans k02) (hv.le k02) (by omega) (fun t ht => by have := f2 t ht; omega) fun A3 p k3 o3 => ?_
      simp (maxSteps := 1000000) (disch := omega) only [stepS, reduceIte, Nat.reduceBEq, Nat.reduceEqDiff, tupleOf, stepT, i0, i1, i2]
      refine ref28_Sorted_spec (hv.le (k02.trans k3)) (by omega) (fun t ht => by have := f2 t ht; omega) fun A4 z k4 w4 => ?_
      have wl := items_len w4
      have hs := srtT_len (key := shaF) ts
      have hput : putE ts = 0 → (∀ t ∈ srtT shaF ts, frE t = 0) ∧ putSg ts = sealB (segB (srtT shaF ts)) := fun hp => ⟨fun t h => (putE_zero.1 hp).2.1 t (srtT_mem t h), by unfold putSg; rw [if_pos hp]⟩
      have htl : ∀ t ∈ srtT shaF ts, t.length ≤ 500 := fun t h => f2 t (srtT_mem t h)
      simp (maxSteps := 1000000) (disch := omega) only [stepS, reduceIte, Nat.reduceBEq, Nat.reduceEqDiff, tupleOf, stepT, i0, i1, i2]
      generalize hL : srtT shaF ts = l at *
      obtain ⟨k0, q1, q2, q3⟩ := endK_at l n.toNat
      refine W_loop (fun a' B => ∃ (j : Nat) (x : Value) (wl : List (List UInt8)), j ≤ l.length ∧ Le A4 B ∧ OwnBs A4.length B x wl ∧ wl.length ≤ j ∧ (putE ts = 0 → 0 ≤ n → wl = l.take (min j k0)) ∧ a' 1 = ii n ∧ a' 9 = p ∧ a' 10 = ii (putE ts : Nat) ∧ a' 11 = z ∧ a' 12 = x ∧ a' 13 = ii (endI l j) ∧ a' 14 = ii j) (fun a' _ => l.length - (iv (a' 14)).toNat) ?_ ?_
      · refine ⟨0, .slice none 0 0, [], by omega, .refl _, OwnBs.nil _ _, by simp, fun _ _ => by simp, ?_⟩
        simp (maxSteps := 1000000) (disch := omega) only [stepS, reduceIte, Nat.reduceBEq, Nat.reduceEqDiff, tupleOf, stepT, i0, i1, i2]
        (all_goals (and_intros <;> first | rfl | assumption | (push_cast; rfl) | (congr 1; omega) | omega | (simp; done)))
      · rintro a2 B ⟨j, x, wl', hj, hle, ho, hwj, hcond, g1, g9, g10, g11, g12, g13, g14⟩
        have eb := endI_bnd l j
        rw [List.length_take, Nat.min_eq_left hj] at eb
        rcases Nat.lt_or_ge j l.length with hlt | hge
        · obtain ⟨t, ht⟩ := get_some hlt
          obtain ⟨p0, q0, q1', y, m1, m2, m3, m4, m5, m6, m7⟩ := items_at w4 ht
          have hy := m6.le hle
          have hsb := sizeF_bnd (t.length : Int)
          have hes := endI_succ ht
          have htt := htl t (List.mem_of_getElem? ht)
          simp (maxSteps := 1000000) (disch := omega) only [stepS, reduceIte, Nat.reduceBEq, Nat.reduceEqDiff, tupleOf, stepT, g1, g9, g10, g11, g12, g13, g14, wl, m1, m4, (m5 B hle), hy.lenB]
          refine ref26_Size_spec ?_
          by_cases hend : endI l (j + 1) ≤ n
          · have hend' : endI l j + sizeF (t.length : Int) ≤ n := by omega
            have hown := OwnBs.own ho
            obtain ⟨w', B2, e1, e2, e3, _⟩ := OwnBs.push hle ho hy (fun i hi hi2 => by have := m7 i hi; have := (hown i hi2).1; omega) (by omega)
            simp (maxSteps := 1000000) (disch := omega) only [stepS, reduceIte, Nat.reduceBEq, Nat.reduceEqDiff, tupleOf, stepT, g1, g9, g10, g11, g12, g13, g14, hend', m1, m4, (m5 B hle), lit_sl hy.one1, e1]
            refine ⟨⟨j + 1, w', wl' ++ [t], by omega, e2, e3, by simp; omega, fun hp hn => ?_, rfl, ?_, rfl⟩, by omega⟩
            · have hk := endI_endK (hput hp).1 (j + 1)
              have hjk : j + 1 ≤ k0 := by
                rcases Nat.lt_or_ge k0 (j + 1) with h | h
                · have := q3 (by omega)
                  have := endK_mono l (show k0 + 1 ≤ j + 1 by omega)
                  omega
                · exact h
              rw [hcond hp hn, Nat.min_eq_left (by omega), Nat.min_eq_left hjk, List.take_add_one, ht]; rfl
            · rw [hes]
          · have hend' : ¬ (endI l j + sizeF (t.length : Int) ≤ n) := by omega
            simp (maxSteps := 1000000) (disch := omega) only [stepS, reduceIte, Nat.reduceBEq, Nat.reduceEqDiff, tupleOf, stepT, g1, g9, g10, g11, g12, g13, g14, hend']
            refine ⟨⟨j + 1, x, wl', by omega, hle, ho, by omega, fun hp hn => ?_, rfl, ?_, rfl⟩, by omega⟩
            · have hk := endI_endK (hput hp).1 (j + 1)
              have hjk : k0 ≤ j := by
                rcases Nat.lt_or_ge j k0 with h | h
                · have := endK_mono l (show j + 1 ≤ k0 by omega)
                  omega
                · exact h
              rw [hcond hp hn, Nat.min_eq_right hjk, Nat.min_eq_right (by omega)]
            · rw [hes]
        · have hjl : j = l.length := by omega
          subst hjl
          have kB := ((k02.trans k3).trans k4).trans hle
          by_cases hp : putE ts = 0
          · by_cases hn0 : n < 0
            · simp (maxSteps := 1000000) (disch := omega) only [stepS, reduceIte, Nat.reduceBEq, Nat.reduceEqDiff, tupleOf, stepT, g1, g9, g10, g11, g12, g13, g14, wl, hp]
              refine wake (hg.trans kB) fun A' k => ?_
              simp (maxSteps := 1000000) (disch := omega) only [stepS, reduceIte, Nat.reduceBEq, Nat.reduceEqDiff, tupleOf, stepT]
              exact hq _
            · by_cases hne : endI l l.length < n
              · simp (maxSteps := 1000000) (disch := omega) only [stepS, reduceIte, Nat.reduceBEq, Nat.reduceEqDiff, tupleOf, stepT, g1, g9, g10, g11, g12, g13, g14, wl, hp]
                refine wake (hg.trans kB) fun A' k => ?_
                simp (maxSteps := 1000000) (disch := omega) only [stepS, reduceIte, Nat.reduceBEq, Nat.reduceEqDiff, tupleOf, stepT]
                exact hq _
              · obtain ⟨r1, r2⟩ := hput hp
                have hk := endI_endK r1 l.length
                have hal : endK l l.length = (bodyL l).length := by unfold endK; rw [List.take_length, bodyL_allB]
                have hsg : segB l = bodyL l ++ (entL 0 l ++ (fenceOf l.length (l.map idT) ++ (leB l.length 4 ++ leB (bodyL l).length 4))) := rfl
                have hpl : (putSg ts).length = (segB l).length + 4 := by rw [r2, sealB_length]
                have hsl := segB_len l
                have pB := (o3.byt.le k4).le hle
                obtain ⟨u, u1, u2⟩ := pB.upto (k := n.toNat) (by omega)
                have hnn : (n.toNat : Int) = n := by omega
                have u1' : sSll B p none (some (.int .i64 n)) none 1 = some (u, B) := by rw [← hnn]; exact u1
                have e1 : (putSg ts).take n.toNat = (allB l).take n.toNat := by
                  rw [r2]
                  unfold sealB
                  rw [hsg, bodyL_allB, List.append_assoc, List.take_append_of_le_length (by rw [← bodyL_allB]; omega)]
                rw [e1] at u2
                have hsc := scan_cut l n.toNat k0 (fun y hy => frE_zero (r1 y hy)) q1 q2 q3 (by rw [← bodyL_allB]; omega)
                simp (maxSteps := 1000000) (disch := omega) only [stepS, reduceIte, Nat.reduceBEq, Nat.reduceEqDiff, tupleOf, stepT, g1, g9, g10, g11, g12, g13, g14, wl, hp, pB.lenB, u1']
                refine segment_Rescue_spec u2 (by rw [List.length_take, ← bodyL_allB]; have := @putSg_len ts; omega) fun y A6 k6 o6 => ?_
                rw [hsc] at o6
                simp (maxSteps := 1000000) (disch := omega) only [stepS, reduceIte, Nat.reduceBEq, Nat.reduceEqDiff, tupleOf, stepT, g12]
                have hw2 : wl' = l.take k0 := by rw [hcond hp (by omega), Nat.min_eq_right q1]
                rw [hw2] at ho
                refine ref01_Bytes_spec o6.byts (ho.byts.le k6) (by simp; omega) (by simp; omega) ?_
                simp (maxSteps := 1000000) (disch := omega) only [stepS, reduceIte, Nat.reduceBEq, Nat.reduceEqDiff, tupleOf, stepT]
                refine wake (hg.trans (kB.trans k6)) fun A' k => ?_
                simp (maxSteps := 1000000) (disch := omega) only [stepS, reduceIte, Nat.reduceBEq, Nat.reduceEqDiff, tupleOf, stepT]
                exact hq _
          · have hp' : ¬ ((putE ts : Nat) : Int) = 0 := by omega
            simp (maxSteps := 1000000) (disch := omega) only [stepS, reduceIte, Nat.reduceBEq, Nat.reduceEqDiff, tupleOf, stepT, g1, g9, g10, g11, g12, g13, g14, wl, hp']
            refine wake (hg.trans kB) fun A' k => ?_
            simp (maxSteps := 1000000) (disch := omega) only [stepS, reduceIte, Nat.reduceBEq, Nat.reduceEqDiff, tupleOf, stepT]
            exact hq _
end Go.AS.C
