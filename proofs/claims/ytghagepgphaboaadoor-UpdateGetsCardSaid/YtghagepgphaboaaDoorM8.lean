/- Lemmas for the proof of a given statement; no conditions. -/
import Derived.Test.YtghagepgphaboaaDoorM7
set_option maxHeartbeats 1000000

namespace Go.AS.C
open Go Go.Proofs
set_option linter.unusedVariables false
set_option linter.unusedSimpArgs false
set_option maxRecDepth 100000

theorem sub_u32 (n : Int) (h0 : 0 ≤ n) (h : n ≤ 32) : binA .sub (.int .u32 32) (.int .u32 n) = some (.int .u32 (32 - n)) := by
  simp only [binA, if_true]
  congr 2
  obtain ⟨m, rfl⟩ : ∃ m : Nat, n = m := ⟨n.toNat, by omega⟩
  have : (32 : Int) - m = ((32 - m : Nat) : Int) := by omega
  rw [this, wrap_u32 _ (by omega)]
theorem ref03_turn_spec {A : AH} {x : W32} {n : Int} {Q : Value → AH → Prop} (h0 : 0 ≤ n) (h : n ≤ 32) (hq : Q (u32 (rotr x n.toNat)) A) : ACalls 1 Tryd.prog chantryref03_turn [u32 x, .int .u32 n] Q A := by
  refine ACalls.of_fits mixed fits_chantryref03_turn rfl ?_
  unfold ic_chantryref03_turn
  have i0 : initA [u32 x, .int .u32 n] 0 = u32 x := rfl
  have i1 : initA [u32 x, .int .u32 n] 1 = .int .u32 n := rfl
  generalize initA [u32 x, .int .u32 n] = a at i0 i1
  simp (maxSteps := 1000000) (disch := omega) only [stepS, reduceIte, Nat.reduceBEq, Nat.reduceEqDiff, tupleOf, stepT, i0, i1, sub_u32, shr32, shl32, binA_or32]
  have e : (32 - n).toNat = 32 - n.toNat := by omega
  rw [e]
  exact hq
theorem ref03_word_spec {A : AH} {v : Value} {bs : List UInt8} {Q : Value → AH → Prop} (hv : Byt A v bs) (hl : 4 ≤ bs.length) (hq : Q (u32 (wordF bs 0)) A) : ACalls 1 Tryd.prog chantryref03_word [v] Q A := by
  refine ACalls.of_fits mixed fits_chantryref03_word rfl ?_
  unfold ic_chantryref03_word
  have i0 : initA [v] 0 = v := rfl
  generalize initA [v] = a at i0
  have at4 : ∀ j : Nat, j < 4 → ∃ p, sIaddr A v (.int .i64 (j : Nat)) 1 = some (p, A) ∧ sLoad1 A p = some (by8 (bs.getD j 0), A) := by
    intro j hj
    have hb : bs[j]? = some (bs.getD j 0) := by
      rw [List.getD_eq_getElem?_getD, List.getElem?_eq_getElem (by omega)]; rfl
    exact hv.at1 hb
  obtain ⟨p0, p01, p02⟩ := at4 0 (by omega)
  obtain ⟨p1, p11, p12⟩ := at4 1 (by omega)
  obtain ⟨p2, p21, p22⟩ := at4 2 (by omega)
  obtain ⟨p3, p31, p32⟩ := at4 3 (by omega)
  have p01' : sIaddr A v (.int .i64 0) 1 = some (p0, A) := p01
  have p11' : sIaddr A v (.int .i64 1) 1 = some (p1, A) := p11
  have p21' : sIaddr A v (.int .i64 2) 1 = some (p2, A) := p21
  have p31' : sIaddr A v (.int .i64 3) 1 = some (p3, A) := p31
  simp (maxSteps := 1000000) (disch := omega) only [stepS, reduceIte, Nat.reduceBEq, Nat.reduceEqDiff, tupleOf, stepT, i0, p01', p02, p11', p12, p21', p22, p31', p32, conv_b32, shl32, binA_or32]
  exact hq
/-- Words of the call's own. -/
def OwnW (a0 : Nat) (A : AH) (w : Value) (ws : List W32) : Prop := OwnS a0 A 1 w ws.length (ws.map u32)
theorem app_word {A A0 : AH} {w : Value} {ws : List W32} (x : W32) (hl : Le A0 A) (h : OwnW A0.length A w ws) (hb : ws.length ≤ 2 ^ 30) :
    sLit A [.int .u32 0] 1 1 [(0, 1, u32 x)] = some (.slice (some ⟨A.length, 0, none⟩) 1 1, A ++ [.row [u32 x] .own 1 true]) ∧
    ∃ w' A', sApp (A ++ [.row [u32 x] .own 1 true]) w (.slice (some ⟨A.length, 0, none⟩) 1 1) 1 4 = some (w', A') ∧ Le A0 A' ∧ OwnW A0.length A' w' (ws ++ [x]) := by
  have l1 := lit1 (A := A) (z := .int .u32 0) (len := 1) (ps := [(0, 1, u32 x)]) [u32 x] rfl rfl (by
    intro y hy
    rw [List.mem_singleton] at hy
    subst hy; exact u32_one _)
  have k1 : Le A (A ++ [.row [u32 x] .own 1 true]) := .push _ _
  obtain ⟨v2, A2, p1, p2, p3, _⟩ := app_cells (bytes := 4) (hl.trans k1) (OwnS.le h k1) (sl_last A (cs := [u32 x]) (st := .own) (ex := true) (c := 1) (by simp) (by simp)) rfl (by omega) (by simp; omega) (by omega)
  rw [List.length_singleton] at l1 p1
  exact ⟨l1, v2, A2, p1, p2, by unfold OwnW; simpa using p3⟩
theorem OwnW.get {a0 : Nat} {A : AH} {w : Value} {ws : List W32} (h : OwnW a0 A w ws) {j : Nat} (hj : j < ws.length) : ∃ p, sIaddr A w (ii j) 1 = some (p, A) ∧ sLoad1 A p = some (u32 (ws.getD j 0), A) := by
  refine h.sl.at1 ?_
  rw [List.getElem?_map, List.getD_eq_getElem?_getD, List.getElem?_eq_getElem hj]
  rfl

theorem ref03_schedule_spec {A : AH} {v : Value} {bs : List UInt8} {Q : Value → AH → Prop} (hv : Byt A v bs) (hl : bs.length = 64) (hq : ∀ A' w, Le A A' → OwnW A.length A' w (schW bs 64) → Q w A') : ACalls 1 Tryd.prog chantryref03_schedule [v] Q A := by
  refine ACalls.of_fits mixed fits_chantryref03_schedule rfl ?_
  unfold ic_chantryref03_schedule
  have i0 : initA [v] 0 = v := rfl
  generalize initA [v] = a at i0
  simp (maxSteps := 1000000) (disch := omega) only [stepS, reduceIte, Nat.reduceBEq, Nat.reduceEqDiff, tupleOf, stepT, i0]
  refine W_loop (fun a' B => ∃ k : Nat, k ≤ 16 ∧ Le A B ∧ OwnW A.length B (a' 3) (schW bs k) ∧ a' 0 = v ∧ a' 4 = ii k) (fun a' _ => 16 - (iv (a' 4)).toNat) ?_ ?_
  · refine ⟨0, by omega, .refl _, ?_⟩
    simp (maxSteps := 1000000) (disch := omega) only [stepS, reduceIte, Nat.reduceBEq, Nat.reduceEqDiff, tupleOf, stepT, i0]
    exact ⟨OwnS.nil _ _ _, rfl⟩
  · rintro a2 B ⟨k, hk, hle, o3, g0, g4⟩
    generalize ex : a2 3 = x at o3
    rcases Nat.lt_or_ge k 16 with hlt | hge
    · obtain ⟨u, u1, u2⟩ := (hv.le hle).from (l := 4 * k) (by omega)
      have u1' : sSll B v (some (.int .i64 (4 * (k : Int)))) none none 1 = some (u, B) := u1
      simp (maxSteps := 1000000) (disch := omega) only [stepS, reduceIte, Nat.reduceBEq, Nat.reduceEqDiff, tupleOf, stepT, g0, g4, u1']
      refine ref03_word_spec u2 (by simp; omega) ?_
      have ew : wordF (bs.drop (4 * k)) 0 = wordF bs k := by
        unfold wordF
        simp only [List.getD_eq_getElem?_getD, List.getElem?_drop, Nat.mul_zero, Nat.add_zero, Nat.zero_add, ← Nat.add_assoc]
      rw [ew]
      obtain ⟨l1, w', B2, p1, p2, p3⟩ := app_word (wordF bs k) hle o3 (by rw [schW_length]; omega)
      simp (maxSteps := 1000000) (disch := omega) only [stepS, reduceIte, Nat.reduceBEq, Nat.reduceEqDiff, tupleOf, stepT, g0, g4, ex, l1, p1]
      refine ⟨⟨k + 1, by omega, p2, ?_, rfl⟩, by omega⟩
      rw [schW, if_pos hlt]
      exact p3
    · have hk16 : k = 16 := by omega
      subst hk16
      simp (maxSteps := 1000000) (disch := omega) only [stepS, reduceIte, Nat.reduceBEq, Nat.reduceEqDiff, tupleOf, stepT, g0, g4, ex]
      refine W_loop (fun a' C => ∃ k : Nat, 16 ≤ k ∧ k ≤ 64 ∧ Le A C ∧ OwnW A.length C (a' 3) (schW bs k) ∧ a' 5 = ii k) (fun a' _ => 64 - (iv (a' 5)).toNat) ?_ ?_
      · refine ⟨16, by omega, by omega, hle, ?_⟩
        simp (maxSteps := 1000000) (disch := omega) only [stepS, reduceIte, Nat.reduceBEq, Nat.reduceEqDiff, tupleOf, stepT, ex]
        exact ⟨o3, rfl⟩
      · rintro a3 C ⟨k, hk1, hk, hlC, o4, f5⟩
        generalize ey : a3 3 = y at o4
        have hlen := schW_length bs k
        rcases Nat.lt_or_ge k 64 with hlt | hge
        · have at_ : ∀ j : Nat, 1 ≤ j → j ≤ k → ∃ p, sIaddr C y (.int .i64 ((k : Int) - j)) 1 = some (p, C) ∧ sLoad1 C p = some (u32 ((schW bs k).getD (k - j) 0), C) := by
            intro j h1 h2
            obtain ⟨p, p1, p2⟩ := o4.get (j := k - j) (by omega)
            rw [show ((k - j : Nat) : Int) = (k : Int) - j by omega] at p1
            exact ⟨p, p1, p2⟩
          obtain ⟨pa, a1, a2'⟩ := at_ 15 (by omega) (by omega)
          obtain ⟨pb, b1, b2⟩ := at_ 2 (by omega) (by omega)
          obtain ⟨pc, c1, c2⟩ := at_ 16 (by omega) (by omega)
          obtain ⟨pd, d1, d2⟩ := at_ 7 (by omega) (by omega)
          have a1' : sIaddr C y (.int .i64 ((k : Int) - 15)) 1 = _ := a1
          have b1' : sIaddr C y (.int .i64 ((k : Int) - 2)) 1 = _ := b1
          have c1' : sIaddr C y (.int .i64 ((k : Int) - 16)) 1 = _ := c1
          have d1' : sIaddr C y (.int .i64 ((k : Int) - 7)) 1 = _ := d1
          have hnext : schW bs (k + 1) = schW bs k ++ [((schW bs k).getD (k - 16) 0 + (schW bs k).getD (k - 7) 0) + sg0 ((schW bs k).getD (k - 15) 0) + sg1 ((schW bs k).getD (k - 2) 0)] := by
            rw [schW, if_neg (by omega)]
          generalize (schW bs k).getD (k - 15) 0 = x15 at a2' hnext
          generalize (schW bs k).getD (k - 2) 0 = x2 at b2 hnext
          generalize (schW bs k).getD (k - 16) 0 = x16 at c2 hnext
          generalize (schW bs k).getD (k - 7) 0 = x7 at d2 hnext
          obtain ⟨l1, w', C2, p1, p2, p3⟩ := app_word (x16 + x7 + sg0 x15 + sg1 x2) hlC o4 (by omega)
          simp (maxSteps := 1000000) (disch := omega) only [stepS, reduceIte, Nat.reduceBEq, Nat.reduceEqDiff, tupleOf, stepT, f5, ey, a1', a2', b1', b2]
          refine ref03_turn_spec (n := 7) (by decide) (by decide) ?_
          simp (maxSteps := 1000000) (disch := omega) only [stepS, reduceIte, Nat.reduceBEq, Nat.reduceEqDiff, tupleOf, stepT]
          refine ref03_turn_spec (n := 18) (by decide) (by decide) ?_
          simp (maxSteps := 1000000) (disch := omega) only [stepS, reduceIte, Nat.reduceBEq, Nat.reduceEqDiff, tupleOf, stepT, binA_xor32, shr32]
          refine ref03_turn_spec (n := 17) (by decide) (by decide) ?_
          simp (maxSteps := 1000000) (disch := omega) only [stepS, reduceIte, Nat.reduceBEq, Nat.reduceEqDiff, tupleOf, stepT]
          refine ref03_turn_spec (n := 19) (by decide) (by decide) ?_
          have es : x16 + ((rotr x15 (7 : Int).toNat ^^^ rotr x15 (18 : Int).toNat) ^^^ x15 >>> (3 : Int).toNat) + x7 + ((rotr x2 (17 : Int).toNat ^^^ rotr x2 (19 : Int).toNat) ^^^ x2 >>> (10 : Int).toNat) = x16 + x7 + sg0 x15 + sg1 x2 := by
            show x16 + sg0 x15 + x7 + sg1 x2 = _
            ac_rfl
          simp (maxSteps := 1000000) (disch := omega) only [stepS, reduceIte, Nat.reduceBEq, Nat.reduceEqDiff, tupleOf, stepT, f5, ey, binA_xor32, shr32, add32, c1', c2, d1', d2, es, l1, p1]
          exact ⟨⟨k + 1, by omega, by omega, p2, by rw [hnext]; exact p3, rfl⟩, by omega⟩
        · have hk64 : k = 64 := by omega
          subst hk64
          simp (maxSteps := 1000000) (disch := omega) only [stepS, reduceIte, Nat.reduceBEq, Nat.reduceEqDiff, tupleOf, stepT, f5, ey]
          exact hq _ _ hlC o4

theorem rounds_step (W : List W32) (s : S8) (k : Nat) : rounds W s (k + 1) = roundF (rounds W s k) (kW k) (W.getD k 0) := rfl
theorem ref03_rounds_spec {A : AH} {Q : Value → AH → Prop} (hq : ∀ A' u, Le A A' → Sl A' 1 u 64 kV → Q u A') : ACalls 1 Tryd.prog chantryref03_rounds [] Q A := by
  refine ACalls.of_fits mixed fits_chantryref03_rounds rfl ?_
  unfold ic_chantryref03_rounds
  generalize initA [] = a
  have hk : kV = kN.map fun n => .int .u32 (n : Nat) := rfl
  have l64 : ∀ ps, ps = mkP 0 kV → sLit A [.int .u32 0] 1 64 ps = some (.slice (some ⟨A.length, 0, none⟩) 64 64, A ++ [.row kV .own 1 true]) := fun ps hp => by
    have := lit1 (A := A) (z := .int .u32 0) (len := 64) (ps := ps) kV hp rfl (by
      intro x hx
      unfold kV at hx
      rw [List.mem_map] at hx
      obtain ⟨n, _, rfl⟩ := hx
      exact one1_int _ _)
    exact this
  have fin : Sl (A ++ [.row kV .own 1 true]) 1 (.slice (some ⟨A.length, 0, none⟩) 64 64) 64 kV := sl_last A (cs := kV) (st := .own) (ex := true) (c := 64) (by simp) (Nat.le_refl _)
  simp only [W_seq, W_ops, Wops_cons, Wops_nil, W1_mov, kont_at, put_some, sq_normal, W1_lit, List.map_cons, List.map_nil, ev_const]
  refine ok1_of (l64 _ rfl) ?_
  simp (maxSteps := 1000000) (disch := omega) only [stepS, reduceIte, Nat.reduceBEq, Nat.reduceEqDiff, tupleOf, stepT]
  exact hq _ _ (.push _ _) fin

theorem ref03_block_spec {A : AH} {v w x : Value} {s : S8} {bs : List UInt8} {Q : Value → AH → Prop} (hs : Sl A 1 v 8 s.cells) (hv : Byt A w bs) (hl : bs.length = 64) (hk : Sl A 1 x 64 kV) (hq : ∀ A' u, Le A A' → Sl A' 1 u 8 (mixF s bs).cells → Q u A') :
    ACalls 1 Tryd.prog chantryref03_block [v, w, x] Q A := by
  refine ACalls.of_fits mixed fits_chantryref03_block rfl ?_
  unfold ic_chantryref03_block
  have i0 : initA [v, w, x] 0 = v := rfl
  have i1 : initA [v, w, x] 1 = w := rfl
  have i2 : initA [v, w, x] 2 = x := rfl
  generalize initA [v, w, x] = a at i0 i1 i2
  simp (maxSteps := 1000000) (disch := omega) only [stepS, reduceIte, Nat.reduceBEq, Nat.reduceEqDiff, tupleOf, stepT, i0, i1, i2]
  refine ref03_schedule_spec hv hl fun A1 y k1 o1 => ?_
  have hWl := schW_length bs 64
  unfold mixF at hq
  generalize schW bs 64 = W at hWl hq o1
  have hs1 := hs.le k1
  have rd : ∀ {B : AH}, Le A1 B → ∀ j : Nat, j < 8 → ∃ p, sIaddr B v (.int .i64 (j : Nat)) 1 = some (p, B) ∧ sLoad1 B p = some (u32 (s.l.getD j 0), B) := fun hB j hj => (hs1.le hB).at1 (cells_get hj)
  obtain ⟨p0, c0, e0⟩ := rd (.refl _) 0 (by omega)
  obtain ⟨p1, c1, e1⟩ := rd (.refl _) 1 (by omega)
  obtain ⟨p2, c2, e2⟩ := rd (.refl _) 2 (by omega)
  obtain ⟨p3, c3, e3⟩ := rd (.refl _) 3 (by omega)
  obtain ⟨p4, c4, e4⟩ := rd (.refl _) 4 (by omega)
  obtain ⟨p5, c5, e5⟩ := rd (.refl _) 5 (by omega)
  obtain ⟨p6, c6, e6⟩ := rd (.refl _) 6 (by omega)
  obtain ⟨p7, c7, e7⟩ := rd (.refl _) 7 (by omega)
  have c0' : sIaddr A1 v (.int .i64 0) 1 = some (p0, A1) := c0
  have c1' : sIaddr A1 v (.int .i64 1) 1 = some (p1, A1) := c1
  have c2' : sIaddr A1 v (.int .i64 2) 1 = some (p2, A1) := c2
  have c3' : sIaddr A1 v (.int .i64 3) 1 = some (p3, A1) := c3
  have c4' : sIaddr A1 v (.int .i64 4) 1 = some (p4, A1) := c4
  have c5' : sIaddr A1 v (.int .i64 5) 1 = some (p5, A1) := c5
  have c6' : sIaddr A1 v (.int .i64 6) 1 = some (p6, A1) := c6
  have c7' : sIaddr A1 v (.int .i64 7) 1 = some (p7, A1) := c7
  have e0' : sLoad1 A1 p0 = some (u32 s.a, A1) := e0
  have e1' : sLoad1 A1 p1 = some (u32 s.b, A1) := e1
  have e2' : sLoad1 A1 p2 = some (u32 s.c, A1) := e2
  have e3' : sLoad1 A1 p3 = some (u32 s.d, A1) := e3
  have e4' : sLoad1 A1 p4 = some (u32 s.e, A1) := e4
  have e5' : sLoad1 A1 p5 = some (u32 s.f, A1) := e5
  have e6' : sLoad1 A1 p6 = some (u32 s.g, A1) := e6
  have e7' : sLoad1 A1 p7 = some (u32 s.h, A1) := e7
  clear e0 e1 e2 e3 e4 e5 e6 e7 c0 c1 c2 c3 c4 c5 c6 c7
  simp (maxSteps := 1000000) (disch := omega) only [stepS, reduceIte, Nat.reduceBEq, Nat.reduceEqDiff, tupleOf, stepT, i0, i1, i2, c0', c1', c2', c3', c4', c5', c6', c7', e0', e1', e2', e3', e4', e5', e6', e7']
  refine W_loop (fun a' B => B = A1 ∧ ∃ k : Nat, k ≤ 64 ∧ a' 0 = v ∧ a' 2 = x ∧ a' 7 = y ∧ a' 16 = ii k ∧ a' 8 = u32 (rounds W s k).a ∧ a' 9 = u32 (rounds W s k).b ∧ a' 10 = u32 (rounds W s k).c ∧ a' 11 = u32 (rounds W s k).d ∧ a' 12 = u32 (rounds W s k).e ∧ a' 13 = u32 (rounds W s k).f ∧ a' 14 = u32 (rounds W s k).g ∧ a' 15 = u32 (rounds W s k).h) (fun a' _ => 64 - (iv (a' 16)).toNat) ?_ ?_
  · refine ⟨rfl, 0, by omega, ?_⟩
    simp (maxSteps := 1000000) (disch := omega) only [stepS, reduceIte, Nat.reduceBEq, Nat.reduceEqDiff, tupleOf, stepT, i0, i1, i2]
    exact ⟨rfl, rfl, rfl, rfl, rfl, rfl, rfl, rfl, rfl⟩
  · rintro a2 B ⟨rfl, k, hk64, g0, g2, g7, g16, g8, g9, g10, g11, g12, g13, g14, g15⟩
    have hr := rounds_step W s k
    obtain ⟨r, hr0⟩ : ∃ r, rounds W s k = r := ⟨_, rfl⟩
    rw [hr0] at hr g8 g9 g10 g11 g12 g13 g14 g15
    obtain ⟨ra, rb, rc, rdd, re, rf, rg, rh⟩ := r
    simp only at g8 g9 g10 g11 g12 g13 g14 g15
    rcases Nat.lt_or_ge k 64 with hlt | hge
    · obtain ⟨pk, k1', k2'⟩ := (hk.le k1).at1 (kV_get hlt)
      obtain ⟨pw, w1', w2'⟩ := o1.get (j := k) (by omega)
      have eu : rh + (rotr re (6 : Int).toNat ^^^ rotr re (11 : Int).toNat ^^^ rotr re (25 : Int).toNat) + (re &&& rf ^^^ (re ^^^ 4294967295#32) &&& rg) + kW k + W.getD k 0 = upF ⟨ra, rb, rc, rdd, re, rf, rg, rh⟩ (kW k) (W.getD k 0) := by
        rw [xor_ones]; rfl
      have ed : (rotr ra (2 : Int).toNat ^^^ rotr ra (13 : Int).toNat ^^^ rotr ra (22 : Int).toNat) + (ra &&& rb ^^^ ra &&& rc ^^^ rb &&& rc) = downF ⟨ra, rb, rc, rdd, re, rf, rg, rh⟩ := rfl
      simp (maxSteps := 1000000) (disch := omega) only [stepS, reduceIte, Nat.reduceBEq, Nat.reduceEqDiff, tupleOf, stepT, g0, g2, g7, g16, g8, g9, g10, g11, g12, g13, g14, g15]
      refine ref03_turn_spec (n := 6) (by decide) (by decide) ?_
      simp (maxSteps := 1000000) (disch := omega) only [stepS, reduceIte, Nat.reduceBEq, Nat.reduceEqDiff, tupleOf, stepT, g12]
      refine ref03_turn_spec (n := 11) (by decide) (by decide) ?_
      simp (maxSteps := 1000000) (disch := omega) only [stepS, reduceIte, Nat.reduceBEq, Nat.reduceEqDiff, tupleOf, stepT, g12, binA_xor32]
      refine ref03_turn_spec (n := 25) (by decide) (by decide) ?_
      simp (maxSteps := 1000000) (disch := omega) only [stepS, reduceIte, Nat.reduceBEq, Nat.reduceEqDiff, tupleOf, stepT, g0, g2, g7, g16, g8, g9, g10, g11, g12, g13, g14, g15, binA_xor32, add32, binA_and32, hones32, k1', k2', w1', w2', eu]
      refine ref03_turn_spec (n := 2) (by decide) (by decide) ?_
      simp (maxSteps := 1000000) (disch := omega) only [stepS, reduceIte, Nat.reduceBEq, Nat.reduceEqDiff, tupleOf, stepT, g8]
      refine ref03_turn_spec (n := 13) (by decide) (by decide) ?_
      simp (maxSteps := 1000000) (disch := omega) only [stepS, reduceIte, Nat.reduceBEq, Nat.reduceEqDiff, tupleOf, stepT, g8, binA_xor32]
      refine ref03_turn_spec (n := 22) (by decide) (by decide) ?_
      simp (maxSteps := 1000000) (disch := omega) only [stepS, reduceIte, Nat.reduceBEq, Nat.reduceEqDiff, tupleOf, stepT, g0, g2, g7, g16, g8, g9, g10, g11, g12, g13, g14, g15, binA_xor32, add32, binA_and32, ed]
      refine ⟨⟨k + 1, by omega, rfl, ?_⟩, by omega⟩
      rw [hr]
      exact ⟨rfl, rfl, rfl, rfl, rfl, rfl, rfl, rfl⟩
    · have hk : k = 64 := by omega
      subst hk
      have hadd : s.add ⟨ra, rb, rc, rdd, re, rf, rg, rh⟩ = ⟨s.a + ra, s.b + rb, s.c + rc, s.d + rdd, s.e + re, s.f + rf, s.g + rg, s.h + rh⟩ := rfl
      have l8 := lit1 (A := B) (z := .int .u32 0) (len := 8) (ps := [(0, 1, u32 (s.a + ra)), (1, 1, u32 (s.b + rb)), (2, 1, u32 (s.c + rc)), (3, 1, u32 (s.d + rdd)), (4, 1, u32 (s.e + re)), (5, 1, u32 (s.f + rf)), (6, 1, u32 (s.g + rg)), (7, 1, u32 (s.h + rh))])
        [u32 (s.a + ra), u32 (s.b + rb), u32 (s.c + rc), u32 (s.d + rdd), u32 (s.e + re), u32 (s.f + rf), u32 (s.g + rg), u32 (s.h + rh)] rfl rfl (by
        intro x hx
        simp only [List.mem_cons, List.not_mem_nil, or_false] at hx
        rcases hx with rfl | rfl | rfl | rfl | rfl | rfl | rfl | rfl <;> exact u32_one _)
      simp only [List.length_cons, List.length_nil, Nat.zero_add, Nat.reduceAdd] at l8
      simp (maxSteps := 1000000) (disch := omega) only [stepS, reduceIte, Nat.reduceBEq, Nat.reduceEqDiff, tupleOf, stepT, g0, g2, g7, g16, g8, g9, g10, g11, g12, g13, g14, g15, c0', c1', c2', c3', c4', c5', c6', c7', e0', e1', e2', e3', e4', e5', e6', e7', add32, l8]
      refine hq _ _ (k1.trans (.push _ _)) ?_
      rw [hr0, hadd]
      exact sl_last B (cs := S8.cells ⟨s.a + ra, s.b + rb, s.c + rc, s.d + rdd, s.e + re, s.f + rf, s.g + rg, s.h + rh⟩) (st := .own) (ex := true) (c := 8) (by simp) (Nat.le_refl _)

theorem lit8z (A : AH) (b3 b4 b5 b6 b7 : UInt8) : sLit A [.int .u8 0] 1 8 [(0, 1, .int .u8 0), (1, 1, .int .u8 0), (2, 1, .int .u8 0), (3, 1, by8 b3), (4, 1, by8 b4), (5, 1, by8 b5), (6, 1, by8 b6), (7, 1, by8 b7)] =
    some (.slice (some ⟨A.length, 0, none⟩) 8 8, A ++ [.row (List.map by8 [0, 0, 0, b3, b4, b5, b6, b7]) .own 1 true]) := litB A [0, 0, 0, b3, b4, b5, b6, b7] (len := 8) rfl rfl
theorem lit8i (A : AH) : sLit A [.int .u32 0] 1 8 [(0, 1, .int .u32 1779033703), (1, 1, .int .u32 3144134277), (2, 1, .int .u32 1013904242), (3, 1, .int .u32 2773480762), (4, 1, .int .u32 1359893119), (5, 1, .int .u32 2600822924), (6, 1, .int .u32 528734635), (7, 1, .int .u32 1541459225)] =
    some (.slice (some ⟨A.length, 0, none⟩) 8 8, A ++ [.row init8.cells .own 1 true]) := by
  rw [init_cells]
  exact lit1 (A := A) (z := .int .u32 0) (len := 8) [.int .u32 1779033703, .int .u32 3144134277, .int .u32 1013904242, .int .u32 2773480762, .int .u32 1359893119, .int .u32 2600822924, .int .u32 528734635, .int .u32 1541459225] rfl rfl (by
    intro x hx
    simp only [List.mem_cons, List.not_mem_nil, or_false] at hx
    rcases hx with rfl | rfl | rfl | rfl | rfl | rfl | rfl | rfl <;> exact one1_int _ _)
theorem bytes8_eq {n : Nat} (h : n < 2 ^ 36) : bytes8 n = [0, 0, 0, UInt8.ofNat (8 * n / 2 ^ 32), UInt8.ofNat (8 * n / 2 ^ 24), UInt8.ofNat (8 * n / 2 ^ 16), UInt8.ofNat (8 * n / 2 ^ 8), UInt8.ofNat (8 * n)] := by
  have e : bytes8 n = [UInt8.ofNat (n * 8 / 2 ^ 56), UInt8.ofNat (n * 8 / 2 ^ 48), UInt8.ofNat (n * 8 / 2 ^ 40), UInt8.ofNat (n * 8 / 2 ^ 32), UInt8.ofNat (n * 8 / 2 ^ 24), UInt8.ofNat (n * 8 / 2 ^ 16), UInt8.ofNat (n * 8 / 2 ^ 8), UInt8.ofNat (n * 8 / 2 ^ 0)] := rfl
  have h1 : n * 8 / 2 ^ 56 = 0 := Nat.div_eq_of_lt (by omega)
  have h2 : n * 8 / 2 ^ 48 = 0 := Nat.div_eq_of_lt (by omega)
  have h3 : n * 8 / 2 ^ 40 = 0 := Nat.div_eq_of_lt (by omega)
  rw [e, h1, h2, h3, Nat.mul_comm n 8]
  simp

theorem ref03_ID_spec {A : AH} {v : Value} {bs : List UInt8} {Q : Value → AH → Prop} (hv : Byt A v bs) (hb : bs.length < 2 ^ 36) (hq : Q (.string ⟨(shaF bs).toArray⟩) A) : ACalls 1 Tryd.prog chantryref03_ID [v] Q A := by
  refine ACalls.pure (S := fun u => u = .string ⟨(shaF bs).toArray⟩) (fun u hu => by rw [hu]; exact hq) ?_
  refine ACalls.of_fits mixed fits_chantryref03_ID rfl ?_
  unfold ic_chantryref03_ID
  have i0 : initA [v] 0 = v := rfl
  generalize initA [v] = a at i0
  have l0 : sLit A [.int .u8 0] 1 0 [] = some (.slice (some ⟨A.length, 0, none⟩) 0 0, A ++ [.row [] .own 1 true]) := rfl
  have k0 : Le A (A ++ [.row [] .own 1 true]) := .push _ _
  obtain ⟨w1, A1, e1, k1, o1, _⟩ := app_bytes k0 (own_lit_none (.refl A)) (hv.le k0) (by simp; omega)
  rw [List.nil_append] at o1
  have e1' : sApp (A ++ [.row [] .own 1 true]) (.slice (some ⟨A.length, 0, none⟩) 0 0) v 1 1 = some (w1, A1) := e1
  obtain ⟨m1, w2, A2, m2, k2, o2, _⟩ := app_one 128 k1 o1 (by omega)
  have m1' : sLit A1 [.int .u8 0] 1 1 [(0, 1, .int .u8 128)] = _ := m1
  simp (maxSteps := 1000000) (disch := omega) only [stepS, reduceIte, Nat.reduceBEq, Nat.reduceEqDiff, tupleOf, stepT, i0, l0, e1', m1', m2]
  refine W_loop (fun a' B => ∃ j : Nat, j ≤ zerosN bs.length ∧ Le A B ∧ OwnB A.length B (a' 3) (bs ++ [128] ++ List.replicate j 0) ∧ a' 0 = v) (fun a' _ => bs.length + 1 + zerosN bs.length - lenOf (a' 3)) ?_ ?_
  · refine ⟨0, Nat.zero_le _, k2, ?_⟩
    simp (maxSteps := 1000000) (disch := omega) only [stepS, reduceIte, Nat.reduceBEq, Nat.reduceEqDiff, tupleOf, stepT, i0]
    simpa using o2
  · rintro a2 B ⟨j, hj, hle, o3, g0⟩
    have hz : zerosN bs.length < 64 := Nat.mod_lt _ (by omega)
    generalize ew : a2 3 = x at o3
    have xl := o3.byt.len
    have xo := o3.byt.lenOf
    have hlen : (bs ++ [128] ++ List.replicate j (0 : UInt8)).length = bs.length + 1 + j := by simp; omega
    rw [hlen] at xl xo
    rcases Nat.lt_or_ge j (zerosN bs.length) with hlt | hge
    · have hne : ((bs.length + 1 + j : Nat) : Int) % 64 ≠ 56 := by
        unfold zerosN at hlt
        omega
      obtain ⟨q1, w', B2, q2, q3, q4, _⟩ := app_one 0 hle o3 (by omega)
      have q1' : sLit B [.int .u8 0] 1 1 [(0, 1, .int .u8 0)] = _ := q1
      simp (maxSteps := 1000000) (disch := omega) only [stepS, reduceIte, Nat.reduceBEq, Nat.reduceEqDiff, tupleOf, stepT, g0, ew, xl, q1', q2]
      have wo := q4.byt.lenOf
      rw [List.length_append, hlen, List.length_singleton] at wo
      rw [wo, xo]
      refine ⟨⟨j + 1, by omega, q3, ?_⟩, by omega⟩
      rw [List.replicate_succ', ← List.append_assoc]
      exact q4
    · have hjz : j = zerosN bs.length := by omega
      subst hjz
      have heq : ((bs.length + 1 + zerosN bs.length : Nat) : Int) % 64 = 56 := by
        unfold zerosN
        omega
      have hm64 : (bs.length + 1 + zerosN bs.length + 8) % 64 = 0 := by omega
      generalize hz2 : zerosN bs.length = z at xl heq hz o3 hlen hm64
      have sh : ∀ k : Nat, k ≤ 32 → binA .shr (.int .i64 (8 * (bs.length : Int))) (.int .u64 k) = some (ii ((8 * bs.length / 2 ^ k : Nat) : Int)) := fun k hk => shr_ii (8 * bs.length) .u64 k (by omega)
      have s32 : binA .shr (.int .i64 (8 * (bs.length : Int))) (.int .u64 32) = some (ii ((8 * bs.length / 2 ^ 32 : Nat) : Int)) := sh 32 (by omega)
      have s24 : binA .shr (.int .i64 (8 * (bs.length : Int))) (.int .u64 24) = some (ii ((8 * bs.length / 2 ^ 24 : Nat) : Int)) := sh 24 (by omega)
      have s16 : binA .shr (.int .i64 (8 * (bs.length : Int))) (.int .u64 16) = some (ii ((8 * bs.length / 2 ^ 16 : Nat) : Int)) := sh 16 (by omega)
      have s8 : binA .shr (.int .i64 (8 * (bs.length : Int))) (.int .u64 8) = some (ii ((8 * bs.length / 2 ^ 8 : Nat) : Int)) := sh 8 (by omega)
      have c0 : ∀ A, sConv A .u8 (.int .i64 (8 * (bs.length : Int))) = some (by8 (UInt8.ofNat (8 * bs.length)), A) := fun A => conv_u8_ii A (8 * bs.length)
      have lz := lit8z B (UInt8.ofNat (8 * bs.length / 2 ^ 32)) (UInt8.ofNat (8 * bs.length / 2 ^ 24)) (UInt8.ofNat (8 * bs.length / 2 ^ 16)) (UInt8.ofNat (8 * bs.length / 2 ^ 8)) (UInt8.ofNat (8 * bs.length))
      rw [← bytes8_eq hb] at lz
      have k3 : Le B (B ++ [.row ((bytes8 bs.length).map by8) .own 1 true]) := .push _ _
      obtain ⟨w3, B3, f1, f2, f3, _⟩ := app_bytes (hle.trans k3) (OwnS.le o3 k3) (byt_last B (bytes8 bs.length)) (by rw [hlen]; simp [bytes8]; omega)
      have f1' : sApp (B ++ [.row ((bytes8 bs.length).map by8) .own 1 true]) x (.slice (some ⟨B.length, 0, none⟩) 8 8) 1 1 = some (w3, B3) := f1
      have hall : bs ++ [128] ++ List.replicate z 0 ++ bytes8 bs.length = bs ++ padF bs.length := by
        unfold padF
        rw [hz2]
        simp
      rw [hall] at f3
      have hpl : (bs ++ padF bs.length).length = bs.length + 1 + z + 8 := by rw [← hall, List.length_append, hlen]; rfl
      unfold shaF at hq ⊢
      generalize bs ++ padF bs.length = p at f3 hq hpl ⊢
      have hvB := (hv.le hle).len
      simp (maxSteps := 1000000) (disch := omega) only [stepS, reduceIte, Nat.reduceBEq, Nat.reduceEqDiff, tupleOf, stepT, g0, ew, xl, hvB, s32, s24, s16, s8, c0, conv_u8_ii, lz, f1', lit8i]
      have k4 : Le B3 (B3 ++ [.row init8.cells .own 1 true]) := .push _ _
      refine ref03_rounds_spec fun B4 y k5 hy => ?_
      have hp4 := (f3.byt.le k4).le k5
      have hi8 : Sl B4 1 (.slice (some ⟨B3.length, 0, none⟩) 8 8) 8 init8.cells := Sl.le (sl_last B3 (cs := init8.cells) (st := .own) (ex := true) (c := 8) (by simp) (Nat.le_refl _)) k5
      have kA4 := (f2.trans k4).trans k5
      simp (maxSteps := 1000000) (disch := omega) only [stepS, reduceIte, Nat.reduceBEq, Nat.reduceEqDiff, tupleOf, stepT]
      refine W_loop (fun a' C => ∃ (k : Nat) (s : S8), 64 * k ≤ p.length ∧ Le B4 C ∧ Sl C 1 (a' 5) 8 s.cells ∧ eatF s (p.drop (64 * k)) = eatF init8 p ∧ a' 3 = w3 ∧ a' 6 = y ∧ a' 7 = .int .i64 (64 * (k : Int))) (fun a' _ => p.length - (iv (a' 7)).toNat) ?_ ?_
      · refine ⟨0, init8, by omega, .refl _, ?_⟩
        simp (maxSteps := 1000000) (disch := omega) only [stepS, reduceIte, Nat.reduceBEq, Nat.reduceEqDiff, tupleOf, stepT]
        exact ⟨hi8, by simp, rfl⟩
      · rintro a3 C ⟨k, s, hk, hlC, hs, he, h3, h6, h7⟩
        generalize e5 : a3 5 = sv at hs
        have hpC := hp4.le hlC
        rcases Nat.lt_or_ge (64 * k) p.length with hlt | hge
        · obtain ⟨u, u1, u2⟩ := hpC.cut (lo := some (.int .i64 (64 * (k : Int)))) (hi := some (.int .i64 (64 * (k : Int) + 64))) (l := 64 * k) (k := 64 * k + 64) (by omega) (by omega) (fun c hc => bnd_both (l := 64 * k) (k := 64 * k + 64) (by omega) (by omega))
          have e64 : 64 * k + 64 - 64 * k = 64 := by omega
          rw [e64] at u2
          simp (maxSteps := 1000000) (disch := omega) only [stepS, reduceIte, Nat.reduceBEq, Nat.reduceEqDiff, tupleOf, stepT, h3, h6, h7, e5, hpC.len, u1]
          refine ref03_block_spec hs u2 (by simp; omega) (hy.le hlC) fun C2 u' kC2 hs2 => ?_
          simp (maxSteps := 1000000) (disch := omega) only [stepS, reduceIte, Nat.reduceBEq, Nat.reduceEqDiff, tupleOf, stepT, h3, h6, h7]
          refine ⟨⟨k + 1, _, by omega, hlC.trans kC2, hs2, ?_, by congr 1⟩, by omega⟩
          rw [← he, eatF_big (bs := p.drop (64 * k)) (by simp; omega), List.drop_drop]
          rfl
        · have hkk : p.length = 64 * k := by omega
          simp (maxSteps := 1000000) (disch := omega) only [stepS, reduceIte, Nat.reduceBEq, Nat.reduceEqDiff, tupleOf, stepT, h3, h6, h7, e5, hpC.len]
          rw [List.drop_of_length_le (by omega), eatF_small (by simp)] at he
          rw [← he] at hq ⊢
          have kA := kA4.trans hlC
          refine W_loop (fun a' D => ∃ k : Nat, k ≤ 8 ∧ Le C D ∧ OwnB C.length D (a' 8) ((digest s).take (4 * k)) ∧ a' 5 = sv ∧ a' 9 = ii k) (fun a' _ => 8 - (iv (a' 9)).toNat) ?_ ?_
          · refine ⟨0, by omega, .refl _, ?_⟩
            simp (maxSteps := 1000000) (disch := omega) only [stepS, reduceIte, Nat.reduceBEq, Nat.reduceEqDiff, tupleOf, stepT, e5]
            exact ⟨OwnB.nil _ _, rfl⟩
          · rintro a4 D ⟨k2, hk2, hlD, o5, y5, y9⟩
            generalize ey : a4 8 = t8 at o5
            rcases Nat.lt_or_ge k2 8 with hlt2 | hge2
            · obtain ⟨pp, pp1, pp2⟩ := (hs.le hlD).at1 (cells_get (s := s) hlt2)
              have hwl := word_l s k2 hlt2
              generalize s.l.getD k2 0 = wd at pp2 hwl
              have lw := litB D (word4 wd) (len := 4) rfl rfl
              have kD : Le D (D ++ [.row ((word4 wd).map by8) .own 1 true]) := .push _ _
              obtain ⟨w', D2, r1, r2, r3, _⟩ := app_bytes (hlD.trans kD) (OwnS.le o5 kD) (byt_last D (word4 wd)) (by
                have := List.length_take_le (4 * k2) (digest s)
                show _ + 4 ≤ _
                omega)
              have lw' : sLit D [.int .u8 0] 1 4 [(0, 1, by8 (UInt8.ofNat (wd >>> (24 : Int).toNat).toNat)), (1, 1, by8 (UInt8.ofNat (wd >>> (16 : Int).toNat).toNat)), (2, 1, by8 (UInt8.ofNat (wd >>> (8 : Int).toNat).toNat)), (3, 1, by8 (UInt8.ofNat wd.toNat))] = some (.slice (some ⟨D.length, 0, none⟩) 4 4, D ++ [.row ((word4 wd).map by8) .own 1 true]) := lw
              have r1' : sApp (D ++ [.row ((word4 wd).map by8) .own 1 true]) t8 (.slice (some ⟨D.length, 0, none⟩) 4 4) 1 1 = some (w', D2) := r1
              simp (maxSteps := 1000000) (disch := omega) only [stepS, reduceIte, Nat.reduceBEq, Nat.reduceEqDiff, tupleOf, stepT, y5, y9, ey, pp1, pp2, shr32, conv_u8_w, lw', r1']
              refine ⟨⟨k2 + 1, by omega, r2, ?_, rfl⟩, by omega⟩
              rw [hwl]; exact r3
            · have hk8 : k2 = 8 := by omega
              subst hk8
              have e8 : (digest s).take (4 * 8) = digest s := by rw [List.take_of_length_le (by rw [digest_length]; omega)]
              rw [e8] at o5
              simp (maxSteps := 1000000) (disch := omega) only [stepS, reduceIte, Nat.reduceBEq, Nat.reduceEqDiff, tupleOf, stepT, y5, y9, ey, o5.byt.str]
              exact ⟨kA.trans hlD, rfl⟩
end Go.AS.C


namespace Go.AS.C
open Go Go.Proofs
set_option linter.unusedVariables false
set_option linter.unusedSimpArgs false
set_option maxRecDepth 10000

/-! Items of updates. -/
/-- An item of bytes. -/
def ItV (A : AH) (x : Value) (bs : List UInt8) : Prop := ∃ t, x = .agg #[.string ⟨(shaF bs).toArray⟩, t] ∧ Byt A t bs
theorem ItV.le {A B : AH} {x : Value} {bs : List UInt8} (h : ItV A x bs) (hl : Le A B) : ItV B x bs := by
  obtain ⟨t, h1, h2⟩ := h
  exact ⟨t, h1, h2.le hl⟩
theorem update_Item_spec {A : AH} {v : Value} {bs : List UInt8} {Q : Value → AH → Prop} (hg : Le [kB] A) (hv : Byt A v bs) (hb : bs.length < 2 ^ 36) (hq : ∀ A' x, Le A A' → ItV A' x bs → Q x A') : ACalls 1 Tryd.prog update_Item [v] Q A := by
  refine ACalls.of_fits mixed fits_update_Item rfl ?_
  unfold ic_update_Item
  have i0 : initA [v] 0 = v := rfl
  generalize initA [v] = a at i0
  have k1 : Le A (A ++ [.row [.string e0, .slice none 0 0] .own 0 true]) := .push _ _
  simp (maxSteps := 1000000) (disch := omega) only [stepS, reduceIte, Nat.reduceBEq, Nat.reduceEqDiff, tupleOf, stepT, stepX, heapR, lensR, Nat.reduceAdd, Nat.reduceLeDiff, i0]
  refine sha_ID_spec (hg.trans k1) (hv.le k1) (by omega) ?_
  simp (maxSteps := 1000000) (disch := omega) only [stepS, reduceIte, Nat.reduceBEq, Nat.reduceEqDiff, tupleOf, stepT, stepX, heapR, lensR, Nat.reduceAdd, Nat.reduceLeDiff, i0]
  refine slices_Clone_spec (hv.le k1) (by omega) fun u C k2 o2 => ?_
  have ru : rowAt C A.length = some ([.string e0, .slice none 0 0], .own, 0, true) := k2.row (rowAt_own (get_last _ _))
  have hC := lt_of_get (rowAt_get ru)
  have ob := o2.byt
  obtain ⟨p, c, hs, _⟩ := ob.shape
  subst hs
  simp (maxSteps := 1000000) (disch := omega) only [stepS, reduceIte, Nat.reduceBEq, Nat.reduceEqDiff, tupleOf, stepT, stepX, heapR, lensR, Nat.reduceAdd, Nat.reduceLeDiff, i0, ru]
  refine hq _ _ ((k1.trans k2).set (Nat.le_refl _)) ⟨_, rfl, ?_⟩
  exact Byt.kp ob (Keep.set _ _ _) (rowAt_get ru)
/-- What Of gives of an update. -/
def OfU (A : AH) (x : Value) (u : UpdV) : Prop := if updE u = 0 then ItV A x (putU u) else x = .agg #[.string e0, .slice none 0 0]
end Go.AS.C


-- Printed by tab.py (wip/tools): all abstract codes of the chapter, as one table.
namespace Go.AS.C
open Go Go.Proofs
set_option maxRecDepth 100000
noncomputable def tab : List (Nat × CodeE) := [
  (chantrylaw15_UpdatePuts, ⟨ic_chantrylaw15_UpdatePuts, [.tmp 4], 2⟩),
  (chantrylaw15_UpdateGets, ⟨ic_chantrylaw15_UpdateGets, [.tmp 2], 1⟩),
  (chantrylaw15_UpdateOne, ⟨ic_chantrylaw15_UpdateOne, [.tmp 4], 2⟩),
  (chantrylaw15_large, ⟨ic_chantrylaw15_large, [.tmp 2], 1⟩),
  (chantrylaw15_awake, ⟨ic_chantrylaw15_awake, [.tmp 0], 0⟩),
  (update_Put, ⟨ic_update_Put, [.tmp 2, .tmp 3], 1⟩),
  (chantryref15_Put, ⟨ic_chantryref15_Put, [.tmp 2, .tmp 3], 1⟩),
  (update_Get, ⟨ic_update_Get, [.many 2 7, .tmp 3], 1⟩),
  (update_Of, ⟨ic_update_Of, [.many 2 2, .tmp 3], 1⟩),
  (chantryref15_Of, ⟨ic_chantryref15_Of, [.many 2 2, .tmp 3], 1⟩),
  (update_Check, ⟨ic_update_Check, [.tmp 2], 1⟩),
  (chantryref15_Same, ⟨ic_chantryref15_Same, [.tmp 4], 2⟩),
  (update_Same, ⟨ic_update_Same, [.tmp 4], 2⟩),
  (chantryref15_Get, ⟨ic_chantryref15_Get, [.many 2 7, .tmp 3], 1⟩),
  (update_Item, ⟨ic_update_Item, [.many 2 2], 1⟩),
  (chantryref03_ID, ⟨ic_chantryref03_ID, [.tmp 2], 1⟩),
  (chantryref15_Check, ⟨ic_chantryref15_Check, [.tmp 2], 1⟩),
  (op_Put, ⟨ic_op_Put, [.tmp 2, .tmp 3], 1⟩),
  (slices_Concat_byte_byte, ⟨ic_slices_Concat_byte_byte, [.tmp 2], 1⟩),
  (strings_Join, ⟨ic_strings_Join, [.tmp 4], 2⟩),
  (chantryref14_Put, ⟨ic_chantryref14_Put, [.tmp 2, .tmp 3], 1⟩),
  (num_From, ⟨ic_num_From, [.tmp 2], 1⟩),
  (num_Cursor_Byte, ⟨ic_num_Cursor_Byte, [.tmp 2], 1⟩),
  (update_list_string, ⟨ic_update_list_string, [.tmp 4], 2⟩),
  (update_Get_1, ⟨ic_update_Get_1, [.tmp 1], 0⟩),
  (num_Cursor_Take, ⟨ic_num_Cursor_Take, [.tmp 4], 2⟩),
  (num_Cursor_Left, ⟨ic_num_Cursor_Left, [.tmp 2], 1⟩),
  (num_Cursor_Bad, ⟨ic_num_Cursor_Bad, [.tmp 2], 1⟩),
  (op_Get, ⟨ic_op_Get, [.many 2 5, .tmp 3, .tmp 4], 1⟩),
  (chantryref15_Item, ⟨ic_chantryref15_Item, [.many 2 2], 1⟩),
  (ids_Rising, ⟨ic_ids_Rising, [.tmp 2], 1⟩),
  (op_Check, ⟨ic_op_Check, [.tmp 2], 1⟩),
  (chantryref01_Texts, ⟨ic_chantryref01_Texts, [.tmp 4], 2⟩),
  (slices_Equal_string_string, ⟨ic_slices_Equal_string_string, [.tmp 4], 2⟩),
  (chantryref01_Byte, ⟨ic_chantryref01_Byte, [.many 2 3, .tmp 3], 1⟩),
  (chantryref01_From, ⟨ic_chantryref01_From, [.many 2 3], 1⟩),
  (chantryref01_Take, ⟨ic_chantryref01_Take, [.many 4 3, .tmp 5], 2⟩),
  (chantryref14_Get, ⟨ic_chantryref14_Get, [.many 2 5, .tmp 3, .tmp 4], 1⟩),
  (chantryref01_Left, ⟨ic_chantryref01_Left, [.tmp 2], 1⟩),
  (sha_ID, ⟨ic_sha_ID, [.tmp 2], 1⟩),
  (slices_Clone_byte_byte, ⟨ic_slices_Clone_byte_byte, [.tmp 2], 1⟩),
  (chantryref03_rounds, ⟨ic_chantryref03_rounds, [.tmp 0], 0⟩),
  (chantryref03_block, ⟨ic_chantryref03_block, [.tmp 6], 3⟩),
  (chantryref04_Rising, ⟨ic_chantryref04_Rising, [.tmp 2], 1⟩),
  (chantryref14_Check, ⟨ic_chantryref14_Check, [.tmp 2], 1⟩),
  (op_has, ⟨ic_op_has, [.tmp 2], 1⟩),
  (op_Put_1, ⟨ic_op_Put_1, [], 1⟩),
  (num_Text, ⟨ic_num_Text, [.tmp 2, .tmp 3], 1⟩),
  (num_Fix, ⟨ic_num_Fix, [.tmp 4, .tmp 5], 2⟩),
  (op_truth, ⟨ic_op_truth, [.tmp 2], 1⟩),
  (slices_Grow_byte_byte, ⟨ic_slices_Grow_byte_byte, [.tmp 4], 2⟩),
  (strings_Builder_Grow, ⟨ic_strings_Builder_Grow, [], 2⟩),
  (strings_Builder_WriteString, ⟨ic_strings_Builder_WriteString, [.tmp 4, .tmp 5], 2⟩),
  (chantryref14_Has, ⟨ic_chantryref14_Has, [.tmp 2, .tmp 3, .tmp 4, .tmp 5, .tmp 6], 1⟩),
  (chantryref01_Text, ⟨ic_chantryref01_Text, [.tmp 2, .tmp 3], 1⟩),
  (chantryref01_Fix, ⟨ic_chantryref01_Fix, [.tmp 4, .tmp 5], 2⟩),
  (num_Cursor_fail, ⟨ic_num_Cursor_fail, [], 1⟩),
  (num_Cursor_Text, ⟨ic_num_Cursor_Text, [.tmp 2], 1⟩),
  (op_number, ⟨ic_op_number, [.tmp 2, .tmp 3], 1⟩),
  (op_place, ⟨ic_op_place, [.tmp 4, .tmp 5], 2⟩),
  (ids_Right, ⟨ic_ids_Right, [.tmp 2], 1⟩),
  (op_Name, ⟨ic_op_Name, [.tmp 2], 1⟩),
  (op_bare, ⟨ic_op_bare, [.many 2 5], 1⟩),
  (chantryref01_spoilt, ⟨ic_chantryref01_spoilt, [.many 2 3], 1⟩),
  (chantryref01_TakeText, ⟨ic_chantryref01_TakeText, [.many 2 3, .tmp 3], 1⟩),
  (chantryref01_Unfix, ⟨ic_chantryref01_Unfix, [.tmp 2, .tmp 3], 1⟩),
  (sha_Begin, ⟨ic_sha_Begin, [.tmp 0], 0⟩),
  (sha_Hash_Add, ⟨ic_sha_Hash_Add, [], 2⟩),
  (sha_Hash_Sum, ⟨ic_sha_Hash_Sum, [.tmp 2], 1⟩),
  (chantryref03_schedule, ⟨ic_chantryref03_schedule, [.tmp 2], 1⟩),
  (chantryref03_turn, ⟨ic_chantryref03_turn, [.tmp 4], 2⟩),
  (chantryref04_Right, ⟨ic_chantryref04_Right, [.tmp 2], 1⟩),
  (chantryref14_Name, ⟨ic_chantryref14_Name, [.tmp 2], 1⟩),
  (num_Put, ⟨ic_num_Put, [.tmp 2, .tmp 3], 1⟩),
  (num_is, ⟨ic_num_is, [.tmp 2], 1⟩),
  (chantryref01_Put, ⟨ic_chantryref01_Put, [.tmp 2, .tmp 3], 1⟩),
  (num_Cursor_Num, ⟨ic_num_Cursor_Num, [.tmp 2], 1⟩),
  (num_Unfix, ⟨ic_num_Unfix, [.tmp 2, .tmp 3], 1⟩),
  (strings_IndexFunc, ⟨ic_strings_IndexFunc, [.tmp 4], 2⟩),
  (op_Name_1, ⟨ic_op_Name_1, [.tmp 2], 1⟩),
  (chantryref01_Num, ⟨ic_chantryref01_Num, [.many 2 3, .tmp 3], 1⟩),
  (sha_Hash_mix, ⟨ic_sha_Hash_mix, [], 2⟩),
  (sha_Hash_end, ⟨ic_sha_Hash_end, [.tmp 2], 1⟩),
  (chantryref03_word, ⟨ic_chantryref03_word, [.tmp 2], 1⟩),
  (num_Get, ⟨ic_num_Get, [.tmp 2, .tmp 3, .tmp 4], 1⟩),
  (chantryref01_Get, ⟨ic_chantryref01_Get, [.tmp 2, .tmp 3, .tmp 4], 1⟩),
  (sha_schedule, ⟨ic_sha_schedule, [.many 2 64], 1⟩),
  (sha_right, ⟨ic_sha_right, [.tmp 4], 2⟩),
  (gosem_cut_vars, ⟨ic_gosem_cut_vars, [], 0⟩)]
theorem tabOk : ∀ p ∈ tab, Fits Tryd.prog 1 p.1 p.2.ic p.2.rs p.2.np := by
  unfold tab
  exact List.forall_mem_cons.2 ⟨fits_chantrylaw15_UpdatePuts, List.forall_mem_cons.2 ⟨fits_chantrylaw15_UpdateGets, List.forall_mem_cons.2 ⟨fits_chantrylaw15_UpdateOne, List.forall_mem_cons.2 ⟨fits_chantrylaw15_large, List.forall_mem_cons.2 ⟨fits_chantrylaw15_awake, List.forall_mem_cons.2 ⟨fits_update_Put, List.forall_mem_cons.2 ⟨fits_chantryref15_Put, List.forall_mem_cons.2 ⟨fits_update_Get, List.forall_mem_cons.2 ⟨fits_update_Of, List.forall_mem_cons.2 ⟨fits_chantryref15_Of, List.forall_mem_cons.2 ⟨fits_update_Check, List.forall_mem_cons.2 ⟨fits_chantryref15_Same, List.forall_mem_cons.2 ⟨fits_update_Same, List.forall_mem_cons.2 ⟨fits_chantryref15_Get, List.forall_mem_cons.2 ⟨fits_update_Item, List.forall_mem_cons.2 ⟨fits_chantryref03_ID, List.forall_mem_cons.2 ⟨fits_chantryref15_Check, List.forall_mem_cons.2 ⟨fits_op_Put, List.forall_mem_cons.2 ⟨fits_slices_Concat_byte_byte, List.forall_mem_cons.2 ⟨fits_strings_Join, List.forall_mem_cons.2 ⟨fits_chantryref14_Put, List.forall_mem_cons.2 ⟨fits_num_From, List.forall_mem_cons.2 ⟨fits_num_Cursor_Byte, List.forall_mem_cons.2 ⟨fits_update_list_string, List.forall_mem_cons.2 ⟨fits_update_Get_1, List.forall_mem_cons.2 ⟨fits_num_Cursor_Take, List.forall_mem_cons.2 ⟨fits_num_Cursor_Left, List.forall_mem_cons.2 ⟨fits_num_Cursor_Bad, List.forall_mem_cons.2 ⟨fits_op_Get, List.forall_mem_cons.2 ⟨fits_chantryref15_Item, List.forall_mem_cons.2 ⟨fits_ids_Rising, List.forall_mem_cons.2 ⟨fits_op_Check, List.forall_mem_cons.2 ⟨fits_chantryref01_Texts, List.forall_mem_cons.2 ⟨fits_slices_Equal_string_string, List.forall_mem_cons.2 ⟨fits_chantryref01_Byte, List.forall_mem_cons.2 ⟨fits_chantryref01_From, List.forall_mem_cons.2 ⟨fits_chantryref01_Take, List.forall_mem_cons.2 ⟨fits_chantryref14_Get, List.forall_mem_cons.2 ⟨fits_chantryref01_Left, List.forall_mem_cons.2 ⟨fits_sha_ID, List.forall_mem_cons.2 ⟨fits_slices_Clone_byte_byte, List.forall_mem_cons.2 ⟨fits_chantryref03_rounds, List.forall_mem_cons.2 ⟨fits_chantryref03_block, List.forall_mem_cons.2 ⟨fits_chantryref04_Rising, List.forall_mem_cons.2 ⟨fits_chantryref14_Check, List.forall_mem_cons.2 ⟨fits_op_has, List.forall_mem_cons.2 ⟨fits_op_Put_1, List.forall_mem_cons.2 ⟨fits_num_Text, List.forall_mem_cons.2 ⟨fits_num_Fix, List.forall_mem_cons.2 ⟨fits_op_truth, List.forall_mem_cons.2 ⟨fits_slices_Grow_byte_byte, List.forall_mem_cons.2 ⟨fits_strings_Builder_Grow, List.forall_mem_cons.2 ⟨fits_strings_Builder_WriteString, List.forall_mem_cons.2 ⟨fits_chantryref14_Has, List.forall_mem_cons.2 ⟨fits_chantryref01_Text, List.forall_mem_cons.2 ⟨fits_chantryref01_Fix, List.forall_mem_cons.2 ⟨fits_num_Cursor_fail, List.forall_mem_cons.2 ⟨fits_num_Cursor_Text, List.forall_mem_cons.2 ⟨fits_op_number, List.forall_mem_cons.2 ⟨fits_op_place, List.forall_mem_cons.2 ⟨fits_ids_Right, List.forall_mem_cons.2 ⟨fits_op_Name, List.forall_mem_cons.2 ⟨fits_op_bare, List.forall_mem_cons.2 ⟨fits_chantryref01_spoilt, List.forall_mem_cons.2 ⟨fits_chantryref01_TakeText, List.forall_mem_cons.2 ⟨fits_chantryref01_Unfix, List.forall_mem_cons.2 ⟨fits_sha_Begin, List.forall_mem_cons.2 ⟨fits_sha_Hash_Add, List.forall_mem_cons.2 ⟨fits_sha_Hash_Sum, List.forall_mem_cons.2 ⟨fits_chantryref03_schedule, List.forall_mem_cons.2 ⟨fits_chantryref03_turn, List.forall_mem_cons.2 ⟨fits_chantryref04_Right, List.forall_mem_cons.2 ⟨fits_chantryref14_Name, List.forall_mem_cons.2 ⟨fits_num_Put, List.forall_mem_cons.2 ⟨fits_num_is, List.forall_mem_cons.2 ⟨fits_chantryref01_Put, List.forall_mem_cons.2 ⟨fits_num_Cursor_Num, List.forall_mem_cons.2 ⟨fits_num_Unfix, List.forall_mem_cons.2 ⟨fits_strings_IndexFunc, List.forall_mem_cons.2 ⟨fits_op_Name_1, List.forall_mem_cons.2 ⟨fits_chantryref01_Num, List.forall_mem_cons.2 ⟨fits_sha_Hash_mix, List.forall_mem_cons.2 ⟨fits_sha_Hash_end, List.forall_mem_cons.2 ⟨fits_chantryref03_word, List.forall_mem_cons.2 ⟨fits_num_Get, List.forall_mem_cons.2 ⟨fits_chantryref01_Get, List.forall_mem_cons.2 ⟨fits_sha_schedule, List.forall_mem_cons.2 ⟨fits_sha_right, List.forall_mem_cons.2 ⟨fits_gosem_cut_vars, fun p h => by cases h⟩⟩⟩⟩⟩⟩⟩⟩⟩⟩⟩⟩⟩⟩⟩⟩⟩⟩⟩⟩⟩⟩⟩⟩⟩⟩⟩⟩⟩⟩⟩⟩⟩⟩⟩⟩⟩⟩⟩⟩⟩⟩⟩⟩⟩⟩⟩⟩⟩⟩⟩⟩⟩⟩⟩⟩⟩⟩⟩⟩⟩⟩⟩⟩⟩⟩⟩⟩⟩⟩⟩⟩⟩⟩⟩⟩⟩⟩⟩⟩⟩⟩⟩⟩⟩⟩⟩⟩⟩
end Go.AS.C


namespace Go.AS.C
open Go Go.Proofs
set_option maxRecDepth 10000

/-! Answers that a run may take as known: the SHA of bytes, an empty join. -/
def asB8 : Value → Option UInt8
  | .int .u8 n => if ((UInt8.ofNat n.toNat).toNat : Int) = n then some (UInt8.ofNat n.toNat) else none
  | _ => none
theorem asB8_ok {v : Value} {b : UInt8} (h : asB8 v = some b) : v = by8 b := by
  unfold asB8 at h
  split at h
  · split at h
    · rename_i n hn
      obtain rfl := Option.some.inj h
      unfold by8
      rw [hn]
    · cases h
  · cases h
def asBs : List Value → Option (List UInt8)
  | [] => some []
  | v :: r => match asB8 v, asBs r with
    | some b, some l => some (b :: l)
    | _, _ => none
theorem asBs_ok : ∀ {cs : List Value} {bs : List UInt8}, asBs cs = some bs → cs = bs.map by8
  | [], bs, h => by obtain rfl := Option.some.inj h; rfl
  | v :: r, bs, h => by
    unfold asBs at h
    split at h
    · rename_i b l hb hl
      obtain rfl := Option.some.inj h
      rw [asB8_ok hb, asBs_ok hl]; rfl
    · cases h
def asU32 : List Value → Option (List Int)
  | [] => some []
  | .int .u32 n :: r => (asU32 r).map (n :: ·)
  | _ => none
theorem asU32_ok : ∀ {cs : List Value} {l : List Int}, asU32 cs = some l → cs = l.map fun m => .int .u32 m
  | [], l, h => by obtain rfl := Option.some.inj h; rfl
  | v :: r, l, h => by
    unfold asU32 at h
    split at h
    · rename_i e; cases e
    · rename_i n r' e
      injection e with e1 e2
      subst e1 e2
      rw [Option.map_eq_some_iff] at h
      obtain ⟨l', h1, rfl⟩ := h
      rw [asU32_ok h1]; rfl
    · cases h
/-- Is the package variable at the heap's head? -/
def isK : AH → Bool
  | .row cs .ro 0 false :: _ => decide (asU32 cs = some kI)
  | _ => false
theorem isK_ok {A : AH} (h : isK A = true) : Le [kB] A := by
  unfold isK at h
  split at h
  · rename_i cs r
    rw [decide_eq_true_eq] at h
    have := asU32_ok h
    rw [kI_cells] at this
    subst this
    refine Le.of_get (fun k hk => ?_) (by simp)
    have : k = 0 := by simp at hk; exact hk
    subst this
    rfl
  · cases h
def bytesAt (A : AH) : Value → Option (List UInt8)
  | .slice (some ⟨i, o, none⟩) n c => match A[i]? with
    | some (.row cs .own 1 _) => if n ≤ c ∧ o + n ≤ cs.length then asBs ((cs.drop o).take n) else none
    | _ => none
  | _ => none
theorem bytesAt_ok {A : AH} {v : Value} {bs : List UInt8} (h : bytesAt A v = some bs) : Byt A v bs := by
  unfold bytesAt at h
  split at h
  · split at h
    · split at h
      · rename_i i o n c _ cs ex hA hn
        have e := asBs_ok h
        have hl : bs.length = n := by
          have := congrArg List.length e
          rw [List.length_map, List.length_take, List.length_drop] at this
          omega
        refine ⟨by rw [List.length_map, Nat.mul_one], .inr (.inr ⟨i, o, c, cs, .own, ex, by rw [hl], by omega, hA, by decide, by omega, fun j hj => ?_⟩)⟩
        rw [← e, List.getElem?_take_of_lt (by omega), List.getElem?_drop]
      · cases h
    · cases h
  · cases h
theorem size_zero {s : ByteArray} (h : s.size = 0) : s = ⟨#[]⟩ := by
  obtain ⟨⟨l⟩⟩ := s
  cases l with
  | nil => rfl
  | cons x l => cases h
def orcS : FuncId → List Value → AH → Option (Value × AH) := fun f args A =>
  if f = strings_Join then match args with
    | [.slice none 0 0, .string s] => if s.size = 0 then some (.string ⟨#[]⟩, A) else none
    | _ => none
  else if f = op_Check then match args with
    | [.agg ⟨[.int .i64 7, .string s1, .string s2, .int .i64 0, .string s3]⟩] => if s1.size = 0 ∧ s2.size = 0 ∧ s3.size = 0 then some (.int .i64 0, A) else none
    | _ => none
  else if f = sha_ID ∨ f = chantryref03_ID then match args with
    | [v] => match bytesAt A v with
      | some bs => if isK A ∧ bs.length < 1000 then some (.string ⟨(shaF bs).toArray⟩, A) else none
      | none => none
    | _ => none
  else none
theorem orcS_ok : CallOk 1 Tryd.prog orcS := by
  intro f args A v A' h K k
  unfold orcS at h
  split at h
  · rename_i hf
    subst hf
    split at h
    · split at h
      · rename_i s hs
        injection h with h
        injection h with h1 h2
        subst h1 h2
        refine join_spec joinsTexts (l := []) ⟨rfl, .inl ⟨rfl, rfl⟩⟩ (by decide) ?_ ?_
        · unfold joinT; rw [List.map_nil, Lib.join_nil]; decide
        · unfold joinT; rw [List.map_nil, Lib.join_nil]; exact k
      · cases h
    · cases h
  · split at h
    · rename_i hf
      subst hf
      split at h
      · split at h
        · rename_i s1 s2 s3 hs
          injection h with h
          injection h with h1 h2
          subst h1 h2
          obtain rfl := size_zero hs.1
          obtain rfl := size_zero hs.2.1
          obtain rfl := size_zero hs.2.2
          exact op_Check_spec (o := ⟨7, ⟨#[]⟩, ⟨#[]⟩, 0, ⟨#[]⟩⟩) ⟨by decide, by decide, by decide, by decide, by decide⟩ k
        · cases h
      · cases h
    · split at h
      · rename_i hf
        split at h
        · split at h
          · split at h
            · rename_i x _ bs hb hk
              injection h with h
              injection h with h1 h2
              subst h1 h2
              rcases hf with rfl | rfl
              · exact sha_ID_spec (isK_ok hk.1) (bytesAt_ok hb) (by omega) k
              · exact ref03_ID_spec (bytesAt_ok hb) (by omega) k
            · cases h
          · cases h
        · cases h
      · cases h
end Go.AS.C


namespace Go.AS.C
open Go Go.Proofs
set_option maxRecDepth 100000

/-- The law's own example is run. -/
theorem awake_run : (runO Tryd.prog tab orcS (fun _ => false) 100000 60 chantrylaw15_awake [] [kB]).map (·.1) = some (.bool true) := by kernel_rfl
theorem wake {A : AH} {Q : Value → AH → Prop} (hg : Le [kB] A) (hq : Q (.bool true) A) : ACalls 1 Tryd.prog chantrylaw15_awake [] Q A :=
  ACalls.runO (A0 := [kB]) mixed rfl (by decide +kernel) tabOk orcS_ok awake_run rfl rfl hg hq
end Go.AS.C


namespace Go.AS.C
open Go Go.Proofs
set_option linter.unusedVariables false
set_option linter.unusedSimpArgs false
set_option maxRecDepth 10000

end Go.AS.C


namespace Go.AS.C
open Go Go.Proofs
set_option linter.unusedVariables false
set_option linter.unusedSimpArgs false
set_option maxRecDepth 10000

end Go.AS.C


namespace Go.AS.C
open Go Go.Proofs
set_option linter.unusedVariables false
set_option linter.unusedSimpArgs false
set_option maxRecDepth 10000

theorem fin_ok {u : UpdV} (h : updE u = 0) : u.Fin := by
  have h1 := getU_put h
  obtain ⟨q1, q2, q3, q4⟩ := updE_zero.1 h
  refine ⟨by omega, by omega, fun s hs => by have := q3.1 s hs; omega, ?_⟩
  have g : getP (putO u.op) = some (u.op, (putO u.op).length) := by
    have := getP_iff (bs := putO u.op) (o := u.op) (n := (putO u.op).length)
    exact this.2 ⟨q4, by simp, by simp⟩
  exact getP_fin g
theorem endU_or {au : Int} {ts : List ByteArray} {st : CurS} (h : (endU au ts st).2 ≠ 0) : (endU au ts st).1 = .zero := by
  revert h
  unfold endU
  cases st with
  | none => intro _; rfl
  | some r =>
    cases hp : getP r with
    | none => intro _; simp only [hp]
    | some x =>
      obtain ⟨o, n⟩ := x
      simp only [hp]
      split
      · intro _; rfl
      · intro h; exact absurd rfl h
theorem getU_or (bs : List UInt8) : (getU bs).1.Fin ∧ ((getU bs).2 = 0 → updE (getU bs).1 = 0 ∧ bs = putU (getU bs).1) := by
  have hz : UpdV.zero.Fin := ⟨by decide, by decide, fun s hs => (by cases hs), by decide, by decide, by decide, by decide, by decide⟩
  by_cases h : (getU bs).2 = 0
  · have e : getU bs = ((getU bs).1, 0) := by rw [← h]
    have h2 := getU_ok e
    exact ⟨fin_ok h2.1, fun _ => h2⟩
  · refine ⟨?_, fun h2 => absurd h2 h⟩
    rw [getU_end] at h ⊢
    split
    · exact hz
    · rename_i h3
      rw [if_neg h3] at h
      rw [endU_or h]
      exact hz
abbrev cellsU (u : UpdV) (p : Value) : List Value := [ii u.author, p, ii u.op.k, .string u.op.name, .string u.op.text, ii u.op.n, .string u.op.place]
theorem UpdateGets_spec {A : AH} {v : Value} {bs : List UInt8} {Q : Value → AH → Prop} (hg : Le [kB] A) (hv : Byt A v bs) (_ : bs.length < 2 ^ 50) (hq : ∀ A', Q (.bool true) A') : ACalls 1 Tryd.prog chantrylaw15_UpdateGets [v] Q A := by
  refine ACalls.of_fits mixed fits_chantrylaw15_UpdateGets rfl ?_
  unfold ic_chantrylaw15_UpdateGets
  have i0 : initA [v] 0 = v := rfl
  generalize initA [v] = a at i0
  by_cases hlen : bs.length ≤ 600
  · simp (maxSteps := 1000000) (disch := omega) only [stepS, reduceIte, Nat.reduceBEq, Nat.reduceEqDiff, tupleOf, stepT, stepX, heapR, lensR, Nat.reduceAdd, Nat.reduceLeDiff, i0, hv.len]
    refine update_Get_spec hv (by omega) fun C x k1 hx => ?_
    obtain ⟨fu, hu⟩ := getU_or bs
    generalize hgu1 : (getU bs).1 = u at hx fu hu
    generalize hgu2 : (getU bs).2 = e at hu
    have hx0 := hx
    obtain ⟨p, rfl, hp⟩ := hx
    have hp2 := (slT_one hp).2
    have kC : Le C ((C ++ [Blk.row zero7 .own 0 true]).set C.length (Blk.row (cellsU u p) .own 0 true)) := by (repeat first | exact Le.refl _ | assumption | refine Le.app ?_ _ | refine Le.set ?_ ?_ | omega | (simp only [List.length_append, List.length_singleton, List.length_set]; omega))
    have rC : rowAt ((C ++ [Blk.row zero7 .own 0 true]).set C.length (Blk.row (cellsU u p) .own 0 true)) C.length = some (cellsU u p, .own, 0, true) := by simp (maxSteps := 1000000) (disch := omega) only [stepS, reduceIte, Nat.reduceBEq, Nat.reduceEqDiff, tupleOf, stepT, stepX, heapR, lensR, Nat.reduceAdd, Nat.reduceLeDiff]
    simp (maxSteps := 1000000) (disch := omega) only [stepS, reduceIte, Nat.reduceBEq, Nat.reduceEqDiff, tupleOf, stepT, stepX, heapR, lensR, Nat.reduceAdd, Nat.reduceLeDiff, i0, hp2]
    refine ref15_Get_spec (hv.le (k1.trans kC)) (by omega) fun D y k2 hy => ?_
    have hyu : (getU bs).1 = u ∧ (getU bs).2 = e := ⟨hgu1, hgu2⟩
    rw [hgu1] at hy
    rw [hgu2]
    have hy0 := hy
    obtain ⟨q, rfl, hq2⟩ := hy
    have hq3 := (slT_one hq2).2
    have kD : Le D ((D ++ [Blk.row zero7 .own 0 true]).set D.length (Blk.row (cellsU u q) .own 0 true)) := by (repeat first | exact Le.refl _ | assumption | refine Le.app ?_ _ | refine Le.set ?_ ?_ | omega | (simp only [List.length_append, List.length_singleton, List.length_set]; omega))
    have rD := kD.row (k2.row rC)
    have rE : rowAt ((D ++ [Blk.row zero7 .own 0 true]).set D.length (Blk.row (cellsU u q) .own 0 true)) D.length = some (cellsU u q, .own, 0, true) := by simp (maxSteps := 1000000) (disch := omega) only [stepS, reduceIte, Nat.reduceBEq, Nat.reduceEqDiff, tupleOf, stepT, stepX, heapR, lensR, Nat.reduceAdd, Nat.reduceLeDiff]
    have k3 := ((k1.trans kC).trans k2).trans kD
    have hx1 := ((hx0.le kC).le k2).le kD
    have hy1 := hy0.le kD
    simp (maxSteps := 1000000) (disch := omega) only [stepS, reduceIte, Nat.reduceBEq, Nat.reduceEqDiff, tupleOf, stepT, stepX, heapR, lensR, Nat.reduceAdd, Nat.reduceLeDiff, i0, hq3, rD]
    generalize hE : (D ++ [Blk.row zero7 .own 0 true]).set D.length (Blk.row (cellsU u q) .own 0 true) = E at *
    by_cases he : e = 0
    · obtain ⟨hE0, hbs⟩ := hu he
      subst he
      refine update_Put_spec hx1 fu (fun _ F t k4 o4 => ?_) (fun h => absurd hE0 h)
      have rDF := k4.row rD
      have rEF := k4.row rE
      have kAF := k3.trans k4
      simp (maxSteps := 1000000) (disch := omega) only [stepS, reduceIte, Nat.reduceBEq, Nat.reduceEqDiff, tupleOf, stepT, stepX, heapR, lensR, Nat.reduceAdd, Nat.reduceLeDiff, i0]
      refine update_Item_spec (hg.trans kAF) (hv.le kAF) (by omega) fun F2 z k5 hz => ?_
      obtain ⟨w, rfl, hw⟩ := hz
      obtain ⟨wp, wc, hws, _⟩ := hw.shape
      subst hws
      have kG : Le F2 ((F2 ++ [Blk.row [.string ⟨#[]⟩, .slice none 0 0] .own 0 true]).set F2.length (Blk.row [.string ⟨(shaF bs).toArray⟩, .slice wp bs.length wc] .own 0 true)) := by (repeat first | exact Le.refl _ | assumption | refine Le.app ?_ _ | refine Le.set ?_ ?_ | omega | (simp only [List.length_append, List.length_singleton, List.length_set]; omega))
      have k6 := kAF.trans (k5.trans kG)
      have k7 := k4.trans (k5.trans kG)
      have rDG := k5.row rDF
      have rEG := k5.row rEF
      have hDG := lt_of_get (rowAt_get rDG)
      have hEG := lt_of_get (rowAt_get rEG)
      have s1 := (hw.le kG).str
      have s2 := (hv.le k6).str
      have hx2 := hx1.le k7
      have hy2 := hy1.le k7
      have v2 := hv.le k6
      have hg2 := hg.trans k6
      simp (maxSteps := 1000000) (disch := omega) only [stepS, reduceIte, Nat.reduceBEq, Nat.reduceEqDiff, tupleOf, stepT, stepX, heapR, lensR, Nat.reduceAdd, Nat.reduceLeDiff, i0, hp2, hq3, rDG, rEG]
      refine ref15_Same_spec hx2 hy2 fu fu fun b hb => ?_
      obtain rfl : b = true := hb.2 rfl
      have s3 := (o4.byt.le (k5.trans kG)).str
      rw [← hbs] at s3
      simp (maxSteps := 1000000) (disch := omega) only [stepS, reduceIte, Nat.reduceBEq, Nat.reduceEqDiff, tupleOf, stepT, stepX, heapR, lensR, Nat.reduceAdd, Nat.reduceLeDiff, i0, rDG, rEG, s1, s2, s3]
      refine ref03_ID_spec v2 (by omega) ?_
      simp (maxSteps := 1000000) (disch := omega) only [stepS, reduceIte, Nat.reduceBEq, Nat.reduceEqDiff, tupleOf, stepT, stepX, heapR, lensR, Nat.reduceAdd, Nat.reduceLeDiff, i0, rDG, rEG, s1, s2, s3]
      refine wake hg2 ?_
      simp (maxSteps := 1000000) (disch := omega) only [stepS, reduceIte, Nat.reduceBEq, Nat.reduceEqDiff, tupleOf, stepT, stepX, heapR, lensR, Nat.reduceAdd, Nat.reduceLeDiff]
      exact hq _
    · have he1 : ((e : Nat) : Int) ≠ 0 := by omega
      generalize ((e : Nat) : Int) = ei at *
      refine update_Put_spec hx1 fu (fun _ F t k4 o4 => ?_) (fun _ F k4 => ?_)
      · skip
        have rDF := k4.row rD
        have rEF := k4.row rE
        have kAF := k3.trans k4
        simp (maxSteps := 1000000) (disch := omega) only [stepS, reduceIte, Nat.reduceBEq, Nat.reduceEqDiff, tupleOf, stepT, stepX, heapR, lensR, Nat.reduceAdd, Nat.reduceLeDiff, i0]
        refine update_Item_spec (hg.trans kAF) (hv.le kAF) (by omega) fun F2 z k5 hz => ?_
        obtain ⟨w, rfl, hw⟩ := hz
        obtain ⟨wp, wc, hws, _⟩ := hw.shape
        subst hws
        have kG : Le F2 ((F2 ++ [Blk.row [.string ⟨#[]⟩, .slice none 0 0] .own 0 true]).set F2.length (Blk.row [.string ⟨(shaF bs).toArray⟩, .slice wp bs.length wc] .own 0 true)) := by (repeat first | exact Le.refl _ | assumption | refine Le.app ?_ _ | refine Le.set ?_ ?_ | omega | (simp only [List.length_append, List.length_singleton, List.length_set]; omega))
        have k6 := kAF.trans (k5.trans kG)
        have k7 := k4.trans (k5.trans kG)
        have rDG := k5.row rDF
        have rEG := k5.row rEF
        have hDG := lt_of_get (rowAt_get rDG)
        have hEG := lt_of_get (rowAt_get rEG)
        have s1 := (hw.le kG).str
        have s2 := (hv.le k6).str
        have hx2 := hx1.le k7
        have hy2 := hy1.le k7
        have v2 := hv.le k6
        have hg2 := hg.trans k6
        simp (maxSteps := 1000000) (disch := omega) only [stepS, reduceIte, Nat.reduceBEq, Nat.reduceEqDiff, tupleOf, stepT, stepX, heapR, lensR, Nat.reduceAdd, Nat.reduceLeDiff, i0, hp2, hq3, rDG, rEG]
        refine ref15_Same_spec hx2 hy2 fu fu fun b hb => ?_
        obtain rfl : b = true := hb.2 rfl
        simp (maxSteps := 1000000) (disch := omega) only [stepS, reduceIte, Nat.reduceBEq, Nat.reduceEqDiff, tupleOf, stepT, stepX, heapR, lensR, Nat.reduceAdd, Nat.reduceLeDiff, i0, rDG, rEG, s1, s2, he1]
        refine ref03_ID_spec v2 (by omega) ?_
        simp (maxSteps := 1000000) (disch := omega) only [stepS, reduceIte, Nat.reduceBEq, Nat.reduceEqDiff, tupleOf, stepT, stepX, heapR, lensR, Nat.reduceAdd, Nat.reduceLeDiff, i0, rDG, rEG, s1, s2]
        refine wake hg2 ?_
        simp (maxSteps := 1000000) (disch := omega) only [stepS, reduceIte, Nat.reduceBEq, Nat.reduceEqDiff, tupleOf, stepT, stepX, heapR, lensR, Nat.reduceAdd, Nat.reduceLeDiff]
        exact hq _
      · generalize ((updE u : Nat) : Int) = fi
        have rDF := k4.row rD
        have rEF := k4.row rE
        have kAF := k3.trans k4
        simp (maxSteps := 1000000) (disch := omega) only [stepS, reduceIte, Nat.reduceBEq, Nat.reduceEqDiff, tupleOf, stepT, stepX, heapR, lensR, Nat.reduceAdd, Nat.reduceLeDiff, i0]
        refine update_Item_spec (hg.trans kAF) (hv.le kAF) (by omega) fun F2 z k5 hz => ?_
        obtain ⟨w, rfl, hw⟩ := hz
        obtain ⟨wp, wc, hws, _⟩ := hw.shape
        subst hws
        have kG : Le F2 ((F2 ++ [Blk.row [.string ⟨#[]⟩, .slice none 0 0] .own 0 true]).set F2.length (Blk.row [.string ⟨(shaF bs).toArray⟩, .slice wp bs.length wc] .own 0 true)) := by (repeat first | exact Le.refl _ | assumption | refine Le.app ?_ _ | refine Le.set ?_ ?_ | omega | (simp only [List.length_append, List.length_singleton, List.length_set]; omega))
        have k6 := kAF.trans (k5.trans kG)
        have k7 := k4.trans (k5.trans kG)
        have rDG := k5.row rDF
        have rEG := k5.row rEF
        have hDG := lt_of_get (rowAt_get rDG)
        have hEG := lt_of_get (rowAt_get rEG)
        have s1 := (hw.le kG).str
        have s2 := (hv.le k6).str
        have hx2 := hx1.le k7
        have hy2 := hy1.le k7
        have v2 := hv.le k6
        have hg2 := hg.trans k6
        simp (maxSteps := 1000000) (disch := omega) only [stepS, reduceIte, Nat.reduceBEq, Nat.reduceEqDiff, tupleOf, stepT, stepX, heapR, lensR, Nat.reduceAdd, Nat.reduceLeDiff, i0, hp2, hq3, rDG, rEG]
        refine ref15_Same_spec hx2 hy2 fu fu fun b hb => ?_
        obtain rfl : b = true := hb.2 rfl
        simp (maxSteps := 1000000) (disch := omega) only [stepS, reduceIte, Nat.reduceBEq, Nat.reduceEqDiff, tupleOf, stepT, stepX, heapR, lensR, Nat.reduceAdd, Nat.reduceLeDiff, i0, rDG, rEG, s1, s2, he1]
        refine ref03_ID_spec v2 (by omega) ?_
        simp (maxSteps := 1000000) (disch := omega) only [stepS, reduceIte, Nat.reduceBEq, Nat.reduceEqDiff, tupleOf, stepT, stepX, heapR, lensR, Nat.reduceAdd, Nat.reduceLeDiff, i0, rDG, rEG, s1, s2]
        refine wake hg2 ?_
        simp (maxSteps := 1000000) (disch := omega) only [stepS, reduceIte, Nat.reduceBEq, Nat.reduceEqDiff, tupleOf, stepT, stepX, heapR, lensR, Nat.reduceAdd, Nat.reduceLeDiff]
        exact hq _
  · simp (maxSteps := 1000000) (disch := omega) only [stepS, reduceIte, Nat.reduceBEq, Nat.reduceEqDiff, tupleOf, stepT, stepX, heapR, lensR, Nat.reduceAdd, Nat.reduceLeDiff, i0, hv.len]
    refine wake hg ?_
    simp (maxSteps := 1000000) (disch := omega) only [stepS, reduceIte, Nat.reduceBEq, Nat.reduceEqDiff, tupleOf, stepT, stepX, heapR, lensR, Nat.reduceAdd, Nat.reduceLeDiff]
    exact hq _
/-- The bytes that Put gives, if any; the ID that Of gives, if any. -/
noncomputable def txU (u : UpdV) : List UInt8 := if updE u = 0 then putU u else []
noncomputable def idU (u : UpdV) : ByteArray := if updE u = 0 then ⟨(shaF (putU u)).toArray⟩ else e0
theorem byt_nil (A : AH) : Byt A (.slice none 0 0) [] := ⟨rfl, .inl ⟨rfl, rfl⟩⟩
theorem OfU.item {A : AH} {y : Value} {u : UpdV} (h : OfU A y u) : ∃ p c, y = .agg #[.string (idU u), .slice p (txU u).length c] ∧ Byt A (.slice p (txU u).length c) (txU u) := by
  unfold OfU at h
  unfold idU txU
  split at h
  · rename_i he
    obtain ⟨t, rfl, ht⟩ := h
    obtain ⟨p, c, hs, _⟩ := ht.shape
    subst hs
    simp only [he, if_true]
    exact ⟨p, c, rfl, ht⟩
  · rename_i he
    simp only [he, if_false]
    exact ⟨none, 0, h, byt_nil A⟩
end Go.AS.C
