/- Lemmas for the proof of a given statement; no conditions. -/
import Derived.Test.YtbnedbhfephkeaaM5
namespace Go.AS.C
open Go Go.Proofs
set_option linter.unusedVariables false
set_option linter.unusedSimpArgs false
set_option maxRecDepth 10000

/-- The reference's cursor, as a value. -/
def refV (b : Value) (at_ : Nat) (bad : Bool) : Value := .agg #[b, ii at_, .bool bad]
def RefA (rb : Nat) (A : AH) (v : Value) (st : CurS) : Prop := match st with
  | none => v = refV (.slice none 0 0) 0 true
  | some r => ∃ (b : Value) (k : Nat) (all : List UInt8), v = refV b k false ∧ Byt A b all ∧ k ≤ all.length ∧ r = all.drop k ∧ all.length ≤ 2 ^ 40 ∧ ∀ j ∈ blkOf b, j < rb
variable {rb : Nat}
/-- Bytes that lie in a block ahead of rb. -/
def BytR (rb : Nat) (A : AH) (t : Value) (bs : List UInt8) : Prop := Byt A t bs ∧ ∀ j ∈ blkOf t, j < rb
theorem BytR.nil (rb : Nat) (A : AH) : BytR rb A (.slice none 0 0) [] := ⟨⟨rfl, .inl ⟨rfl, rfl⟩⟩, fun _ h => by cases h⟩
theorem RefA.le {A B : AH} {v : Value} {st : CurS} (h : RefA rb A v st) (hl : Le A B) : RefA rb B v st := by
  cases st with
  | none => exact h
  | some r =>
    obtain ⟨b, k, all, h1, h2, h3, h4⟩ := h
    exact ⟨b, k, all, h1, h2.le hl, h3, h4⟩
theorem RefA.kp {A B : AH} {i : Nat} {v : Value} {st : CurS} (h : RefA rb A v st) (hk : Keep A i B) {zc : List Value} {zst : St} {zex : Bool} (hi : A[i]? = some (.row zc zst 0 zex)) : RefA rb B v st := by
  cases st with
  | none => exact h
  | some r =>
    obtain ⟨b, k, all, h1, h2, h3, h4⟩ := h
    exact ⟨b, k, all, h1, h2.kp hk hi, h3, h4⟩
/-- What a reader leads to is as it was, as it stood there at the start. -/
theorem RefA.base {A0 A B : AH} {v : Value} {st : CurS} (hA : Le A0 A) (hB : Le A0 B) (h : RefA A0.length A v st) : RefA A0.length B v st := by
  cases st with
  | none => exact h
  | some r =>
    obtain ⟨b, k, all, h1, h2, h3, h4, h5, h6⟩ := h
    refine ⟨b, k, all, h1, h2.keepB fun j c hc hj => ?_, h3, h4, h5, h6⟩
    have hlt := h6 j hj
    obtain ⟨c0, hc0⟩ : ∃ c0, A0[j]? = some c0 := ⟨_, List.getElem?_eq_getElem hlt⟩
    rw [hA.get hc0] at hc
    rw [← hc]
    exact hB.get hc0
/-- Whatever state: the value's three cells. -/
theorem RefA.cells {A : AH} {v : Value} {st : CurS} (h : RefA rb A v st) : ∃ (b : Value) (k : Nat), v = refV b k st.isNone ∧ one1 b := by
  cases st with
  | none => exact ⟨_, _, h, one1_sl _ _ _⟩
  | some r =>
    obtain ⟨b, k, all, h1, h2, h3, h4⟩ := h
    obtain ⟨p, c, hs, _⟩ := h2.shape
    exact ⟨b, k, h1, by rw [hs]; exact one1_sl _ _ _⟩
def crow (b : Value) (k : Nat) (bad : Bool) : Blk := .row [b, ii k, .bool bad] .own 0 true
theorem box_ref {A : AH} {b : Value} {k : Nat} {bad : Bool} (hb : one1 b) : sBox A (refV b k bad) = some (.pointer (some ⟨A.length, 0, none⟩), A ++ [crow b k bad]) := by
  unfold sBox
  have e : (refV b k bad).cells.toList = [b, ii k, .bool bad] := rfl
  have h : ones [b, ii k, .bool bad] = true := by
    show (b.oneCell' && ((ii k).oneCell' && ((Value.bool bad).oneCell' && true))) = true
    rw [hb.2]; rfl
  rw [e, if_pos h]
  rfl
theorem ones3 {b : Value} {k : Nat} {bad : Bool} (hb : one1 b) : ones [b, ii k, .bool bad] = true := by
  show (b.oneCell' && ((ii k).oneCell' && ((Value.bool bad).oneCell' && true))) = true
  rw [hb.2]; rfl
theorem store_ref {A : AH} {i : Nat} {b b' : Value} {k k' : Nat} {bad bad' : Bool} (h : A[i]? = some (crow b k bad)) (hb : one1 b') : sStore A (.pointer (some ⟨i, 0, none⟩)) (refV b' k' bad') 3 = some (undef, A.set i (crow b' k' bad')) :=
  row_storen (ds := [b', ii k', .bool bad']) h rfl (ones3 hb) rfl
theorem load_ref {A : AH} {i : Nat} {b : Value} {k : Nat} {bad : Bool} (h : A[i]? = some (crow b k bad)) : sLoadn A (.pointer (some ⟨i, 0, none⟩)) 3 = some (refV b k bad, A) := row_loadn h (by simp) rfl
theorem load_b {A : AH} {i : Nat} {b : Value} {k : Nat} {bad : Bool} (h : A[i]? = some (crow b k bad)) : sLoad1 A (.pointer (some ⟨i, 0 + 0, none⟩)) = some (b, A) := row_load h (by simp) rfl
theorem load_k {A : AH} {i : Nat} {b : Value} {k : Nat} {bad : Bool} (h : A[i]? = some (crow b k bad)) : sLoad1 A (.pointer (some ⟨i, 0 + 1, none⟩)) = some (ii k, A) := row_load h (by simp) rfl
theorem load_d {A : AH} {i : Nat} {b : Value} {k : Nat} {bad : Bool} (h : A[i]? = some (crow b k bad)) : sLoad1 A (.pointer (some ⟨i, 0 + 2, none⟩)) = some (.bool bad, A) := row_load h (by simp) rfl
def znew : Blk := crow (.slice none 0 0) 0 false
theorem znew_eq : Blk.row [.slice none 0 0, .int .i64 0, .bool false] .own 0 true = znew := id rfl
theorem get_app {A : AH} {b : Blk} {r : List Blk} {i : Nat} (h : i = A.length) : (A ++ b :: r)[i]? = some b := by subst h; simp
theorem one1_nil : one1 (.slice none 0 0) := one1_sl _ _ _

theorem ref01_spoilt_spec {A : AH} {v : Value} {st : CurS} {Q : Value → AH → Prop} (hv : RefA rb A v st) (hq : ∀ A', Le A A' → Q (refV (.slice none 0 0) 0 true) A') : ACalls 0 Try.prog chantryref01_spoilt [v] Q A := by
  refine ACalls.of_fits mixed fits_chantryref01_spoilt rfl ?_
  unfold ic_chantryref01_spoilt
  have i0 : initA [v] 0 = v := rfl
  generalize initA [v] = a at i0
  obtain ⟨b, k, rfl, hb⟩ := hv.cells
  have g1 : (A ++ [crow b k st.isNone] ++ [znew])[(A ++ [crow b k st.isNone]).length]? = some znew := get_last _ _
  have hbd : ∀ A, sBuild A [.slice none 0 0, .int .i64 0, .bool false] [(2, 1, .bool true)] = some (refV (.slice none 0 0) 0 true, A) := fun A => rfl
  have s1 := store_ref (b' := .slice none 0 0) (k' := 0) (bad' := true) g1 one1_nil
  have l1 := load_ref (set_get (b' := crow (.slice none 0 0) 0 true) g1)
  simp (maxSteps := 1000000) (disch := omega) only [W_seq, W_ops, W_draw, W_block, W_skip, W_exit, W_ret, sq_normal, sq_ret, sq_exit, W_condv, condW_true, condW_false, thenA_normal, thenA_ret, thenA_exit, if_true, if_false, Bool.false_eq_true, decide_eq_true_eq, inBlockA_normal, inBlockA_ret, inBlockA_same, inBlockA_other, noGotoA_normal, noGotoA_ret, noGotoA_exit, Wops_nil, Wops_cons, Wops_le, Wops_guard, Wops_guardle, ok1_some, okV_some, kont_at, kontL_at, gdB_true, gdB_false, decide_true, decide_false, ev_tmp, ev_const, ev_func, ev_global, put_some, put_none, upd_same, upd_at, gd_bt, gd_bf, Bool.not_true, Bool.not_false, pick_true, pick_false, pick_b, not_b, W1_mov, W1_pick, W1_new, W1_box, W1_build, W1_lit, W1_load1, W1_loadn, W1_store, W1_nilc, W1_bin, W1_un, W1_conv, W1_b2s, W1_s2b, W1_field1, W1_fieldn, W1_faddr, W1_iaddr, W1_iarr, W1_idxs, W1_idxa1, W1_idxan, W1_sls, W1_sll, W1_sla, W1_mk, W1_ext, W1_fn, W1_ifc, W1_lens, W1_lenc, W1_app, W1_apps, W1_copy, W1_mn, W1_mx, W1_isnil, W1_strc, W1_beq, W1_mks, W1_capn, W1_appz, W1_eqagg, W1_call, W1_calld, callD_func, List.nil_append, List.append_nil, List.map_cons, List.map_nil, Option.map_some, Option.map_none, reduceIte, Option.some.injEq, exists_eq_left', Nat.reduceBEq, iv_ii, postA_ret, postA_normal, resVs_nil, resVs_tmp, resVs_one, resVs_many, Option.bind_some, tupleOf, Int.toNat_natCast, true_and, and_true, Nat.reduceEqDiff, RdOk_nil, RdOk_refl, rd_load1, rd_loadn, rd_b2s, rd_sll, rd_sla, rd_call, rd_calld, rd_new, rd_box, rd_lit, rd_store, rd_s2b, rd_mk, rd_app, rd_apps, rd_appz, rd_mks, rd_copy, blk_ptr, blk_sl, blk_nil, List.cons_append, addI, subI, mulI, quoI, remI, shrI, eqlI, neqI, eqS, neS, beqB, bneB, lenS, lenV, pickB, ext0, ext1, ext2, ext30, ext31, binA_lss, binA_leq, binA_gtr, binA_geq, convI, decide_eq_true, decide_eq_false, gd_undef, W_scope, mnI, mxI, inBlockA_ne, dec_refl, dec_nrefl, beq_self_eq_true, ite_true, ite_false, i0, box_ref hb, znew_eq, hbd, s1, l1]
  refine hq _ ?_
  have k1 : Le A (A ++ [crow b k st.isNone]) := .push _ _
  exact (k1.trans (.push _ _)).set (by simp)

theorem ref01_From_spec {A : AH} {v : Value} {bs : List UInt8} {Q : Value → AH → Prop} (hv : Byt A v bs) (hl : bs.length ≤ 2 ^ 40) (hq : ∀ A' u, Le A A' → RefA A.length A' u (some bs) → Q u A') : ACalls 0 Try.prog chantryref01_From [v] Q A := by
  refine ACalls.of_fits mixed fits_chantryref01_From rfl ?_
  unfold ic_chantryref01_From
  have i0 : initA [v] 0 = v := rfl
  generalize initA [v] = a at i0
  have hb1 : one1 v := by obtain ⟨p, c, hs, _⟩ := hv.shape; rw [hs]; exact one1_sl _ _ _
  have g1 : (A ++ [znew])[A.length]? = some znew := get_last _ _
  have hbd : ∀ A, sBuild A [.slice none 0 0, .int .i64 0, .bool false] [(0, 1, v)] = some (refV v 0 false, A) := fun A => by
    obtain ⟨p, c, hs, _⟩ := hv.shape
    rw [hs]; rfl
  have s1 := store_ref (b' := v) (k' := 0) (bad' := false) g1 hb1
  have l1 := load_ref (set_get (b' := crow v 0 false) g1)
  simp (maxSteps := 1000000) (disch := omega) only [W_seq, W_ops, W_draw, W_block, W_skip, W_exit, W_ret, sq_normal, sq_ret, sq_exit, W_condv, condW_true, condW_false, thenA_normal, thenA_ret, thenA_exit, if_true, if_false, Bool.false_eq_true, decide_eq_true_eq, inBlockA_normal, inBlockA_ret, inBlockA_same, inBlockA_other, noGotoA_normal, noGotoA_ret, noGotoA_exit, Wops_nil, Wops_cons, Wops_le, Wops_guard, Wops_guardle, ok1_some, okV_some, kont_at, kontL_at, gdB_true, gdB_false, decide_true, decide_false, ev_tmp, ev_const, ev_func, ev_global, put_some, put_none, upd_same, upd_at, gd_bt, gd_bf, Bool.not_true, Bool.not_false, pick_true, pick_false, pick_b, not_b, W1_mov, W1_pick, W1_new, W1_box, W1_build, W1_lit, W1_load1, W1_loadn, W1_store, W1_nilc, W1_bin, W1_un, W1_conv, W1_b2s, W1_s2b, W1_field1, W1_fieldn, W1_faddr, W1_iaddr, W1_iarr, W1_idxs, W1_idxa1, W1_idxan, W1_sls, W1_sll, W1_sla, W1_mk, W1_ext, W1_fn, W1_ifc, W1_lens, W1_lenc, W1_app, W1_apps, W1_copy, W1_mn, W1_mx, W1_isnil, W1_strc, W1_beq, W1_mks, W1_capn, W1_appz, W1_eqagg, W1_call, W1_calld, callD_func, List.nil_append, List.append_nil, List.map_cons, List.map_nil, Option.map_some, Option.map_none, reduceIte, Option.some.injEq, exists_eq_left', Nat.reduceBEq, iv_ii, postA_ret, postA_normal, resVs_nil, resVs_tmp, resVs_one, resVs_many, Option.bind_some, tupleOf, Int.toNat_natCast, true_and, and_true, Nat.reduceEqDiff, RdOk_nil, RdOk_refl, rd_load1, rd_loadn, rd_b2s, rd_sll, rd_sla, rd_call, rd_calld, rd_new, rd_box, rd_lit, rd_store, rd_s2b, rd_mk, rd_app, rd_apps, rd_appz, rd_mks, rd_copy, blk_ptr, blk_sl, blk_nil, List.cons_append, addI, subI, mulI, quoI, remI, shrI, eqlI, neqI, eqS, neS, beqB, bneB, lenS, lenV, pickB, ext0, ext1, ext2, ext30, ext31, binA_lss, binA_leq, binA_gtr, binA_geq, convI, decide_eq_true, decide_eq_false, gd_undef, W_scope, mnI, mxI, inBlockA_ne, dec_refl, dec_nrefl, beq_self_eq_true, ite_true, ite_false, i0, znew_eq, hbd, s1, l1]
  have k1 : Le A ((A ++ [znew]).set A.length (crow v 0 false)) := (Le.push A znew).set (Nat.le_refl _)
  exact hq _ _ k1 ⟨v, 0, bs, rfl, hv.le k1, Nat.zero_le _, rfl, hl, hv.lt⟩

/-- The reference's cursor taken, as a state. -/
theorem ref01_Take_spec {A : AH} {v : Value} {st : CurS} {n : Int} {Q : Value → AH → Prop} (hv : RefA rb A v st) (hn : -9223372036854775808 ≤ n ∧ n < 4611686018427387904) (hq : ∀ A' u t, Le A A' → RefA rb A' u (takeC st n).1 → BytR rb A' t (takeC st n).2 → Q (.tuple #[u, t]) A') :
    ACalls 0 Try.prog chantryref01_Take [v, ii n] Q A := by
  refine ACalls.of_fits mixed fits_chantryref01_Take rfl ?_
  unfold ic_chantryref01_Take
  have i0 : initA [v, ii n] 0 = v := rfl
  have i1 : initA [v, ii n] 1 = ii n := rfl
  generalize initA [v, ii n] = a at i0 i1
  obtain ⟨b, k, rfl, hb⟩ := hv.cells
  obtain ⟨d, hd⟩ : ∃ d, st.isNone = d := ⟨_, rfl⟩
  rw [hd] at hv i0
  have k1 : Le A (A ++ [crow b k d]) := .push _ _
  have k2 : Le A (A ++ [crow b k d] ++ [znew]) := k1.trans (.push _ _)
  have g1 : (A ++ [crow b k d] ++ [znew])[A.length]? = some (crow b k d) := by simp
  have g2 : (A ++ [crow b k d] ++ [znew])[(A ++ [crow b k d]).length]? = some znew := get_last _ _
  generalize hA2 : A ++ [crow b k d] ++ [znew] = A2 at k2 g1 g2
  generalize hp : (A ++ [crow b k d]).length = p at g2
  have hpA : A.length ≤ p := by subst hp; simp
  have tail : ∀ A3, Le A2 A3 → sStore A3 (.pointer (some ⟨p, 0, none⟩)) (refV (.slice none 0 0) 0 true) 3 = some (undef, A3.set p (crow (.slice none 0 0) 0 true)) ∧ sLoadn (A3.set p (crow (.slice none 0 0) 0 true)) (.pointer (some ⟨p, 0, none⟩)) 3 = some (refV (.slice none 0 0) 0 true, A3.set p (crow (.slice none 0 0) 0 true)) ∧ Le A (A3.set p (crow (.slice none 0 0) 0 true)) := by
    intro A3 h3
    have g3 := h3.get g2
    exact ⟨store_ref g3 one1_nil, load_ref (set_get g3), (k2.trans h3).set hpA⟩
  cases st with
  | none =>
    obtain rfl : d = true := hd.symm
    simp (maxSteps := 1000000) (disch := omega) only [W_seq, W_ops, W_draw, W_block, W_skip, W_exit, W_ret, sq_normal, sq_ret, sq_exit, W_condv, condW_true, condW_false, thenA_normal, thenA_ret, thenA_exit, if_true, if_false, Bool.false_eq_true, decide_eq_true_eq, inBlockA_normal, inBlockA_ret, inBlockA_same, inBlockA_other, noGotoA_normal, noGotoA_ret, noGotoA_exit, Wops_nil, Wops_cons, Wops_le, Wops_guard, Wops_guardle, ok1_some, okV_some, kont_at, kontL_at, gdB_true, gdB_false, decide_true, decide_false, ev_tmp, ev_const, ev_func, ev_global, put_some, put_none, upd_same, upd_at, gd_bt, gd_bf, Bool.not_true, Bool.not_false, pick_true, pick_false, pick_b, not_b, W1_mov, W1_pick, W1_new, W1_box, W1_build, W1_lit, W1_load1, W1_loadn, W1_store, W1_nilc, W1_bin, W1_un, W1_conv, W1_b2s, W1_s2b, W1_field1, W1_fieldn, W1_faddr, W1_iaddr, W1_iarr, W1_idxs, W1_idxa1, W1_idxan, W1_sls, W1_sll, W1_sla, W1_mk, W1_ext, W1_fn, W1_ifc, W1_lens, W1_lenc, W1_app, W1_apps, W1_copy, W1_mn, W1_mx, W1_isnil, W1_strc, W1_beq, W1_mks, W1_capn, W1_appz, W1_eqagg, W1_call, W1_calld, callD_func, List.nil_append, List.append_nil, List.map_cons, List.map_nil, Option.map_some, Option.map_none, reduceIte, Option.some.injEq, exists_eq_left', Nat.reduceBEq, iv_ii, postA_ret, postA_normal, resVs_nil, resVs_tmp, resVs_one, resVs_many, Option.bind_some, tupleOf, Int.toNat_natCast, true_and, and_true, Nat.reduceEqDiff, RdOk_nil, RdOk_refl, rd_load1, rd_loadn, rd_b2s, rd_sll, rd_sla, rd_call, rd_calld, rd_new, rd_box, rd_lit, rd_store, rd_s2b, rd_mk, rd_app, rd_apps, rd_appz, rd_mks, rd_copy, blk_ptr, blk_sl, blk_nil, List.cons_append, addI, subI, mulI, quoI, remI, shrI, eqlI, neqI, eqS, neS, beqB, bneB, lenS, lenV, pickB, ext0, ext1, ext2, ext30, ext31, binA_lss, binA_leq, binA_gtr, binA_geq, convI, decide_eq_true, decide_eq_false, gd_undef, W_scope, mnI, mxI, inBlockA_ne, dec_refl, dec_nrefl, beq_self_eq_true, ite_true, ite_false, i0, i1, box_ref hb, znew_eq, hA2, hp, faddr_ptr, load_d g1, load_ref g1]
    refine ref01_spoilt_spec (hv.le k2) fun A3 h3 => ?_
    obtain ⟨t1, t2, t3⟩ := tail A3 h3
    simp (maxSteps := 1000000) (disch := omega) only [W_seq, W_ops, W_draw, W_block, W_skip, W_exit, W_ret, sq_normal, sq_ret, sq_exit, W_condv, condW_true, condW_false, thenA_normal, thenA_ret, thenA_exit, if_true, if_false, Bool.false_eq_true, decide_eq_true_eq, inBlockA_normal, inBlockA_ret, inBlockA_same, inBlockA_other, noGotoA_normal, noGotoA_ret, noGotoA_exit, Wops_nil, Wops_cons, Wops_le, Wops_guard, Wops_guardle, ok1_some, okV_some, kont_at, kontL_at, gdB_true, gdB_false, decide_true, decide_false, ev_tmp, ev_const, ev_func, ev_global, put_some, put_none, upd_same, upd_at, gd_bt, gd_bf, Bool.not_true, Bool.not_false, pick_true, pick_false, pick_b, not_b, W1_mov, W1_pick, W1_new, W1_box, W1_build, W1_lit, W1_load1, W1_loadn, W1_store, W1_nilc, W1_bin, W1_un, W1_conv, W1_b2s, W1_s2b, W1_field1, W1_fieldn, W1_faddr, W1_iaddr, W1_iarr, W1_idxs, W1_idxa1, W1_idxan, W1_sls, W1_sll, W1_sla, W1_mk, W1_ext, W1_fn, W1_ifc, W1_lens, W1_lenc, W1_app, W1_apps, W1_copy, W1_mn, W1_mx, W1_isnil, W1_strc, W1_beq, W1_mks, W1_capn, W1_appz, W1_eqagg, W1_call, W1_calld, callD_func, List.nil_append, List.append_nil, List.map_cons, List.map_nil, Option.map_some, Option.map_none, reduceIte, Option.some.injEq, exists_eq_left', Nat.reduceBEq, iv_ii, postA_ret, postA_normal, resVs_nil, resVs_tmp, resVs_one, resVs_many, Option.bind_some, tupleOf, Int.toNat_natCast, true_and, and_true, Nat.reduceEqDiff, RdOk_nil, RdOk_refl, rd_load1, rd_loadn, rd_b2s, rd_sll, rd_sla, rd_call, rd_calld, rd_new, rd_box, rd_lit, rd_store, rd_s2b, rd_mk, rd_app, rd_apps, rd_appz, rd_mks, rd_copy, blk_ptr, blk_sl, blk_nil, List.cons_append, addI, subI, mulI, quoI, remI, shrI, eqlI, neqI, eqS, neS, beqB, bneB, lenS, lenV, pickB, ext0, ext1, ext2, ext30, ext31, binA_lss, binA_leq, binA_gtr, binA_geq, convI, decide_eq_true, decide_eq_false, gd_undef, W_scope, mnI, mxI, inBlockA_ne, dec_refl, dec_nrefl, beq_self_eq_true, ite_true, ite_false, t1, t2]
    exact hq _ _ _ t3 rfl (BytR.nil _ _)
  | some r =>
    obtain rfl : d = false := hd.symm
    obtain ⟨b', k', all, e, hby, hk, rfl, h40⟩ := hv
    have hv : RefA rb A (refV b k false) (some (all.drop k')) := ⟨b', k', all, e, hby, hk, rfl, h40⟩
    unfold refV at e
    injection e with e
    simp only [Array.mk.injEq, List.cons.injEq, ii, Value.int.injEq, and_true, true_and] at e
    obtain ⟨rfl, e⟩ := e
    obtain rfl : k = k' := by omega
    have hlen := (hby.le k2).len
    by_cases h0 : n < 0
    · have et : takeC (some (all.drop k)) n = (none, []) := by unfold takeC; simp only; rw [if_neg (by omega)]
      rw [et] at hq
      simp (maxSteps := 1000000) (disch := omega) only [W_seq, W_ops, W_draw, W_block, W_skip, W_exit, W_ret, sq_normal, sq_ret, sq_exit, W_condv, condW_true, condW_false, thenA_normal, thenA_ret, thenA_exit, if_true, if_false, Bool.false_eq_true, decide_eq_true_eq, inBlockA_normal, inBlockA_ret, inBlockA_same, inBlockA_other, noGotoA_normal, noGotoA_ret, noGotoA_exit, Wops_nil, Wops_cons, Wops_le, Wops_guard, Wops_guardle, ok1_some, okV_some, kont_at, kontL_at, gdB_true, gdB_false, decide_true, decide_false, ev_tmp, ev_const, ev_func, ev_global, put_some, put_none, upd_same, upd_at, gd_bt, gd_bf, Bool.not_true, Bool.not_false, pick_true, pick_false, pick_b, not_b, W1_mov, W1_pick, W1_new, W1_box, W1_build, W1_lit, W1_load1, W1_loadn, W1_store, W1_nilc, W1_bin, W1_un, W1_conv, W1_b2s, W1_s2b, W1_field1, W1_fieldn, W1_faddr, W1_iaddr, W1_iarr, W1_idxs, W1_idxa1, W1_idxan, W1_sls, W1_sll, W1_sla, W1_mk, W1_ext, W1_fn, W1_ifc, W1_lens, W1_lenc, W1_app, W1_apps, W1_copy, W1_mn, W1_mx, W1_isnil, W1_strc, W1_beq, W1_mks, W1_capn, W1_appz, W1_eqagg, W1_call, W1_calld, callD_func, List.nil_append, List.append_nil, List.map_cons, List.map_nil, Option.map_some, Option.map_none, reduceIte, Option.some.injEq, exists_eq_left', Nat.reduceBEq, iv_ii, postA_ret, postA_normal, resVs_nil, resVs_tmp, resVs_one, resVs_many, Option.bind_some, tupleOf, Int.toNat_natCast, true_and, and_true, Nat.reduceEqDiff, RdOk_nil, RdOk_refl, rd_load1, rd_loadn, rd_b2s, rd_sll, rd_sla, rd_call, rd_calld, rd_new, rd_box, rd_lit, rd_store, rd_s2b, rd_mk, rd_app, rd_apps, rd_appz, rd_mks, rd_copy, blk_ptr, blk_sl, blk_nil, List.cons_append, addI, subI, mulI, quoI, remI, shrI, eqlI, neqI, eqS, neS, beqB, bneB, lenS, lenV, pickB, ext0, ext1, ext2, ext30, ext31, binA_lss, binA_leq, binA_gtr, binA_geq, convI, decide_eq_true, decide_eq_false, gd_undef, W_scope, mnI, mxI, inBlockA_ne, dec_refl, dec_nrefl, beq_self_eq_true, ite_true, ite_false, i0, i1, box_ref hb, znew_eq, hA2, hp, faddr_ptr, load_d g1, load_ref g1, load_b g1, load_k g1, hlen]
      refine ref01_spoilt_spec (hv.le k2) fun A3 h3 => ?_
      obtain ⟨t1, t2, t3⟩ := tail A3 h3
      simp (maxSteps := 1000000) (disch := omega) only [W_seq, W_ops, W_draw, W_block, W_skip, W_exit, W_ret, sq_normal, sq_ret, sq_exit, W_condv, condW_true, condW_false, thenA_normal, thenA_ret, thenA_exit, if_true, if_false, Bool.false_eq_true, decide_eq_true_eq, inBlockA_normal, inBlockA_ret, inBlockA_same, inBlockA_other, noGotoA_normal, noGotoA_ret, noGotoA_exit, Wops_nil, Wops_cons, Wops_le, Wops_guard, Wops_guardle, ok1_some, okV_some, kont_at, kontL_at, gdB_true, gdB_false, decide_true, decide_false, ev_tmp, ev_const, ev_func, ev_global, put_some, put_none, upd_same, upd_at, gd_bt, gd_bf, Bool.not_true, Bool.not_false, pick_true, pick_false, pick_b, not_b, W1_mov, W1_pick, W1_new, W1_box, W1_build, W1_lit, W1_load1, W1_loadn, W1_store, W1_nilc, W1_bin, W1_un, W1_conv, W1_b2s, W1_s2b, W1_field1, W1_fieldn, W1_faddr, W1_iaddr, W1_iarr, W1_idxs, W1_idxa1, W1_idxan, W1_sls, W1_sll, W1_sla, W1_mk, W1_ext, W1_fn, W1_ifc, W1_lens, W1_lenc, W1_app, W1_apps, W1_copy, W1_mn, W1_mx, W1_isnil, W1_strc, W1_beq, W1_mks, W1_capn, W1_appz, W1_eqagg, W1_call, W1_calld, callD_func, List.nil_append, List.append_nil, List.map_cons, List.map_nil, Option.map_some, Option.map_none, reduceIte, Option.some.injEq, exists_eq_left', Nat.reduceBEq, iv_ii, postA_ret, postA_normal, resVs_nil, resVs_tmp, resVs_one, resVs_many, Option.bind_some, tupleOf, Int.toNat_natCast, true_and, and_true, Nat.reduceEqDiff, RdOk_nil, RdOk_refl, rd_load1, rd_loadn, rd_b2s, rd_sll, rd_sla, rd_call, rd_calld, rd_new, rd_box, rd_lit, rd_store, rd_s2b, rd_mk, rd_app, rd_apps, rd_appz, rd_mks, rd_copy, blk_ptr, blk_sl, blk_nil, List.cons_append, addI, subI, mulI, quoI, remI, shrI, eqlI, neqI, eqS, neS, beqB, bneB, lenS, lenV, pickB, ext0, ext1, ext2, ext30, ext31, binA_lss, binA_leq, binA_gtr, binA_geq, convI, decide_eq_true, decide_eq_false, gd_undef, W_scope, mnI, mxI, inBlockA_ne, dec_refl, dec_nrefl, beq_self_eq_true, ite_true, ite_false, t1, t2]
      exact hq _ _ _ t3 rfl (BytR.nil _ _)
    · by_cases hbig : n > (all.length : Int) - k
      · have et : takeC (some (all.drop k)) n = (none, []) := by unfold takeC; simp only [List.length_drop]; rw [if_neg (by omega)]
        rw [et] at hq
        simp (maxSteps := 1000000) (disch := omega) only [W_seq, W_ops, W_draw, W_block, W_skip, W_exit, W_ret, sq_normal, sq_ret, sq_exit, W_condv, condW_true, condW_false, thenA_normal, thenA_ret, thenA_exit, if_true, if_false, Bool.false_eq_true, decide_eq_true_eq, inBlockA_normal, inBlockA_ret, inBlockA_same, inBlockA_other, noGotoA_normal, noGotoA_ret, noGotoA_exit, Wops_nil, Wops_cons, Wops_le, Wops_guard, Wops_guardle, ok1_some, okV_some, kont_at, kontL_at, gdB_true, gdB_false, decide_true, decide_false, ev_tmp, ev_const, ev_func, ev_global, put_some, put_none, upd_same, upd_at, gd_bt, gd_bf, Bool.not_true, Bool.not_false, pick_true, pick_false, pick_b, not_b, W1_mov, W1_pick, W1_new, W1_box, W1_build, W1_lit, W1_load1, W1_loadn, W1_store, W1_nilc, W1_bin, W1_un, W1_conv, W1_b2s, W1_s2b, W1_field1, W1_fieldn, W1_faddr, W1_iaddr, W1_iarr, W1_idxs, W1_idxa1, W1_idxan, W1_sls, W1_sll, W1_sla, W1_mk, W1_ext, W1_fn, W1_ifc, W1_lens, W1_lenc, W1_app, W1_apps, W1_copy, W1_mn, W1_mx, W1_isnil, W1_strc, W1_beq, W1_mks, W1_capn, W1_appz, W1_eqagg, W1_call, W1_calld, callD_func, List.nil_append, List.append_nil, List.map_cons, List.map_nil, Option.map_some, Option.map_none, reduceIte, Option.some.injEq, exists_eq_left', Nat.reduceBEq, iv_ii, postA_ret, postA_normal, resVs_nil, resVs_tmp, resVs_one, resVs_many, Option.bind_some, tupleOf, Int.toNat_natCast, true_and, and_true, Nat.reduceEqDiff, RdOk_nil, RdOk_refl, rd_load1, rd_loadn, rd_b2s, rd_sll, rd_sla, rd_call, rd_calld, rd_new, rd_box, rd_lit, rd_store, rd_s2b, rd_mk, rd_app, rd_apps, rd_appz, rd_mks, rd_copy, blk_ptr, blk_sl, blk_nil, List.cons_append, addI, subI, mulI, quoI, remI, shrI, eqlI, neqI, eqS, neS, beqB, bneB, lenS, lenV, pickB, ext0, ext1, ext2, ext30, ext31, binA_lss, binA_leq, binA_gtr, binA_geq, convI, decide_eq_true, decide_eq_false, gd_undef, W_scope, mnI, mxI, inBlockA_ne, dec_refl, dec_nrefl, beq_self_eq_true, ite_true, ite_false, i0, i1, box_ref hb, znew_eq, hA2, hp, faddr_ptr, load_d g1, load_ref g1, load_b g1, load_k g1, hlen]
        refine ref01_spoilt_spec (hv.le k2) fun A3 h3 => ?_
        obtain ⟨t1, t2, t3⟩ := tail A3 h3
        simp (maxSteps := 1000000) (disch := omega) only [W_seq, W_ops, W_draw, W_block, W_skip, W_exit, W_ret, sq_normal, sq_ret, sq_exit, W_condv, condW_true, condW_false, thenA_normal, thenA_ret, thenA_exit, if_true, if_false, Bool.false_eq_true, decide_eq_true_eq, inBlockA_normal, inBlockA_ret, inBlockA_same, inBlockA_other, noGotoA_normal, noGotoA_ret, noGotoA_exit, Wops_nil, Wops_cons, Wops_le, Wops_guard, Wops_guardle, ok1_some, okV_some, kont_at, kontL_at, gdB_true, gdB_false, decide_true, decide_false, ev_tmp, ev_const, ev_func, ev_global, put_some, put_none, upd_same, upd_at, gd_bt, gd_bf, Bool.not_true, Bool.not_false, pick_true, pick_false, pick_b, not_b, W1_mov, W1_pick, W1_new, W1_box, W1_build, W1_lit, W1_load1, W1_loadn, W1_store, W1_nilc, W1_bin, W1_un, W1_conv, W1_b2s, W1_s2b, W1_field1, W1_fieldn, W1_faddr, W1_iaddr, W1_iarr, W1_idxs, W1_idxa1, W1_idxan, W1_sls, W1_sll, W1_sla, W1_mk, W1_ext, W1_fn, W1_ifc, W1_lens, W1_lenc, W1_app, W1_apps, W1_copy, W1_mn, W1_mx, W1_isnil, W1_strc, W1_beq, W1_mks, W1_capn, W1_appz, W1_eqagg, W1_call, W1_calld, callD_func, List.nil_append, List.append_nil, List.map_cons, List.map_nil, Option.map_some, Option.map_none, reduceIte, Option.some.injEq, exists_eq_left', Nat.reduceBEq, iv_ii, postA_ret, postA_normal, resVs_nil, resVs_tmp, resVs_one, resVs_many, Option.bind_some, tupleOf, Int.toNat_natCast, true_and, and_true, Nat.reduceEqDiff, RdOk_nil, RdOk_refl, rd_load1, rd_loadn, rd_b2s, rd_sll, rd_sla, rd_call, rd_calld, rd_new, rd_box, rd_lit, rd_store, rd_s2b, rd_mk, rd_app, rd_apps, rd_appz, rd_mks, rd_copy, blk_ptr, blk_sl, blk_nil, List.cons_append, addI, subI, mulI, quoI, remI, shrI, eqlI, neqI, eqS, neS, beqB, bneB, lenS, lenV, pickB, ext0, ext1, ext2, ext30, ext31, binA_lss, binA_leq, binA_gtr, binA_geq, convI, decide_eq_true, decide_eq_false, gd_undef, W_scope, mnI, mxI, inBlockA_ne, dec_refl, dec_nrefl, beq_self_eq_true, ite_true, ite_false, t1, t2]
        exact hq _ _ _ t3 rfl (BytR.nil _ _)
      · obtain ⟨m, rfl⟩ : ∃ m : Nat, n = m := ⟨n.toNat, by omega⟩
        have et : takeC (some (all.drop k)) m = (some (all.drop (k + m)), (all.drop k).take m) := by
          unfold takeC; simp only [List.length_drop, Int.toNat_natCast, List.drop_drop]; rw [if_pos ⟨by omega, by omega⟩]
        rw [et] at hq
        obtain ⟨u, u1, u2⟩ := (hby.le k2).cut (lo := some (.int .i64 (k : Int))) (hi := some (.int .i64 ((k : Int) + m))) (l := k) (k := k + m) (by omega) (by omega) (fun c hc => bnd_both (l := k) (k := k + m) (by omega) (by omega))
        have hbd : sBuild A2 [.slice none 0 0, .int .i64 0, .bool false] [(0, 1, b), (1, 1, .int .i64 ((k : Int) + m))] = some (refV b (k + m) false, A2) := by
          obtain ⟨p, c, hs, _⟩ := hby.shape
          rw [hs]; rfl
        have s1 := store_ref (b' := b) (k' := k + m) (bad' := false) g2 hb
        have l1 := load_ref (set_get (b' := crow b (k + m) false) g2)
        have kk : Keep A2 p (A2.set p (crow b (k + m) false)) := Keep.set _ _ _
        have kA : Le A (A2.set p (crow b (k + m) false)) := k2.set hpA
        simp (maxSteps := 1000000) (disch := omega) only [W_seq, W_ops, W_draw, W_block, W_skip, W_exit, W_ret, sq_normal, sq_ret, sq_exit, W_condv, condW_true, condW_false, thenA_normal, thenA_ret, thenA_exit, if_true, if_false, Bool.false_eq_true, decide_eq_true_eq, inBlockA_normal, inBlockA_ret, inBlockA_same, inBlockA_other, noGotoA_normal, noGotoA_ret, noGotoA_exit, Wops_nil, Wops_cons, Wops_le, Wops_guard, Wops_guardle, ok1_some, okV_some, kont_at, kontL_at, gdB_true, gdB_false, decide_true, decide_false, ev_tmp, ev_const, ev_func, ev_global, put_some, put_none, upd_same, upd_at, gd_bt, gd_bf, Bool.not_true, Bool.not_false, pick_true, pick_false, pick_b, not_b, W1_mov, W1_pick, W1_new, W1_box, W1_build, W1_lit, W1_load1, W1_loadn, W1_store, W1_nilc, W1_bin, W1_un, W1_conv, W1_b2s, W1_s2b, W1_field1, W1_fieldn, W1_faddr, W1_iaddr, W1_iarr, W1_idxs, W1_idxa1, W1_idxan, W1_sls, W1_sll, W1_sla, W1_mk, W1_ext, W1_fn, W1_ifc, W1_lens, W1_lenc, W1_app, W1_apps, W1_copy, W1_mn, W1_mx, W1_isnil, W1_strc, W1_beq, W1_mks, W1_capn, W1_appz, W1_eqagg, W1_call, W1_calld, callD_func, List.nil_append, List.append_nil, List.map_cons, List.map_nil, Option.map_some, Option.map_none, reduceIte, Option.some.injEq, exists_eq_left', Nat.reduceBEq, iv_ii, postA_ret, postA_normal, resVs_nil, resVs_tmp, resVs_one, resVs_many, Option.bind_some, tupleOf, Int.toNat_natCast, true_and, and_true, Nat.reduceEqDiff, RdOk_nil, RdOk_refl, rd_load1, rd_loadn, rd_b2s, rd_sll, rd_sla, rd_call, rd_calld, rd_new, rd_box, rd_lit, rd_store, rd_s2b, rd_mk, rd_app, rd_apps, rd_appz, rd_mks, rd_copy, blk_ptr, blk_sl, blk_nil, List.cons_append, addI, subI, mulI, quoI, remI, shrI, eqlI, neqI, eqS, neS, beqB, bneB, lenS, lenV, pickB, ext0, ext1, ext2, ext30, ext31, binA_lss, binA_leq, binA_gtr, binA_geq, convI, decide_eq_true, decide_eq_false, gd_undef, W_scope, mnI, mxI, inBlockA_ne, dec_refl, dec_nrefl, beq_self_eq_true, ite_true, ite_false, i0, i1, box_ref hb, znew_eq, hA2, hp, faddr_ptr, load_d g1, load_ref g1, load_b g1, load_k g1, hlen, hbd, u1, s1, l1]
        refine ⟨?_, hq _ _ _ kA ⟨b, k + m, all, rfl, hby.le kA, by omega, rfl, h40⟩ ?_⟩
        · refine kk.rd ?_
          intro j hj
          simp only [List.mem_append, List.mem_cons, List.not_mem_nil, or_false] at hj
          have hne : A.length ≠ p := by subst hp; simp
          have hbb := Sl.blk (hby.le k2) g2 (by decide)
          rcases hj with hj | hj | hj | hj <;> first | exact hbb j hj | (subst hj; exact hne)
        · have e1 : k + m - k = m := by omega
          rw [e1] at u2
          exact ⟨u2.kp kk g2, fun j hj => h40.2 j (sll_blk u1 j hj)⟩

theorem ref01_Num_spec {A : AH} {v : Value} {st : CurS} {Q : Value → AH → Prop} (hv : RefA rb A v st) (hq : ∀ A' u, Le A A' → RefA rb A' u (numC st).1 → Q (.tuple #[u, ii ((numC st).2 : Nat)]) A') : ACalls 0 Try.prog chantryref01_Num [v] Q A := by
  refine ACalls.of_fits mixed fits_chantryref01_Num rfl ?_
  unfold ic_chantryref01_Num
  have i0 : initA [v] 0 = v := rfl
  generalize initA [v] = a at i0
  obtain ⟨b, k, rfl, hb⟩ := hv.cells
  obtain ⟨d, hd⟩ : ∃ d, st.isNone = d := ⟨_, rfl⟩
  rw [hd] at hv i0
  have k1 : Le A (A ++ [crow b k d]) := .push _ _
  have k2 : Le A (A ++ [crow b k d] ++ [znew]) := k1.trans (.push _ _)
  have g1 : (A ++ [crow b k d] ++ [znew])[A.length]? = some (crow b k d) := by simp
  have g2 : (A ++ [crow b k d] ++ [znew])[(A ++ [crow b k d]).length]? = some znew := get_last _ _
  generalize hA2 : A ++ [crow b k d] ++ [znew] = A2 at k2 g1 g2
  generalize hp : (A ++ [crow b k d]).length = p at g2
  have hpA : A.length ≤ p := by subst hp; simp
  have tail : ∀ (A3 : AH) (b' : Value) (k' : Nat) (d' : Bool), one1 b' → Le A2 A3 → sStore A3 (.pointer (some ⟨p, 0, none⟩)) (refV b' k' d') 3 = some (undef, A3.set p (crow b' k' d')) ∧ sLoadn (A3.set p (crow b' k' d')) (.pointer (some ⟨p, 0, none⟩)) 3 = some (refV b' k' d', A3.set p (crow b' k' d')) ∧ Le A (A3.set p (crow b' k' d')) := by
    intro A3 b' k' d' h1 h3
    have g3 := h3.get g2
    exact ⟨store_ref g3 h1, load_ref (set_get g3), (k2.trans h3).set hpA⟩
  cases st with
  | none =>
    obtain rfl : d = true := hd.symm
    obtain ⟨t1, t2, t3⟩ := tail A2 b k true hb (.refl _)
    simp (maxSteps := 1000000) (disch := omega) only [W_seq, W_ops, W_draw, W_block, W_skip, W_exit, W_ret, sq_normal, sq_ret, sq_exit, W_condv, condW_true, condW_false, thenA_normal, thenA_ret, thenA_exit, if_true, if_false, Bool.false_eq_true, decide_eq_true_eq, inBlockA_normal, inBlockA_ret, inBlockA_same, inBlockA_other, noGotoA_normal, noGotoA_ret, noGotoA_exit, Wops_nil, Wops_cons, Wops_le, Wops_guard, Wops_guardle, ok1_some, okV_some, kont_at, kontL_at, gdB_true, gdB_false, decide_true, decide_false, ev_tmp, ev_const, ev_func, ev_global, put_some, put_none, upd_same, upd_at, gd_bt, gd_bf, Bool.not_true, Bool.not_false, pick_true, pick_false, pick_b, not_b, W1_mov, W1_pick, W1_new, W1_box, W1_build, W1_lit, W1_load1, W1_loadn, W1_store, W1_nilc, W1_bin, W1_un, W1_conv, W1_b2s, W1_s2b, W1_field1, W1_fieldn, W1_faddr, W1_iaddr, W1_iarr, W1_idxs, W1_idxa1, W1_idxan, W1_sls, W1_sll, W1_sla, W1_mk, W1_ext, W1_fn, W1_ifc, W1_lens, W1_lenc, W1_app, W1_apps, W1_copy, W1_mn, W1_mx, W1_isnil, W1_strc, W1_beq, W1_mks, W1_capn, W1_appz, W1_eqagg, W1_call, W1_calld, callD_func, List.nil_append, List.append_nil, List.map_cons, List.map_nil, Option.map_some, Option.map_none, reduceIte, Option.some.injEq, exists_eq_left', Nat.reduceBEq, iv_ii, postA_ret, postA_normal, resVs_nil, resVs_tmp, resVs_one, resVs_many, Option.bind_some, tupleOf, Int.toNat_natCast, true_and, and_true, Nat.reduceEqDiff, RdOk_nil, RdOk_refl, rd_load1, rd_loadn, rd_b2s, rd_sll, rd_sla, rd_call, rd_calld, rd_new, rd_box, rd_lit, rd_store, rd_s2b, rd_mk, rd_app, rd_apps, rd_appz, rd_mks, rd_copy, blk_ptr, blk_sl, blk_nil, List.cons_append, addI, subI, mulI, quoI, remI, shrI, eqlI, neqI, eqS, neS, beqB, bneB, lenS, lenV, pickB, ext0, ext1, ext2, ext30, ext31, binA_lss, binA_leq, binA_gtr, binA_geq, convI, decide_eq_true, decide_eq_false, gd_undef, W_scope, mnI, mxI, inBlockA_ne, dec_refl, dec_nrefl, beq_self_eq_true, ite_true, ite_false, i0, box_ref hb, znew_eq, hA2, hp, faddr_ptr, load_d g1, load_ref g1, t1, t2]
    exact hq _ _ t3 (hv.le t3)
  | some r =>
    obtain rfl : d = false := hd.symm
    obtain ⟨b', k', all, e, hby, hk, rfl, h40⟩ := hv
    have hv : RefA rb A (refV b k false) (some (all.drop k')) := ⟨b', k', all, e, hby, hk, rfl, h40⟩
    unfold refV at e
    injection e with e
    simp only [Array.mk.injEq, List.cons.injEq, ii, Value.int.injEq, and_true, true_and] at e
    obtain ⟨rfl, e⟩ := e
    obtain rfl : k = k' := by omega
    obtain ⟨u, u1, u2⟩ := (hby.le k2).from (l := k) hk
    simp (maxSteps := 1000000) (disch := omega) only [W_seq, W_ops, W_draw, W_block, W_skip, W_exit, W_ret, sq_normal, sq_ret, sq_exit, W_condv, condW_true, condW_false, thenA_normal, thenA_ret, thenA_exit, if_true, if_false, Bool.false_eq_true, decide_eq_true_eq, inBlockA_normal, inBlockA_ret, inBlockA_same, inBlockA_other, noGotoA_normal, noGotoA_ret, noGotoA_exit, Wops_nil, Wops_cons, Wops_le, Wops_guard, Wops_guardle, ok1_some, okV_some, kont_at, kontL_at, gdB_true, gdB_false, decide_true, decide_false, ev_tmp, ev_const, ev_func, ev_global, put_some, put_none, upd_same, upd_at, gd_bt, gd_bf, Bool.not_true, Bool.not_false, pick_true, pick_false, pick_b, not_b, W1_mov, W1_pick, W1_new, W1_box, W1_build, W1_lit, W1_load1, W1_loadn, W1_store, W1_nilc, W1_bin, W1_un, W1_conv, W1_b2s, W1_s2b, W1_field1, W1_fieldn, W1_faddr, W1_iaddr, W1_iarr, W1_idxs, W1_idxa1, W1_idxan, W1_sls, W1_sll, W1_sla, W1_mk, W1_ext, W1_fn, W1_ifc, W1_lens, W1_lenc, W1_app, W1_apps, W1_copy, W1_mn, W1_mx, W1_isnil, W1_strc, W1_beq, W1_mks, W1_capn, W1_appz, W1_eqagg, W1_call, W1_calld, callD_func, List.nil_append, List.append_nil, List.map_cons, List.map_nil, Option.map_some, Option.map_none, reduceIte, Option.some.injEq, exists_eq_left', Nat.reduceBEq, iv_ii, postA_ret, postA_normal, resVs_nil, resVs_tmp, resVs_one, resVs_many, Option.bind_some, tupleOf, Int.toNat_natCast, true_and, and_true, Nat.reduceEqDiff, RdOk_nil, RdOk_refl, rd_load1, rd_loadn, rd_b2s, rd_sll, rd_sla, rd_call, rd_calld, rd_new, rd_box, rd_lit, rd_store, rd_s2b, rd_mk, rd_app, rd_apps, rd_appz, rd_mks, rd_copy, blk_ptr, blk_sl, blk_nil, List.cons_append, addI, subI, mulI, quoI, remI, shrI, eqlI, neqI, eqS, neS, beqB, bneB, lenS, lenV, pickB, ext0, ext1, ext2, ext30, ext31, binA_lss, binA_leq, binA_gtr, binA_geq, convI, decide_eq_true, decide_eq_false, gd_undef, W_scope, mnI, mxI, inBlockA_ne, dec_refl, dec_nrefl, beq_self_eq_true, ite_true, ite_false, i0, box_ref hb, znew_eq, hA2, hp, faddr_ptr, load_d g1, load_ref g1, load_b g1, load_k g1, u1]
    refine ref01_Get_spec u2 ?_ (by simp; omega)
    cases hg : getN (all.drop k) with
    | none =>
      rw [getV_none hg]
      have et : numC (some (all.drop k)) = (none, 0) := by unfold numC; simp only [hg]
      rw [et] at hq
      simp (maxSteps := 1000000) (disch := omega) only [W_seq, W_ops, W_draw, W_block, W_skip, W_exit, W_ret, sq_normal, sq_ret, sq_exit, W_condv, condW_true, condW_false, thenA_normal, thenA_ret, thenA_exit, if_true, if_false, Bool.false_eq_true, decide_eq_true_eq, inBlockA_normal, inBlockA_ret, inBlockA_same, inBlockA_other, noGotoA_normal, noGotoA_ret, noGotoA_exit, Wops_nil, Wops_cons, Wops_le, Wops_guard, Wops_guardle, ok1_some, okV_some, kont_at, kontL_at, gdB_true, gdB_false, decide_true, decide_false, ev_tmp, ev_const, ev_func, ev_global, put_some, put_none, upd_same, upd_at, gd_bt, gd_bf, Bool.not_true, Bool.not_false, pick_true, pick_false, pick_b, not_b, W1_mov, W1_pick, W1_new, W1_box, W1_build, W1_lit, W1_load1, W1_loadn, W1_store, W1_nilc, W1_bin, W1_un, W1_conv, W1_b2s, W1_s2b, W1_field1, W1_fieldn, W1_faddr, W1_iaddr, W1_iarr, W1_idxs, W1_idxa1, W1_idxan, W1_sls, W1_sll, W1_sla, W1_mk, W1_ext, W1_fn, W1_ifc, W1_lens, W1_lenc, W1_app, W1_apps, W1_copy, W1_mn, W1_mx, W1_isnil, W1_strc, W1_beq, W1_mks, W1_capn, W1_appz, W1_eqagg, W1_call, W1_calld, callD_func, List.nil_append, List.append_nil, List.map_cons, List.map_nil, Option.map_some, Option.map_none, reduceIte, Option.some.injEq, exists_eq_left', Nat.reduceBEq, iv_ii, postA_ret, postA_normal, resVs_nil, resVs_tmp, resVs_one, resVs_many, Option.bind_some, tupleOf, Int.toNat_natCast, true_and, and_true, Nat.reduceEqDiff, RdOk_nil, RdOk_refl, rd_load1, rd_loadn, rd_b2s, rd_sll, rd_sla, rd_call, rd_calld, rd_new, rd_box, rd_lit, rd_store, rd_s2b, rd_mk, rd_app, rd_apps, rd_appz, rd_mks, rd_copy, blk_ptr, blk_sl, blk_nil, List.cons_append, addI, subI, mulI, quoI, remI, shrI, eqlI, neqI, eqS, neS, beqB, bneB, lenS, lenV, pickB, ext0, ext1, ext2, ext30, ext31, binA_lss, binA_leq, binA_gtr, binA_geq, convI, decide_eq_true, decide_eq_false, gd_undef, W_scope, mnI, mxI, inBlockA_ne, dec_refl, dec_nrefl, beq_self_eq_true, ite_true, ite_false, load_ref g1]
      refine ref01_spoilt_spec (hv.le k2) fun A3 h3 => ?_
      obtain ⟨t1, t2, t3⟩ := tail A3 (.slice none 0 0) 0 true one1_nil h3
      simp (maxSteps := 1000000) (disch := omega) only [W_seq, W_ops, W_draw, W_block, W_skip, W_exit, W_ret, sq_normal, sq_ret, sq_exit, W_condv, condW_true, condW_false, thenA_normal, thenA_ret, thenA_exit, if_true, if_false, Bool.false_eq_true, decide_eq_true_eq, inBlockA_normal, inBlockA_ret, inBlockA_same, inBlockA_other, noGotoA_normal, noGotoA_ret, noGotoA_exit, Wops_nil, Wops_cons, Wops_le, Wops_guard, Wops_guardle, ok1_some, okV_some, kont_at, kontL_at, gdB_true, gdB_false, decide_true, decide_false, ev_tmp, ev_const, ev_func, ev_global, put_some, put_none, upd_same, upd_at, gd_bt, gd_bf, Bool.not_true, Bool.not_false, pick_true, pick_false, pick_b, not_b, W1_mov, W1_pick, W1_new, W1_box, W1_build, W1_lit, W1_load1, W1_loadn, W1_store, W1_nilc, W1_bin, W1_un, W1_conv, W1_b2s, W1_s2b, W1_field1, W1_fieldn, W1_faddr, W1_iaddr, W1_iarr, W1_idxs, W1_idxa1, W1_idxan, W1_sls, W1_sll, W1_sla, W1_mk, W1_ext, W1_fn, W1_ifc, W1_lens, W1_lenc, W1_app, W1_apps, W1_copy, W1_mn, W1_mx, W1_isnil, W1_strc, W1_beq, W1_mks, W1_capn, W1_appz, W1_eqagg, W1_call, W1_calld, callD_func, List.nil_append, List.append_nil, List.map_cons, List.map_nil, Option.map_some, Option.map_none, reduceIte, Option.some.injEq, exists_eq_left', Nat.reduceBEq, iv_ii, postA_ret, postA_normal, resVs_nil, resVs_tmp, resVs_one, resVs_many, Option.bind_some, tupleOf, Int.toNat_natCast, true_and, and_true, Nat.reduceEqDiff, RdOk_nil, RdOk_refl, rd_load1, rd_loadn, rd_b2s, rd_sll, rd_sla, rd_call, rd_calld, rd_new, rd_box, rd_lit, rd_store, rd_s2b, rd_mk, rd_app, rd_apps, rd_appz, rd_mks, rd_copy, blk_ptr, blk_sl, blk_nil, List.cons_append, addI, subI, mulI, quoI, remI, shrI, eqlI, neqI, eqS, neS, beqB, bneB, lenS, lenV, pickB, ext0, ext1, ext2, ext30, ext31, binA_lss, binA_leq, binA_gtr, binA_geq, convI, decide_eq_true, decide_eq_false, gd_undef, W_scope, mnI, mxI, inBlockA_ne, dec_refl, dec_nrefl, beq_self_eq_true, ite_true, ite_false, t1, t2]
      exact hq _ _ t3 rfl
    | some r =>
      obtain ⟨n, m⟩ := r
      rw [getV_some hg]
      have et : numC (some (all.drop k)) = (some (all.drop (k + m)), n) := by unfold numC; simp only [hg, List.drop_drop]
      rw [et] at hq
      obtain ⟨c1, c2, c3, c4, _⟩ := getN_ok hg
      rw [List.length_drop] at c2
      have hbd : sBuild A2 [.slice none 0 0, .int .i64 0, .bool false] [(0, 1, b), (1, 1, .int .i64 ((k : Int) + m))] = some (refV b (k + m) false, A2) := by
        obtain ⟨p, c, hs, _⟩ := hby.shape
        rw [hs]; rfl
      obtain ⟨t1, t2, t3⟩ := tail A2 b (k + m) false hb (.refl _)
      simp (maxSteps := 1000000) (disch := omega) only [W_seq, W_ops, W_draw, W_block, W_skip, W_exit, W_ret, sq_normal, sq_ret, sq_exit, W_condv, condW_true, condW_false, thenA_normal, thenA_ret, thenA_exit, if_true, if_false, Bool.false_eq_true, decide_eq_true_eq, inBlockA_normal, inBlockA_ret, inBlockA_same, inBlockA_other, noGotoA_normal, noGotoA_ret, noGotoA_exit, Wops_nil, Wops_cons, Wops_le, Wops_guard, Wops_guardle, ok1_some, okV_some, kont_at, kontL_at, gdB_true, gdB_false, decide_true, decide_false, ev_tmp, ev_const, ev_func, ev_global, put_some, put_none, upd_same, upd_at, gd_bt, gd_bf, Bool.not_true, Bool.not_false, pick_true, pick_false, pick_b, not_b, W1_mov, W1_pick, W1_new, W1_box, W1_build, W1_lit, W1_load1, W1_loadn, W1_store, W1_nilc, W1_bin, W1_un, W1_conv, W1_b2s, W1_s2b, W1_field1, W1_fieldn, W1_faddr, W1_iaddr, W1_iarr, W1_idxs, W1_idxa1, W1_idxan, W1_sls, W1_sll, W1_sla, W1_mk, W1_ext, W1_fn, W1_ifc, W1_lens, W1_lenc, W1_app, W1_apps, W1_copy, W1_mn, W1_mx, W1_isnil, W1_strc, W1_beq, W1_mks, W1_capn, W1_appz, W1_eqagg, W1_call, W1_calld, callD_func, List.nil_append, List.append_nil, List.map_cons, List.map_nil, Option.map_some, Option.map_none, reduceIte, Option.some.injEq, exists_eq_left', Nat.reduceBEq, iv_ii, postA_ret, postA_normal, resVs_nil, resVs_tmp, resVs_one, resVs_many, Option.bind_some, tupleOf, Int.toNat_natCast, true_and, and_true, Nat.reduceEqDiff, RdOk_nil, RdOk_refl, rd_load1, rd_loadn, rd_b2s, rd_sll, rd_sla, rd_call, rd_calld, rd_new, rd_box, rd_lit, rd_store, rd_s2b, rd_mk, rd_app, rd_apps, rd_appz, rd_mks, rd_copy, blk_ptr, blk_sl, blk_nil, List.cons_append, addI, subI, mulI, quoI, remI, shrI, eqlI, neqI, eqS, neS, beqB, bneB, lenS, lenV, pickB, ext0, ext1, ext2, ext30, ext31, binA_lss, binA_leq, binA_gtr, binA_geq, convI, decide_eq_true, decide_eq_false, gd_undef, W_scope, mnI, mxI, inBlockA_ne, dec_refl, dec_nrefl, beq_self_eq_true, ite_true, ite_false, faddr_ptr, load_b g1, load_k g1, hbd, t1, t2]
      exact hq _ _ t3 ⟨b, k + m, all, rfl, hby.le t3, by omega, rfl, h40⟩

theorem ref01_TakeText_spec {A : AH} {v : Value} {st : CurS} {Q : Value → AH → Prop} (hv : RefA rb A v st) (hq : ∀ A' u t, Le A A' → RefA rb A' u (textC st).1 → BytR rb A' t (textC st).2 → Q (.tuple #[u, t]) A') : ACalls 0 Try.prog chantryref01_TakeText [v] Q A := by
  refine ACalls.of_fits mixed fits_chantryref01_TakeText rfl ?_
  unfold ic_chantryref01_TakeText
  have i0 : initA [v] 0 = v := rfl
  generalize initA [v] = a at i0
  obtain ⟨b, k, rfl, hb⟩ := hv.cells
  have k1 : Le A (A ++ [crow b k st.isNone]) := .push _ _
  have k2 : Le A (A ++ [crow b k st.isNone] ++ [znew]) := k1.trans (.push _ _)
  have g1 : (A ++ [crow b k st.isNone] ++ [znew])[A.length]? = some (crow b k st.isNone) := by simp
  have g2 : (A ++ [crow b k st.isNone] ++ [znew])[(A ++ [crow b k st.isNone]).length]? = some znew := get_last _ _
  generalize hA2 : A ++ [crow b k st.isNone] ++ [znew] = A2 at k2 g1 g2
  generalize hp : (A ++ [crow b k st.isNone]).length = p at g2
  have hpA : A.length ≤ p := by subst hp; simp
  have tail : ∀ (A3 : AH) (b' : Value) (k' : Nat) (d' : Bool), one1 b' → Le A2 A3 → sStore A3 (.pointer (some ⟨p, 0, none⟩)) (refV b' k' d') 3 = some (undef, A3.set p (crow b' k' d')) ∧ sLoadn (A3.set p (crow b' k' d')) (.pointer (some ⟨p, 0, none⟩)) 3 = some (refV b' k' d', A3.set p (crow b' k' d')) ∧ Le A (A3.set p (crow b' k' d')) := by
    intro A3 b' k' d' h1 h3
    have g3 := h3.get g2
    exact ⟨store_ref g3 h1, load_ref (set_get g3), (k2.trans h3).set hpA⟩
  simp (maxSteps := 1000000) (disch := omega) only [W_seq, W_ops, W_draw, W_block, W_skip, W_exit, W_ret, sq_normal, sq_ret, sq_exit, W_condv, condW_true, condW_false, thenA_normal, thenA_ret, thenA_exit, if_true, if_false, Bool.false_eq_true, decide_eq_true_eq, inBlockA_normal, inBlockA_ret, inBlockA_same, inBlockA_other, noGotoA_normal, noGotoA_ret, noGotoA_exit, Wops_nil, Wops_cons, Wops_le, Wops_guard, Wops_guardle, ok1_some, okV_some, kont_at, kontL_at, gdB_true, gdB_false, decide_true, decide_false, ev_tmp, ev_const, ev_func, ev_global, put_some, put_none, upd_same, upd_at, gd_bt, gd_bf, Bool.not_true, Bool.not_false, pick_true, pick_false, pick_b, not_b, W1_mov, W1_pick, W1_new, W1_box, W1_build, W1_lit, W1_load1, W1_loadn, W1_store, W1_nilc, W1_bin, W1_un, W1_conv, W1_b2s, W1_s2b, W1_field1, W1_fieldn, W1_faddr, W1_iaddr, W1_iarr, W1_idxs, W1_idxa1, W1_idxan, W1_sls, W1_sll, W1_sla, W1_mk, W1_ext, W1_fn, W1_ifc, W1_lens, W1_lenc, W1_app, W1_apps, W1_copy, W1_mn, W1_mx, W1_isnil, W1_strc, W1_beq, W1_mks, W1_capn, W1_appz, W1_eqagg, W1_call, W1_calld, callD_func, List.nil_append, List.append_nil, List.map_cons, List.map_nil, Option.map_some, Option.map_none, reduceIte, Option.some.injEq, exists_eq_left', Nat.reduceBEq, iv_ii, postA_ret, postA_normal, resVs_nil, resVs_tmp, resVs_one, resVs_many, Option.bind_some, tupleOf, Int.toNat_natCast, true_and, and_true, Nat.reduceEqDiff, RdOk_nil, RdOk_refl, rd_load1, rd_loadn, rd_b2s, rd_sll, rd_sla, rd_call, rd_calld, rd_new, rd_box, rd_lit, rd_store, rd_s2b, rd_mk, rd_app, rd_apps, rd_appz, rd_mks, rd_copy, blk_ptr, blk_sl, blk_nil, List.cons_append, addI, subI, mulI, quoI, remI, shrI, eqlI, neqI, eqS, neS, beqB, bneB, lenS, lenV, pickB, ext0, ext1, ext2, ext30, ext31, binA_lss, binA_leq, binA_gtr, binA_geq, convI, decide_eq_true, decide_eq_false, gd_undef, W_scope, mnI, mxI, inBlockA_ne, dec_refl, dec_nrefl, beq_self_eq_true, ite_true, ite_false, i0, box_ref hb, znew_eq, hA2, hp, load_ref g1]
  refine ref01_Num_spec (hv.le k2) fun A3 u h3 r3 => ?_
  rw [textC_num] at hq
  generalize numC st = r at hq r3 ⊢
  obtain ⟨st1, n⟩ := r
  simp only at hq r3 ⊢
  obtain ⟨b2, k2', rfl, hb2⟩ := r3.cells
  obtain ⟨d, hd⟩ : ∃ d, st1.isNone = d := ⟨_, rfl⟩
  rw [hd] at r3 ⊢
  have k3 : Le A3 (A3 ++ [znew]) := .push _ _
  have q1 : (A3 ++ [znew])[A3.length]? = some znew := get_last _ _
  have s1 := store_ref (b' := b2) (k' := k2') (bad' := d) q1 hb2
  have q2 := set_get (b' := crow b2 k2' d) q1
  have l3 : Le A3 ((A3 ++ [znew]).set A3.length (crow b2 k2' d)) := k3.set (Nat.le_refl _)
  have g4 := (h3.trans l3).get g1
  have ll := load_ref q2
  generalize hA4 : (A3 ++ [znew]).set A3.length (crow b2 k2' d) = A4 at s1 q2 l3 g4 ll
  have l24 := h3.trans l3
  -- the bad end
  have badEnd : ∀ K : Value → AH → Prop, (∀ A', Le A A' → K (.tuple #[refV (.slice none 0 0) 0 true, .slice none 0 0]) A') → True := fun _ _ => trivial
  cases st1 with
  | none =>
    obtain rfl : d = true := hd.symm
    simp (maxSteps := 1000000) (disch := omega) only [W_seq, W_ops, W_draw, W_block, W_skip, W_exit, W_ret, sq_normal, sq_ret, sq_exit, W_condv, condW_true, condW_false, thenA_normal, thenA_ret, thenA_exit, if_true, if_false, Bool.false_eq_true, decide_eq_true_eq, inBlockA_normal, inBlockA_ret, inBlockA_same, inBlockA_other, noGotoA_normal, noGotoA_ret, noGotoA_exit, Wops_nil, Wops_cons, Wops_le, Wops_guard, Wops_guardle, ok1_some, okV_some, kont_at, kontL_at, gdB_true, gdB_false, decide_true, decide_false, ev_tmp, ev_const, ev_func, ev_global, put_some, put_none, upd_same, upd_at, gd_bt, gd_bf, Bool.not_true, Bool.not_false, pick_true, pick_false, pick_b, not_b, W1_mov, W1_pick, W1_new, W1_box, W1_build, W1_lit, W1_load1, W1_loadn, W1_store, W1_nilc, W1_bin, W1_un, W1_conv, W1_b2s, W1_s2b, W1_field1, W1_fieldn, W1_faddr, W1_iaddr, W1_iarr, W1_idxs, W1_idxa1, W1_idxan, W1_sls, W1_sll, W1_sla, W1_mk, W1_ext, W1_fn, W1_ifc, W1_lens, W1_lenc, W1_app, W1_apps, W1_copy, W1_mn, W1_mx, W1_isnil, W1_strc, W1_beq, W1_mks, W1_capn, W1_appz, W1_eqagg, W1_call, W1_calld, callD_func, List.nil_append, List.append_nil, List.map_cons, List.map_nil, Option.map_some, Option.map_none, reduceIte, Option.some.injEq, exists_eq_left', Nat.reduceBEq, iv_ii, postA_ret, postA_normal, resVs_nil, resVs_tmp, resVs_one, resVs_many, Option.bind_some, tupleOf, Int.toNat_natCast, true_and, and_true, Nat.reduceEqDiff, RdOk_nil, RdOk_refl, rd_load1, rd_loadn, rd_b2s, rd_sll, rd_sla, rd_call, rd_calld, rd_new, rd_box, rd_lit, rd_store, rd_s2b, rd_mk, rd_app, rd_apps, rd_appz, rd_mks, rd_copy, blk_ptr, blk_sl, blk_nil, List.cons_append, addI, subI, mulI, quoI, remI, shrI, eqlI, neqI, eqS, neS, beqB, bneB, lenS, lenV, pickB, ext0, ext1, ext2, ext30, ext31, binA_lss, binA_leq, binA_gtr, binA_geq, convI, decide_eq_true, decide_eq_false, gd_undef, W_scope, mnI, mxI, inBlockA_ne, dec_refl, dec_nrefl, beq_self_eq_true, ite_true, ite_false, i0, ext0, ext1, znew_eq, s1, faddr_ptr, load_d q2, load_ref g4]
    refine ref01_spoilt_spec (hv.le (k2.trans l24)) fun A5 h5 => ?_
    obtain ⟨t1, t2, t3⟩ := tail A5 (.slice none 0 0) 0 true one1_nil (l24.trans h5)
    simp (maxSteps := 1000000) (disch := omega) only [W_seq, W_ops, W_draw, W_block, W_skip, W_exit, W_ret, sq_normal, sq_ret, sq_exit, W_condv, condW_true, condW_false, thenA_normal, thenA_ret, thenA_exit, if_true, if_false, Bool.false_eq_true, decide_eq_true_eq, inBlockA_normal, inBlockA_ret, inBlockA_same, inBlockA_other, noGotoA_normal, noGotoA_ret, noGotoA_exit, Wops_nil, Wops_cons, Wops_le, Wops_guard, Wops_guardle, ok1_some, okV_some, kont_at, kontL_at, gdB_true, gdB_false, decide_true, decide_false, ev_tmp, ev_const, ev_func, ev_global, put_some, put_none, upd_same, upd_at, gd_bt, gd_bf, Bool.not_true, Bool.not_false, pick_true, pick_false, pick_b, not_b, W1_mov, W1_pick, W1_new, W1_box, W1_build, W1_lit, W1_load1, W1_loadn, W1_store, W1_nilc, W1_bin, W1_un, W1_conv, W1_b2s, W1_s2b, W1_field1, W1_fieldn, W1_faddr, W1_iaddr, W1_iarr, W1_idxs, W1_idxa1, W1_idxan, W1_sls, W1_sll, W1_sla, W1_mk, W1_ext, W1_fn, W1_ifc, W1_lens, W1_lenc, W1_app, W1_apps, W1_copy, W1_mn, W1_mx, W1_isnil, W1_strc, W1_beq, W1_mks, W1_capn, W1_appz, W1_eqagg, W1_call, W1_calld, callD_func, List.nil_append, List.append_nil, List.map_cons, List.map_nil, Option.map_some, Option.map_none, reduceIte, Option.some.injEq, exists_eq_left', Nat.reduceBEq, iv_ii, postA_ret, postA_normal, resVs_nil, resVs_tmp, resVs_one, resVs_many, Option.bind_some, tupleOf, Int.toNat_natCast, true_and, and_true, Nat.reduceEqDiff, RdOk_nil, RdOk_refl, rd_load1, rd_loadn, rd_b2s, rd_sll, rd_sla, rd_call, rd_calld, rd_new, rd_box, rd_lit, rd_store, rd_s2b, rd_mk, rd_app, rd_apps, rd_appz, rd_mks, rd_copy, blk_ptr, blk_sl, blk_nil, List.cons_append, addI, subI, mulI, quoI, remI, shrI, eqlI, neqI, eqS, neS, beqB, bneB, lenS, lenV, pickB, ext0, ext1, ext2, ext30, ext31, binA_lss, binA_leq, binA_gtr, binA_geq, convI, decide_eq_true, decide_eq_false, gd_undef, W_scope, mnI, mxI, inBlockA_ne, dec_refl, dec_nrefl, beq_self_eq_true, ite_true, ite_false, t1, t2]
    exact hq _ _ _ t3 rfl (BytR.nil _ _)
  | some r =>
    obtain rfl : d = false := hd.symm
    by_cases hbig : n ≤ 262144
    · simp (maxSteps := 1000000) (disch := omega) only [W_seq, W_ops, W_draw, W_block, W_skip, W_exit, W_ret, sq_normal, sq_ret, sq_exit, W_condv, condW_true, condW_false, thenA_normal, thenA_ret, thenA_exit, if_true, if_false, Bool.false_eq_true, decide_eq_true_eq, inBlockA_normal, inBlockA_ret, inBlockA_same, inBlockA_other, noGotoA_normal, noGotoA_ret, noGotoA_exit, Wops_nil, Wops_cons, Wops_le, Wops_guard, Wops_guardle, ok1_some, okV_some, kont_at, kontL_at, gdB_true, gdB_false, decide_true, decide_false, ev_tmp, ev_const, ev_func, ev_global, put_some, put_none, upd_same, upd_at, gd_bt, gd_bf, Bool.not_true, Bool.not_false, pick_true, pick_false, pick_b, not_b, W1_mov, W1_pick, W1_new, W1_box, W1_build, W1_lit, W1_load1, W1_loadn, W1_store, W1_nilc, W1_bin, W1_un, W1_conv, W1_b2s, W1_s2b, W1_field1, W1_fieldn, W1_faddr, W1_iaddr, W1_iarr, W1_idxs, W1_idxa1, W1_idxan, W1_sls, W1_sll, W1_sla, W1_mk, W1_ext, W1_fn, W1_ifc, W1_lens, W1_lenc, W1_app, W1_apps, W1_copy, W1_mn, W1_mx, W1_isnil, W1_strc, W1_beq, W1_mks, W1_capn, W1_appz, W1_eqagg, W1_call, W1_calld, callD_func, List.nil_append, List.append_nil, List.map_cons, List.map_nil, Option.map_some, Option.map_none, reduceIte, Option.some.injEq, exists_eq_left', Nat.reduceBEq, iv_ii, postA_ret, postA_normal, resVs_nil, resVs_tmp, resVs_one, resVs_many, Option.bind_some, tupleOf, Int.toNat_natCast, true_and, and_true, Nat.reduceEqDiff, RdOk_nil, RdOk_refl, rd_load1, rd_loadn, rd_b2s, rd_sll, rd_sla, rd_call, rd_calld, rd_new, rd_box, rd_lit, rd_store, rd_s2b, rd_mk, rd_app, rd_apps, rd_appz, rd_mks, rd_copy, blk_ptr, blk_sl, blk_nil, List.cons_append, addI, subI, mulI, quoI, remI, shrI, eqlI, neqI, eqS, neS, beqB, bneB, lenS, lenV, pickB, ext0, ext1, ext2, ext30, ext31, binA_lss, binA_leq, binA_gtr, binA_geq, convI, decide_eq_true, decide_eq_false, gd_undef, W_scope, mnI, mxI, inBlockA_ne, dec_refl, dec_nrefl, beq_self_eq_true, ite_true, ite_false, i0, ext0, ext1, znew_eq, s1, faddr_ptr, load_d q2, load_ref g4, ll]
      refine ref01_Take_spec (n := n) (r3.le l3) ⟨by omega, by omega⟩ fun A5 u t h5 r5 t5 => ?_
      obtain ⟨b5, k5, rfl, hb5⟩ := r5.cells
      obtain ⟨t1, t2, t3⟩ := tail A5 b5 k5 (takeC (some r) n).1.isNone hb5 (l24.trans h5)
      simp only [if_pos hbig] at hq
      have g5 := (l24.trans h5).get g2
      simp (maxSteps := 1000000) (disch := omega) only [W_seq, W_ops, W_draw, W_block, W_skip, W_exit, W_ret, sq_normal, sq_ret, sq_exit, W_condv, condW_true, condW_false, thenA_normal, thenA_ret, thenA_exit, if_true, if_false, Bool.false_eq_true, decide_eq_true_eq, inBlockA_normal, inBlockA_ret, inBlockA_same, inBlockA_other, noGotoA_normal, noGotoA_ret, noGotoA_exit, Wops_nil, Wops_cons, Wops_le, Wops_guard, Wops_guardle, ok1_some, okV_some, kont_at, kontL_at, gdB_true, gdB_false, decide_true, decide_false, ev_tmp, ev_const, ev_func, ev_global, put_some, put_none, upd_same, upd_at, gd_bt, gd_bf, Bool.not_true, Bool.not_false, pick_true, pick_false, pick_b, not_b, W1_mov, W1_pick, W1_new, W1_box, W1_build, W1_lit, W1_load1, W1_loadn, W1_store, W1_nilc, W1_bin, W1_un, W1_conv, W1_b2s, W1_s2b, W1_field1, W1_fieldn, W1_faddr, W1_iaddr, W1_iarr, W1_idxs, W1_idxa1, W1_idxan, W1_sls, W1_sll, W1_sla, W1_mk, W1_ext, W1_fn, W1_ifc, W1_lens, W1_lenc, W1_app, W1_apps, W1_copy, W1_mn, W1_mx, W1_isnil, W1_strc, W1_beq, W1_mks, W1_capn, W1_appz, W1_eqagg, W1_call, W1_calld, callD_func, List.nil_append, List.append_nil, List.map_cons, List.map_nil, Option.map_some, Option.map_none, reduceIte, Option.some.injEq, exists_eq_left', Nat.reduceBEq, iv_ii, postA_ret, postA_normal, resVs_nil, resVs_tmp, resVs_one, resVs_many, Option.bind_some, tupleOf, Int.toNat_natCast, true_and, and_true, Nat.reduceEqDiff, RdOk_nil, RdOk_refl, rd_load1, rd_loadn, rd_b2s, rd_sll, rd_sla, rd_call, rd_calld, rd_new, rd_box, rd_lit, rd_store, rd_s2b, rd_mk, rd_app, rd_apps, rd_appz, rd_mks, rd_copy, blk_ptr, blk_sl, blk_nil, List.cons_append, addI, subI, mulI, quoI, remI, shrI, eqlI, neqI, eqS, neS, beqB, bneB, lenS, lenV, pickB, ext0, ext1, ext2, ext30, ext31, binA_lss, binA_leq, binA_gtr, binA_geq, convI, decide_eq_true, decide_eq_false, gd_undef, W_scope, mnI, mxI, inBlockA_ne, dec_refl, dec_nrefl, beq_self_eq_true, ite_true, ite_false, ext0, ext1, t1, t2]
      exact hq _ _ _ t3 (r5.kp (Keep.set _ _ _) g5) ⟨t5.1.kp (Keep.set _ _ _) g5, t5.2⟩
    · simp (maxSteps := 1000000) (disch := omega) only [W_seq, W_ops, W_draw, W_block, W_skip, W_exit, W_ret, sq_normal, sq_ret, sq_exit, W_condv, condW_true, condW_false, thenA_normal, thenA_ret, thenA_exit, if_true, if_false, Bool.false_eq_true, decide_eq_true_eq, inBlockA_normal, inBlockA_ret, inBlockA_same, inBlockA_other, noGotoA_normal, noGotoA_ret, noGotoA_exit, Wops_nil, Wops_cons, Wops_le, Wops_guard, Wops_guardle, ok1_some, okV_some, kont_at, kontL_at, gdB_true, gdB_false, decide_true, decide_false, ev_tmp, ev_const, ev_func, ev_global, put_some, put_none, upd_same, upd_at, gd_bt, gd_bf, Bool.not_true, Bool.not_false, pick_true, pick_false, pick_b, not_b, W1_mov, W1_pick, W1_new, W1_box, W1_build, W1_lit, W1_load1, W1_loadn, W1_store, W1_nilc, W1_bin, W1_un, W1_conv, W1_b2s, W1_s2b, W1_field1, W1_fieldn, W1_faddr, W1_iaddr, W1_iarr, W1_idxs, W1_idxa1, W1_idxan, W1_sls, W1_sll, W1_sla, W1_mk, W1_ext, W1_fn, W1_ifc, W1_lens, W1_lenc, W1_app, W1_apps, W1_copy, W1_mn, W1_mx, W1_isnil, W1_strc, W1_beq, W1_mks, W1_capn, W1_appz, W1_eqagg, W1_call, W1_calld, callD_func, List.nil_append, List.append_nil, List.map_cons, List.map_nil, Option.map_some, Option.map_none, reduceIte, Option.some.injEq, exists_eq_left', Nat.reduceBEq, iv_ii, postA_ret, postA_normal, resVs_nil, resVs_tmp, resVs_one, resVs_many, Option.bind_some, tupleOf, Int.toNat_natCast, true_and, and_true, Nat.reduceEqDiff, RdOk_nil, RdOk_refl, rd_load1, rd_loadn, rd_b2s, rd_sll, rd_sla, rd_call, rd_calld, rd_new, rd_box, rd_lit, rd_store, rd_s2b, rd_mk, rd_app, rd_apps, rd_appz, rd_mks, rd_copy, blk_ptr, blk_sl, blk_nil, List.cons_append, addI, subI, mulI, quoI, remI, shrI, eqlI, neqI, eqS, neS, beqB, bneB, lenS, lenV, pickB, ext0, ext1, ext2, ext30, ext31, binA_lss, binA_leq, binA_gtr, binA_geq, convI, decide_eq_true, decide_eq_false, gd_undef, W_scope, mnI, mxI, inBlockA_ne, dec_refl, dec_nrefl, beq_self_eq_true, ite_true, ite_false, i0, ext0, ext1, znew_eq, s1, faddr_ptr, load_d q2, load_ref g4, ll]
      refine ref01_spoilt_spec (hv.le (k2.trans l24)) fun A5 h5 => ?_
      obtain ⟨t1, t2, t3⟩ := tail A5 (.slice none 0 0) 0 true one1_nil (l24.trans h5)
      simp only [if_neg hbig] at hq
      simp (maxSteps := 1000000) (disch := omega) only [W_seq, W_ops, W_draw, W_block, W_skip, W_exit, W_ret, sq_normal, sq_ret, sq_exit, W_condv, condW_true, condW_false, thenA_normal, thenA_ret, thenA_exit, if_true, if_false, Bool.false_eq_true, decide_eq_true_eq, inBlockA_normal, inBlockA_ret, inBlockA_same, inBlockA_other, noGotoA_normal, noGotoA_ret, noGotoA_exit, Wops_nil, Wops_cons, Wops_le, Wops_guard, Wops_guardle, ok1_some, okV_some, kont_at, kontL_at, gdB_true, gdB_false, decide_true, decide_false, ev_tmp, ev_const, ev_func, ev_global, put_some, put_none, upd_same, upd_at, gd_bt, gd_bf, Bool.not_true, Bool.not_false, pick_true, pick_false, pick_b, not_b, W1_mov, W1_pick, W1_new, W1_box, W1_build, W1_lit, W1_load1, W1_loadn, W1_store, W1_nilc, W1_bin, W1_un, W1_conv, W1_b2s, W1_s2b, W1_field1, W1_fieldn, W1_faddr, W1_iaddr, W1_iarr, W1_idxs, W1_idxa1, W1_idxan, W1_sls, W1_sll, W1_sla, W1_mk, W1_ext, W1_fn, W1_ifc, W1_lens, W1_lenc, W1_app, W1_apps, W1_copy, W1_mn, W1_mx, W1_isnil, W1_strc, W1_beq, W1_mks, W1_capn, W1_appz, W1_eqagg, W1_call, W1_calld, callD_func, List.nil_append, List.append_nil, List.map_cons, List.map_nil, Option.map_some, Option.map_none, reduceIte, Option.some.injEq, exists_eq_left', Nat.reduceBEq, iv_ii, postA_ret, postA_normal, resVs_nil, resVs_tmp, resVs_one, resVs_many, Option.bind_some, tupleOf, Int.toNat_natCast, true_and, and_true, Nat.reduceEqDiff, RdOk_nil, RdOk_refl, rd_load1, rd_loadn, rd_b2s, rd_sll, rd_sla, rd_call, rd_calld, rd_new, rd_box, rd_lit, rd_store, rd_s2b, rd_mk, rd_app, rd_apps, rd_appz, rd_mks, rd_copy, blk_ptr, blk_sl, blk_nil, List.cons_append, addI, subI, mulI, quoI, remI, shrI, eqlI, neqI, eqS, neS, beqB, bneB, lenS, lenV, pickB, ext0, ext1, ext2, ext30, ext31, binA_lss, binA_leq, binA_gtr, binA_geq, convI, decide_eq_true, decide_eq_false, gd_undef, W_scope, mnI, mxI, inBlockA_ne, dec_refl, dec_nrefl, beq_self_eq_true, ite_true, ite_false, t1, t2]
      exact hq _ _ _ t3 rfl (BytR.nil _ _)

end Go.AS.C

namespace Go.AS.C
open Go Go.Proofs
set_option linter.unusedVariables false
set_option linter.unusedSimpArgs false
set_option maxRecDepth 10000

theorem checkI_at {l : List Int} {k : Nat} {n : Int} (h1 : 1 ≤ l.length) (h2 : l.length ≤ 32) (hk : l[k]? = some n) (hf : l.find? wrI = (l.drop k).find? wrI) (hw : wrI n = true) : checkI l = if n < 1 then 1 else 3 := by
  have hlt := lt_of_get hk
  have hd : l.drop k = n :: l.drop (k + 1) := by
    rw [List.drop_eq_getElem_cons hlt]
    rw [List.getElem?_eq_getElem hlt] at hk
    rw [Option.some.inj hk]
  rw [hd, List.find?_cons, hw] at hf
  unfold checkI
  rw [if_neg (by omega), if_neg (by omega), hf]
theorem find_next {l : List Int} {k : Nat} {n : Int} (hk : l[k]? = some n) (hf : l.find? wrI = (l.drop k).find? wrI) (hw : wrI n = false) : l.find? wrI = (l.drop (k + 1)).find? wrI := by
  have hlt := lt_of_get hk
  have hd : l.drop k = n :: l.drop (k + 1) := by
    rw [List.drop_eq_getElem_cons hlt]
    rw [List.getElem?_eq_getElem hlt] at hk
    rw [Option.some.inj hk]
  rw [hd, List.find?_cons, hw] at hf
  exact hf
theorem checkI_end {l : List Int} (h1 : 1 ≤ l.length) (h2 : l.length ≤ 32) (hf : l.find? wrI = (l.drop l.length).find? wrI) : checkI l = 0 := by
  rw [List.drop_length, List.find?_nil] at hf
  unfold checkI
  rw [if_neg (by omega), if_neg (by omega), hf]
theorem lensI_get {ts : List (List UInt8)} {k : Nat} {t : List UInt8} (h : ts[k]? = some t) : (lensI ts)[k]? = some (t.length : Int) := by
  unfold lensI
  rw [List.getElem?_map, h]; rfl

theorem ref32_Put_spec {A : AH} {v : Value} {ts : List (List UInt8)} {Q : Value → AH → Prop} (hv : Byts A v ts) (hl : ts.length ≤ 2 ^ 40) (hq : ∀ A' u, Le A A' → OwnB A.length A' u (putJ ts) → Q (.tuple #[u, ii (checkI (lensI ts))]) A') : ACalls 0 Try.prog chantryref32_Put [v] Q A := by
  refine ACalls.of_fits mixed fits_chantryref32_Put rfl ?_
  unfold ic_chantryref32_Put
  have i0 : initA [v] 0 = v := rfl
  generalize initA [v] = a at i0
  have hll := lensI_len ts
  have bad : ∀ c, checkI (lensI ts) = c → c ≠ 0 → ∀ A', Le A A' → Q (.tuple #[.slice none 0 0, ii (c : Nat)]) A' := by
    intro c hc h0 A' hA
    have e : putJ ts = [] := by unfold putJ; rw [if_neg (by omega)]
    rw [e, hc] at hq
    exact hq _ _ hA (OwnB.nil _ _)
  by_cases h0 : ts.length = 0
  · simp (maxSteps := 1000000) (disch := omega) only [W_seq, W_ops, W_draw, W_block, W_skip, W_exit, W_ret, sq_normal, sq_ret, sq_exit, W_condv, condW_true, condW_false, thenA_normal, thenA_ret, thenA_exit, if_true, if_false, Bool.false_eq_true, decide_eq_true_eq, inBlockA_normal, inBlockA_ret, inBlockA_same, inBlockA_other, noGotoA_normal, noGotoA_ret, noGotoA_exit, Wops_nil, Wops_cons, Wops_le, Wops_guard, Wops_guardle, ok1_some, okV_some, kont_at, kontL_at, gdB_true, gdB_false, decide_true, decide_false, ev_tmp, ev_const, ev_func, ev_global, put_some, put_none, upd_same, upd_at, gd_bt, gd_bf, Bool.not_true, Bool.not_false, pick_true, pick_false, pick_b, not_b, W1_mov, W1_pick, W1_new, W1_box, W1_build, W1_lit, W1_load1, W1_loadn, W1_store, W1_nilc, W1_bin, W1_un, W1_conv, W1_b2s, W1_s2b, W1_field1, W1_fieldn, W1_faddr, W1_iaddr, W1_iarr, W1_idxs, W1_idxa1, W1_idxan, W1_sls, W1_sll, W1_sla, W1_mk, W1_ext, W1_fn, W1_ifc, W1_lens, W1_lenc, W1_app, W1_apps, W1_copy, W1_mn, W1_mx, W1_isnil, W1_strc, W1_beq, W1_mks, W1_capn, W1_appz, W1_eqagg, W1_call, W1_calld, callD_func, List.nil_append, List.append_nil, List.map_cons, List.map_nil, Option.map_some, Option.map_none, reduceIte, Option.some.injEq, exists_eq_left', Nat.reduceBEq, iv_ii, postA_ret, postA_normal, resVs_nil, resVs_tmp, resVs_one, resVs_many, Option.bind_some, tupleOf, Int.toNat_natCast, true_and, and_true, Nat.reduceEqDiff, RdOk_nil, RdOk_refl, rd_load1, rd_loadn, rd_b2s, rd_sll, rd_sla, rd_call, rd_calld, rd_new, rd_box, rd_lit, rd_store, rd_s2b, rd_mk, rd_app, rd_apps, rd_appz, rd_mks, rd_copy, blk_ptr, blk_sl, blk_nil, List.cons_append, addI, subI, mulI, quoI, remI, shrI, eqlI, neqI, eqS, neS, beqB, bneB, lenS, lenV, pickB, ext0, ext1, ext2, ext30, ext31, binA_lss, binA_leq, binA_gtr, binA_geq, convI, decide_eq_true, decide_eq_false, gd_undef, W_scope, mnI, mxI, inBlockA_ne, dec_refl, dec_nrefl, beq_self_eq_true, ite_true, ite_false, i0, hv.len]
    exact bad 1 (by unfold checkI; rw [if_pos (by omega)]) (by omega) _ (.refl _)
  · by_cases h32 : 32 < ts.length
    · simp (maxSteps := 1000000) (disch := omega) only [W_seq, W_ops, W_draw, W_block, W_skip, W_exit, W_ret, sq_normal, sq_ret, sq_exit, W_condv, condW_true, condW_false, thenA_normal, thenA_ret, thenA_exit, if_true, if_false, Bool.false_eq_true, decide_eq_true_eq, inBlockA_normal, inBlockA_ret, inBlockA_same, inBlockA_other, noGotoA_normal, noGotoA_ret, noGotoA_exit, Wops_nil, Wops_cons, Wops_le, Wops_guard, Wops_guardle, ok1_some, okV_some, kont_at, kontL_at, gdB_true, gdB_false, decide_true, decide_false, ev_tmp, ev_const, ev_func, ev_global, put_some, put_none, upd_same, upd_at, gd_bt, gd_bf, Bool.not_true, Bool.not_false, pick_true, pick_false, pick_b, not_b, W1_mov, W1_pick, W1_new, W1_box, W1_build, W1_lit, W1_load1, W1_loadn, W1_store, W1_nilc, W1_bin, W1_un, W1_conv, W1_b2s, W1_s2b, W1_field1, W1_fieldn, W1_faddr, W1_iaddr, W1_iarr, W1_idxs, W1_idxa1, W1_idxan, W1_sls, W1_sll, W1_sla, W1_mk, W1_ext, W1_fn, W1_ifc, W1_lens, W1_lenc, W1_app, W1_apps, W1_copy, W1_mn, W1_mx, W1_isnil, W1_strc, W1_beq, W1_mks, W1_capn, W1_appz, W1_eqagg, W1_call, W1_calld, callD_func, List.nil_append, List.append_nil, List.map_cons, List.map_nil, Option.map_some, Option.map_none, reduceIte, Option.some.injEq, exists_eq_left', Nat.reduceBEq, iv_ii, postA_ret, postA_normal, resVs_nil, resVs_tmp, resVs_one, resVs_many, Option.bind_some, tupleOf, Int.toNat_natCast, true_and, and_true, Nat.reduceEqDiff, RdOk_nil, RdOk_refl, rd_load1, rd_loadn, rd_b2s, rd_sll, rd_sla, rd_call, rd_calld, rd_new, rd_box, rd_lit, rd_store, rd_s2b, rd_mk, rd_app, rd_apps, rd_appz, rd_mks, rd_copy, blk_ptr, blk_sl, blk_nil, List.cons_append, addI, subI, mulI, quoI, remI, shrI, eqlI, neqI, eqS, neS, beqB, bneB, lenS, lenV, pickB, ext0, ext1, ext2, ext30, ext31, binA_lss, binA_leq, binA_gtr, binA_geq, convI, decide_eq_true, decide_eq_false, gd_undef, W_scope, mnI, mxI, inBlockA_ne, dec_refl, dec_nrefl, beq_self_eq_true, ite_true, ite_false, i0, hv.len]
      exact bad 4 (by unfold checkI; rw [if_neg (by omega), if_pos (by omega)]) (by omega) _ (.refl _)
    · simp (maxSteps := 1000000) (disch := omega) only [W_seq, W_ops, W_draw, W_block, W_skip, W_exit, W_ret, sq_normal, sq_ret, sq_exit, W_condv, condW_true, condW_false, thenA_normal, thenA_ret, thenA_exit, if_true, if_false, Bool.false_eq_true, decide_eq_true_eq, inBlockA_normal, inBlockA_ret, inBlockA_same, inBlockA_other, noGotoA_normal, noGotoA_ret, noGotoA_exit, Wops_nil, Wops_cons, Wops_le, Wops_guard, Wops_guardle, ok1_some, okV_some, kont_at, kontL_at, gdB_true, gdB_false, decide_true, decide_false, ev_tmp, ev_const, ev_func, ev_global, put_some, put_none, upd_same, upd_at, gd_bt, gd_bf, Bool.not_true, Bool.not_false, pick_true, pick_false, pick_b, not_b, W1_mov, W1_pick, W1_new, W1_box, W1_build, W1_lit, W1_load1, W1_loadn, W1_store, W1_nilc, W1_bin, W1_un, W1_conv, W1_b2s, W1_s2b, W1_field1, W1_fieldn, W1_faddr, W1_iaddr, W1_iarr, W1_idxs, W1_idxa1, W1_idxan, W1_sls, W1_sll, W1_sla, W1_mk, W1_ext, W1_fn, W1_ifc, W1_lens, W1_lenc, W1_app, W1_apps, W1_copy, W1_mn, W1_mx, W1_isnil, W1_strc, W1_beq, W1_mks, W1_capn, W1_appz, W1_eqagg, W1_call, W1_calld, callD_func, List.nil_append, List.append_nil, List.map_cons, List.map_nil, Option.map_some, Option.map_none, reduceIte, Option.some.injEq, exists_eq_left', Nat.reduceBEq, iv_ii, postA_ret, postA_normal, resVs_nil, resVs_tmp, resVs_one, resVs_many, Option.bind_some, tupleOf, Int.toNat_natCast, true_and, and_true, Nat.reduceEqDiff, RdOk_nil, RdOk_refl, rd_load1, rd_loadn, rd_b2s, rd_sll, rd_sla, rd_call, rd_calld, rd_new, rd_box, rd_lit, rd_store, rd_s2b, rd_mk, rd_app, rd_apps, rd_appz, rd_mks, rd_copy, blk_ptr, blk_sl, blk_nil, List.cons_append, addI, subI, mulI, quoI, remI, shrI, eqlI, neqI, eqS, neS, beqB, bneB, lenS, lenV, pickB, ext0, ext1, ext2, ext30, ext31, binA_lss, binA_leq, binA_gtr, binA_geq, convI, decide_eq_true, decide_eq_false, gd_undef, W_scope, mnI, mxI, inBlockA_ne, dec_refl, dec_nrefl, beq_self_eq_true, ite_true, ite_false, i0, hv.len]
      refine ref01_Put_spec (fun p A1 _ _ k1 o1 => ?_) (fun h => absurd ⟨by omega, by omega⟩ h)
      rw [Int.toNat_natCast] at o1
      simp (maxSteps := 1000000) (disch := omega) only [W_seq, W_ops, W_draw, W_block, W_skip, W_exit, W_ret, sq_normal, sq_ret, sq_exit, W_condv, condW_true, condW_false, thenA_normal, thenA_ret, thenA_exit, if_true, if_false, Bool.false_eq_true, decide_eq_true_eq, inBlockA_normal, inBlockA_ret, inBlockA_same, inBlockA_other, noGotoA_normal, noGotoA_ret, noGotoA_exit, Wops_nil, Wops_cons, Wops_le, Wops_guard, Wops_guardle, ok1_some, okV_some, kont_at, kontL_at, gdB_true, gdB_false, decide_true, decide_false, ev_tmp, ev_const, ev_func, ev_global, put_some, put_none, upd_same, upd_at, gd_bt, gd_bf, Bool.not_true, Bool.not_false, pick_true, pick_false, pick_b, not_b, W1_mov, W1_pick, W1_new, W1_box, W1_build, W1_lit, W1_load1, W1_loadn, W1_store, W1_nilc, W1_bin, W1_un, W1_conv, W1_b2s, W1_s2b, W1_field1, W1_fieldn, W1_faddr, W1_iaddr, W1_iarr, W1_idxs, W1_idxa1, W1_idxan, W1_sls, W1_sll, W1_sla, W1_mk, W1_ext, W1_fn, W1_ifc, W1_lens, W1_lenc, W1_app, W1_apps, W1_copy, W1_mn, W1_mx, W1_isnil, W1_strc, W1_beq, W1_mks, W1_capn, W1_appz, W1_eqagg, W1_call, W1_calld, callD_func, List.nil_append, List.append_nil, List.map_cons, List.map_nil, Option.map_some, Option.map_none, reduceIte, Option.some.injEq, exists_eq_left', Nat.reduceBEq, iv_ii, postA_ret, postA_normal, resVs_nil, resVs_tmp, resVs_one, resVs_many, Option.bind_some, tupleOf, Int.toNat_natCast, true_and, and_true, Nat.reduceEqDiff, RdOk_nil, RdOk_refl, rd_load1, rd_loadn, rd_b2s, rd_sll, rd_sla, rd_call, rd_calld, rd_new, rd_box, rd_lit, rd_store, rd_s2b, rd_mk, rd_app, rd_apps, rd_appz, rd_mks, rd_copy, blk_ptr, blk_sl, blk_nil, List.cons_append, addI, subI, mulI, quoI, remI, shrI, eqlI, neqI, eqS, neS, beqB, bneB, lenS, lenV, pickB, ext0, ext1, ext2, ext30, ext31, binA_lss, binA_leq, binA_gtr, binA_geq, convI, decide_eq_true, decide_eq_false, gd_undef, W_scope, mnI, mxI, inBlockA_ne, dec_refl, dec_nrefl, beq_self_eq_true, ite_true, ite_false, i0]
      have p5 := putN_len5 (n := ts.length) (by omega)
      refine W_loop (fun a' B => ∃ k : Nat, k ≤ ts.length ∧ Le A B ∧ OwnB A.length B (a' 4) (putN ts.length ++ ((ts.take k).map textN).flatten) ∧ ((ts.take k).map textN).flatten.length ≤ 389 * k ∧ (lensI ts).find? wrI = ((lensI ts).drop k).find? wrI ∧ a' 0 = v ∧ a' 6 = ii k) (fun a' _ => ts.length - (iv (a' 6)).toNat) ?_ ?_
      · refine ⟨0, by omega, k1, ?_⟩
        simp (maxSteps := 1000000) (disch := omega) only [W_seq, W_ops, W_draw, W_block, W_skip, W_exit, W_ret, sq_normal, sq_ret, sq_exit, W_condv, condW_true, condW_false, thenA_normal, thenA_ret, thenA_exit, if_true, if_false, Bool.false_eq_true, decide_eq_true_eq, inBlockA_normal, inBlockA_ret, inBlockA_same, inBlockA_other, noGotoA_normal, noGotoA_ret, noGotoA_exit, Wops_nil, Wops_cons, Wops_le, Wops_guard, Wops_guardle, ok1_some, okV_some, kont_at, kontL_at, gdB_true, gdB_false, decide_true, decide_false, ev_tmp, ev_const, ev_func, ev_global, put_some, put_none, upd_same, upd_at, gd_bt, gd_bf, Bool.not_true, Bool.not_false, pick_true, pick_false, pick_b, not_b, W1_mov, W1_pick, W1_new, W1_box, W1_build, W1_lit, W1_load1, W1_loadn, W1_store, W1_nilc, W1_bin, W1_un, W1_conv, W1_b2s, W1_s2b, W1_field1, W1_fieldn, W1_faddr, W1_iaddr, W1_iarr, W1_idxs, W1_idxa1, W1_idxan, W1_sls, W1_sll, W1_sla, W1_mk, W1_ext, W1_fn, W1_ifc, W1_lens, W1_lenc, W1_app, W1_apps, W1_copy, W1_mn, W1_mx, W1_isnil, W1_strc, W1_beq, W1_mks, W1_capn, W1_appz, W1_eqagg, W1_call, W1_calld, callD_func, List.nil_append, List.append_nil, List.map_cons, List.map_nil, Option.map_some, Option.map_none, reduceIte, Option.some.injEq, exists_eq_left', Nat.reduceBEq, iv_ii, postA_ret, postA_normal, resVs_nil, resVs_tmp, resVs_one, resVs_many, Option.bind_some, tupleOf, Int.toNat_natCast, true_and, and_true, Nat.reduceEqDiff, RdOk_nil, RdOk_refl, rd_load1, rd_loadn, rd_b2s, rd_sll, rd_sla, rd_call, rd_calld, rd_new, rd_box, rd_lit, rd_store, rd_s2b, rd_mk, rd_app, rd_apps, rd_appz, rd_mks, rd_copy, blk_ptr, blk_sl, blk_nil, List.cons_append, addI, subI, mulI, quoI, remI, shrI, eqlI, neqI, eqS, neS, beqB, bneB, lenS, lenV, pickB, ext0, ext1, ext2, ext30, ext31, binA_lss, binA_leq, binA_gtr, binA_geq, convI, decide_eq_true, decide_eq_false, gd_undef, W_scope, mnI, mxI, inBlockA_ne, dec_refl, dec_nrefl, beq_self_eq_true, ite_true, ite_false, i0]
        refine ⟨by simpa using o1, by simp⟩
      · rintro a2 B ⟨k, hk, hle, ho, hfl, hf, g0, g6⟩
        generalize ex : a2 4 = y at ho
        rcases Nat.lt_or_ge k ts.length with hlt | hge
        · obtain ⟨t, ht⟩ : ∃ t, ts[k]? = some t := ⟨_, List.getElem?_eq_getElem hlt⟩
          have hlk := lensI_get ht
          obtain ⟨p, x, p1, p2, p3⟩ := (hv.le hle).at1 ht
          by_cases t0 : t.length = 0
          · simp (maxSteps := 1000000) (disch := omega) only [W_seq, W_ops, W_draw, W_block, W_skip, W_exit, W_ret, sq_normal, sq_ret, sq_exit, W_condv, condW_true, condW_false, thenA_normal, thenA_ret, thenA_exit, if_true, if_false, Bool.false_eq_true, decide_eq_true_eq, inBlockA_normal, inBlockA_ret, inBlockA_same, inBlockA_other, noGotoA_normal, noGotoA_ret, noGotoA_exit, Wops_nil, Wops_cons, Wops_le, Wops_guard, Wops_guardle, ok1_some, okV_some, kont_at, kontL_at, gdB_true, gdB_false, decide_true, decide_false, ev_tmp, ev_const, ev_func, ev_global, put_some, put_none, upd_same, upd_at, gd_bt, gd_bf, Bool.not_true, Bool.not_false, pick_true, pick_false, pick_b, not_b, W1_mov, W1_pick, W1_new, W1_box, W1_build, W1_lit, W1_load1, W1_loadn, W1_store, W1_nilc, W1_bin, W1_un, W1_conv, W1_b2s, W1_s2b, W1_field1, W1_fieldn, W1_faddr, W1_iaddr, W1_iarr, W1_idxs, W1_idxa1, W1_idxan, W1_sls, W1_sll, W1_sla, W1_mk, W1_ext, W1_fn, W1_ifc, W1_lens, W1_lenc, W1_app, W1_apps, W1_copy, W1_mn, W1_mx, W1_isnil, W1_strc, W1_beq, W1_mks, W1_capn, W1_appz, W1_eqagg, W1_call, W1_calld, callD_func, List.nil_append, List.append_nil, List.map_cons, List.map_nil, Option.map_some, Option.map_none, reduceIte, Option.some.injEq, exists_eq_left', Nat.reduceBEq, iv_ii, postA_ret, postA_normal, resVs_nil, resVs_tmp, resVs_one, resVs_many, Option.bind_some, tupleOf, Int.toNat_natCast, true_and, and_true, Nat.reduceEqDiff, RdOk_nil, RdOk_refl, rd_load1, rd_loadn, rd_b2s, rd_sll, rd_sla, rd_call, rd_calld, rd_new, rd_box, rd_lit, rd_store, rd_s2b, rd_mk, rd_app, rd_apps, rd_appz, rd_mks, rd_copy, blk_ptr, blk_sl, blk_nil, List.cons_append, addI, subI, mulI, quoI, remI, shrI, eqlI, neqI, eqS, neS, beqB, bneB, lenS, lenV, pickB, ext0, ext1, ext2, ext30, ext31, binA_lss, binA_leq, binA_gtr, binA_geq, convI, decide_eq_true, decide_eq_false, gd_undef, W_scope, mnI, mxI, inBlockA_ne, dec_refl, dec_nrefl, beq_self_eq_true, ite_true, ite_false, g0, g6, ex, (hv.le hle).len, p1, p2, p3.len]
            exact bad 1 (by rw [checkI_at (by omega) (by omega) hlk hf (by simp [wrI]; omega), if_pos (by omega)]) (by omega) _ hle
          · by_cases t384 : 384 < t.length
            · simp (maxSteps := 1000000) (disch := omega) only [W_seq, W_ops, W_draw, W_block, W_skip, W_exit, W_ret, sq_normal, sq_ret, sq_exit, W_condv, condW_true, condW_false, thenA_normal, thenA_ret, thenA_exit, if_true, if_false, Bool.false_eq_true, decide_eq_true_eq, inBlockA_normal, inBlockA_ret, inBlockA_same, inBlockA_other, noGotoA_normal, noGotoA_ret, noGotoA_exit, Wops_nil, Wops_cons, Wops_le, Wops_guard, Wops_guardle, ok1_some, okV_some, kont_at, kontL_at, gdB_true, gdB_false, decide_true, decide_false, ev_tmp, ev_const, ev_func, ev_global, put_some, put_none, upd_same, upd_at, gd_bt, gd_bf, Bool.not_true, Bool.not_false, pick_true, pick_false, pick_b, not_b, W1_mov, W1_pick, W1_new, W1_box, W1_build, W1_lit, W1_load1, W1_loadn, W1_store, W1_nilc, W1_bin, W1_un, W1_conv, W1_b2s, W1_s2b, W1_field1, W1_fieldn, W1_faddr, W1_iaddr, W1_iarr, W1_idxs, W1_idxa1, W1_idxan, W1_sls, W1_sll, W1_sla, W1_mk, W1_ext, W1_fn, W1_ifc, W1_lens, W1_lenc, W1_app, W1_apps, W1_copy, W1_mn, W1_mx, W1_isnil, W1_strc, W1_beq, W1_mks, W1_capn, W1_appz, W1_eqagg, W1_call, W1_calld, callD_func, List.nil_append, List.append_nil, List.map_cons, List.map_nil, Option.map_some, Option.map_none, reduceIte, Option.some.injEq, exists_eq_left', Nat.reduceBEq, iv_ii, postA_ret, postA_normal, resVs_nil, resVs_tmp, resVs_one, resVs_many, Option.bind_some, tupleOf, Int.toNat_natCast, true_and, and_true, Nat.reduceEqDiff, RdOk_nil, RdOk_refl, rd_load1, rd_loadn, rd_b2s, rd_sll, rd_sla, rd_call, rd_calld, rd_new, rd_box, rd_lit, rd_store, rd_s2b, rd_mk, rd_app, rd_apps, rd_appz, rd_mks, rd_copy, blk_ptr, blk_sl, blk_nil, List.cons_append, addI, subI, mulI, quoI, remI, shrI, eqlI, neqI, eqS, neS, beqB, bneB, lenS, lenV, pickB, ext0, ext1, ext2, ext30, ext31, binA_lss, binA_leq, binA_gtr, binA_geq, convI, decide_eq_true, decide_eq_false, gd_undef, W_scope, mnI, mxI, inBlockA_ne, dec_refl, dec_nrefl, beq_self_eq_true, ite_true, ite_false, g0, g6, ex, (hv.le hle).len, p1, p2, p3.len]
              exact bad 3 (by rw [checkI_at (by omega) (by omega) hlk hf (by simp [wrI]; omega), if_neg (by omega)]) (by omega) _ hle
            · simp (maxSteps := 1000000) (disch := omega) only [W_seq, W_ops, W_draw, W_block, W_skip, W_exit, W_ret, sq_normal, sq_ret, sq_exit, W_condv, condW_true, condW_false, thenA_normal, thenA_ret, thenA_exit, if_true, if_false, Bool.false_eq_true, decide_eq_true_eq, inBlockA_normal, inBlockA_ret, inBlockA_same, inBlockA_other, noGotoA_normal, noGotoA_ret, noGotoA_exit, Wops_nil, Wops_cons, Wops_le, Wops_guard, Wops_guardle, ok1_some, okV_some, kont_at, kontL_at, gdB_true, gdB_false, decide_true, decide_false, ev_tmp, ev_const, ev_func, ev_global, put_some, put_none, upd_same, upd_at, gd_bt, gd_bf, Bool.not_true, Bool.not_false, pick_true, pick_false, pick_b, not_b, W1_mov, W1_pick, W1_new, W1_box, W1_build, W1_lit, W1_load1, W1_loadn, W1_store, W1_nilc, W1_bin, W1_un, W1_conv, W1_b2s, W1_s2b, W1_field1, W1_fieldn, W1_faddr, W1_iaddr, W1_iarr, W1_idxs, W1_idxa1, W1_idxan, W1_sls, W1_sll, W1_sla, W1_mk, W1_ext, W1_fn, W1_ifc, W1_lens, W1_lenc, W1_app, W1_apps, W1_copy, W1_mn, W1_mx, W1_isnil, W1_strc, W1_beq, W1_mks, W1_capn, W1_appz, W1_eqagg, W1_call, W1_calld, callD_func, List.nil_append, List.append_nil, List.map_cons, List.map_nil, Option.map_some, Option.map_none, reduceIte, Option.some.injEq, exists_eq_left', Nat.reduceBEq, iv_ii, postA_ret, postA_normal, resVs_nil, resVs_tmp, resVs_one, resVs_many, Option.bind_some, tupleOf, Int.toNat_natCast, true_and, and_true, Nat.reduceEqDiff, RdOk_nil, RdOk_refl, rd_load1, rd_loadn, rd_b2s, rd_sll, rd_sla, rd_call, rd_calld, rd_new, rd_box, rd_lit, rd_store, rd_s2b, rd_mk, rd_app, rd_apps, rd_appz, rd_mks, rd_copy, blk_ptr, blk_sl, blk_nil, List.cons_append, addI, subI, mulI, quoI, remI, shrI, eqlI, neqI, eqS, neS, beqB, bneB, lenS, lenV, pickB, ext0, ext1, ext2, ext30, ext31, binA_lss, binA_leq, binA_gtr, binA_geq, convI, decide_eq_true, decide_eq_false, gd_undef, W_scope, mnI, mxI, inBlockA_ne, dec_refl, dec_nrefl, beq_self_eq_true, ite_true, ite_false, g0, g6, ex, (hv.le hle).len, p1, p2, p3.len]
              refine ref01_Text_spec p3 (fun u B1 _ k2 o2 => ?_) (fun h => by omega)
              have tl := textN_len t (by omega)
              obtain ⟨w', B2, q1, q2, q3, _⟩ := app_bytes (hle.trans k2) (OwnS.le ho k2) o2.byt (by rw [List.length_append]; omega)
              simp (maxSteps := 1000000) (disch := omega) only [W_seq, W_ops, W_draw, W_block, W_skip, W_exit, W_ret, sq_normal, sq_ret, sq_exit, W_condv, condW_true, condW_false, thenA_normal, thenA_ret, thenA_exit, if_true, if_false, Bool.false_eq_true, decide_eq_true_eq, inBlockA_normal, inBlockA_ret, inBlockA_same, inBlockA_other, noGotoA_normal, noGotoA_ret, noGotoA_exit, Wops_nil, Wops_cons, Wops_le, Wops_guard, Wops_guardle, ok1_some, okV_some, kont_at, kontL_at, gdB_true, gdB_false, decide_true, decide_false, ev_tmp, ev_const, ev_func, ev_global, put_some, put_none, upd_same, upd_at, gd_bt, gd_bf, Bool.not_true, Bool.not_false, pick_true, pick_false, pick_b, not_b, W1_mov, W1_pick, W1_new, W1_box, W1_build, W1_lit, W1_load1, W1_loadn, W1_store, W1_nilc, W1_bin, W1_un, W1_conv, W1_b2s, W1_s2b, W1_field1, W1_fieldn, W1_faddr, W1_iaddr, W1_iarr, W1_idxs, W1_idxa1, W1_idxan, W1_sls, W1_sll, W1_sla, W1_mk, W1_ext, W1_fn, W1_ifc, W1_lens, W1_lenc, W1_app, W1_apps, W1_copy, W1_mn, W1_mx, W1_isnil, W1_strc, W1_beq, W1_mks, W1_capn, W1_appz, W1_eqagg, W1_call, W1_calld, callD_func, List.nil_append, List.append_nil, List.map_cons, List.map_nil, Option.map_some, Option.map_none, reduceIte, Option.some.injEq, exists_eq_left', Nat.reduceBEq, iv_ii, postA_ret, postA_normal, resVs_nil, resVs_tmp, resVs_one, resVs_many, Option.bind_some, tupleOf, Int.toNat_natCast, true_and, and_true, Nat.reduceEqDiff, RdOk_nil, RdOk_refl, rd_load1, rd_loadn, rd_b2s, rd_sll, rd_sla, rd_call, rd_calld, rd_new, rd_box, rd_lit, rd_store, rd_s2b, rd_mk, rd_app, rd_apps, rd_appz, rd_mks, rd_copy, blk_ptr, blk_sl, blk_nil, List.cons_append, addI, subI, mulI, quoI, remI, shrI, eqlI, neqI, eqS, neS, beqB, bneB, lenS, lenV, pickB, ext0, ext1, ext2, ext30, ext31, binA_lss, binA_leq, binA_gtr, binA_geq, convI, decide_eq_true, decide_eq_false, gd_undef, W_scope, mnI, mxI, inBlockA_ne, dec_refl, dec_nrefl, beq_self_eq_true, ite_true, ite_false, g0, g6, ex, q1]
              have e : ((ts.take (k + 1)).map textN).flatten = ((ts.take k).map textN).flatten ++ textN t := by
                rw [List.take_add_one, ht]
                simp
              refine ⟨⟨k + 1, by omega, q2, ?_, ?_, find_next hlk hf (by simp [wrI]; omega), rfl⟩, by omega⟩
              · rw [e, ← List.append_assoc]; exact q3
              · rw [e, List.length_append]; omega
        · have hkk : k = ts.length := by omega
          subst hkk
          rw [List.take_length] at ho
          have hc : checkI (lensI ts) = 0 := checkI_end (by omega) (by omega) (by rw [hll]; exact hf)
          have e : putJ ts = recJ ts := by unfold putJ; rw [if_pos hc]
          rw [e, hc] at hq
          simp (maxSteps := 1000000) (disch := omega) only [W_seq, W_ops, W_draw, W_block, W_skip, W_exit, W_ret, sq_normal, sq_ret, sq_exit, W_condv, condW_true, condW_false, thenA_normal, thenA_ret, thenA_exit, if_true, if_false, Bool.false_eq_true, decide_eq_true_eq, inBlockA_normal, inBlockA_ret, inBlockA_same, inBlockA_other, noGotoA_normal, noGotoA_ret, noGotoA_exit, Wops_nil, Wops_cons, Wops_le, Wops_guard, Wops_guardle, ok1_some, okV_some, kont_at, kontL_at, gdB_true, gdB_false, decide_true, decide_false, ev_tmp, ev_const, ev_func, ev_global, put_some, put_none, upd_same, upd_at, gd_bt, gd_bf, Bool.not_true, Bool.not_false, pick_true, pick_false, pick_b, not_b, W1_mov, W1_pick, W1_new, W1_box, W1_build, W1_lit, W1_load1, W1_loadn, W1_store, W1_nilc, W1_bin, W1_un, W1_conv, W1_b2s, W1_s2b, W1_field1, W1_fieldn, W1_faddr, W1_iaddr, W1_iarr, W1_idxs, W1_idxa1, W1_idxan, W1_sls, W1_sll, W1_sla, W1_mk, W1_ext, W1_fn, W1_ifc, W1_lens, W1_lenc, W1_app, W1_apps, W1_copy, W1_mn, W1_mx, W1_isnil, W1_strc, W1_beq, W1_mks, W1_capn, W1_appz, W1_eqagg, W1_call, W1_calld, callD_func, List.nil_append, List.append_nil, List.map_cons, List.map_nil, Option.map_some, Option.map_none, reduceIte, Option.some.injEq, exists_eq_left', Nat.reduceBEq, iv_ii, postA_ret, postA_normal, resVs_nil, resVs_tmp, resVs_one, resVs_many, Option.bind_some, tupleOf, Int.toNat_natCast, true_and, and_true, Nat.reduceEqDiff, RdOk_nil, RdOk_refl, rd_load1, rd_loadn, rd_b2s, rd_sll, rd_sla, rd_call, rd_calld, rd_new, rd_box, rd_lit, rd_store, rd_s2b, rd_mk, rd_app, rd_apps, rd_appz, rd_mks, rd_copy, blk_ptr, blk_sl, blk_nil, List.cons_append, addI, subI, mulI, quoI, remI, shrI, eqlI, neqI, eqS, neS, beqB, bneB, lenS, lenV, pickB, ext0, ext1, ext2, ext30, ext31, binA_lss, binA_leq, binA_gtr, binA_geq, convI, decide_eq_true, decide_eq_false, gd_undef, W_scope, mnI, mxI, inBlockA_ne, dec_refl, dec_nrefl, beq_self_eq_true, ite_true, ite_false, g0, g6, ex, (hv.le hle).len]
          exact hq _ _ hle ho
end Go.AS.C

namespace Go.AS.C
open Go Go.Proofs
set_option linter.unusedVariables false
set_option linter.unusedSimpArgs false
set_option maxRecDepth 10000

theorem numC_ok {bs l : List UInt8} {n : Nat} (h : numC (some bs) = (some l, n)) : bs = putN n ++ l := by
  unfold numC at h
  simp only at h
  split at h
  · rename_i n' k hg
    injection h with h1 h2
    injection h1 with h1
    subst h1 h2
    obtain ⟨_, _, _, _, h5⟩ := getN_ok hg
    rw [h5, List.take_append_drop]
  · injection h with h1 _
    cases h1
theorem textC_ok {l l1 t : List UInt8} (h : textC (some l) = (some l1, t)) : l = textN t ++ l1 := by
  unfold textC at h
  simp only at h
  split at h
  · rename_i n k hg
    obtain ⟨_, _, _, _, h5⟩ := getN_ok hg
    split at h
    · unfold takeC at h
      simp only [Int.toNat_natCast] at h
      split at h
      · rename_i hn
        injection h with h1 h2
        injection h1 with h1
        subst h1 h2
        have ht : ((l.drop k).take n).length = n := by rw [List.length_take]; omega
        unfold textN
        rw [ht, h5, List.append_assoc, List.take_append_drop, List.take_append_drop]
      · injection h with h1 _
        cases h1
    · injection h with h1 _
      cases h1
  · injection h with h1 _
    cases h1
theorem textsC_ok : ∀ (n : Nat) (l : List UInt8) (ts : List (List UInt8)) (r : List UInt8), textsC n (some l) = (ts, some r) → ts.length = n ∧ l = (ts.map textN).flatten ++ r
  | 0, l, ts, r, h => by
    simp only [textsC] at h
    injection h with h1 h2
    injection h2 with h2
    subst h1 h2
    exact ⟨rfl, by simp⟩
  | n + 1, l, ts, r, h => by
    simp only [textsC] at h
    cases hc : textC (some l) with
    | mk st1 t =>
      rw [hc] at h
      simp only at h
      cases st1 with
      | none => rw [textsC_none] at h; injection h with _ h; cases h
      | some l1 =>
        injection h with h1 h2
        subst h1
        obtain ⟨q1, q2⟩ := textsC_ok n l1 (textsC n (some l1)).1 r (by rw [← h2])
        refine ⟨by simp [q1], ?_⟩
        rw [textC_ok hc, List.map_cons, List.flatten_cons, List.append_assoc, ← q2]
theorem getC_ok {bs r : List UInt8} {ts : List (List UInt8)} (h : getC bs = (ts, some r)) : bs = recJ ts ++ r := by
  unfold getC at h
  cases hn : numC (some bs) with
  | mk st n =>
    rw [hn] at h
    simp only at h
    cases st with
    | none => rw [textsC_none] at h; injection h with _ h; cases h
    | some l =>
      obtain ⟨q1, q2⟩ := textsC_ok n l ts r h
      rw [numC_ok hn]
      unfold recJ
      rw [q1, List.append_assoc, ← q2]

theorem OwnBs.notRow {a0 j : Nat} {A : AH} {w : Value} {bss : List (List UInt8)} {cs : List Value} {st : St} {ex : Bool} (h : OwnBs a0 A w bss) (hj : A[j]? = some (.row cs st 0 ex)) : j ∉ blkOf w := by
  obtain ⟨vs, ⟨_, h⟩, _, _⟩ := h
  intro hk
  rcases h with ⟨rfl, _⟩ | ⟨rfl, _⟩ | ⟨i, o, c, rc, ex, rfl, h2, h3, h4, _⟩
  · cases hk
  · cases hk
  · simp only [blkOf, List.mem_singleton] at hk
    subst hk
    rw [hj] at h4
    simp at h4

theorem ref32_Get_spec {A : AH} {v : Value} {bs : List UInt8} {Q : Value → AH → Prop} (hv : Byt A v bs) (hl : bs.length ≤ 2 ^ 30) (hq : ∀ A' u, Le A A' → Byts A' u (getJ bs).1 → Q (.tuple #[u, ii (getJ bs).2]) A') : ACalls 0 Try.prog chantryref32_Get [v] Q A := by
  refine ACalls.of_fits mixed fits_chantryref32_Get rfl ?_
  unfold ic_chantryref32_Get
  have i0 : initA [v] 0 = v := rfl
  generalize initA [v] = a at i0
  simp (maxSteps := 1000000) (disch := omega) only [W_seq, W_ops, W_draw, W_block, W_skip, W_exit, W_ret, sq_normal, sq_ret, sq_exit, W_condv, condW_true, condW_false, thenA_normal, thenA_ret, thenA_exit, if_true, if_false, Bool.false_eq_true, decide_eq_true_eq, inBlockA_normal, inBlockA_ret, inBlockA_same, inBlockA_other, noGotoA_normal, noGotoA_ret, noGotoA_exit, Wops_nil, Wops_cons, Wops_le, Wops_guard, Wops_guardle, ok1_some, okV_some, kont_at, kontL_at, gdB_true, gdB_false, decide_true, decide_false, ev_tmp, ev_const, ev_func, ev_global, put_some, put_none, upd_same, upd_at, gd_bt, gd_bf, Bool.not_true, Bool.not_false, pick_true, pick_false, pick_b, not_b, W1_mov, W1_pick, W1_new, W1_box, W1_build, W1_lit, W1_load1, W1_loadn, W1_store, W1_nilc, W1_bin, W1_un, W1_conv, W1_b2s, W1_s2b, W1_field1, W1_fieldn, W1_faddr, W1_iaddr, W1_iarr, W1_idxs, W1_idxa1, W1_idxan, W1_sls, W1_sll, W1_sla, W1_mk, W1_ext, W1_fn, W1_ifc, W1_lens, W1_lenc, W1_app, W1_apps, W1_copy, W1_mn, W1_mx, W1_isnil, W1_strc, W1_beq, W1_mks, W1_capn, W1_appz, W1_eqagg, W1_call, W1_calld, callD_func, List.nil_append, List.append_nil, List.map_cons, List.map_nil, Option.map_some, Option.map_none, reduceIte, Option.some.injEq, exists_eq_left', Nat.reduceBEq, iv_ii, postA_ret, postA_normal, resVs_nil, resVs_tmp, resVs_one, resVs_many, Option.bind_some, tupleOf, Int.toNat_natCast, true_and, and_true, Nat.reduceEqDiff, RdOk_nil, RdOk_refl, rd_load1, rd_loadn, rd_b2s, rd_sll, rd_sla, rd_call, rd_calld, rd_new, rd_box, rd_lit, rd_store, rd_s2b, rd_mk, rd_app, rd_apps, rd_appz, rd_mks, rd_copy, blk_ptr, blk_sl, blk_nil, List.cons_append, addI, subI, mulI, quoI, remI, shrI, eqlI, neqI, eqS, neS, beqB, bneB, lenS, lenV, pickB, ext0, ext1, ext2, ext30, ext31, binA_lss, binA_leq, binA_gtr, binA_geq, convI, decide_eq_true, decide_eq_false, gd_undef, W_scope, mnI, mxI, inBlockA_ne, dec_refl, dec_nrefl, beq_self_eq_true, ite_true, ite_false, i0]
  refine ref01_From_spec hv (by omega) fun A1 u1 k1 r1 => ?_
  simp (maxSteps := 1000000) (disch := omega) only [W_seq, W_ops, W_draw, W_block, W_skip, W_exit, W_ret, sq_normal, sq_ret, sq_exit, W_condv, condW_true, condW_false, thenA_normal, thenA_ret, thenA_exit, if_true, if_false, Bool.false_eq_true, decide_eq_true_eq, inBlockA_normal, inBlockA_ret, inBlockA_same, inBlockA_other, noGotoA_normal, noGotoA_ret, noGotoA_exit, Wops_nil, Wops_cons, Wops_le, Wops_guard, Wops_guardle, ok1_some, okV_some, kont_at, kontL_at, gdB_true, gdB_false, decide_true, decide_false, ev_tmp, ev_const, ev_func, ev_global, put_some, put_none, upd_same, upd_at, gd_bt, gd_bf, Bool.not_true, Bool.not_false, pick_true, pick_false, pick_b, not_b, W1_mov, W1_pick, W1_new, W1_box, W1_build, W1_lit, W1_load1, W1_loadn, W1_store, W1_nilc, W1_bin, W1_un, W1_conv, W1_b2s, W1_s2b, W1_field1, W1_fieldn, W1_faddr, W1_iaddr, W1_iarr, W1_idxs, W1_idxa1, W1_idxan, W1_sls, W1_sll, W1_sla, W1_mk, W1_ext, W1_fn, W1_ifc, W1_lens, W1_lenc, W1_app, W1_apps, W1_copy, W1_mn, W1_mx, W1_isnil, W1_strc, W1_beq, W1_mks, W1_capn, W1_appz, W1_eqagg, W1_call, W1_calld, callD_func, List.nil_append, List.append_nil, List.map_cons, List.map_nil, Option.map_some, Option.map_none, reduceIte, Option.some.injEq, exists_eq_left', Nat.reduceBEq, iv_ii, postA_ret, postA_normal, resVs_nil, resVs_tmp, resVs_one, resVs_many, Option.bind_some, tupleOf, Int.toNat_natCast, true_and, and_true, Nat.reduceEqDiff, RdOk_nil, RdOk_refl, rd_load1, rd_loadn, rd_b2s, rd_sll, rd_sla, rd_call, rd_calld, rd_new, rd_box, rd_lit, rd_store, rd_s2b, rd_mk, rd_app, rd_apps, rd_appz, rd_mks, rd_copy, blk_ptr, blk_sl, blk_nil, List.cons_append, addI, subI, mulI, quoI, remI, shrI, eqlI, neqI, eqS, neS, beqB, bneB, lenS, lenV, pickB, ext0, ext1, ext2, ext30, ext31, binA_lss, binA_leq, binA_gtr, binA_geq, convI, decide_eq_true, decide_eq_false, gd_undef, W_scope, mnI, mxI, inBlockA_ne, dec_refl, dec_nrefl, beq_self_eq_true, ite_true, ite_false, i0]
  refine ref01_Num_spec r1 fun A2 u2 k2 r2 => ?_
  have hn31 := numC_le bs
  have hnl := numC_left bs
  have hgc : getC bs = textsC (numC (some bs)).2 (numC (some bs)).1 := rfl
  generalize (numC (some bs)).2 = n at hn31 hgc ⊢
  generalize (numC (some bs)).1 = st0 at r2 hnl hgc
  obtain ⟨b, k, rfl, hb⟩ := r2.cells
  have q1 : (A2 ++ [znew])[A2.length]? = some znew := get_last _ _
  have s1 := store_ref (b' := b) (k' := k) (bad' := st0.isNone) q1 hb
  have q2 := set_get (b' := crow b k st0.isNone) q1
  have l2 : Le A2 ((A2 ++ [znew]).set A2.length (crow b k st0.isNone)) := (Le.push A2 znew).set (Nat.le_refl _)
  have r3 := r2.le l2
  have hj : A.length ≤ A2.length := (k1.trans k2).len
  have kA := (k1.trans k2).trans l2
  generalize (A2 ++ [znew]).set A2.length (crow b k st0.isNone) = A3 at s1 q2 l2 r3 kA
  generalize hjj : A2.length = j at s1 q2 hj
  simp (maxSteps := 1000000) (disch := omega) only [W_seq, W_ops, W_draw, W_block, W_skip, W_exit, W_ret, sq_normal, sq_ret, sq_exit, W_condv, condW_true, condW_false, thenA_normal, thenA_ret, thenA_exit, if_true, if_false, Bool.false_eq_true, decide_eq_true_eq, inBlockA_normal, inBlockA_ret, inBlockA_same, inBlockA_other, noGotoA_normal, noGotoA_ret, noGotoA_exit, Wops_nil, Wops_cons, Wops_le, Wops_guard, Wops_guardle, ok1_some, okV_some, kont_at, kontL_at, gdB_true, gdB_false, decide_true, decide_false, ev_tmp, ev_const, ev_func, ev_global, put_some, put_none, upd_same, upd_at, gd_bt, gd_bf, Bool.not_true, Bool.not_false, pick_true, pick_false, pick_b, not_b, W1_mov, W1_pick, W1_new, W1_box, W1_build, W1_lit, W1_load1, W1_loadn, W1_store, W1_nilc, W1_bin, W1_un, W1_conv, W1_b2s, W1_s2b, W1_field1, W1_fieldn, W1_faddr, W1_iaddr, W1_iarr, W1_idxs, W1_idxa1, W1_idxan, W1_sls, W1_sll, W1_sla, W1_mk, W1_ext, W1_fn, W1_ifc, W1_lens, W1_lenc, W1_app, W1_apps, W1_copy, W1_mn, W1_mx, W1_isnil, W1_strc, W1_beq, W1_mks, W1_capn, W1_appz, W1_eqagg, W1_call, W1_calld, callD_func, List.nil_append, List.append_nil, List.map_cons, List.map_nil, Option.map_some, Option.map_none, reduceIte, Option.some.injEq, exists_eq_left', Nat.reduceBEq, iv_ii, postA_ret, postA_normal, resVs_nil, resVs_tmp, resVs_one, resVs_many, Option.bind_some, tupleOf, Int.toNat_natCast, true_and, and_true, Nat.reduceEqDiff, RdOk_nil, RdOk_refl, rd_load1, rd_loadn, rd_b2s, rd_sll, rd_sla, rd_call, rd_calld, rd_new, rd_box, rd_lit, rd_store, rd_s2b, rd_mk, rd_app, rd_apps, rd_appz, rd_mks, rd_copy, blk_ptr, blk_sl, blk_nil, List.cons_append, addI, subI, mulI, quoI, remI, shrI, eqlI, neqI, eqS, neS, beqB, bneB, lenS, lenV, pickB, ext0, ext1, ext2, ext30, ext31, binA_lss, binA_leq, binA_gtr, binA_geq, convI, decide_eq_true, decide_eq_false, gd_undef, W_scope, mnI, mxI, inBlockA_ne, dec_refl, dec_nrefl, beq_self_eq_true, ite_true, ite_false, i0, ext0, ext1, znew_eq, hjj, s1]
  refine W_loop (fun a' B => ∃ (c : Nat) (ts : List (List UInt8)) (st : CurS) (b : Value) (k : Nat), c ≤ n ∧ Le A B ∧ B[j]? = some (crow b k st.isNone) ∧ RefA A.length B (refV b k st.isNone) st ∧ one1 b ∧ OwnBs A.length B (a' 6) ts ∧ ts.length + leftP st ≤ 2 ^ 31 ∧ (ts ++ (textsC (n - c) st).1, (textsC (n - c) st).2) = getC bs ∧ a' 0 = v ∧ a' 4 = .pointer (some ⟨j, 0, none⟩) ∧ a' 5 = ii n ∧ a' 7 = ii c) (fun a' _ => n - (iv (a' 7)).toNat) ?_ ?_
  · refine ⟨0, [], st0, b, k, Nat.zero_le _, kA, q2, r3, hb, ?_⟩
    simp (maxSteps := 1000000) (disch := omega) only [W_seq, W_ops, W_draw, W_block, W_skip, W_exit, W_ret, sq_normal, sq_ret, sq_exit, W_condv, condW_true, condW_false, thenA_normal, thenA_ret, thenA_exit, if_true, if_false, Bool.false_eq_true, decide_eq_true_eq, inBlockA_normal, inBlockA_ret, inBlockA_same, inBlockA_other, noGotoA_normal, noGotoA_ret, noGotoA_exit, Wops_nil, Wops_cons, Wops_le, Wops_guard, Wops_guardle, ok1_some, okV_some, kont_at, kontL_at, gdB_true, gdB_false, decide_true, decide_false, ev_tmp, ev_const, ev_func, ev_global, put_some, put_none, upd_same, upd_at, gd_bt, gd_bf, Bool.not_true, Bool.not_false, pick_true, pick_false, pick_b, not_b, W1_mov, W1_pick, W1_new, W1_box, W1_build, W1_lit, W1_load1, W1_loadn, W1_store, W1_nilc, W1_bin, W1_un, W1_conv, W1_b2s, W1_s2b, W1_field1, W1_fieldn, W1_faddr, W1_iaddr, W1_iarr, W1_idxs, W1_idxa1, W1_idxan, W1_sls, W1_sll, W1_sla, W1_mk, W1_ext, W1_fn, W1_ifc, W1_lens, W1_lenc, W1_app, W1_apps, W1_copy, W1_mn, W1_mx, W1_isnil, W1_strc, W1_beq, W1_mks, W1_capn, W1_appz, W1_eqagg, W1_call, W1_calld, callD_func, List.nil_append, List.append_nil, List.map_cons, List.map_nil, Option.map_some, Option.map_none, reduceIte, Option.some.injEq, exists_eq_left', Nat.reduceBEq, iv_ii, postA_ret, postA_normal, resVs_nil, resVs_tmp, resVs_one, resVs_many, Option.bind_some, tupleOf, Int.toNat_natCast, true_and, and_true, Nat.reduceEqDiff, RdOk_nil, RdOk_refl, rd_load1, rd_loadn, rd_b2s, rd_sll, rd_sla, rd_call, rd_calld, rd_new, rd_box, rd_lit, rd_store, rd_s2b, rd_mk, rd_app, rd_apps, rd_appz, rd_mks, rd_copy, blk_ptr, blk_sl, blk_nil, List.cons_append, addI, subI, mulI, quoI, remI, shrI, eqlI, neqI, eqS, neS, beqB, bneB, lenS, lenV, pickB, ext0, ext1, ext2, ext30, ext31, binA_lss, binA_leq, binA_gtr, binA_geq, convI, decide_eq_true, decide_eq_false, gd_undef, W_scope, mnI, mxI, inBlockA_ne, dec_refl, dec_nrefl, beq_self_eq_true, ite_true, ite_false, i0]
    refine ⟨OwnBs.nil _ _, by have := leftP_le st0; simp only [List.length_nil]; omega, by rw [hgc, Nat.sub_zero], ?_⟩
    try trivial
  · rintro a2 B ⟨c, ts, st, b, k, hc, hle, rg, rr, hb1, ho, htl, he, g0, g4, g5, g7⟩
    generalize g6 : a2 6 = y at ho
    have ex := g6
    have bad5 : getC bs = (ts, st) → ¬ (okC st = true ∧ checkI (lensI ts) = 0) → ∀ B', Le A B' → Q (.tuple #[.slice none 0 0, ii 5]) B' := by
      intro h1 h2 B' hB
      have e : getJ bs = ([], 5) := by unfold getJ; rw [h1]; exact if_neg h2
      rw [e] at hq
      exact hq _ _ hB (OwnBs.nil 0 _).byts
    rcases Nat.lt_or_ge c n with hlt | hge
    · cases hst : st with
      | none =>
        have hg : getC bs = (ts, st) := by rw [← he, hst, textsC_none]; simp
        rw [hst] at rg
        have rg0 := rg
        have en : (none : CurS).isNone = true := rfl
        rw [en] at rg0
        simp (maxSteps := 1000000) (disch := omega) only [W_seq, W_ops, W_draw, W_block, W_skip, W_exit, W_ret, sq_normal, sq_ret, sq_exit, W_condv, condW_true, condW_false, thenA_normal, thenA_ret, thenA_exit, if_true, if_false, Bool.false_eq_true, decide_eq_true_eq, inBlockA_normal, inBlockA_ret, inBlockA_same, inBlockA_other, noGotoA_normal, noGotoA_ret, noGotoA_exit, Wops_nil, Wops_cons, Wops_le, Wops_guard, Wops_guardle, ok1_some, okV_some, kont_at, kontL_at, gdB_true, gdB_false, decide_true, decide_false, ev_tmp, ev_const, ev_func, ev_global, put_some, put_none, upd_same, upd_at, gd_bt, gd_bf, Bool.not_true, Bool.not_false, pick_true, pick_false, pick_b, not_b, W1_mov, W1_pick, W1_new, W1_box, W1_build, W1_lit, W1_load1, W1_loadn, W1_store, W1_nilc, W1_bin, W1_un, W1_conv, W1_b2s, W1_s2b, W1_field1, W1_fieldn, W1_faddr, W1_iaddr, W1_iarr, W1_idxs, W1_idxa1, W1_idxan, W1_sls, W1_sll, W1_sla, W1_mk, W1_ext, W1_fn, W1_ifc, W1_lens, W1_lenc, W1_app, W1_apps, W1_copy, W1_mn, W1_mx, W1_isnil, W1_strc, W1_beq, W1_mks, W1_capn, W1_appz, W1_eqagg, W1_call, W1_calld, callD_func, List.nil_append, List.append_nil, List.map_cons, List.map_nil, Option.map_some, Option.map_none, reduceIte, Option.some.injEq, exists_eq_left', Nat.reduceBEq, iv_ii, postA_ret, postA_normal, resVs_nil, resVs_tmp, resVs_one, resVs_many, Option.bind_some, tupleOf, Int.toNat_natCast, true_and, and_true, Nat.reduceEqDiff, RdOk_nil, RdOk_refl, rd_load1, rd_loadn, rd_b2s, rd_sll, rd_sla, rd_call, rd_calld, rd_new, rd_box, rd_lit, rd_store, rd_s2b, rd_mk, rd_app, rd_apps, rd_appz, rd_mks, rd_copy, blk_ptr, blk_sl, blk_nil, List.cons_append, addI, subI, mulI, quoI, remI, shrI, eqlI, neqI, eqS, neS, beqB, bneB, lenS, lenV, pickB, ext0, ext1, ext2, ext30, ext31, binA_lss, binA_leq, binA_gtr, binA_geq, convI, decide_eq_true, decide_eq_false, gd_undef, W_scope, mnI, mxI, inBlockA_ne, dec_refl, dec_nrefl, beq_self_eq_true, ite_true, ite_false, g0, g4, g5, g6, g7, faddr_ptr, load_d rg0]
        refine ref32_Put_spec ho.byts (by omega) fun B1 u k3 o3 => ?_
        have rg3 := k3.get rg0
        simp (maxSteps := 1000000) (disch := omega) only [W_seq, W_ops, W_draw, W_block, W_skip, W_exit, W_ret, sq_normal, sq_ret, sq_exit, W_condv, condW_true, condW_false, thenA_normal, thenA_ret, thenA_exit, if_true, if_false, Bool.false_eq_true, decide_eq_true_eq, inBlockA_normal, inBlockA_ret, inBlockA_same, inBlockA_other, noGotoA_normal, noGotoA_ret, noGotoA_exit, Wops_nil, Wops_cons, Wops_le, Wops_guard, Wops_guardle, ok1_some, okV_some, kont_at, kontL_at, gdB_true, gdB_false, decide_true, decide_false, ev_tmp, ev_const, ev_func, ev_global, put_some, put_none, upd_same, upd_at, gd_bt, gd_bf, Bool.not_true, Bool.not_false, pick_true, pick_false, pick_b, not_b, W1_mov, W1_pick, W1_new, W1_box, W1_build, W1_lit, W1_load1, W1_loadn, W1_store, W1_nilc, W1_bin, W1_un, W1_conv, W1_b2s, W1_s2b, W1_field1, W1_fieldn, W1_faddr, W1_iaddr, W1_iarr, W1_idxs, W1_idxa1, W1_idxan, W1_sls, W1_sll, W1_sla, W1_mk, W1_ext, W1_fn, W1_ifc, W1_lens, W1_lenc, W1_app, W1_apps, W1_copy, W1_mn, W1_mx, W1_isnil, W1_strc, W1_beq, W1_mks, W1_capn, W1_appz, W1_eqagg, W1_call, W1_calld, callD_func, List.nil_append, List.append_nil, List.map_cons, List.map_nil, Option.map_some, Option.map_none, reduceIte, Option.some.injEq, exists_eq_left', Nat.reduceBEq, iv_ii, postA_ret, postA_normal, resVs_nil, resVs_tmp, resVs_one, resVs_many, Option.bind_some, tupleOf, Int.toNat_natCast, true_and, and_true, Nat.reduceEqDiff, RdOk_nil, RdOk_refl, rd_load1, rd_loadn, rd_b2s, rd_sll, rd_sla, rd_call, rd_calld, rd_new, rd_box, rd_lit, rd_store, rd_s2b, rd_mk, rd_app, rd_apps, rd_appz, rd_mks, rd_copy, blk_ptr, blk_sl, blk_nil, List.cons_append, addI, subI, mulI, quoI, remI, shrI, eqlI, neqI, eqS, neS, beqB, bneB, lenS, lenV, pickB, ext0, ext1, ext2, ext30, ext31, binA_lss, binA_leq, binA_gtr, binA_geq, convI, decide_eq_true, decide_eq_false, gd_undef, W_scope, mnI, mxI, inBlockA_ne, dec_refl, dec_nrefl, beq_self_eq_true, ite_true, ite_false, g0, g4, g5, g6, g7, ext0, ext1, faddr_ptr, load_d rg3]
        exact bad5 hg (by rw [hst]; simp [okC]) _ (hle.trans k3)
      | some l =>
        subst hst
        have en : (some l : CurS).isNone = false := rfl
        rw [en] at rg rr
        simp (maxSteps := 1000000) (disch := omega) only [W_seq, W_ops, W_draw, W_block, W_skip, W_exit, W_ret, sq_normal, sq_ret, sq_exit, W_condv, condW_true, condW_false, thenA_normal, thenA_ret, thenA_exit, if_true, if_false, Bool.false_eq_true, decide_eq_true_eq, inBlockA_normal, inBlockA_ret, inBlockA_same, inBlockA_other, noGotoA_normal, noGotoA_ret, noGotoA_exit, Wops_nil, Wops_cons, Wops_le, Wops_guard, Wops_guardle, ok1_some, okV_some, kont_at, kontL_at, gdB_true, gdB_false, decide_true, decide_false, ev_tmp, ev_const, ev_func, ev_global, put_some, put_none, upd_same, upd_at, gd_bt, gd_bf, Bool.not_true, Bool.not_false, pick_true, pick_false, pick_b, not_b, W1_mov, W1_pick, W1_new, W1_box, W1_build, W1_lit, W1_load1, W1_loadn, W1_store, W1_nilc, W1_bin, W1_un, W1_conv, W1_b2s, W1_s2b, W1_field1, W1_fieldn, W1_faddr, W1_iaddr, W1_iarr, W1_idxs, W1_idxa1, W1_idxan, W1_sls, W1_sll, W1_sla, W1_mk, W1_ext, W1_fn, W1_ifc, W1_lens, W1_lenc, W1_app, W1_apps, W1_copy, W1_mn, W1_mx, W1_isnil, W1_strc, W1_beq, W1_mks, W1_capn, W1_appz, W1_eqagg, W1_call, W1_calld, callD_func, List.nil_append, List.append_nil, List.map_cons, List.map_nil, Option.map_some, Option.map_none, reduceIte, Option.some.injEq, exists_eq_left', Nat.reduceBEq, iv_ii, postA_ret, postA_normal, resVs_nil, resVs_tmp, resVs_one, resVs_many, Option.bind_some, tupleOf, Int.toNat_natCast, true_and, and_true, Nat.reduceEqDiff, RdOk_nil, RdOk_refl, rd_load1, rd_loadn, rd_b2s, rd_sll, rd_sla, rd_call, rd_calld, rd_new, rd_box, rd_lit, rd_store, rd_s2b, rd_mk, rd_app, rd_apps, rd_appz, rd_mks, rd_copy, blk_ptr, blk_sl, blk_nil, List.cons_append, addI, subI, mulI, quoI, remI, shrI, eqlI, neqI, eqS, neS, beqB, bneB, lenS, lenV, pickB, ext0, ext1, ext2, ext30, ext31, binA_lss, binA_leq, binA_gtr, binA_geq, convI, decide_eq_true, decide_eq_false, gd_undef, W_scope, mnI, mxI, inBlockA_ne, dec_refl, dec_nrefl, beq_self_eq_true, ite_true, ite_false, g0, g4, g5, g6, g7, faddr_ptr, load_d rg, load_ref rg]
        refine ref01_TakeText_spec rr fun B1 u t k3 rr3 t3 => ?_
        obtain ⟨m, hm⟩ : ∃ m, n - c = m + 1 := ⟨n - c - 1, by omega⟩
        have hm1 : n - (c + 1) = m := by omega
        have hsh := @textC_shrink l
        rw [hm] at he
        simp only [textsC] at he
        generalize (textC (some l)).1 = st1 at rr3 he hsh
        generalize (textC (some l)).2 = tt at t3 he
        obtain ⟨b2, k2', rfl, hb2⟩ := rr3.cells
        have p1 : (B1 ++ [znew])[B1.length]? = some znew := get_last _ _
        have s2 := store_ref (b' := b2) (k' := k2') (bad' := st1.isNone) p1 hb2
        have p2 := set_get (b' := crow b2 k2' st1.isNone) p1
        have l3 : Le B1 ((B1 ++ [znew]).set B1.length (crow b2 k2' st1.isNone)) := (Le.push B1 znew).set (Nat.le_refl _)
        have ld2 := load_ref p2
        have rg2 := (k3.trans l3).get rg
        have s3 := store_ref (b' := b2) (k' := k2') (bad' := st1.isNone) rg2 hb2
        have ho2 := ho.le (k3.trans l3)
        have rr4 := rr3.le l3
        have t4 := t3.1.le l3
        have k3l := k3.trans l3
        generalize (B1 ++ [znew]).set B1.length (crow b2 k2' st1.isNone) = B2 at s2 p2 l3 ld2 rg2 s3 ho2 rr4 t4 k3l
        have kk : Keep B2 j (B2.set j (crow b2 k2' st1.isNone)) := Keep.set _ _ _
        have ho3 := OwnBs.kp ho2 kk rg2
        have t5 := t4.kp kk rg2
        have rg5 := set_get (b' := crow b2 k2' st1.isNone) rg2
        have kA3 := (hle.trans k3l).set (b := crow b2 k2' st1.isNone) hj
        have hlj : ∀ q ∈ blkOf y, A.length ≤ q := by
          obtain ⟨vs, h1, _, _⟩ := ho
          exact fun q hq => (OwnS.ge h1 q hq).1
        generalize B2.set j (crow b2 k2' st1.isNone) = B3 at s3 kk ho3 t5 rg5 kA3
        have l1 := lit1 (A := B3) (z := .slice none 0 0) (len := 1) (ps := [(0, 1, t)]) [t] rfl rfl (by
          intro z hz
          rw [List.mem_singleton] at hz
          subst hz
          obtain ⟨p, c, hs, _⟩ := t5.shape
          rw [hs]; exact one1_sl _ _ _)
        rw [List.length_singleton] at l1
        obtain ⟨w', B4, q1, q2, q3, q4, _⟩ := push_fresh kA3 ho3 t5 (fun q hq1 hq2 => by have h1 := t3.2 q hq1; have h2 := hlj q hq2; omega) (by omega)
        simp (maxSteps := 1000000) (disch := omega) only [W_seq, W_ops, W_draw, W_block, W_skip, W_exit, W_ret, sq_normal, sq_ret, sq_exit, W_condv, condW_true, condW_false, thenA_normal, thenA_ret, thenA_exit, if_true, if_false, Bool.false_eq_true, decide_eq_true_eq, inBlockA_normal, inBlockA_ret, inBlockA_same, inBlockA_other, noGotoA_normal, noGotoA_ret, noGotoA_exit, Wops_nil, Wops_cons, Wops_le, Wops_guard, Wops_guardle, ok1_some, okV_some, kont_at, kontL_at, gdB_true, gdB_false, decide_true, decide_false, ev_tmp, ev_const, ev_func, ev_global, put_some, put_none, upd_same, upd_at, gd_bt, gd_bf, Bool.not_true, Bool.not_false, pick_true, pick_false, pick_b, not_b, W1_mov, W1_pick, W1_new, W1_box, W1_build, W1_lit, W1_load1, W1_loadn, W1_store, W1_nilc, W1_bin, W1_un, W1_conv, W1_b2s, W1_s2b, W1_field1, W1_fieldn, W1_faddr, W1_iaddr, W1_iarr, W1_idxs, W1_idxa1, W1_idxan, W1_sls, W1_sll, W1_sla, W1_mk, W1_ext, W1_fn, W1_ifc, W1_lens, W1_lenc, W1_app, W1_apps, W1_copy, W1_mn, W1_mx, W1_isnil, W1_strc, W1_beq, W1_mks, W1_capn, W1_appz, W1_eqagg, W1_call, W1_calld, callD_func, List.nil_append, List.append_nil, List.map_cons, List.map_nil, Option.map_some, Option.map_none, reduceIte, Option.some.injEq, exists_eq_left', Nat.reduceBEq, iv_ii, postA_ret, postA_normal, resVs_nil, resVs_tmp, resVs_one, resVs_many, Option.bind_some, tupleOf, Int.toNat_natCast, true_and, and_true, Nat.reduceEqDiff, RdOk_nil, RdOk_refl, rd_load1, rd_loadn, rd_b2s, rd_sll, rd_sla, rd_call, rd_calld, rd_new, rd_box, rd_lit, rd_store, rd_s2b, rd_mk, rd_app, rd_apps, rd_appz, rd_mks, rd_copy, blk_ptr, blk_sl, blk_nil, List.cons_append, addI, subI, mulI, quoI, remI, shrI, eqlI, neqI, eqS, neS, beqB, bneB, lenS, lenV, pickB, ext0, ext1, ext2, ext30, ext31, binA_lss, binA_leq, binA_gtr, binA_geq, convI, decide_eq_true, decide_eq_false, gd_undef, W_scope, mnI, mxI, inBlockA_ne, dec_refl, dec_nrefl, beq_self_eq_true, ite_true, ite_false, g0, g4, g5, g6, g7, ext0, ext1, znew_eq, s2, ld2, s3, l1, q1]
        refine ⟨⟨c + 1, ts ++ [tt], st1, b2, k2', by omega, q2, q4 j _ rg5 (OwnBs.notRow ho3 rg5), RefA.base (hle.trans k3l) q2 rr4, hb2, q3, ?_, by rw [← he, hm1]; simp, ?_⟩, by omega⟩
        · cases st1 with
          | none => simp only [leftP, List.length_append, List.length_singleton] at htl ⊢; omega
          | some r =>
            have := hsh rfl
            simp only [leftP, List.length_append, List.length_singleton] at htl ⊢
            omega
        · trivial
    · have hcn : n - c = 0 := by omega
      have hg : getC bs = (ts, st) := by rw [← he, hcn]; simp [textsC]
      simp (maxSteps := 1000000) (disch := omega) only [W_seq, W_ops, W_draw, W_block, W_skip, W_exit, W_ret, sq_normal, sq_ret, sq_exit, W_condv, condW_true, condW_false, thenA_normal, thenA_ret, thenA_exit, if_true, if_false, Bool.false_eq_true, decide_eq_true_eq, inBlockA_normal, inBlockA_ret, inBlockA_same, inBlockA_other, noGotoA_normal, noGotoA_ret, noGotoA_exit, Wops_nil, Wops_cons, Wops_le, Wops_guard, Wops_guardle, ok1_some, okV_some, kont_at, kontL_at, gdB_true, gdB_false, decide_true, decide_false, ev_tmp, ev_const, ev_func, ev_global, put_some, put_none, upd_same, upd_at, gd_bt, gd_bf, Bool.not_true, Bool.not_false, pick_true, pick_false, pick_b, not_b, W1_mov, W1_pick, W1_new, W1_box, W1_build, W1_lit, W1_load1, W1_loadn, W1_store, W1_nilc, W1_bin, W1_un, W1_conv, W1_b2s, W1_s2b, W1_field1, W1_fieldn, W1_faddr, W1_iaddr, W1_iarr, W1_idxs, W1_idxa1, W1_idxan, W1_sls, W1_sll, W1_sla, W1_mk, W1_ext, W1_fn, W1_ifc, W1_lens, W1_lenc, W1_app, W1_apps, W1_copy, W1_mn, W1_mx, W1_isnil, W1_strc, W1_beq, W1_mks, W1_capn, W1_appz, W1_eqagg, W1_call, W1_calld, callD_func, List.nil_append, List.append_nil, List.map_cons, List.map_nil, Option.map_some, Option.map_none, reduceIte, Option.some.injEq, exists_eq_left', Nat.reduceBEq, iv_ii, postA_ret, postA_normal, resVs_nil, resVs_tmp, resVs_one, resVs_many, Option.bind_some, tupleOf, Int.toNat_natCast, true_and, and_true, Nat.reduceEqDiff, RdOk_nil, RdOk_refl, rd_load1, rd_loadn, rd_b2s, rd_sll, rd_sla, rd_call, rd_calld, rd_new, rd_box, rd_lit, rd_store, rd_s2b, rd_mk, rd_app, rd_apps, rd_appz, rd_mks, rd_copy, blk_ptr, blk_sl, blk_nil, List.cons_append, addI, subI, mulI, quoI, remI, shrI, eqlI, neqI, eqS, neS, beqB, bneB, lenS, lenV, pickB, ext0, ext1, ext2, ext30, ext31, binA_lss, binA_leq, binA_gtr, binA_geq, convI, decide_eq_true, decide_eq_false, gd_undef, W_scope, mnI, mxI, inBlockA_ne, dec_refl, dec_nrefl, beq_self_eq_true, ite_true, ite_false, g0, g4, g5, g6, g7]
      refine ref32_Put_spec ho.byts (by omega) fun B1 u k3 o3 => ?_
      have rg3 := k3.get rg
      have vB := (hv.le hle).le k3
      cases st with
      | none =>
        have rg6 : B1[j]? = some (crow b k true) := rg3
        simp (maxSteps := 1000000) (disch := omega) only [W_seq, W_ops, W_draw, W_block, W_skip, W_exit, W_ret, sq_normal, sq_ret, sq_exit, W_condv, condW_true, condW_false, thenA_normal, thenA_ret, thenA_exit, if_true, if_false, Bool.false_eq_true, decide_eq_true_eq, inBlockA_normal, inBlockA_ret, inBlockA_same, inBlockA_other, noGotoA_normal, noGotoA_ret, noGotoA_exit, Wops_nil, Wops_cons, Wops_le, Wops_guard, Wops_guardle, ok1_some, okV_some, kont_at, kontL_at, gdB_true, gdB_false, decide_true, decide_false, ev_tmp, ev_const, ev_func, ev_global, put_some, put_none, upd_same, upd_at, gd_bt, gd_bf, Bool.not_true, Bool.not_false, pick_true, pick_false, pick_b, not_b, W1_mov, W1_pick, W1_new, W1_box, W1_build, W1_lit, W1_load1, W1_loadn, W1_store, W1_nilc, W1_bin, W1_un, W1_conv, W1_b2s, W1_s2b, W1_field1, W1_fieldn, W1_faddr, W1_iaddr, W1_iarr, W1_idxs, W1_idxa1, W1_idxan, W1_sls, W1_sll, W1_sla, W1_mk, W1_ext, W1_fn, W1_ifc, W1_lens, W1_lenc, W1_app, W1_apps, W1_copy, W1_mn, W1_mx, W1_isnil, W1_strc, W1_beq, W1_mks, W1_capn, W1_appz, W1_eqagg, W1_call, W1_calld, callD_func, List.nil_append, List.append_nil, List.map_cons, List.map_nil, Option.map_some, Option.map_none, reduceIte, Option.some.injEq, exists_eq_left', Nat.reduceBEq, iv_ii, postA_ret, postA_normal, resVs_nil, resVs_tmp, resVs_one, resVs_many, Option.bind_some, tupleOf, Int.toNat_natCast, true_and, and_true, Nat.reduceEqDiff, RdOk_nil, RdOk_refl, rd_load1, rd_loadn, rd_b2s, rd_sll, rd_sla, rd_call, rd_calld, rd_new, rd_box, rd_lit, rd_store, rd_s2b, rd_mk, rd_app, rd_apps, rd_appz, rd_mks, rd_copy, blk_ptr, blk_sl, blk_nil, List.cons_append, addI, subI, mulI, quoI, remI, shrI, eqlI, neqI, eqS, neS, beqB, bneB, lenS, lenV, pickB, ext0, ext1, ext2, ext30, ext31, binA_lss, binA_leq, binA_gtr, binA_geq, convI, decide_eq_true, decide_eq_false, gd_undef, W_scope, mnI, mxI, inBlockA_ne, dec_refl, dec_nrefl, beq_self_eq_true, ite_true, ite_false, g0, g4, g5, g6, g7, ext0, ext1, faddr_ptr, load_d rg6]
        exact bad5 hg (by simp [okC]) _ (hle.trans k3)
      | some r =>
        have rg6 : B1[j]? = some (crow b k false) := rg3
        have hrec := getC_ok hg
        by_cases hc : checkI (lensI ts) = 0
        · have hpj : putJ ts = recJ ts := by unfold putJ; rw [if_pos hc]
          rw [hpj] at o3
          rw [hc]
          by_cases hr0 : r = []
          · subst hr0
            rw [List.append_nil] at hrec
            have e : getJ bs = (ts, 0) := by unfold getJ; rw [hg]; exact if_pos ⟨rfl, hc⟩
            rw [e] at hq
            have os := o3.byt.str
            rw [← hrec] at os
            simp (maxSteps := 1000000) (disch := omega) only [W_seq, W_ops, W_draw, W_block, W_skip, W_exit, W_ret, sq_normal, sq_ret, sq_exit, W_condv, condW_true, condW_false, thenA_normal, thenA_ret, thenA_exit, if_true, if_false, Bool.false_eq_true, decide_eq_true_eq, inBlockA_normal, inBlockA_ret, inBlockA_same, inBlockA_other, noGotoA_normal, noGotoA_ret, noGotoA_exit, Wops_nil, Wops_cons, Wops_le, Wops_guard, Wops_guardle, ok1_some, okV_some, kont_at, kontL_at, gdB_true, gdB_false, decide_true, decide_false, ev_tmp, ev_const, ev_func, ev_global, put_some, put_none, upd_same, upd_at, gd_bt, gd_bf, Bool.not_true, Bool.not_false, pick_true, pick_false, pick_b, not_b, W1_mov, W1_pick, W1_new, W1_box, W1_build, W1_lit, W1_load1, W1_loadn, W1_store, W1_nilc, W1_bin, W1_un, W1_conv, W1_b2s, W1_s2b, W1_field1, W1_fieldn, W1_faddr, W1_iaddr, W1_iarr, W1_idxs, W1_idxa1, W1_idxan, W1_sls, W1_sll, W1_sla, W1_mk, W1_ext, W1_fn, W1_ifc, W1_lens, W1_lenc, W1_app, W1_apps, W1_copy, W1_mn, W1_mx, W1_isnil, W1_strc, W1_beq, W1_mks, W1_capn, W1_appz, W1_eqagg, W1_call, W1_calld, callD_func, List.nil_append, List.append_nil, List.map_cons, List.map_nil, Option.map_some, Option.map_none, reduceIte, Option.some.injEq, exists_eq_left', Nat.reduceBEq, iv_ii, postA_ret, postA_normal, resVs_nil, resVs_tmp, resVs_one, resVs_many, Option.bind_some, tupleOf, Int.toNat_natCast, true_and, and_true, Nat.reduceEqDiff, RdOk_nil, RdOk_refl, rd_load1, rd_loadn, rd_b2s, rd_sll, rd_sla, rd_call, rd_calld, rd_new, rd_box, rd_lit, rd_store, rd_s2b, rd_mk, rd_app, rd_apps, rd_appz, rd_mks, rd_copy, blk_ptr, blk_sl, blk_nil, List.cons_append, addI, subI, mulI, quoI, remI, shrI, eqlI, neqI, eqS, neS, beqB, bneB, lenS, lenV, pickB, ext0, ext1, ext2, ext30, ext31, binA_lss, binA_leq, binA_gtr, binA_geq, convI, decide_eq_true, decide_eq_false, gd_undef, W_scope, mnI, mxI, inBlockA_ne, dec_refl, dec_nrefl, beq_self_eq_true, ite_true, ite_false, g0, g4, g5, g6, g7, ex, ext0, ext1, faddr_ptr, load_d rg6, os, vB.str]
            exact hq _ _ (hle.trans k3) (ho.le k3).byts
          · have hne : ¬ (⟨(recJ ts).toArray⟩ : ByteArray) = ⟨bs.toArray⟩ := by
              intro e
              injection e with e
              have e := congrArg Array.toList e
              simp only at e
              rw [hrec] at e
              exact hr0 (by simpa using e)
            simp (maxSteps := 1000000) (disch := omega) only [W_seq, W_ops, W_draw, W_block, W_skip, W_exit, W_ret, sq_normal, sq_ret, sq_exit, W_condv, condW_true, condW_false, thenA_normal, thenA_ret, thenA_exit, if_true, if_false, Bool.false_eq_true, decide_eq_true_eq, inBlockA_normal, inBlockA_ret, inBlockA_same, inBlockA_other, noGotoA_normal, noGotoA_ret, noGotoA_exit, Wops_nil, Wops_cons, Wops_le, Wops_guard, Wops_guardle, ok1_some, okV_some, kont_at, kontL_at, gdB_true, gdB_false, decide_true, decide_false, ev_tmp, ev_const, ev_func, ev_global, put_some, put_none, upd_same, upd_at, gd_bt, gd_bf, Bool.not_true, Bool.not_false, pick_true, pick_false, pick_b, not_b, W1_mov, W1_pick, W1_new, W1_box, W1_build, W1_lit, W1_load1, W1_loadn, W1_store, W1_nilc, W1_bin, W1_un, W1_conv, W1_b2s, W1_s2b, W1_field1, W1_fieldn, W1_faddr, W1_iaddr, W1_iarr, W1_idxs, W1_idxa1, W1_idxan, W1_sls, W1_sll, W1_sla, W1_mk, W1_ext, W1_fn, W1_ifc, W1_lens, W1_lenc, W1_app, W1_apps, W1_copy, W1_mn, W1_mx, W1_isnil, W1_strc, W1_beq, W1_mks, W1_capn, W1_appz, W1_eqagg, W1_call, W1_calld, callD_func, List.nil_append, List.append_nil, List.map_cons, List.map_nil, Option.map_some, Option.map_none, reduceIte, Option.some.injEq, exists_eq_left', Nat.reduceBEq, iv_ii, postA_ret, postA_normal, resVs_nil, resVs_tmp, resVs_one, resVs_many, Option.bind_some, tupleOf, Int.toNat_natCast, true_and, and_true, Nat.reduceEqDiff, RdOk_nil, RdOk_refl, rd_load1, rd_loadn, rd_b2s, rd_sll, rd_sla, rd_call, rd_calld, rd_new, rd_box, rd_lit, rd_store, rd_s2b, rd_mk, rd_app, rd_apps, rd_appz, rd_mks, rd_copy, blk_ptr, blk_sl, blk_nil, List.cons_append, addI, subI, mulI, quoI, remI, shrI, eqlI, neqI, eqS, neS, beqB, bneB, lenS, lenV, pickB, ext0, ext1, ext2, ext30, ext31, binA_lss, binA_leq, binA_gtr, binA_geq, convI, decide_eq_true, decide_eq_false, gd_undef, W_scope, mnI, mxI, inBlockA_ne, dec_refl, dec_nrefl, beq_self_eq_true, ite_true, ite_false, g0, g4, g5, g6, g7, ex, ext0, ext1, faddr_ptr, load_d rg6, o3.byt.str, vB.str, hne]
            exact bad5 hg (fun h => hr0 (by cases r with | nil => rfl | cons b r => cases h.1)) _ (hle.trans k3)
        · simp (maxSteps := 1000000) (disch := omega) only [W_seq, W_ops, W_draw, W_block, W_skip, W_exit, W_ret, sq_normal, sq_ret, sq_exit, W_condv, condW_true, condW_false, thenA_normal, thenA_ret, thenA_exit, if_true, if_false, Bool.false_eq_true, decide_eq_true_eq, inBlockA_normal, inBlockA_ret, inBlockA_same, inBlockA_other, noGotoA_normal, noGotoA_ret, noGotoA_exit, Wops_nil, Wops_cons, Wops_le, Wops_guard, Wops_guardle, ok1_some, okV_some, kont_at, kontL_at, gdB_true, gdB_false, decide_true, decide_false, ev_tmp, ev_const, ev_func, ev_global, put_some, put_none, upd_same, upd_at, gd_bt, gd_bf, Bool.not_true, Bool.not_false, pick_true, pick_false, pick_b, not_b, W1_mov, W1_pick, W1_new, W1_box, W1_build, W1_lit, W1_load1, W1_loadn, W1_store, W1_nilc, W1_bin, W1_un, W1_conv, W1_b2s, W1_s2b, W1_field1, W1_fieldn, W1_faddr, W1_iaddr, W1_iarr, W1_idxs, W1_idxa1, W1_idxan, W1_sls, W1_sll, W1_sla, W1_mk, W1_ext, W1_fn, W1_ifc, W1_lens, W1_lenc, W1_app, W1_apps, W1_copy, W1_mn, W1_mx, W1_isnil, W1_strc, W1_beq, W1_mks, W1_capn, W1_appz, W1_eqagg, W1_call, W1_calld, callD_func, List.nil_append, List.append_nil, List.map_cons, List.map_nil, Option.map_some, Option.map_none, reduceIte, Option.some.injEq, exists_eq_left', Nat.reduceBEq, iv_ii, postA_ret, postA_normal, resVs_nil, resVs_tmp, resVs_one, resVs_many, Option.bind_some, tupleOf, Int.toNat_natCast, true_and, and_true, Nat.reduceEqDiff, RdOk_nil, RdOk_refl, rd_load1, rd_loadn, rd_b2s, rd_sll, rd_sla, rd_call, rd_calld, rd_new, rd_box, rd_lit, rd_store, rd_s2b, rd_mk, rd_app, rd_apps, rd_appz, rd_mks, rd_copy, blk_ptr, blk_sl, blk_nil, List.cons_append, addI, subI, mulI, quoI, remI, shrI, eqlI, neqI, eqS, neS, beqB, bneB, lenS, lenV, pickB, ext0, ext1, ext2, ext30, ext31, binA_lss, binA_leq, binA_gtr, binA_geq, convI, decide_eq_true, decide_eq_false, gd_undef, W_scope, mnI, mxI, inBlockA_ne, dec_refl, dec_nrefl, beq_self_eq_true, ite_true, ite_false, g0, g4, g5, g6, g7, ex, ext0, ext1, faddr_ptr, load_d rg6]
          exact bad5 hg (fun h => hc h.2) _ (hle.trans k3)
end Go.AS.C

namespace Go.AS.C
open Go Go.Proofs
set_option linter.unusedVariables false
set_option linter.unusedSimpArgs false
set_option maxRecDepth 10000

def one384 (n : Int) : Int := n + 1 + (if n > 127 then 1 else 0)
/-- How many bytes a record of texts of these sizes has. -/
def sizeI (l : List Int) : Int := if checkI l = 0 then 1 + (l.map one384).sum else 0
theorem putN_len384 {n : Int} (h1 : 1 ≤ n) (h2 : n ≤ 384) : ((putN n.toNat).length : Int) + n = one384 n := by
  unfold one384
  by_cases h : n > 127
  · rw [if_pos h]
    have e : (putN n.toNat).length = 2 := by
      rw [putN_big (by omega), List.length_cons, putN_small (by omega)]; rfl
    rw [e]; omega
  · rw [if_neg h]
    have e : (putN n.toNat).length = 1 := by rw [putN_small (by omega)]; rfl
    rw [e]; omega
theorem sizeI_put {l : List Int} (h : checkI l = 0) : ((putN l.length).length : Int) + (l.map fun n => ((putN n.toNat).length : Int) + n).sum = sizeI l := by
  obtain ⟨h1, h2, h3⟩ := checkI_zero.1 h
  unfold sizeI
  rw [if_pos h]
  have e : (putN l.length).length = 1 := by rw [putN_small (by omega)]; rfl
  have e2 : (l.map fun n => ((putN n.toNat).length : Int) + n) = l.map one384 := List.map_congr_left fun n hn => putN_len384 (h3 n hn).1 (h3 n hn).2
  rw [e, e2]; rfl
theorem sizeI_rec {ts : List (List UInt8)} : ((putJ ts).length : Int) = sizeI (lensI ts) := by
  unfold putJ
  by_cases h : checkI (lensI ts) = 0
  · rw [if_pos h, ← sizeI_put h]
    unfold recJ lensI
    rw [List.length_append, List.length_map, List.map_map]
    have : ∀ l : List (List UInt8), (((l.map textN).flatten.length : Nat) : Int) = (l.map ((fun n : Int => ((putN n.toNat).length : Int) + n) ∘ fun t => (t.length : Int))).sum := by
      intro l
      induction l with
      | nil => rfl
      | cons t l ih =>
        simp only [List.map_cons, List.flatten_cons, List.length_append, List.sum_cons, Function.comp_apply, Int.toNat_natCast, textN] at ih ⊢
        omega
    rw [Int.natCast_add, this]
  · rw [if_neg h]; unfold sizeI; rw [if_neg h]; rfl
theorem one384_sum {l : List Int} (h : ∀ n ∈ l, 1 ≤ n ∧ n ≤ 384) : 0 ≤ (l.map one384).sum ∧ (l.map one384).sum ≤ 386 * l.length := by
  induction l with
  | nil => simp
  | cons n l ih =>
    have h1 := h n (List.mem_cons_self ..)
    have h2 := ih fun m hm => h m (List.mem_cons_of_mem _ hm)
    have h3 : 0 ≤ one384 n ∧ one384 n ≤ 386 := by
      unfold one384
      split <;> omega
    simp only [List.map_cons, List.sum_cons, List.length_cons]
    omega

theorem jSize_spec {A : AH} {v : Value} {l : List Int} {Q : Value → AH → Prop} (hv : Sl A 1 v l.length (ints .i64 l)) (hl : l.length ≤ 2 ^ 40) (hb : ∀ n ∈ l, -9223372036854775808 ≤ n ∧ n < 9223372036854775808) (hq : ∀ A', Le A A' → Q (ii (sizeI l)) A') : ACalls 0 Try.prog journal_Size [v] Q A := by
  refine journal_Size_spec hv hl hb (fun h A' hA => ?_) (fun h A' hA => ?_)
  · have e : sizeI l = 0 := by unfold sizeI; rw [if_neg h]
    rw [e] at hq
    exact hq _ hA
  · rw [sizeI_put h]
    exact hq _ hA
theorem ref32_Size_spec {A : AH} {v : Value} {l : List Int} {Q : Value → AH → Prop} (hv : Sl A 1 v l.length (ints .i64 l)) (hl : l.length ≤ 2 ^ 40) (hb : ∀ n ∈ l, -9223372036854775808 ≤ n ∧ n < 9223372036854775808) (hq : Q (ii (sizeI l)) A) : ACalls 0 Try.prog chantryref32_Size [v] Q A := by
  refine ACalls.of_fits mixed fits_chantryref32_Size rfl ?_
  unfold ic_chantryref32_Size
  have i0 : initA [v] 0 = v := rfl
  generalize initA [v] = a at i0
  have bad : checkI l ≠ 0 → Q (ii 0) A := by
    intro h
    have e : sizeI l = 0 := by unfold sizeI; rw [if_neg h]
    rw [e] at hq
    exact hq
  by_cases h0 : l.length = 0
  · simp (maxSteps := 1000000) (disch := omega) only [W_seq, W_ops, W_draw, W_block, W_skip, W_exit, W_ret, sq_normal, sq_ret, sq_exit, W_condv, condW_true, condW_false, thenA_normal, thenA_ret, thenA_exit, if_true, if_false, Bool.false_eq_true, decide_eq_true_eq, inBlockA_normal, inBlockA_ret, inBlockA_same, inBlockA_other, noGotoA_normal, noGotoA_ret, noGotoA_exit, Wops_nil, Wops_cons, Wops_le, Wops_guard, Wops_guardle, ok1_some, okV_some, kont_at, kontL_at, gdB_true, gdB_false, decide_true, decide_false, ev_tmp, ev_const, ev_func, ev_global, put_some, put_none, upd_same, upd_at, gd_bt, gd_bf, Bool.not_true, Bool.not_false, pick_true, pick_false, pick_b, not_b, W1_mov, W1_pick, W1_new, W1_box, W1_build, W1_lit, W1_load1, W1_loadn, W1_store, W1_nilc, W1_bin, W1_un, W1_conv, W1_b2s, W1_s2b, W1_field1, W1_fieldn, W1_faddr, W1_iaddr, W1_iarr, W1_idxs, W1_idxa1, W1_idxan, W1_sls, W1_sll, W1_sla, W1_mk, W1_ext, W1_fn, W1_ifc, W1_lens, W1_lenc, W1_app, W1_apps, W1_copy, W1_mn, W1_mx, W1_isnil, W1_strc, W1_beq, W1_mks, W1_capn, W1_appz, W1_eqagg, W1_call, W1_calld, callD_func, List.nil_append, List.append_nil, List.map_cons, List.map_nil, Option.map_some, Option.map_none, reduceIte, Option.some.injEq, exists_eq_left', Nat.reduceBEq, iv_ii, postA_ret, postA_normal, resVs_nil, resVs_tmp, resVs_one, resVs_many, Option.bind_some, tupleOf, Int.toNat_natCast, true_and, and_true, Nat.reduceEqDiff, RdOk_nil, RdOk_refl, rd_load1, rd_loadn, rd_b2s, rd_sll, rd_sla, rd_call, rd_calld, rd_new, rd_box, rd_lit, rd_store, rd_s2b, rd_mk, rd_app, rd_apps, rd_appz, rd_mks, rd_copy, blk_ptr, blk_sl, blk_nil, List.cons_append, addI, subI, mulI, quoI, remI, shrI, eqlI, neqI, eqS, neS, beqB, bneB, lenS, lenV, pickB, ext0, ext1, ext2, ext30, ext31, binA_lss, binA_leq, binA_gtr, binA_geq, convI, decide_eq_true, decide_eq_false, gd_undef, W_scope, mnI, mxI, inBlockA_ne, dec_refl, dec_nrefl, beq_self_eq_true, ite_true, ite_false, i0, hv.len]
    exact bad (by unfold checkI; rw [if_pos h0]; decide)
  · by_cases h32 : 32 < l.length
    · simp (maxSteps := 1000000) (disch := omega) only [W_seq, W_ops, W_draw, W_block, W_skip, W_exit, W_ret, sq_normal, sq_ret, sq_exit, W_condv, condW_true, condW_false, thenA_normal, thenA_ret, thenA_exit, if_true, if_false, Bool.false_eq_true, decide_eq_true_eq, inBlockA_normal, inBlockA_ret, inBlockA_same, inBlockA_other, noGotoA_normal, noGotoA_ret, noGotoA_exit, Wops_nil, Wops_cons, Wops_le, Wops_guard, Wops_guardle, ok1_some, okV_some, kont_at, kontL_at, gdB_true, gdB_false, decide_true, decide_false, ev_tmp, ev_const, ev_func, ev_global, put_some, put_none, upd_same, upd_at, gd_bt, gd_bf, Bool.not_true, Bool.not_false, pick_true, pick_false, pick_b, not_b, W1_mov, W1_pick, W1_new, W1_box, W1_build, W1_lit, W1_load1, W1_loadn, W1_store, W1_nilc, W1_bin, W1_un, W1_conv, W1_b2s, W1_s2b, W1_field1, W1_fieldn, W1_faddr, W1_iaddr, W1_iarr, W1_idxs, W1_idxa1, W1_idxan, W1_sls, W1_sll, W1_sla, W1_mk, W1_ext, W1_fn, W1_ifc, W1_lens, W1_lenc, W1_app, W1_apps, W1_copy, W1_mn, W1_mx, W1_isnil, W1_strc, W1_beq, W1_mks, W1_capn, W1_appz, W1_eqagg, W1_call, W1_calld, callD_func, List.nil_append, List.append_nil, List.map_cons, List.map_nil, Option.map_some, Option.map_none, reduceIte, Option.some.injEq, exists_eq_left', Nat.reduceBEq, iv_ii, postA_ret, postA_normal, resVs_nil, resVs_tmp, resVs_one, resVs_many, Option.bind_some, tupleOf, Int.toNat_natCast, true_and, and_true, Nat.reduceEqDiff, RdOk_nil, RdOk_refl, rd_load1, rd_loadn, rd_b2s, rd_sll, rd_sla, rd_call, rd_calld, rd_new, rd_box, rd_lit, rd_store, rd_s2b, rd_mk, rd_app, rd_apps, rd_appz, rd_mks, rd_copy, blk_ptr, blk_sl, blk_nil, List.cons_append, addI, subI, mulI, quoI, remI, shrI, eqlI, neqI, eqS, neS, beqB, bneB, lenS, lenV, pickB, ext0, ext1, ext2, ext30, ext31, binA_lss, binA_leq, binA_gtr, binA_geq, convI, decide_eq_true, decide_eq_false, gd_undef, W_scope, mnI, mxI, inBlockA_ne, dec_refl, dec_nrefl, beq_self_eq_true, ite_true, ite_false, i0, hv.len]
      exact bad (by unfold checkI; rw [if_neg h0, if_pos h32]; decide)
    · simp (maxSteps := 1000000) (disch := omega) only [W_seq, W_ops, W_draw, W_block, W_skip, W_exit, W_ret, sq_normal, sq_ret, sq_exit, W_condv, condW_true, condW_false, thenA_normal, thenA_ret, thenA_exit, if_true, if_false, Bool.false_eq_true, decide_eq_true_eq, inBlockA_normal, inBlockA_ret, inBlockA_same, inBlockA_other, noGotoA_normal, noGotoA_ret, noGotoA_exit, Wops_nil, Wops_cons, Wops_le, Wops_guard, Wops_guardle, ok1_some, okV_some, kont_at, kontL_at, gdB_true, gdB_false, decide_true, decide_false, ev_tmp, ev_const, ev_func, ev_global, put_some, put_none, upd_same, upd_at, gd_bt, gd_bf, Bool.not_true, Bool.not_false, pick_true, pick_false, pick_b, not_b, W1_mov, W1_pick, W1_new, W1_box, W1_build, W1_lit, W1_load1, W1_loadn, W1_store, W1_nilc, W1_bin, W1_un, W1_conv, W1_b2s, W1_s2b, W1_field1, W1_fieldn, W1_faddr, W1_iaddr, W1_iarr, W1_idxs, W1_idxa1, W1_idxan, W1_sls, W1_sll, W1_sla, W1_mk, W1_ext, W1_fn, W1_ifc, W1_lens, W1_lenc, W1_app, W1_apps, W1_copy, W1_mn, W1_mx, W1_isnil, W1_strc, W1_beq, W1_mks, W1_capn, W1_appz, W1_eqagg, W1_call, W1_calld, callD_func, List.nil_append, List.append_nil, List.map_cons, List.map_nil, Option.map_some, Option.map_none, reduceIte, Option.some.injEq, exists_eq_left', Nat.reduceBEq, iv_ii, postA_ret, postA_normal, resVs_nil, resVs_tmp, resVs_one, resVs_many, Option.bind_some, tupleOf, Int.toNat_natCast, true_and, and_true, Nat.reduceEqDiff, RdOk_nil, RdOk_refl, rd_load1, rd_loadn, rd_b2s, rd_sll, rd_sla, rd_call, rd_calld, rd_new, rd_box, rd_lit, rd_store, rd_s2b, rd_mk, rd_app, rd_apps, rd_appz, rd_mks, rd_copy, blk_ptr, blk_sl, blk_nil, List.cons_append, addI, subI, mulI, quoI, remI, shrI, eqlI, neqI, eqS, neS, beqB, bneB, lenS, lenV, pickB, ext0, ext1, ext2, ext30, ext31, binA_lss, binA_leq, binA_gtr, binA_geq, convI, decide_eq_true, decide_eq_false, gd_undef, W_scope, mnI, mxI, inBlockA_ne, dec_refl, dec_nrefl, beq_self_eq_true, ite_true, ite_false, i0, hv.len]
      refine W_loop (fun a' B => B = A ∧ ∃ k : Nat, k ≤ l.length ∧ l.find? wrI = (l.drop k).find? wrI ∧ (∀ n ∈ l.take k, 1 ≤ n ∧ n ≤ 384) ∧ a' 0 = v ∧ a' 3 = ii (1 + ((l.take k).map one384).sum) ∧ a' 4 = ii k) (fun a' _ => l.length - (iv (a' 4)).toNat) ?_ ?_
      · refine ⟨rfl, 0, by omega, rfl, by simp, ?_⟩
        simp (maxSteps := 1000000) (disch := omega) only [W_seq, W_ops, W_draw, W_block, W_skip, W_exit, W_ret, sq_normal, sq_ret, sq_exit, W_condv, condW_true, condW_false, thenA_normal, thenA_ret, thenA_exit, if_true, if_false, Bool.false_eq_true, decide_eq_true_eq, inBlockA_normal, inBlockA_ret, inBlockA_same, inBlockA_other, noGotoA_normal, noGotoA_ret, noGotoA_exit, Wops_nil, Wops_cons, Wops_le, Wops_guard, Wops_guardle, ok1_some, okV_some, kont_at, kontL_at, gdB_true, gdB_false, decide_true, decide_false, ev_tmp, ev_const, ev_func, ev_global, put_some, put_none, upd_same, upd_at, gd_bt, gd_bf, Bool.not_true, Bool.not_false, pick_true, pick_false, pick_b, not_b, W1_mov, W1_pick, W1_new, W1_box, W1_build, W1_lit, W1_load1, W1_loadn, W1_store, W1_nilc, W1_bin, W1_un, W1_conv, W1_b2s, W1_s2b, W1_field1, W1_fieldn, W1_faddr, W1_iaddr, W1_iarr, W1_idxs, W1_idxa1, W1_idxan, W1_sls, W1_sll, W1_sla, W1_mk, W1_ext, W1_fn, W1_ifc, W1_lens, W1_lenc, W1_app, W1_apps, W1_copy, W1_mn, W1_mx, W1_isnil, W1_strc, W1_beq, W1_mks, W1_capn, W1_appz, W1_eqagg, W1_call, W1_calld, callD_func, List.nil_append, List.append_nil, List.map_cons, List.map_nil, Option.map_some, Option.map_none, reduceIte, Option.some.injEq, exists_eq_left', Nat.reduceBEq, iv_ii, postA_ret, postA_normal, resVs_nil, resVs_tmp, resVs_one, resVs_many, Option.bind_some, tupleOf, Int.toNat_natCast, true_and, and_true, Nat.reduceEqDiff, RdOk_nil, RdOk_refl, rd_load1, rd_loadn, rd_b2s, rd_sll, rd_sla, rd_call, rd_calld, rd_new, rd_box, rd_lit, rd_store, rd_s2b, rd_mk, rd_app, rd_apps, rd_appz, rd_mks, rd_copy, blk_ptr, blk_sl, blk_nil, List.cons_append, addI, subI, mulI, quoI, remI, shrI, eqlI, neqI, eqS, neS, beqB, bneB, lenS, lenV, pickB, ext0, ext1, ext2, ext30, ext31, binA_lss, binA_leq, binA_gtr, binA_geq, convI, decide_eq_true, decide_eq_false, gd_undef, W_scope, mnI, mxI, inBlockA_ne, dec_refl, dec_nrefl, beq_self_eq_true, ite_true, ite_false, i0]
        try simp
      · rintro a2 B ⟨rfl, k, hk, hf, hall, g0, g3, g4⟩
        rcases Nat.lt_or_ge k l.length with hlt | hge
        · obtain ⟨n, hnn⟩ : ∃ n, l[k]? = some n := ⟨_, List.getElem?_eq_getElem hlt⟩
          have hbn := hb n (List.mem_of_getElem? hnn)
          obtain ⟨p, p1, p2⟩ := hv.at1 (j := k) (v0 := ii n) (by unfold ints; rw [List.getElem?_map, hnn]; rfl)
          have hs := one384_sum hall
          have hlk : (l.take k).length ≤ 32 := by rw [List.length_take]; omega
          generalize hS : ((l.take k).map one384).sum = S at hs g3
          by_cases n1 : n < 1
          · simp (maxSteps := 1000000) (disch := omega) only [W_seq, W_ops, W_draw, W_block, W_skip, W_exit, W_ret, sq_normal, sq_ret, sq_exit, W_condv, condW_true, condW_false, thenA_normal, thenA_ret, thenA_exit, if_true, if_false, Bool.false_eq_true, decide_eq_true_eq, inBlockA_normal, inBlockA_ret, inBlockA_same, inBlockA_other, noGotoA_normal, noGotoA_ret, noGotoA_exit, Wops_nil, Wops_cons, Wops_le, Wops_guard, Wops_guardle, ok1_some, okV_some, kont_at, kontL_at, gdB_true, gdB_false, decide_true, decide_false, ev_tmp, ev_const, ev_func, ev_global, put_some, put_none, upd_same, upd_at, gd_bt, gd_bf, Bool.not_true, Bool.not_false, pick_true, pick_false, pick_b, not_b, W1_mov, W1_pick, W1_new, W1_box, W1_build, W1_lit, W1_load1, W1_loadn, W1_store, W1_nilc, W1_bin, W1_un, W1_conv, W1_b2s, W1_s2b, W1_field1, W1_fieldn, W1_faddr, W1_iaddr, W1_iarr, W1_idxs, W1_idxa1, W1_idxan, W1_sls, W1_sll, W1_sla, W1_mk, W1_ext, W1_fn, W1_ifc, W1_lens, W1_lenc, W1_app, W1_apps, W1_copy, W1_mn, W1_mx, W1_isnil, W1_strc, W1_beq, W1_mks, W1_capn, W1_appz, W1_eqagg, W1_call, W1_calld, callD_func, List.nil_append, List.append_nil, List.map_cons, List.map_nil, Option.map_some, Option.map_none, reduceIte, Option.some.injEq, exists_eq_left', Nat.reduceBEq, iv_ii, postA_ret, postA_normal, resVs_nil, resVs_tmp, resVs_one, resVs_many, Option.bind_some, tupleOf, Int.toNat_natCast, true_and, and_true, Nat.reduceEqDiff, RdOk_nil, RdOk_refl, rd_load1, rd_loadn, rd_b2s, rd_sll, rd_sla, rd_call, rd_calld, rd_new, rd_box, rd_lit, rd_store, rd_s2b, rd_mk, rd_app, rd_apps, rd_appz, rd_mks, rd_copy, blk_ptr, blk_sl, blk_nil, List.cons_append, addI, subI, mulI, quoI, remI, shrI, eqlI, neqI, eqS, neS, beqB, bneB, lenS, lenV, pickB, ext0, ext1, ext2, ext30, ext31, binA_lss, binA_leq, binA_gtr, binA_geq, convI, decide_eq_true, decide_eq_false, gd_undef, W_scope, mnI, mxI, inBlockA_ne, dec_refl, dec_nrefl, beq_self_eq_true, ite_true, ite_false, g0, g3, g4, hv.len, p1, p2]
            exact bad (by rw [checkI_at (by omega) (by omega) hnn hf (by simp [wrI]; omega), if_pos n1]; decide)
          · by_cases n384 : n > 384
            · simp (maxSteps := 1000000) (disch := omega) only [W_seq, W_ops, W_draw, W_block, W_skip, W_exit, W_ret, sq_normal, sq_ret, sq_exit, W_condv, condW_true, condW_false, thenA_normal, thenA_ret, thenA_exit, if_true, if_false, Bool.false_eq_true, decide_eq_true_eq, inBlockA_normal, inBlockA_ret, inBlockA_same, inBlockA_other, noGotoA_normal, noGotoA_ret, noGotoA_exit, Wops_nil, Wops_cons, Wops_le, Wops_guard, Wops_guardle, ok1_some, okV_some, kont_at, kontL_at, gdB_true, gdB_false, decide_true, decide_false, ev_tmp, ev_const, ev_func, ev_global, put_some, put_none, upd_same, upd_at, gd_bt, gd_bf, Bool.not_true, Bool.not_false, pick_true, pick_false, pick_b, not_b, W1_mov, W1_pick, W1_new, W1_box, W1_build, W1_lit, W1_load1, W1_loadn, W1_store, W1_nilc, W1_bin, W1_un, W1_conv, W1_b2s, W1_s2b, W1_field1, W1_fieldn, W1_faddr, W1_iaddr, W1_iarr, W1_idxs, W1_idxa1, W1_idxan, W1_sls, W1_sll, W1_sla, W1_mk, W1_ext, W1_fn, W1_ifc, W1_lens, W1_lenc, W1_app, W1_apps, W1_copy, W1_mn, W1_mx, W1_isnil, W1_strc, W1_beq, W1_mks, W1_capn, W1_appz, W1_eqagg, W1_call, W1_calld, callD_func, List.nil_append, List.append_nil, List.map_cons, List.map_nil, Option.map_some, Option.map_none, reduceIte, Option.some.injEq, exists_eq_left', Nat.reduceBEq, iv_ii, postA_ret, postA_normal, resVs_nil, resVs_tmp, resVs_one, resVs_many, Option.bind_some, tupleOf, Int.toNat_natCast, true_and, and_true, Nat.reduceEqDiff, RdOk_nil, RdOk_refl, rd_load1, rd_loadn, rd_b2s, rd_sll, rd_sla, rd_call, rd_calld, rd_new, rd_box, rd_lit, rd_store, rd_s2b, rd_mk, rd_app, rd_apps, rd_appz, rd_mks, rd_copy, blk_ptr, blk_sl, blk_nil, List.cons_append, addI, subI, mulI, quoI, remI, shrI, eqlI, neqI, eqS, neS, beqB, bneB, lenS, lenV, pickB, ext0, ext1, ext2, ext30, ext31, binA_lss, binA_leq, binA_gtr, binA_geq, convI, decide_eq_true, decide_eq_false, gd_undef, W_scope, mnI, mxI, inBlockA_ne, dec_refl, dec_nrefl, beq_self_eq_true, ite_true, ite_false, g0, g3, g4, hv.len, p1, p2]
              exact bad (by rw [checkI_at (by omega) (by omega) hnn hf (by simp [wrI]; omega), if_neg n1]; decide)
            · have hall' : ∀ m ∈ l.take (k + 1), 1 ≤ m ∧ m ≤ 384 := by
                intro m hm
                rw [List.take_add_one, hnn] at hm
                simp only [Option.toList_some, List.mem_append, List.mem_singleton] at hm
                rcases hm with hm | rfl
                · exact hall m hm
                · omega
              have hsum : ((l.take (k + 1)).map one384).sum = S + one384 n := by
                rw [List.take_add_one, hnn]
                simp only [List.map_append, Option.toList_some, List.map_cons, List.map_nil, List.sum_append, List.sum_cons, List.sum_nil, hS]
                omega
              have hfn := find_next hnn hf (by simp [wrI]; omega)
              by_cases n127 : n > 127
              · simp (maxSteps := 1000000) (disch := omega) only [W_seq, W_ops, W_draw, W_block, W_skip, W_exit, W_ret, sq_normal, sq_ret, sq_exit, W_condv, condW_true, condW_false, thenA_normal, thenA_ret, thenA_exit, if_true, if_false, Bool.false_eq_true, decide_eq_true_eq, inBlockA_normal, inBlockA_ret, inBlockA_same, inBlockA_other, noGotoA_normal, noGotoA_ret, noGotoA_exit, Wops_nil, Wops_cons, Wops_le, Wops_guard, Wops_guardle, ok1_some, okV_some, kont_at, kontL_at, gdB_true, gdB_false, decide_true, decide_false, ev_tmp, ev_const, ev_func, ev_global, put_some, put_none, upd_same, upd_at, gd_bt, gd_bf, Bool.not_true, Bool.not_false, pick_true, pick_false, pick_b, not_b, W1_mov, W1_pick, W1_new, W1_box, W1_build, W1_lit, W1_load1, W1_loadn, W1_store, W1_nilc, W1_bin, W1_un, W1_conv, W1_b2s, W1_s2b, W1_field1, W1_fieldn, W1_faddr, W1_iaddr, W1_iarr, W1_idxs, W1_idxa1, W1_idxan, W1_sls, W1_sll, W1_sla, W1_mk, W1_ext, W1_fn, W1_ifc, W1_lens, W1_lenc, W1_app, W1_apps, W1_copy, W1_mn, W1_mx, W1_isnil, W1_strc, W1_beq, W1_mks, W1_capn, W1_appz, W1_eqagg, W1_call, W1_calld, callD_func, List.nil_append, List.append_nil, List.map_cons, List.map_nil, Option.map_some, Option.map_none, reduceIte, Option.some.injEq, exists_eq_left', Nat.reduceBEq, iv_ii, postA_ret, postA_normal, resVs_nil, resVs_tmp, resVs_one, resVs_many, Option.bind_some, tupleOf, Int.toNat_natCast, true_and, and_true, Nat.reduceEqDiff, RdOk_nil, RdOk_refl, rd_load1, rd_loadn, rd_b2s, rd_sll, rd_sla, rd_call, rd_calld, rd_new, rd_box, rd_lit, rd_store, rd_s2b, rd_mk, rd_app, rd_apps, rd_appz, rd_mks, rd_copy, blk_ptr, blk_sl, blk_nil, List.cons_append, addI, subI, mulI, quoI, remI, shrI, eqlI, neqI, eqS, neS, beqB, bneB, lenS, lenV, pickB, ext0, ext1, ext2, ext30, ext31, binA_lss, binA_leq, binA_gtr, binA_geq, convI, decide_eq_true, decide_eq_false, gd_undef, W_scope, mnI, mxI, inBlockA_ne, dec_refl, dec_nrefl, beq_self_eq_true, ite_true, ite_false, g0, g3, g4, hv.len, p1, p2]
                refine ⟨⟨k + 1, by omega, hfn, hall', ?_, rfl⟩, by omega⟩
                rw [hsum]; congr 1; unfold one384; rw [if_pos n127]; omega
              · simp (maxSteps := 1000000) (disch := omega) only [W_seq, W_ops, W_draw, W_block, W_skip, W_exit, W_ret, sq_normal, sq_ret, sq_exit, W_condv, condW_true, condW_false, thenA_normal, thenA_ret, thenA_exit, if_true, if_false, Bool.false_eq_true, decide_eq_true_eq, inBlockA_normal, inBlockA_ret, inBlockA_same, inBlockA_other, noGotoA_normal, noGotoA_ret, noGotoA_exit, Wops_nil, Wops_cons, Wops_le, Wops_guard, Wops_guardle, ok1_some, okV_some, kont_at, kontL_at, gdB_true, gdB_false, decide_true, decide_false, ev_tmp, ev_const, ev_func, ev_global, put_some, put_none, upd_same, upd_at, gd_bt, gd_bf, Bool.not_true, Bool.not_false, pick_true, pick_false, pick_b, not_b, W1_mov, W1_pick, W1_new, W1_box, W1_build, W1_lit, W1_load1, W1_loadn, W1_store, W1_nilc, W1_bin, W1_un, W1_conv, W1_b2s, W1_s2b, W1_field1, W1_fieldn, W1_faddr, W1_iaddr, W1_iarr, W1_idxs, W1_idxa1, W1_idxan, W1_sls, W1_sll, W1_sla, W1_mk, W1_ext, W1_fn, W1_ifc, W1_lens, W1_lenc, W1_app, W1_apps, W1_copy, W1_mn, W1_mx, W1_isnil, W1_strc, W1_beq, W1_mks, W1_capn, W1_appz, W1_eqagg, W1_call, W1_calld, callD_func, List.nil_append, List.append_nil, List.map_cons, List.map_nil, Option.map_some, Option.map_none, reduceIte, Option.some.injEq, exists_eq_left', Nat.reduceBEq, iv_ii, postA_ret, postA_normal, resVs_nil, resVs_tmp, resVs_one, resVs_many, Option.bind_some, tupleOf, Int.toNat_natCast, true_and, and_true, Nat.reduceEqDiff, RdOk_nil, RdOk_refl, rd_load1, rd_loadn, rd_b2s, rd_sll, rd_sla, rd_call, rd_calld, rd_new, rd_box, rd_lit, rd_store, rd_s2b, rd_mk, rd_app, rd_apps, rd_appz, rd_mks, rd_copy, blk_ptr, blk_sl, blk_nil, List.cons_append, addI, subI, mulI, quoI, remI, shrI, eqlI, neqI, eqS, neS, beqB, bneB, lenS, lenV, pickB, ext0, ext1, ext2, ext30, ext31, binA_lss, binA_leq, binA_gtr, binA_geq, convI, decide_eq_true, decide_eq_false, gd_undef, W_scope, mnI, mxI, inBlockA_ne, dec_refl, dec_nrefl, beq_self_eq_true, ite_true, ite_false, g0, g3, g4, hv.len, p1, p2]
                refine ⟨⟨k + 1, by omega, hfn, hall', ?_, rfl⟩, by omega⟩
                rw [hsum]; congr 1; unfold one384; rw [if_neg n127]; omega
        · have hkk : k = l.length := by omega
          subst hkk
          have hc : checkI l = 0 := checkI_end (by omega) (by omega) hf
          have e : sizeI l = 1 + (l.map one384).sum := by unfold sizeI; rw [if_pos hc]
          rw [e] at hq
          rw [List.take_length] at g3
          simp (maxSteps := 1000000) (disch := omega) only [W_seq, W_ops, W_draw, W_block, W_skip, W_exit, W_ret, sq_normal, sq_ret, sq_exit, W_condv, condW_true, condW_false, thenA_normal, thenA_ret, thenA_exit, if_true, if_false, Bool.false_eq_true, decide_eq_true_eq, inBlockA_normal, inBlockA_ret, inBlockA_same, inBlockA_other, noGotoA_normal, noGotoA_ret, noGotoA_exit, Wops_nil, Wops_cons, Wops_le, Wops_guard, Wops_guardle, ok1_some, okV_some, kont_at, kontL_at, gdB_true, gdB_false, decide_true, decide_false, ev_tmp, ev_const, ev_func, ev_global, put_some, put_none, upd_same, upd_at, gd_bt, gd_bf, Bool.not_true, Bool.not_false, pick_true, pick_false, pick_b, not_b, W1_mov, W1_pick, W1_new, W1_box, W1_build, W1_lit, W1_load1, W1_loadn, W1_store, W1_nilc, W1_bin, W1_un, W1_conv, W1_b2s, W1_s2b, W1_field1, W1_fieldn, W1_faddr, W1_iaddr, W1_iarr, W1_idxs, W1_idxa1, W1_idxan, W1_sls, W1_sll, W1_sla, W1_mk, W1_ext, W1_fn, W1_ifc, W1_lens, W1_lenc, W1_app, W1_apps, W1_copy, W1_mn, W1_mx, W1_isnil, W1_strc, W1_beq, W1_mks, W1_capn, W1_appz, W1_eqagg, W1_call, W1_calld, callD_func, List.nil_append, List.append_nil, List.map_cons, List.map_nil, Option.map_some, Option.map_none, reduceIte, Option.some.injEq, exists_eq_left', Nat.reduceBEq, iv_ii, postA_ret, postA_normal, resVs_nil, resVs_tmp, resVs_one, resVs_many, Option.bind_some, tupleOf, Int.toNat_natCast, true_and, and_true, Nat.reduceEqDiff, RdOk_nil, RdOk_refl, rd_load1, rd_loadn, rd_b2s, rd_sll, rd_sla, rd_call, rd_calld, rd_new, rd_box, rd_lit, rd_store, rd_s2b, rd_mk, rd_app, rd_apps, rd_appz, rd_mks, rd_copy, blk_ptr, blk_sl, blk_nil, List.cons_append, addI, subI, mulI, quoI, remI, shrI, eqlI, neqI, eqS, neS, beqB, bneB, lenS, lenV, pickB, ext0, ext1, ext2, ext30, ext31, binA_lss, binA_leq, binA_gtr, binA_geq, convI, decide_eq_true, decide_eq_false, gd_undef, W_scope, mnI, mxI, inBlockA_ne, dec_refl, dec_nrefl, beq_self_eq_true, ite_true, ite_false, g0, g3, g4, hv.len]
          exact hq
end Go.AS.C

namespace Go.AS.C
open Go Go.Proofs
set_option linter.unusedVariables false
set_option linter.unusedSimpArgs false
set_option maxRecDepth 10000

theorem take_eq_succ {α : Type} {xs ys : List α} {k : Nat} {x y : α} (hx : xs[k]? = some x) (hy : ys[k]? = some y) : xs.take (k + 1) = ys.take (k + 1) ↔ xs.take k = ys.take k ∧ x = y := by
  rw [List.take_add_one, List.take_add_one, hx, hy]
  constructor
  · intro h
    have := List.append_inj' h rfl
    exact ⟨this.1, by simpa using this.2⟩
  · rintro ⟨h1, rfl⟩; rw [h1]
theorem str_inj {a b : List UInt8} : ((⟨a.toArray⟩ : ByteArray) = ⟨b.toArray⟩) ↔ a = b := by
  constructor
  · intro h; injection h with h; simpa using h
  · rintro rfl; rfl
theorem ref01_Bytes_spec {A : AH} {u v : Value} {xs ys : List (List UInt8)} {Q : Value → AH → Prop} (hu : Byts A u xs) (hv : Byts A v ys) (hl : xs.length < 2 ^ 60) (hl2 : ys.length < 2 ^ 60) (hq : Q (.bool (decide (xs = ys))) A) : ACalls 0 Try.prog chantryref01_Bytes [u, v] Q A := by
  refine ACalls.of_fits mixed fits_chantryref01_Bytes rfl ?_
  unfold ic_chantryref01_Bytes
  have i0 : initA [u, v] 0 = u := rfl
  have i1 : initA [u, v] 1 = v := rfl
  generalize initA [u, v] = a at i0 i1
  by_cases h : xs.length = ys.length
  · simp (maxSteps := 1000000) (disch := omega) only [W_seq, W_ops, W_draw, W_block, W_skip, W_exit, W_ret, sq_normal, sq_ret, sq_exit, W_condv, condW_true, condW_false, thenA_normal, thenA_ret, thenA_exit, if_true, if_false, Bool.false_eq_true, decide_eq_true_eq, inBlockA_normal, inBlockA_ret, inBlockA_same, inBlockA_other, noGotoA_normal, noGotoA_ret, noGotoA_exit, Wops_nil, Wops_cons, Wops_le, Wops_guard, Wops_guardle, ok1_some, okV_some, kont_at, kontL_at, gdB_true, gdB_false, decide_true, decide_false, ev_tmp, ev_const, ev_func, ev_global, put_some, put_none, upd_same, upd_at, gd_bt, gd_bf, Bool.not_true, Bool.not_false, pick_true, pick_false, pick_b, not_b, W1_mov, W1_pick, W1_new, W1_box, W1_build, W1_lit, W1_load1, W1_loadn, W1_store, W1_nilc, W1_bin, W1_un, W1_conv, W1_b2s, W1_s2b, W1_field1, W1_fieldn, W1_faddr, W1_iaddr, W1_iarr, W1_idxs, W1_idxa1, W1_idxan, W1_sls, W1_sll, W1_sla, W1_mk, W1_ext, W1_fn, W1_ifc, W1_lens, W1_lenc, W1_app, W1_apps, W1_copy, W1_mn, W1_mx, W1_isnil, W1_strc, W1_beq, W1_mks, W1_capn, W1_appz, W1_eqagg, W1_call, W1_calld, callD_func, List.nil_append, List.append_nil, List.map_cons, List.map_nil, Option.map_some, Option.map_none, reduceIte, Option.some.injEq, exists_eq_left', Nat.reduceBEq, iv_ii, postA_ret, postA_normal, resVs_nil, resVs_tmp, resVs_one, resVs_many, Option.bind_some, tupleOf, Int.toNat_natCast, true_and, and_true, Nat.reduceEqDiff, RdOk_nil, RdOk_refl, rd_load1, rd_loadn, rd_b2s, rd_sll, rd_sla, rd_call, rd_calld, rd_new, rd_box, rd_lit, rd_store, rd_s2b, rd_mk, rd_app, rd_apps, rd_appz, rd_mks, rd_copy, blk_ptr, blk_sl, blk_nil, List.cons_append, addI, subI, mulI, quoI, remI, shrI, eqlI, neqI, eqS, neS, beqB, bneB, lenS, lenV, pickB, ext0, ext1, ext2, ext30, ext31, binA_lss, binA_leq, binA_gtr, binA_geq, convI, decide_eq_true, decide_eq_false, gd_undef, W_scope, mnI, mxI, inBlockA_ne, dec_refl, dec_nrefl, beq_self_eq_true, ite_true, ite_false, i0, i1, hu.len, hv.len]
    refine W_loop (fun a' B => B = A ∧ ∃ k : Nat, k ≤ xs.length ∧ a' 0 = u ∧ a' 1 = v ∧ a' 5 = ii k ∧ xs.take k = ys.take k) (fun a' _ => xs.length - (iv (a' 5)).toNat) ?_ ?_
    · refine ⟨rfl, 0, by omega, ?_⟩
      simp (maxSteps := 1000000) (disch := omega) only [W_seq, W_ops, W_draw, W_block, W_skip, W_exit, W_ret, sq_normal, sq_ret, sq_exit, W_condv, condW_true, condW_false, thenA_normal, thenA_ret, thenA_exit, if_true, if_false, Bool.false_eq_true, decide_eq_true_eq, inBlockA_normal, inBlockA_ret, inBlockA_same, inBlockA_other, noGotoA_normal, noGotoA_ret, noGotoA_exit, Wops_nil, Wops_cons, Wops_le, Wops_guard, Wops_guardle, ok1_some, okV_some, kont_at, kontL_at, gdB_true, gdB_false, decide_true, decide_false, ev_tmp, ev_const, ev_func, ev_global, put_some, put_none, upd_same, upd_at, gd_bt, gd_bf, Bool.not_true, Bool.not_false, pick_true, pick_false, pick_b, not_b, W1_mov, W1_pick, W1_new, W1_box, W1_build, W1_lit, W1_load1, W1_loadn, W1_store, W1_nilc, W1_bin, W1_un, W1_conv, W1_b2s, W1_s2b, W1_field1, W1_fieldn, W1_faddr, W1_iaddr, W1_iarr, W1_idxs, W1_idxa1, W1_idxan, W1_sls, W1_sll, W1_sla, W1_mk, W1_ext, W1_fn, W1_ifc, W1_lens, W1_lenc, W1_app, W1_apps, W1_copy, W1_mn, W1_mx, W1_isnil, W1_strc, W1_beq, W1_mks, W1_capn, W1_appz, W1_eqagg, W1_call, W1_calld, callD_func, List.nil_append, List.append_nil, List.map_cons, List.map_nil, Option.map_some, Option.map_none, reduceIte, Option.some.injEq, exists_eq_left', Nat.reduceBEq, iv_ii, postA_ret, postA_normal, resVs_nil, resVs_tmp, resVs_one, resVs_many, Option.bind_some, tupleOf, Int.toNat_natCast, true_and, and_true, Nat.reduceEqDiff, RdOk_nil, RdOk_refl, rd_load1, rd_loadn, rd_b2s, rd_sll, rd_sla, rd_call, rd_calld, rd_new, rd_box, rd_lit, rd_store, rd_s2b, rd_mk, rd_app, rd_apps, rd_appz, rd_mks, rd_copy, blk_ptr, blk_sl, blk_nil, List.cons_append, addI, subI, mulI, quoI, remI, shrI, eqlI, neqI, eqS, neS, beqB, bneB, lenS, lenV, pickB, ext0, ext1, ext2, ext30, ext31, binA_lss, binA_leq, binA_gtr, binA_geq, convI, decide_eq_true, decide_eq_false, gd_undef, W_scope, mnI, mxI, inBlockA_ne, dec_refl, dec_nrefl, beq_self_eq_true, ite_true, ite_false, i0, i1]
      exact ⟨rfl, rfl⟩
    · rintro a2 B ⟨rfl, k, hk, g0, g1, g5, he⟩
      rcases Nat.lt_or_ge k xs.length with hlt | hge
      · obtain ⟨x, hx⟩ : ∃ x, xs[k]? = some x := ⟨_, List.getElem?_eq_getElem hlt⟩
        obtain ⟨y, hy⟩ : ∃ y, ys[k]? = some y := ⟨_, List.getElem?_eq_getElem (by omega)⟩
        obtain ⟨p, x', p1, p2, p3⟩ := hu.at1 hx
        obtain ⟨q, y', q1, q2, q3⟩ := hv.at1 hy
        by_cases hxy : x = y
        · subst hxy
          simp (maxSteps := 1000000) (disch := omega) only [W_seq, W_ops, W_draw, W_block, W_skip, W_exit, W_ret, sq_normal, sq_ret, sq_exit, W_condv, condW_true, condW_false, thenA_normal, thenA_ret, thenA_exit, if_true, if_false, Bool.false_eq_true, decide_eq_true_eq, inBlockA_normal, inBlockA_ret, inBlockA_same, inBlockA_other, noGotoA_normal, noGotoA_ret, noGotoA_exit, Wops_nil, Wops_cons, Wops_le, Wops_guard, Wops_guardle, ok1_some, okV_some, kont_at, kontL_at, gdB_true, gdB_false, decide_true, decide_false, ev_tmp, ev_const, ev_func, ev_global, put_some, put_none, upd_same, upd_at, gd_bt, gd_bf, Bool.not_true, Bool.not_false, pick_true, pick_false, pick_b, not_b, W1_mov, W1_pick, W1_new, W1_box, W1_build, W1_lit, W1_load1, W1_loadn, W1_store, W1_nilc, W1_bin, W1_un, W1_conv, W1_b2s, W1_s2b, W1_field1, W1_fieldn, W1_faddr, W1_iaddr, W1_iarr, W1_idxs, W1_idxa1, W1_idxan, W1_sls, W1_sll, W1_sla, W1_mk, W1_ext, W1_fn, W1_ifc, W1_lens, W1_lenc, W1_app, W1_apps, W1_copy, W1_mn, W1_mx, W1_isnil, W1_strc, W1_beq, W1_mks, W1_capn, W1_appz, W1_eqagg, W1_call, W1_calld, callD_func, List.nil_append, List.append_nil, List.map_cons, List.map_nil, Option.map_some, Option.map_none, reduceIte, Option.some.injEq, exists_eq_left', Nat.reduceBEq, iv_ii, postA_ret, postA_normal, resVs_nil, resVs_tmp, resVs_one, resVs_many, Option.bind_some, tupleOf, Int.toNat_natCast, true_and, and_true, Nat.reduceEqDiff, RdOk_nil, RdOk_refl, rd_load1, rd_loadn, rd_b2s, rd_sll, rd_sla, rd_call, rd_calld, rd_new, rd_box, rd_lit, rd_store, rd_s2b, rd_mk, rd_app, rd_apps, rd_appz, rd_mks, rd_copy, blk_ptr, blk_sl, blk_nil, List.cons_append, addI, subI, mulI, quoI, remI, shrI, eqlI, neqI, eqS, neS, beqB, bneB, lenS, lenV, pickB, ext0, ext1, ext2, ext30, ext31, binA_lss, binA_leq, binA_gtr, binA_geq, convI, decide_eq_true, decide_eq_false, gd_undef, W_scope, mnI, mxI, inBlockA_ne, dec_refl, dec_nrefl, beq_self_eq_true, ite_true, ite_false, g0, g1, g5, hu.len, hv.len, p1, p2, p3.str, q1, q2, q3.str]
          exact ⟨⟨k + 1, by omega, rfl, (take_eq_succ hx hy).2 ⟨he, rfl⟩⟩, by omega⟩
        · have hne : decide ((⟨x.toArray⟩ : ByteArray) ≠ ⟨y.toArray⟩) = true := by simpa [str_inj] using hxy
          simp (maxSteps := 1000000) (disch := omega) only [W_seq, W_ops, W_draw, W_block, W_skip, W_exit, W_ret, sq_normal, sq_ret, sq_exit, W_condv, condW_true, condW_false, thenA_normal, thenA_ret, thenA_exit, if_true, if_false, Bool.false_eq_true, decide_eq_true_eq, inBlockA_normal, inBlockA_ret, inBlockA_same, inBlockA_other, noGotoA_normal, noGotoA_ret, noGotoA_exit, Wops_nil, Wops_cons, Wops_le, Wops_guard, Wops_guardle, ok1_some, okV_some, kont_at, kontL_at, gdB_true, gdB_false, decide_true, decide_false, ev_tmp, ev_const, ev_func, ev_global, put_some, put_none, upd_same, upd_at, gd_bt, gd_bf, Bool.not_true, Bool.not_false, pick_true, pick_false, pick_b, not_b, W1_mov, W1_pick, W1_new, W1_box, W1_build, W1_lit, W1_load1, W1_loadn, W1_store, W1_nilc, W1_bin, W1_un, W1_conv, W1_b2s, W1_s2b, W1_field1, W1_fieldn, W1_faddr, W1_iaddr, W1_iarr, W1_idxs, W1_idxa1, W1_idxan, W1_sls, W1_sll, W1_sla, W1_mk, W1_ext, W1_fn, W1_ifc, W1_lens, W1_lenc, W1_app, W1_apps, W1_copy, W1_mn, W1_mx, W1_isnil, W1_strc, W1_beq, W1_mks, W1_capn, W1_appz, W1_eqagg, W1_call, W1_calld, callD_func, List.nil_append, List.append_nil, List.map_cons, List.map_nil, Option.map_some, Option.map_none, reduceIte, Option.some.injEq, exists_eq_left', Nat.reduceBEq, iv_ii, postA_ret, postA_normal, resVs_nil, resVs_tmp, resVs_one, resVs_many, Option.bind_some, tupleOf, Int.toNat_natCast, true_and, and_true, Nat.reduceEqDiff, RdOk_nil, RdOk_refl, rd_load1, rd_loadn, rd_b2s, rd_sll, rd_sla, rd_call, rd_calld, rd_new, rd_box, rd_lit, rd_store, rd_s2b, rd_mk, rd_app, rd_apps, rd_appz, rd_mks, rd_copy, blk_ptr, blk_sl, blk_nil, List.cons_append, addI, subI, mulI, quoI, remI, shrI, eqlI, neqI, eqS, neS, beqB, bneB, lenS, lenV, pickB, ext0, ext1, ext2, ext30, ext31, binA_lss, binA_leq, binA_gtr, binA_geq, convI, decide_eq_true, decide_eq_false, gd_undef, W_scope, mnI, mxI, inBlockA_ne, dec_refl, dec_nrefl, beq_self_eq_true, ite_true, ite_false, g0, g1, g5, hu.len, hv.len, p1, p2, p3.str, q1, q2, q3.str, hne]
          have hf : decide (xs = ys) = false := by
            apply decide_eq_false
            rintro rfl
            rw [hx] at hy
            exact hxy (Option.some.inj hy)
          rw [hf] at hq
          exact hq
      · simp (maxSteps := 1000000) (disch := omega) only [W_seq, W_ops, W_draw, W_block, W_skip, W_exit, W_ret, sq_normal, sq_ret, sq_exit, W_condv, condW_true, condW_false, thenA_normal, thenA_ret, thenA_exit, if_true, if_false, Bool.false_eq_true, decide_eq_true_eq, inBlockA_normal, inBlockA_ret, inBlockA_same, inBlockA_other, noGotoA_normal, noGotoA_ret, noGotoA_exit, Wops_nil, Wops_cons, Wops_le, Wops_guard, Wops_guardle, ok1_some, okV_some, kont_at, kontL_at, gdB_true, gdB_false, decide_true, decide_false, ev_tmp, ev_const, ev_func, ev_global, put_some, put_none, upd_same, upd_at, gd_bt, gd_bf, Bool.not_true, Bool.not_false, pick_true, pick_false, pick_b, not_b, W1_mov, W1_pick, W1_new, W1_box, W1_build, W1_lit, W1_load1, W1_loadn, W1_store, W1_nilc, W1_bin, W1_un, W1_conv, W1_b2s, W1_s2b, W1_field1, W1_fieldn, W1_faddr, W1_iaddr, W1_iarr, W1_idxs, W1_idxa1, W1_idxan, W1_sls, W1_sll, W1_sla, W1_mk, W1_ext, W1_fn, W1_ifc, W1_lens, W1_lenc, W1_app, W1_apps, W1_copy, W1_mn, W1_mx, W1_isnil, W1_strc, W1_beq, W1_mks, W1_capn, W1_appz, W1_eqagg, W1_call, W1_calld, callD_func, List.nil_append, List.append_nil, List.map_cons, List.map_nil, Option.map_some, Option.map_none, reduceIte, Option.some.injEq, exists_eq_left', Nat.reduceBEq, iv_ii, postA_ret, postA_normal, resVs_nil, resVs_tmp, resVs_one, resVs_many, Option.bind_some, tupleOf, Int.toNat_natCast, true_and, and_true, Nat.reduceEqDiff, RdOk_nil, RdOk_refl, rd_load1, rd_loadn, rd_b2s, rd_sll, rd_sla, rd_call, rd_calld, rd_new, rd_box, rd_lit, rd_store, rd_s2b, rd_mk, rd_app, rd_apps, rd_appz, rd_mks, rd_copy, blk_ptr, blk_sl, blk_nil, List.cons_append, addI, subI, mulI, quoI, remI, shrI, eqlI, neqI, eqS, neS, beqB, bneB, lenS, lenV, pickB, ext0, ext1, ext2, ext30, ext31, binA_lss, binA_leq, binA_gtr, binA_geq, convI, decide_eq_true, decide_eq_false, gd_undef, W_scope, mnI, mxI, inBlockA_ne, dec_refl, dec_nrefl, beq_self_eq_true, ite_true, ite_false, g0, g1, g5, hu.len, hv.len]
        rw [List.take_of_length_le hge, List.take_of_length_le (by omega)] at he
        have hf : decide (xs = ys) = true := decide_eq_true he
        rw [hf] at hq
        exact hq
  · simp (maxSteps := 1000000) (disch := omega) only [W_seq, W_ops, W_draw, W_block, W_skip, W_exit, W_ret, sq_normal, sq_ret, sq_exit, W_condv, condW_true, condW_false, thenA_normal, thenA_ret, thenA_exit, if_true, if_false, Bool.false_eq_true, decide_eq_true_eq, inBlockA_normal, inBlockA_ret, inBlockA_same, inBlockA_other, noGotoA_normal, noGotoA_ret, noGotoA_exit, Wops_nil, Wops_cons, Wops_le, Wops_guard, Wops_guardle, ok1_some, okV_some, kont_at, kontL_at, gdB_true, gdB_false, decide_true, decide_false, ev_tmp, ev_const, ev_func, ev_global, put_some, put_none, upd_same, upd_at, gd_bt, gd_bf, Bool.not_true, Bool.not_false, pick_true, pick_false, pick_b, not_b, W1_mov, W1_pick, W1_new, W1_box, W1_build, W1_lit, W1_load1, W1_loadn, W1_store, W1_nilc, W1_bin, W1_un, W1_conv, W1_b2s, W1_s2b, W1_field1, W1_fieldn, W1_faddr, W1_iaddr, W1_iarr, W1_idxs, W1_idxa1, W1_idxan, W1_sls, W1_sll, W1_sla, W1_mk, W1_ext, W1_fn, W1_ifc, W1_lens, W1_lenc, W1_app, W1_apps, W1_copy, W1_mn, W1_mx, W1_isnil, W1_strc, W1_beq, W1_mks, W1_capn, W1_appz, W1_eqagg, W1_call, W1_calld, callD_func, List.nil_append, List.append_nil, List.map_cons, List.map_nil, Option.map_some, Option.map_none, reduceIte, Option.some.injEq, exists_eq_left', Nat.reduceBEq, iv_ii, postA_ret, postA_normal, resVs_nil, resVs_tmp, resVs_one, resVs_many, Option.bind_some, tupleOf, Int.toNat_natCast, true_and, and_true, Nat.reduceEqDiff, RdOk_nil, RdOk_refl, rd_load1, rd_loadn, rd_b2s, rd_sll, rd_sla, rd_call, rd_calld, rd_new, rd_box, rd_lit, rd_store, rd_s2b, rd_mk, rd_app, rd_apps, rd_appz, rd_mks, rd_copy, blk_ptr, blk_sl, blk_nil, List.cons_append, addI, subI, mulI, quoI, remI, shrI, eqlI, neqI, eqS, neS, beqB, bneB, lenS, lenV, pickB, ext0, ext1, ext2, ext30, ext31, binA_lss, binA_leq, binA_gtr, binA_geq, convI, decide_eq_true, decide_eq_false, gd_undef, W_scope, mnI, mxI, inBlockA_ne, dec_refl, dec_nrefl, beq_self_eq_true, ite_true, ite_false, i0, i1, hu.len, hv.len]
    have hf : decide (xs = ys) = false := decide_eq_false (fun e => h (by rw [e]))
    rw [hf] at hq
    exact hq
end Go.AS.C

-- Printed by tab.py (wip/tools): all abstract codes of the chapter, as one table.
namespace Go.AS.C
open Go Go.Proofs
set_option maxRecDepth 100000
noncomputable def tab : List (Nat × CodeE) := [
  (chantrylaw32_JournalPuts, ⟨ic_chantrylaw32_JournalPuts, [.tmp 2], 1⟩),
  (chantrylaw32_JournalGets, ⟨ic_chantrylaw32_JournalGets, [.tmp 4], 2⟩),
  (chantrylaw32_JournalCuts, ⟨ic_chantrylaw32_JournalCuts, [.tmp 4], 2⟩),
  (chantrylaw32_awake, ⟨ic_chantrylaw32_awake, [.tmp 0], 0⟩),
  (journal_Put, ⟨ic_journal_Put, [.tmp 2, .tmp 3], 1⟩),
  (chantryref32_Put, ⟨ic_chantryref32_Put, [.tmp 2, .tmp 3], 1⟩),
  (journal_Get, ⟨ic_journal_Get, [.tmp 2, .tmp 3], 1⟩),
  (journal_Size, ⟨ic_journal_Size, [.tmp 2], 1⟩),
  (chantryref01_Bytes, ⟨ic_chantryref01_Bytes, [.tmp 4], 2⟩),
  (chantryref32_Get, ⟨ic_chantryref32_Get, [.tmp 2, .tmp 3], 1⟩),
  (chantryref32_Size, ⟨ic_chantryref32_Size, [.tmp 2], 1⟩),
  (journal_check, ⟨ic_journal_check, [.tmp 2], 1⟩),
  (journal_each_byte_int, ⟨ic_journal_each_byte_int, [.tmp 4], 2⟩),
  (journal_Put_1, ⟨ic_journal_Put_1, [.tmp 2], 1⟩),
  (num_Put, ⟨ic_num_Put, [.tmp 2, .tmp 3], 1⟩),
  (slices_Concat_byte_byte, ⟨ic_slices_Concat_byte_byte, [.tmp 2], 1⟩),
  (journal_each_byte_byte, ⟨ic_journal_each_byte_byte, [.tmp 4], 2⟩),
  (journal_text, ⟨ic_journal_text, [.tmp 2], 1⟩),
  (chantryref01_Put, ⟨ic_chantryref01_Put, [.tmp 2, .tmp 3], 1⟩),
  (chantryref01_Text, ⟨ic_chantryref01_Text, [.tmp 2, .tmp 3], 1⟩),
  (num_From, ⟨ic_num_From, [.tmp 2], 1⟩),
  (num_Cursor_Num, ⟨ic_num_Cursor_Num, [.tmp 2], 1⟩),
  (num_Cursor_Bad, ⟨ic_num_Cursor_Bad, [.tmp 2], 1⟩),
  (num_Cursor_Text, ⟨ic_num_Cursor_Text, [.tmp 2], 1⟩),
  (num_Cursor_Left, ⟨ic_num_Cursor_Left, [.tmp 2], 1⟩),
  (journal_Get_1, ⟨ic_journal_Get_1, [.tmp 2], 1⟩),
  (chantryref01_Num, ⟨ic_chantryref01_Num, [.many 2 3, .tmp 3], 1⟩),
  (chantryref01_From, ⟨ic_chantryref01_From, [.many 2 3], 1⟩),
  (chantryref01_TakeText, ⟨ic_chantryref01_TakeText, [.many 2 3, .tmp 3], 1⟩),
  (slices_IndexFunc_int_int, ⟨ic_slices_IndexFunc_int_int, [.tmp 4], 2⟩),
  (journal_check_1, ⟨ic_journal_check_1, [.tmp 2], 1⟩),
  (num_is, ⟨ic_num_is, [.tmp 2], 1⟩),
  (slices_Grow_byte_byte, ⟨ic_slices_Grow_byte_byte, [.tmp 4], 2⟩),
  (num_Text, ⟨ic_num_Text, [.tmp 2, .tmp 3], 1⟩),
  (slices_Clone_byte_byte, ⟨ic_slices_Clone_byte_byte, [.tmp 2], 1⟩),
  (num_Get, ⟨ic_num_Get, [.tmp 2, .tmp 3, .tmp 4], 1⟩),
  (num_Cursor_fail, ⟨ic_num_Cursor_fail, [], 1⟩),
  (num_Cursor_Take, ⟨ic_num_Cursor_Take, [.tmp 4], 2⟩),
  (chantryref01_Get, ⟨ic_chantryref01_Get, [.tmp 2, .tmp 3, .tmp 4], 1⟩),
  (chantryref01_spoilt, ⟨ic_chantryref01_spoilt, [.many 2 3], 1⟩),
  (chantryref01_Take, ⟨ic_chantryref01_Take, [.many 4 3, .tmp 5], 2⟩)]
theorem tabOk : ∀ p ∈ tab, Fits Try.prog 0 p.1 p.2.ic p.2.rs p.2.np := by
  unfold tab
  exact List.forall_mem_cons.2 ⟨fits_chantrylaw32_JournalPuts, List.forall_mem_cons.2 ⟨fits_chantrylaw32_JournalGets, List.forall_mem_cons.2 ⟨fits_chantrylaw32_JournalCuts, List.forall_mem_cons.2 ⟨fits_chantrylaw32_awake, List.forall_mem_cons.2 ⟨fits_journal_Put, List.forall_mem_cons.2 ⟨fits_chantryref32_Put, List.forall_mem_cons.2 ⟨fits_journal_Get, List.forall_mem_cons.2 ⟨fits_journal_Size, List.forall_mem_cons.2 ⟨fits_chantryref01_Bytes, List.forall_mem_cons.2 ⟨fits_chantryref32_Get, List.forall_mem_cons.2 ⟨fits_chantryref32_Size, List.forall_mem_cons.2 ⟨fits_journal_check, List.forall_mem_cons.2 ⟨fits_journal_each_byte_int, List.forall_mem_cons.2 ⟨fits_journal_Put_1, List.forall_mem_cons.2 ⟨fits_num_Put, List.forall_mem_cons.2 ⟨fits_slices_Concat_byte_byte, List.forall_mem_cons.2 ⟨fits_journal_each_byte_byte, List.forall_mem_cons.2 ⟨fits_journal_text, List.forall_mem_cons.2 ⟨fits_chantryref01_Put, List.forall_mem_cons.2 ⟨fits_chantryref01_Text, List.forall_mem_cons.2 ⟨fits_num_From, List.forall_mem_cons.2 ⟨fits_num_Cursor_Num, List.forall_mem_cons.2 ⟨fits_num_Cursor_Bad, List.forall_mem_cons.2 ⟨fits_num_Cursor_Text, List.forall_mem_cons.2 ⟨fits_num_Cursor_Left, List.forall_mem_cons.2 ⟨fits_journal_Get_1, List.forall_mem_cons.2 ⟨fits_chantryref01_Num, List.forall_mem_cons.2 ⟨fits_chantryref01_From, List.forall_mem_cons.2 ⟨fits_chantryref01_TakeText, List.forall_mem_cons.2 ⟨fits_slices_IndexFunc_int_int, List.forall_mem_cons.2 ⟨fits_journal_check_1, List.forall_mem_cons.2 ⟨fits_num_is, List.forall_mem_cons.2 ⟨fits_slices_Grow_byte_byte, List.forall_mem_cons.2 ⟨fits_num_Text, List.forall_mem_cons.2 ⟨fits_slices_Clone_byte_byte, List.forall_mem_cons.2 ⟨fits_num_Get, List.forall_mem_cons.2 ⟨fits_num_Cursor_fail, List.forall_mem_cons.2 ⟨fits_num_Cursor_Take, List.forall_mem_cons.2 ⟨fits_chantryref01_Get, List.forall_mem_cons.2 ⟨fits_chantryref01_spoilt, List.forall_mem_cons.2 ⟨fits_chantryref01_Take, fun p h => by cases h⟩⟩⟩⟩⟩⟩⟩⟩⟩⟩⟩⟩⟩⟩⟩⟩⟩⟩⟩⟩⟩⟩⟩⟩⟩⟩⟩⟩⟩⟩⟩⟩⟩⟩⟩⟩⟩⟩⟩⟩⟩
end Go.AS.C

namespace Go.AS.C
open Go Go.Proofs
set_option maxRecDepth 100000

/-- The law's own example is run; what Put gives is no more written there. -/
theorem awake_run : (runO Try.prog tab orc0 (fun f => f == journal_Put) 100000 60 chantrylaw32_awake [] []).map (·.1) = some (.bool true) := by kernel_rfl
theorem wake {A : AH} {Q : Value → AH → Prop} (hq : Q (.bool true) A) : ACalls 0 Try.prog chantrylaw32_awake [] Q A := ACalls.runO mixed rfl rfl tabOk orc0_ok awake_run rfl rfl ⟨A, rfl⟩ hq
end Go.AS.C

namespace Go.AS.C
open Go Go.Proofs
set_option linter.unusedVariables false
set_option linter.unusedSimpArgs false
set_option maxRecDepth 10000

theorem numC_put {n : Nat} (h : n ≤ 2147483647) (r : List UInt8) : numC (some (putN n ++ r)) = (some r, n) := by
  unfold numC
  simp only [getN_put h]
  rw [List.drop_left]
theorem textC_text {t : List UInt8} (h : t.length ≤ 262144) (r : List UInt8) : textC (some (textN t ++ r)) = (some r, t) := by
  unfold textC textN
  rw [List.append_assoc]
  simp only [getN_put (n := t.length) (by omega), List.drop_left]
  rw [if_pos h]
  unfold takeC
  simp only [Int.toNat_natCast]
  rw [if_pos ⟨by omega, by rw [List.length_append]; omega⟩, List.drop_left, List.take_left]
theorem textsC_rec : ∀ (ts : List (List UInt8)) (r : List UInt8), (∀ t ∈ ts, t.length ≤ 262144) → textsC ts.length (some ((ts.map textN).flatten ++ r)) = (ts, some r)
  | [], r, _ => rfl
  | t :: ts, r, h => by
    rw [List.length_cons, List.map_cons, List.flatten_cons, List.append_assoc]
    simp only [textsC]
    rw [textC_text (h t (List.mem_cons_self ..))]
    simp only
    rw [textsC_rec ts r fun x hx => h x (List.mem_cons_of_mem _ hx)]
theorem getC_rec {ts : List (List UInt8)} (h : ts.length ≤ 2147483647) (ht : ∀ t ∈ ts, t.length ≤ 262144) (r : List UInt8) : getC (recJ ts ++ r) = (ts, some r) := by
  unfold getC recJ
  rw [List.append_assoc, numC_put h]
  exact textsC_rec ts r ht
theorem getJ_rec {ts : List (List UInt8)} (h : checkI (lensI ts) = 0) : getJ (recJ ts) = (ts, 0) := by
  obtain ⟨h1, h2, h3⟩ := check_ok h
  have e := getC_rec (ts := ts) (by omega) (fun t ht => by have := (h3 t ht).2; omega) []
  rw [List.append_nil] at e
  unfold getJ
  rw [e, if_pos ⟨rfl, h⟩]
theorem getJ_zero {bs : List UInt8} (h : (getJ bs).2 = 0) : checkI (lensI (getJ bs).1) = 0 ∧ putJ (getJ bs).1 = bs := by
  unfold getJ at h ⊢
  split at h
  · rename_i hc
    rw [if_pos hc]
    obtain ⟨h1, h2⟩ := hc
    refine ⟨h2, ?_⟩
    unfold putJ
    simp only
    rw [if_pos h2]
    cases hg : getC bs with
    | mk ts st =>
      rw [hg] at h1
      cases st with
      | none => cases h1
      | some r => cases r with
        | nil => have := getC_ok hg; rw [List.append_nil] at this; exact this.symm
        | cons b r => cases h1
  · cases h
theorem getJ_cut {ts : List (List UInt8)} (h : checkI (lensI ts) = 0) {m : Nat} (hm : m < (recJ ts).length) : (getJ ((recJ ts).take m)).2 = 5 := by
  by_cases hz : (getJ ((recJ ts).take m)).2 = 0
  · exfalso
    obtain ⟨g1, g2⟩ := getJ_zero hz
    generalize (getJ ((recJ ts).take m)).1 = us at g1 g2
    have e2 : putJ us = recJ us := by unfold putJ; rw [if_pos g1]
    rw [e2] at g2
    obtain ⟨h1, h2, h3⟩ := check_ok h
    obtain ⟨u1, u2, u3⟩ := check_ok g1
    have a1 := getC_rec (ts := ts) (by omega) (fun t ht => by have := (h3 t ht).2; omega) []
    have a2 := getC_rec (ts := us) (by omega) (fun t ht => by have := (u3 t ht).2; omega) ((recJ ts).drop m)
    rw [g2, List.take_append_drop] at a2
    rw [List.append_nil, a2] at a1
    injection a1 with _ a1
    injection a1 with a1
    have := congrArg List.length a1
    rw [List.length_drop] at this
    simp at this
    omega
  · unfold getJ at hz ⊢
    split
    · rename_i hc; rw [if_pos hc] at hz; exact absurd rfl hz
    · rfl
theorem getJ_code (bs : List UInt8) : (getJ bs).2 = 0 ∨ (getJ bs).2 = 5 := by
  unfold getJ
  split
  · exact .inl rfl
  · exact .inr rfl

theorem JournalGets_spec {A : AH} {v w : Value} {bs : List UInt8} {l : List Int} {Q : Value → AH → Prop} (hv : Byt A v bs) (_ : bs.length < 2 ^ 50) (hw : Sl A 1 w l.length (ints .i64 l)) (_ : l.length < 2 ^ 50) (hb : ∀ n ∈ l, -9223372036854775808 ≤ n ∧ n < 9223372036854775808)
    (hq : ∀ A', Q (.bool true) A') : ACalls 0 Try.prog chantrylaw32_JournalGets [v, w] Q A := by
  refine ACalls.of_fits mixed fits_chantrylaw32_JournalGets rfl ?_
  unfold ic_chantrylaw32_JournalGets
  have i0 : initA [v, w] 0 = v := rfl
  have i1 : initA [v, w] 1 = w := rfl
  generalize initA [v, w] = a at i0 i1
  by_cases h1 : bs.length ≤ 2000
  · by_cases h2 : l.length ≤ 50
    · simp (maxSteps := 1000000) (disch := omega) only [W_seq, W_ops, W_draw, W_block, W_skip, W_exit, W_ret, sq_normal, sq_ret, sq_exit, W_condv, condW_true, condW_false, thenA_normal, thenA_ret, thenA_exit, if_true, if_false, Bool.false_eq_true, decide_eq_true_eq, inBlockA_normal, inBlockA_ret, inBlockA_same, inBlockA_other, noGotoA_normal, noGotoA_ret, noGotoA_exit, Wops_nil, Wops_cons, Wops_le, Wops_guard, Wops_guardle, ok1_some, okV_some, kont_at, kontL_at, gdB_true, gdB_false, decide_true, decide_false, ev_tmp, ev_const, ev_func, ev_global, put_some, put_none, upd_same, upd_at, gd_bt, gd_bf, Bool.not_true, Bool.not_false, pick_true, pick_false, pick_b, not_b, W1_mov, W1_pick, W1_new, W1_box, W1_build, W1_lit, W1_load1, W1_loadn, W1_store, W1_nilc, W1_bin, W1_un, W1_conv, W1_b2s, W1_s2b, W1_field1, W1_fieldn, W1_faddr, W1_iaddr, W1_iarr, W1_idxs, W1_idxa1, W1_idxan, W1_sls, W1_sll, W1_sla, W1_mk, W1_ext, W1_fn, W1_ifc, W1_lens, W1_lenc, W1_app, W1_apps, W1_copy, W1_mn, W1_mx, W1_isnil, W1_strc, W1_beq, W1_mks, W1_capn, W1_appz, W1_eqagg, W1_call, W1_calld, callD_func, List.nil_append, List.append_nil, List.map_cons, List.map_nil, Option.map_some, Option.map_none, reduceIte, Option.some.injEq, exists_eq_left', Nat.reduceBEq, iv_ii, postA_ret, postA_normal, resVs_nil, resVs_tmp, resVs_one, resVs_many, Option.bind_some, tupleOf, Int.toNat_natCast, true_and, and_true, Nat.reduceEqDiff, RdOk_nil, RdOk_refl, rd_load1, rd_loadn, rd_b2s, rd_sll, rd_sla, rd_call, rd_calld, rd_new, rd_box, rd_lit, rd_store, rd_s2b, rd_mk, rd_app, rd_apps, rd_appz, rd_mks, rd_copy, blk_ptr, blk_sl, blk_nil, List.cons_append, addI, subI, mulI, quoI, remI, shrI, eqlI, neqI, eqS, neS, beqB, bneB, lenS, lenV, pickB, ext0, ext1, ext2, ext30, ext31, binA_lss, binA_leq, binA_gtr, binA_geq, convI, decide_eq_true, decide_eq_false, gd_undef, W_scope, mnI, mxI, inBlockA_ne, dec_refl, dec_nrefl, beq_self_eq_true, ite_true, ite_false, i0, i1, hv.len, hw.len]
      refine journal_Get_spec hv (by omega) fun A1 u1 k1 b1 => ?_
      simp (maxSteps := 1000000) (disch := omega) only [W_seq, W_ops, W_draw, W_block, W_skip, W_exit, W_ret, sq_normal, sq_ret, sq_exit, W_condv, condW_true, condW_false, thenA_normal, thenA_ret, thenA_exit, if_true, if_false, Bool.false_eq_true, decide_eq_true_eq, inBlockA_normal, inBlockA_ret, inBlockA_same, inBlockA_other, noGotoA_normal, noGotoA_ret, noGotoA_exit, Wops_nil, Wops_cons, Wops_le, Wops_guard, Wops_guardle, ok1_some, okV_some, kont_at, kontL_at, gdB_true, gdB_false, decide_true, decide_false, ev_tmp, ev_const, ev_func, ev_global, put_some, put_none, upd_same, upd_at, gd_bt, gd_bf, Bool.not_true, Bool.not_false, pick_true, pick_false, pick_b, not_b, W1_mov, W1_pick, W1_new, W1_box, W1_build, W1_lit, W1_load1, W1_loadn, W1_store, W1_nilc, W1_bin, W1_un, W1_conv, W1_b2s, W1_s2b, W1_field1, W1_fieldn, W1_faddr, W1_iaddr, W1_iarr, W1_idxs, W1_idxa1, W1_idxan, W1_sls, W1_sll, W1_sla, W1_mk, W1_ext, W1_fn, W1_ifc, W1_lens, W1_lenc, W1_app, W1_apps, W1_copy, W1_mn, W1_mx, W1_isnil, W1_strc, W1_beq, W1_mks, W1_capn, W1_appz, W1_eqagg, W1_call, W1_calld, callD_func, List.nil_append, List.append_nil, List.map_cons, List.map_nil, Option.map_some, Option.map_none, reduceIte, Option.some.injEq, exists_eq_left', Nat.reduceBEq, iv_ii, postA_ret, postA_normal, resVs_nil, resVs_tmp, resVs_one, resVs_many, Option.bind_some, tupleOf, Int.toNat_natCast, true_and, and_true, Nat.reduceEqDiff, RdOk_nil, RdOk_refl, rd_load1, rd_loadn, rd_b2s, rd_sll, rd_sla, rd_call, rd_calld, rd_new, rd_box, rd_lit, rd_store, rd_s2b, rd_mk, rd_app, rd_apps, rd_appz, rd_mks, rd_copy, blk_ptr, blk_sl, blk_nil, List.cons_append, addI, subI, mulI, quoI, remI, shrI, eqlI, neqI, eqS, neS, beqB, bneB, lenS, lenV, pickB, ext0, ext1, ext2, ext30, ext31, binA_lss, binA_leq, binA_gtr, binA_geq, convI, decide_eq_true, decide_eq_false, gd_undef, W_scope, mnI, mxI, inBlockA_ne, dec_refl, dec_nrefl, beq_self_eq_true, ite_true, ite_false, i0, i1, ext0, ext1]
      refine ref32_Get_spec (hv.le k1) (by omega) fun A2 u2 k2 b2 => ?_
      have hlen : (getJ bs).1.length ≤ 2 ^ 40 := by
        unfold getJ
        split
        · have h1 := textsC_len (numC (some bs)).2 (numC (some bs)).1
          have h2 := numC_left bs
          unfold getC
          simp only
          omega
        · simp
      simp (maxSteps := 1000000) (disch := omega) only [W_seq, W_ops, W_draw, W_block, W_skip, W_exit, W_ret, sq_normal, sq_ret, sq_exit, W_condv, condW_true, condW_false, thenA_normal, thenA_ret, thenA_exit, if_true, if_false, Bool.false_eq_true, decide_eq_true_eq, inBlockA_normal, inBlockA_ret, inBlockA_same, inBlockA_other, noGotoA_normal, noGotoA_ret, noGotoA_exit, Wops_nil, Wops_cons, Wops_le, Wops_guard, Wops_guardle, ok1_some, okV_some, kont_at, kontL_at, gdB_true, gdB_false, decide_true, decide_false, ev_tmp, ev_const, ev_func, ev_global, put_some, put_none, upd_same, upd_at, gd_bt, gd_bf, Bool.not_true, Bool.not_false, pick_true, pick_false, pick_b, not_b, W1_mov, W1_pick, W1_new, W1_box, W1_build, W1_lit, W1_load1, W1_loadn, W1_store, W1_nilc, W1_bin, W1_un, W1_conv, W1_b2s, W1_s2b, W1_field1, W1_fieldn, W1_faddr, W1_iaddr, W1_iarr, W1_idxs, W1_idxa1, W1_idxan, W1_sls, W1_sll, W1_sla, W1_mk, W1_ext, W1_fn, W1_ifc, W1_lens, W1_lenc, W1_app, W1_apps, W1_copy, W1_mn, W1_mx, W1_isnil, W1_strc, W1_beq, W1_mks, W1_capn, W1_appz, W1_eqagg, W1_call, W1_calld, callD_func, List.nil_append, List.append_nil, List.map_cons, List.map_nil, Option.map_some, Option.map_none, reduceIte, Option.some.injEq, exists_eq_left', Nat.reduceBEq, iv_ii, postA_ret, postA_normal, resVs_nil, resVs_tmp, resVs_one, resVs_many, Option.bind_some, tupleOf, Int.toNat_natCast, true_and, and_true, Nat.reduceEqDiff, RdOk_nil, RdOk_refl, rd_load1, rd_loadn, rd_b2s, rd_sll, rd_sla, rd_call, rd_calld, rd_new, rd_box, rd_lit, rd_store, rd_s2b, rd_mk, rd_app, rd_apps, rd_appz, rd_mks, rd_copy, blk_ptr, blk_sl, blk_nil, List.cons_append, addI, subI, mulI, quoI, remI, shrI, eqlI, neqI, eqS, neS, beqB, bneB, lenS, lenV, pickB, ext0, ext1, ext2, ext30, ext31, binA_lss, binA_leq, binA_gtr, binA_geq, convI, decide_eq_true, decide_eq_false, gd_undef, W_scope, mnI, mxI, inBlockA_ne, dec_refl, dec_nrefl, beq_self_eq_true, ite_true, ite_false, i0, i1, ext0, ext1]
      refine journal_Put_spec (b1.le k2) hlen fun A3 u3 k3 o3 => ?_
      have b13 := (b1.le k2).le k3
      have b23 := b2.le k3
      simp (maxSteps := 1000000) (disch := omega) only [W_seq, W_ops, W_draw, W_block, W_skip, W_exit, W_ret, sq_normal, sq_ret, sq_exit, W_condv, condW_true, condW_false, thenA_normal, thenA_ret, thenA_exit, if_true, if_false, Bool.false_eq_true, decide_eq_true_eq, inBlockA_normal, inBlockA_ret, inBlockA_same, inBlockA_other, noGotoA_normal, noGotoA_ret, noGotoA_exit, Wops_nil, Wops_cons, Wops_le, Wops_guard, Wops_guardle, ok1_some, okV_some, kont_at, kontL_at, gdB_true, gdB_false, decide_true, decide_false, ev_tmp, ev_const, ev_func, ev_global, put_some, put_none, upd_same, upd_at, gd_bt, gd_bf, Bool.not_true, Bool.not_false, pick_true, pick_false, pick_b, not_b, W1_mov, W1_pick, W1_new, W1_box, W1_build, W1_lit, W1_load1, W1_loadn, W1_store, W1_nilc, W1_bin, W1_un, W1_conv, W1_b2s, W1_s2b, W1_field1, W1_fieldn, W1_faddr, W1_iaddr, W1_iarr, W1_idxs, W1_idxa1, W1_idxan, W1_sls, W1_sll, W1_sla, W1_mk, W1_ext, W1_fn, W1_ifc, W1_lens, W1_lenc, W1_app, W1_apps, W1_copy, W1_mn, W1_mx, W1_isnil, W1_strc, W1_beq, W1_mks, W1_capn, W1_appz, W1_eqagg, W1_call, W1_calld, callD_func, List.nil_append, List.append_nil, List.map_cons, List.map_nil, Option.map_some, Option.map_none, reduceIte, Option.some.injEq, exists_eq_left', Nat.reduceBEq, iv_ii, postA_ret, postA_normal, resVs_nil, resVs_tmp, resVs_one, resVs_many, Option.bind_some, tupleOf, Int.toNat_natCast, true_and, and_true, Nat.reduceEqDiff, RdOk_nil, RdOk_refl, rd_load1, rd_loadn, rd_b2s, rd_sll, rd_sla, rd_call, rd_calld, rd_new, rd_box, rd_lit, rd_store, rd_s2b, rd_mk, rd_app, rd_apps, rd_appz, rd_mks, rd_copy, blk_ptr, blk_sl, blk_nil, List.cons_append, addI, subI, mulI, quoI, remI, shrI, eqlI, neqI, eqS, neS, beqB, bneB, lenS, lenV, pickB, ext0, ext1, ext2, ext30, ext31, binA_lss, binA_leq, binA_gtr, binA_geq, convI, decide_eq_true, decide_eq_false, gd_undef, W_scope, mnI, mxI, inBlockA_ne, dec_refl, dec_nrefl, beq_self_eq_true, ite_true, ite_false, i0, i1, ext0, ext1]
      refine ref01_Bytes_spec b13 b23 (by omega) (by omega) ?_
      have hk3 := (k1.trans k2).trans k3
      have sz : ∀ {K : Value → AH → Prop}, (∀ A', Le A3 A' → K (ii (sizeI l)) A') → ACalls 0 Try.prog journal_Size [w] K A3 := fun hK => jSize_spec (hw.le hk3) (by omega) hb hK
      rcases getJ_code bs with hc | hc
      · obtain ⟨z1, z2⟩ := getJ_zero hc
        rw [z1, hc]
        rw [z2] at o3
        simp (maxSteps := 1000000) (disch := omega) only [W_seq, W_ops, W_draw, W_block, W_skip, W_exit, W_ret, sq_normal, sq_ret, sq_exit, W_condv, condW_true, condW_false, thenA_normal, thenA_ret, thenA_exit, if_true, if_false, Bool.false_eq_true, decide_eq_true_eq, inBlockA_normal, inBlockA_ret, inBlockA_same, inBlockA_other, noGotoA_normal, noGotoA_ret, noGotoA_exit, Wops_nil, Wops_cons, Wops_le, Wops_guard, Wops_guardle, ok1_some, okV_some, kont_at, kontL_at, gdB_true, gdB_false, decide_true, decide_false, ev_tmp, ev_const, ev_func, ev_global, put_some, put_none, upd_same, upd_at, gd_bt, gd_bf, Bool.not_true, Bool.not_false, pick_true, pick_false, pick_b, not_b, W1_mov, W1_pick, W1_new, W1_box, W1_build, W1_lit, W1_load1, W1_loadn, W1_store, W1_nilc, W1_bin, W1_un, W1_conv, W1_b2s, W1_s2b, W1_field1, W1_fieldn, W1_faddr, W1_iaddr, W1_iarr, W1_idxs, W1_idxa1, W1_idxan, W1_sls, W1_sll, W1_sla, W1_mk, W1_ext, W1_fn, W1_ifc, W1_lens, W1_lenc, W1_app, W1_apps, W1_copy, W1_mn, W1_mx, W1_isnil, W1_strc, W1_beq, W1_mks, W1_capn, W1_appz, W1_eqagg, W1_call, W1_calld, callD_func, List.nil_append, List.append_nil, List.map_cons, List.map_nil, Option.map_some, Option.map_none, reduceIte, Option.some.injEq, exists_eq_left', Nat.reduceBEq, iv_ii, postA_ret, postA_normal, resVs_nil, resVs_tmp, resVs_one, resVs_many, Option.bind_some, tupleOf, Int.toNat_natCast, true_and, and_true, Nat.reduceEqDiff, RdOk_nil, RdOk_refl, rd_load1, rd_loadn, rd_b2s, rd_sll, rd_sla, rd_call, rd_calld, rd_new, rd_box, rd_lit, rd_store, rd_s2b, rd_mk, rd_app, rd_apps, rd_appz, rd_mks, rd_copy, blk_ptr, blk_sl, blk_nil, List.cons_append, addI, subI, mulI, quoI, remI, shrI, eqlI, neqI, eqS, neS, beqB, bneB, lenS, lenV, pickB, ext0, ext1, ext2, ext30, ext31, binA_lss, binA_leq, binA_gtr, binA_geq, convI, decide_eq_true, decide_eq_false, gd_undef, W_scope, mnI, mxI, inBlockA_ne, dec_refl, dec_nrefl, beq_self_eq_true, ite_true, ite_false, i0, i1, o3.byt.str, (hv.le hk3).str]
        refine sz fun A4 k4 => ?_
        simp (maxSteps := 1000000) (disch := omega) only [W_seq, W_ops, W_draw, W_block, W_skip, W_exit, W_ret, sq_normal, sq_ret, sq_exit, W_condv, condW_true, condW_false, thenA_normal, thenA_ret, thenA_exit, if_true, if_false, Bool.false_eq_true, decide_eq_true_eq, inBlockA_normal, inBlockA_ret, inBlockA_same, inBlockA_other, noGotoA_normal, noGotoA_ret, noGotoA_exit, Wops_nil, Wops_cons, Wops_le, Wops_guard, Wops_guardle, ok1_some, okV_some, kont_at, kontL_at, gdB_true, gdB_false, decide_true, decide_false, ev_tmp, ev_const, ev_func, ev_global, put_some, put_none, upd_same, upd_at, gd_bt, gd_bf, Bool.not_true, Bool.not_false, pick_true, pick_false, pick_b, not_b, W1_mov, W1_pick, W1_new, W1_box, W1_build, W1_lit, W1_load1, W1_loadn, W1_store, W1_nilc, W1_bin, W1_un, W1_conv, W1_b2s, W1_s2b, W1_field1, W1_fieldn, W1_faddr, W1_iaddr, W1_iarr, W1_idxs, W1_idxa1, W1_idxan, W1_sls, W1_sll, W1_sla, W1_mk, W1_ext, W1_fn, W1_ifc, W1_lens, W1_lenc, W1_app, W1_apps, W1_copy, W1_mn, W1_mx, W1_isnil, W1_strc, W1_beq, W1_mks, W1_capn, W1_appz, W1_eqagg, W1_call, W1_calld, callD_func, List.nil_append, List.append_nil, List.map_cons, List.map_nil, Option.map_some, Option.map_none, reduceIte, Option.some.injEq, exists_eq_left', Nat.reduceBEq, iv_ii, postA_ret, postA_normal, resVs_nil, resVs_tmp, resVs_one, resVs_many, Option.bind_some, tupleOf, Int.toNat_natCast, true_and, and_true, Nat.reduceEqDiff, RdOk_nil, RdOk_refl, rd_load1, rd_loadn, rd_b2s, rd_sll, rd_sla, rd_call, rd_calld, rd_new, rd_box, rd_lit, rd_store, rd_s2b, rd_mk, rd_app, rd_apps, rd_appz, rd_mks, rd_copy, blk_ptr, blk_sl, blk_nil, List.cons_append, addI, subI, mulI, quoI, remI, shrI, eqlI, neqI, eqS, neS, beqB, bneB, lenS, lenV, pickB, ext0, ext1, ext2, ext30, ext31, binA_lss, binA_leq, binA_gtr, binA_geq, convI, decide_eq_true, decide_eq_false, gd_undef, W_scope, mnI, mxI, inBlockA_ne, dec_refl, dec_nrefl, beq_self_eq_true, ite_true, ite_false, i0, i1]
        refine ref32_Size_spec ((hw.le hk3).le k4) (by omega) hb ?_
        simp (maxSteps := 1000000) (disch := omega) only [W_seq, W_ops, W_draw, W_block, W_skip, W_exit, W_ret, sq_normal, sq_ret, sq_exit, W_condv, condW_true, condW_false, thenA_normal, thenA_ret, thenA_exit, if_true, if_false, Bool.false_eq_true, decide_eq_true_eq, inBlockA_normal, inBlockA_ret, inBlockA_same, inBlockA_other, noGotoA_normal, noGotoA_ret, noGotoA_exit, Wops_nil, Wops_cons, Wops_le, Wops_guard, Wops_guardle, ok1_some, okV_some, kont_at, kontL_at, gdB_true, gdB_false, decide_true, decide_false, ev_tmp, ev_const, ev_func, ev_global, put_some, put_none, upd_same, upd_at, gd_bt, gd_bf, Bool.not_true, Bool.not_false, pick_true, pick_false, pick_b, not_b, W1_mov, W1_pick, W1_new, W1_box, W1_build, W1_lit, W1_load1, W1_loadn, W1_store, W1_nilc, W1_bin, W1_un, W1_conv, W1_b2s, W1_s2b, W1_field1, W1_fieldn, W1_faddr, W1_iaddr, W1_iarr, W1_idxs, W1_idxa1, W1_idxan, W1_sls, W1_sll, W1_sla, W1_mk, W1_ext, W1_fn, W1_ifc, W1_lens, W1_lenc, W1_app, W1_apps, W1_copy, W1_mn, W1_mx, W1_isnil, W1_strc, W1_beq, W1_mks, W1_capn, W1_appz, W1_eqagg, W1_call, W1_calld, callD_func, List.nil_append, List.append_nil, List.map_cons, List.map_nil, Option.map_some, Option.map_none, reduceIte, Option.some.injEq, exists_eq_left', Nat.reduceBEq, iv_ii, postA_ret, postA_normal, resVs_nil, resVs_tmp, resVs_one, resVs_many, Option.bind_some, tupleOf, Int.toNat_natCast, true_and, and_true, Nat.reduceEqDiff, RdOk_nil, RdOk_refl, rd_load1, rd_loadn, rd_b2s, rd_sll, rd_sla, rd_call, rd_calld, rd_new, rd_box, rd_lit, rd_store, rd_s2b, rd_mk, rd_app, rd_apps, rd_appz, rd_mks, rd_copy, blk_ptr, blk_sl, blk_nil, List.cons_append, addI, subI, mulI, quoI, remI, shrI, eqlI, neqI, eqS, neS, beqB, bneB, lenS, lenV, pickB, ext0, ext1, ext2, ext30, ext31, binA_lss, binA_leq, binA_gtr, binA_geq, convI, decide_eq_true, decide_eq_false, gd_undef, W_scope, mnI, mxI, inBlockA_ne, dec_refl, dec_nrefl, beq_self_eq_true, ite_true, ite_false, i0, i1]
        refine wake ?_
        simp (maxSteps := 1000000) (disch := omega) only [W_seq, W_ops, W_draw, W_block, W_skip, W_exit, W_ret, sq_normal, sq_ret, sq_exit, W_condv, condW_true, condW_false, thenA_normal, thenA_ret, thenA_exit, if_true, if_false, Bool.false_eq_true, decide_eq_true_eq, inBlockA_normal, inBlockA_ret, inBlockA_same, inBlockA_other, noGotoA_normal, noGotoA_ret, noGotoA_exit, Wops_nil, Wops_cons, Wops_le, Wops_guard, Wops_guardle, ok1_some, okV_some, kont_at, kontL_at, gdB_true, gdB_false, decide_true, decide_false, ev_tmp, ev_const, ev_func, ev_global, put_some, put_none, upd_same, upd_at, gd_bt, gd_bf, Bool.not_true, Bool.not_false, pick_true, pick_false, pick_b, not_b, W1_mov, W1_pick, W1_new, W1_box, W1_build, W1_lit, W1_load1, W1_loadn, W1_store, W1_nilc, W1_bin, W1_un, W1_conv, W1_b2s, W1_s2b, W1_field1, W1_fieldn, W1_faddr, W1_iaddr, W1_iarr, W1_idxs, W1_idxa1, W1_idxan, W1_sls, W1_sll, W1_sla, W1_mk, W1_ext, W1_fn, W1_ifc, W1_lens, W1_lenc, W1_app, W1_apps, W1_copy, W1_mn, W1_mx, W1_isnil, W1_strc, W1_beq, W1_mks, W1_capn, W1_appz, W1_eqagg, W1_call, W1_calld, callD_func, List.nil_append, List.append_nil, List.map_cons, List.map_nil, Option.map_some, Option.map_none, reduceIte, Option.some.injEq, exists_eq_left', Nat.reduceBEq, iv_ii, postA_ret, postA_normal, resVs_nil, resVs_tmp, resVs_one, resVs_many, Option.bind_some, tupleOf, Int.toNat_natCast, true_and, and_true, Nat.reduceEqDiff, RdOk_nil, RdOk_refl, rd_load1, rd_loadn, rd_b2s, rd_sll, rd_sla, rd_call, rd_calld, rd_new, rd_box, rd_lit, rd_store, rd_s2b, rd_mk, rd_app, rd_apps, rd_appz, rd_mks, rd_copy, blk_ptr, blk_sl, blk_nil, List.cons_append, addI, subI, mulI, quoI, remI, shrI, eqlI, neqI, eqS, neS, beqB, bneB, lenS, lenV, pickB, ext0, ext1, ext2, ext30, ext31, binA_lss, binA_leq, binA_gtr, binA_geq, convI, decide_eq_true, decide_eq_false, gd_undef, W_scope, mnI, mxI, inBlockA_ne, dec_refl, dec_nrefl, beq_self_eq_true, ite_true, ite_false]
        exact hq _
      · rw [hc]
        simp (maxSteps := 1000000) (disch := omega) only [W_seq, W_ops, W_draw, W_block, W_skip, W_exit, W_ret, sq_normal, sq_ret, sq_exit, W_condv, condW_true, condW_false, thenA_normal, thenA_ret, thenA_exit, if_true, if_false, Bool.false_eq_true, decide_eq_true_eq, inBlockA_normal, inBlockA_ret, inBlockA_same, inBlockA_other, noGotoA_normal, noGotoA_ret, noGotoA_exit, Wops_nil, Wops_cons, Wops_le, Wops_guard, Wops_guardle, ok1_some, okV_some, kont_at, kontL_at, gdB_true, gdB_false, decide_true, decide_false, ev_tmp, ev_const, ev_func, ev_global, put_some, put_none, upd_same, upd_at, gd_bt, gd_bf, Bool.not_true, Bool.not_false, pick_true, pick_false, pick_b, not_b, W1_mov, W1_pick, W1_new, W1_box, W1_build, W1_lit, W1_load1, W1_loadn, W1_store, W1_nilc, W1_bin, W1_un, W1_conv, W1_b2s, W1_s2b, W1_field1, W1_fieldn, W1_faddr, W1_iaddr, W1_iarr, W1_idxs, W1_idxa1, W1_idxan, W1_sls, W1_sll, W1_sla, W1_mk, W1_ext, W1_fn, W1_ifc, W1_lens, W1_lenc, W1_app, W1_apps, W1_copy, W1_mn, W1_mx, W1_isnil, W1_strc, W1_beq, W1_mks, W1_capn, W1_appz, W1_eqagg, W1_call, W1_calld, callD_func, List.nil_append, List.append_nil, List.map_cons, List.map_nil, Option.map_some, Option.map_none, reduceIte, Option.some.injEq, exists_eq_left', Nat.reduceBEq, iv_ii, postA_ret, postA_normal, resVs_nil, resVs_tmp, resVs_one, resVs_many, Option.bind_some, tupleOf, Int.toNat_natCast, true_and, and_true, Nat.reduceEqDiff, RdOk_nil, RdOk_refl, rd_load1, rd_loadn, rd_b2s, rd_sll, rd_sla, rd_call, rd_calld, rd_new, rd_box, rd_lit, rd_store, rd_s2b, rd_mk, rd_app, rd_apps, rd_appz, rd_mks, rd_copy, blk_ptr, blk_sl, blk_nil, List.cons_append, addI, subI, mulI, quoI, remI, shrI, eqlI, neqI, eqS, neS, beqB, bneB, lenS, lenV, pickB, ext0, ext1, ext2, ext30, ext31, binA_lss, binA_leq, binA_gtr, binA_geq, convI, decide_eq_true, decide_eq_false, gd_undef, W_scope, mnI, mxI, inBlockA_ne, dec_refl, dec_nrefl, beq_self_eq_true, ite_true, ite_false, i0, i1]
        refine sz fun A4 k4 => ?_
        simp (maxSteps := 1000000) (disch := omega) only [W_seq, W_ops, W_draw, W_block, W_skip, W_exit, W_ret, sq_normal, sq_ret, sq_exit, W_condv, condW_true, condW_false, thenA_normal, thenA_ret, thenA_exit, if_true, if_false, Bool.false_eq_true, decide_eq_true_eq, inBlockA_normal, inBlockA_ret, inBlockA_same, inBlockA_other, noGotoA_normal, noGotoA_ret, noGotoA_exit, Wops_nil, Wops_cons, Wops_le, Wops_guard, Wops_guardle, ok1_some, okV_some, kont_at, kontL_at, gdB_true, gdB_false, decide_true, decide_false, ev_tmp, ev_const, ev_func, ev_global, put_some, put_none, upd_same, upd_at, gd_bt, gd_bf, Bool.not_true, Bool.not_false, pick_true, pick_false, pick_b, not_b, W1_mov, W1_pick, W1_new, W1_box, W1_build, W1_lit, W1_load1, W1_loadn, W1_store, W1_nilc, W1_bin, W1_un, W1_conv, W1_b2s, W1_s2b, W1_field1, W1_fieldn, W1_faddr, W1_iaddr, W1_iarr, W1_idxs, W1_idxa1, W1_idxan, W1_sls, W1_sll, W1_sla, W1_mk, W1_ext, W1_fn, W1_ifc, W1_lens, W1_lenc, W1_app, W1_apps, W1_copy, W1_mn, W1_mx, W1_isnil, W1_strc, W1_beq, W1_mks, W1_capn, W1_appz, W1_eqagg, W1_call, W1_calld, callD_func, List.nil_append, List.append_nil, List.map_cons, List.map_nil, Option.map_some, Option.map_none, reduceIte, Option.some.injEq, exists_eq_left', Nat.reduceBEq, iv_ii, postA_ret, postA_normal, resVs_nil, resVs_tmp, resVs_one, resVs_many, Option.bind_some, tupleOf, Int.toNat_natCast, true_and, and_true, Nat.reduceEqDiff, RdOk_nil, RdOk_refl, rd_load1, rd_loadn, rd_b2s, rd_sll, rd_sla, rd_call, rd_calld, rd_new, rd_box, rd_lit, rd_store, rd_s2b, rd_mk, rd_app, rd_apps, rd_appz, rd_mks, rd_copy, blk_ptr, blk_sl, blk_nil, List.cons_append, addI, subI, mulI, quoI, remI, shrI, eqlI, neqI, eqS, neS, beqB, bneB, lenS, lenV, pickB, ext0, ext1, ext2, ext30, ext31, binA_lss, binA_leq, binA_gtr, binA_geq, convI, decide_eq_true, decide_eq_false, gd_undef, W_scope, mnI, mxI, inBlockA_ne, dec_refl, dec_nrefl, beq_self_eq_true, ite_true, ite_false, i0, i1]
        refine ref32_Size_spec ((hw.le hk3).le k4) (by omega) hb ?_
        simp (maxSteps := 1000000) (disch := omega) only [W_seq, W_ops, W_draw, W_block, W_skip, W_exit, W_ret, sq_normal, sq_ret, sq_exit, W_condv, condW_true, condW_false, thenA_normal, thenA_ret, thenA_exit, if_true, if_false, Bool.false_eq_true, decide_eq_true_eq, inBlockA_normal, inBlockA_ret, inBlockA_same, inBlockA_other, noGotoA_normal, noGotoA_ret, noGotoA_exit, Wops_nil, Wops_cons, Wops_le, Wops_guard, Wops_guardle, ok1_some, okV_some, kont_at, kontL_at, gdB_true, gdB_false, decide_true, decide_false, ev_tmp, ev_const, ev_func, ev_global, put_some, put_none, upd_same, upd_at, gd_bt, gd_bf, Bool.not_true, Bool.not_false, pick_true, pick_false, pick_b, not_b, W1_mov, W1_pick, W1_new, W1_box, W1_build, W1_lit, W1_load1, W1_loadn, W1_store, W1_nilc, W1_bin, W1_un, W1_conv, W1_b2s, W1_s2b, W1_field1, W1_fieldn, W1_faddr, W1_iaddr, W1_iarr, W1_idxs, W1_idxa1, W1_idxan, W1_sls, W1_sll, W1_sla, W1_mk, W1_ext, W1_fn, W1_ifc, W1_lens, W1_lenc, W1_app, W1_apps, W1_copy, W1_mn, W1_mx, W1_isnil, W1_strc, W1_beq, W1_mks, W1_capn, W1_appz, W1_eqagg, W1_call, W1_calld, callD_func, List.nil_append, List.append_nil, List.map_cons, List.map_nil, Option.map_some, Option.map_none, reduceIte, Option.some.injEq, exists_eq_left', Nat.reduceBEq, iv_ii, postA_ret, postA_normal, resVs_nil, resVs_tmp, resVs_one, resVs_many, Option.bind_some, tupleOf, Int.toNat_natCast, true_and, and_true, Nat.reduceEqDiff, RdOk_nil, RdOk_refl, rd_load1, rd_loadn, rd_b2s, rd_sll, rd_sla, rd_call, rd_calld, rd_new, rd_box, rd_lit, rd_store, rd_s2b, rd_mk, rd_app, rd_apps, rd_appz, rd_mks, rd_copy, blk_ptr, blk_sl, blk_nil, List.cons_append, addI, subI, mulI, quoI, remI, shrI, eqlI, neqI, eqS, neS, beqB, bneB, lenS, lenV, pickB, ext0, ext1, ext2, ext30, ext31, binA_lss, binA_leq, binA_gtr, binA_geq, convI, decide_eq_true, decide_eq_false, gd_undef, W_scope, mnI, mxI, inBlockA_ne, dec_refl, dec_nrefl, beq_self_eq_true, ite_true, ite_false, i0, i1]
        refine wake ?_
        simp (maxSteps := 1000000) (disch := omega) only [W_seq, W_ops, W_draw, W_block, W_skip, W_exit, W_ret, sq_normal, sq_ret, sq_exit, W_condv, condW_true, condW_false, thenA_normal, thenA_ret, thenA_exit, if_true, if_false, Bool.false_eq_true, decide_eq_true_eq, inBlockA_normal, inBlockA_ret, inBlockA_same, inBlockA_other, noGotoA_normal, noGotoA_ret, noGotoA_exit, Wops_nil, Wops_cons, Wops_le, Wops_guard, Wops_guardle, ok1_some, okV_some, kont_at, kontL_at, gdB_true, gdB_false, decide_true, decide_false, ev_tmp, ev_const, ev_func, ev_global, put_some, put_none, upd_same, upd_at, gd_bt, gd_bf, Bool.not_true, Bool.not_false, pick_true, pick_false, pick_b, not_b, W1_mov, W1_pick, W1_new, W1_box, W1_build, W1_lit, W1_load1, W1_loadn, W1_store, W1_nilc, W1_bin, W1_un, W1_conv, W1_b2s, W1_s2b, W1_field1, W1_fieldn, W1_faddr, W1_iaddr, W1_iarr, W1_idxs, W1_idxa1, W1_idxan, W1_sls, W1_sll, W1_sla, W1_mk, W1_ext, W1_fn, W1_ifc, W1_lens, W1_lenc, W1_app, W1_apps, W1_copy, W1_mn, W1_mx, W1_isnil, W1_strc, W1_beq, W1_mks, W1_capn, W1_appz, W1_eqagg, W1_call, W1_calld, callD_func, List.nil_append, List.append_nil, List.map_cons, List.map_nil, Option.map_some, Option.map_none, reduceIte, Option.some.injEq, exists_eq_left', Nat.reduceBEq, iv_ii, postA_ret, postA_normal, resVs_nil, resVs_tmp, resVs_one, resVs_many, Option.bind_some, tupleOf, Int.toNat_natCast, true_and, and_true, Nat.reduceEqDiff, RdOk_nil, RdOk_refl, rd_load1, rd_loadn, rd_b2s, rd_sll, rd_sla, rd_call, rd_calld, rd_new, rd_box, rd_lit, rd_store, rd_s2b, rd_mk, rd_app, rd_apps, rd_appz, rd_mks, rd_copy, blk_ptr, blk_sl, blk_nil, List.cons_append, addI, subI, mulI, quoI, remI, shrI, eqlI, neqI, eqS, neS, beqB, bneB, lenS, lenV, pickB, ext0, ext1, ext2, ext30, ext31, binA_lss, binA_leq, binA_gtr, binA_geq, convI, decide_eq_true, decide_eq_false, gd_undef, W_scope, mnI, mxI, inBlockA_ne, dec_refl, dec_nrefl, beq_self_eq_true, ite_true, ite_false]
        exact hq _
    · simp (maxSteps := 1000000) (disch := omega) only [W_seq, W_ops, W_draw, W_block, W_skip, W_exit, W_ret, sq_normal, sq_ret, sq_exit, W_condv, condW_true, condW_false, thenA_normal, thenA_ret, thenA_exit, if_true, if_false, Bool.false_eq_true, decide_eq_true_eq, inBlockA_normal, inBlockA_ret, inBlockA_same, inBlockA_other, noGotoA_normal, noGotoA_ret, noGotoA_exit, Wops_nil, Wops_cons, Wops_le, Wops_guard, Wops_guardle, ok1_some, okV_some, kont_at, kontL_at, gdB_true, gdB_false, decide_true, decide_false, ev_tmp, ev_const, ev_func, ev_global, put_some, put_none, upd_same, upd_at, gd_bt, gd_bf, Bool.not_true, Bool.not_false, pick_true, pick_false, pick_b, not_b, W1_mov, W1_pick, W1_new, W1_box, W1_build, W1_lit, W1_load1, W1_loadn, W1_store, W1_nilc, W1_bin, W1_un, W1_conv, W1_b2s, W1_s2b, W1_field1, W1_fieldn, W1_faddr, W1_iaddr, W1_iarr, W1_idxs, W1_idxa1, W1_idxan, W1_sls, W1_sll, W1_sla, W1_mk, W1_ext, W1_fn, W1_ifc, W1_lens, W1_lenc, W1_app, W1_apps, W1_copy, W1_mn, W1_mx, W1_isnil, W1_strc, W1_beq, W1_mks, W1_capn, W1_appz, W1_eqagg, W1_call, W1_calld, callD_func, List.nil_append, List.append_nil, List.map_cons, List.map_nil, Option.map_some, Option.map_none, reduceIte, Option.some.injEq, exists_eq_left', Nat.reduceBEq, iv_ii, postA_ret, postA_normal, resVs_nil, resVs_tmp, resVs_one, resVs_many, Option.bind_some, tupleOf, Int.toNat_natCast, true_and, and_true, Nat.reduceEqDiff, RdOk_nil, RdOk_refl, rd_load1, rd_loadn, rd_b2s, rd_sll, rd_sla, rd_call, rd_calld, rd_new, rd_box, rd_lit, rd_store, rd_s2b, rd_mk, rd_app, rd_apps, rd_appz, rd_mks, rd_copy, blk_ptr, blk_sl, blk_nil, List.cons_append, addI, subI, mulI, quoI, remI, shrI, eqlI, neqI, eqS, neS, beqB, bneB, lenS, lenV, pickB, ext0, ext1, ext2, ext30, ext31, binA_lss, binA_leq, binA_gtr, binA_geq, convI, decide_eq_true, decide_eq_false, gd_undef, W_scope, mnI, mxI, inBlockA_ne, dec_refl, dec_nrefl, beq_self_eq_true, ite_true, ite_false, i0, i1, hv.len, hw.len]
      refine wake ?_
      simp (maxSteps := 1000000) (disch := omega) only [W_seq, W_ops, W_draw, W_block, W_skip, W_exit, W_ret, sq_normal, sq_ret, sq_exit, W_condv, condW_true, condW_false, thenA_normal, thenA_ret, thenA_exit, if_true, if_false, Bool.false_eq_true, decide_eq_true_eq, inBlockA_normal, inBlockA_ret, inBlockA_same, inBlockA_other, noGotoA_normal, noGotoA_ret, noGotoA_exit, Wops_nil, Wops_cons, Wops_le, Wops_guard, Wops_guardle, ok1_some, okV_some, kont_at, kontL_at, gdB_true, gdB_false, decide_true, decide_false, ev_tmp, ev_const, ev_func, ev_global, put_some, put_none, upd_same, upd_at, gd_bt, gd_bf, Bool.not_true, Bool.not_false, pick_true, pick_false, pick_b, not_b, W1_mov, W1_pick, W1_new, W1_box, W1_build, W1_lit, W1_load1, W1_loadn, W1_store, W1_nilc, W1_bin, W1_un, W1_conv, W1_b2s, W1_s2b, W1_field1, W1_fieldn, W1_faddr, W1_iaddr, W1_iarr, W1_idxs, W1_idxa1, W1_idxan, W1_sls, W1_sll, W1_sla, W1_mk, W1_ext, W1_fn, W1_ifc, W1_lens, W1_lenc, W1_app, W1_apps, W1_copy, W1_mn, W1_mx, W1_isnil, W1_strc, W1_beq, W1_mks, W1_capn, W1_appz, W1_eqagg, W1_call, W1_calld, callD_func, List.nil_append, List.append_nil, List.map_cons, List.map_nil, Option.map_some, Option.map_none, reduceIte, Option.some.injEq, exists_eq_left', Nat.reduceBEq, iv_ii, postA_ret, postA_normal, resVs_nil, resVs_tmp, resVs_one, resVs_many, Option.bind_some, tupleOf, Int.toNat_natCast, true_and, and_true, Nat.reduceEqDiff, RdOk_nil, RdOk_refl, rd_load1, rd_loadn, rd_b2s, rd_sll, rd_sla, rd_call, rd_calld, rd_new, rd_box, rd_lit, rd_store, rd_s2b, rd_mk, rd_app, rd_apps, rd_appz, rd_mks, rd_copy, blk_ptr, blk_sl, blk_nil, List.cons_append, addI, subI, mulI, quoI, remI, shrI, eqlI, neqI, eqS, neS, beqB, bneB, lenS, lenV, pickB, ext0, ext1, ext2, ext30, ext31, binA_lss, binA_leq, binA_gtr, binA_geq, convI, decide_eq_true, decide_eq_false, gd_undef, W_scope, mnI, mxI, inBlockA_ne, dec_refl, dec_nrefl, beq_self_eq_true, ite_true, ite_false]
      exact hq _
  · simp (maxSteps := 1000000) (disch := omega) only [W_seq, W_ops, W_draw, W_block, W_skip, W_exit, W_ret, sq_normal, sq_ret, sq_exit, W_condv, condW_true, condW_false, thenA_normal, thenA_ret, thenA_exit, if_true, if_false, Bool.false_eq_true, decide_eq_true_eq, inBlockA_normal, inBlockA_ret, inBlockA_same, inBlockA_other, noGotoA_normal, noGotoA_ret, noGotoA_exit, Wops_nil, Wops_cons, Wops_le, Wops_guard, Wops_guardle, ok1_some, okV_some, kont_at, kontL_at, gdB_true, gdB_false, decide_true, decide_false, ev_tmp, ev_const, ev_func, ev_global, put_some, put_none, upd_same, upd_at, gd_bt, gd_bf, Bool.not_true, Bool.not_false, pick_true, pick_false, pick_b, not_b, W1_mov, W1_pick, W1_new, W1_box, W1_build, W1_lit, W1_load1, W1_loadn, W1_store, W1_nilc, W1_bin, W1_un, W1_conv, W1_b2s, W1_s2b, W1_field1, W1_fieldn, W1_faddr, W1_iaddr, W1_iarr, W1_idxs, W1_idxa1, W1_idxan, W1_sls, W1_sll, W1_sla, W1_mk, W1_ext, W1_fn, W1_ifc, W1_lens, W1_lenc, W1_app, W1_apps, W1_copy, W1_mn, W1_mx, W1_isnil, W1_strc, W1_beq, W1_mks, W1_capn, W1_appz, W1_eqagg, W1_call, W1_calld, callD_func, List.nil_append, List.append_nil, List.map_cons, List.map_nil, Option.map_some, Option.map_none, reduceIte, Option.some.injEq, exists_eq_left', Nat.reduceBEq, iv_ii, postA_ret, postA_normal, resVs_nil, resVs_tmp, resVs_one, resVs_many, Option.bind_some, tupleOf, Int.toNat_natCast, true_and, and_true, Nat.reduceEqDiff, RdOk_nil, RdOk_refl, rd_load1, rd_loadn, rd_b2s, rd_sll, rd_sla, rd_call, rd_calld, rd_new, rd_box, rd_lit, rd_store, rd_s2b, rd_mk, rd_app, rd_apps, rd_appz, rd_mks, rd_copy, blk_ptr, blk_sl, blk_nil, List.cons_append, addI, subI, mulI, quoI, remI, shrI, eqlI, neqI, eqS, neS, beqB, bneB, lenS, lenV, pickB, ext0, ext1, ext2, ext30, ext31, binA_lss, binA_leq, binA_gtr, binA_geq, convI, decide_eq_true, decide_eq_false, gd_undef, W_scope, mnI, mxI, inBlockA_ne, dec_refl, dec_nrefl, beq_self_eq_true, ite_true, ite_false, i0, i1, hv.len, hw.len]
    refine wake ?_
    simp (maxSteps := 1000000) (disch := omega) only [W_seq, W_ops, W_draw, W_block, W_skip, W_exit, W_ret, sq_normal, sq_ret, sq_exit, W_condv, condW_true, condW_false, thenA_normal, thenA_ret, thenA_exit, if_true, if_false, Bool.false_eq_true, decide_eq_true_eq, inBlockA_normal, inBlockA_ret, inBlockA_same, inBlockA_other, noGotoA_normal, noGotoA_ret, noGotoA_exit, Wops_nil, Wops_cons, Wops_le, Wops_guard, Wops_guardle, ok1_some, okV_some, kont_at, kontL_at, gdB_true, gdB_false, decide_true, decide_false, ev_tmp, ev_const, ev_func, ev_global, put_some, put_none, upd_same, upd_at, gd_bt, gd_bf, Bool.not_true, Bool.not_false, pick_true, pick_false, pick_b, not_b, W1_mov, W1_pick, W1_new, W1_box, W1_build, W1_lit, W1_load1, W1_loadn, W1_store, W1_nilc, W1_bin, W1_un, W1_conv, W1_b2s, W1_s2b, W1_field1, W1_fieldn, W1_faddr, W1_iaddr, W1_iarr, W1_idxs, W1_idxa1, W1_idxan, W1_sls, W1_sll, W1_sla, W1_mk, W1_ext, W1_fn, W1_ifc, W1_lens, W1_lenc, W1_app, W1_apps, W1_copy, W1_mn, W1_mx, W1_isnil, W1_strc, W1_beq, W1_mks, W1_capn, W1_appz, W1_eqagg, W1_call, W1_calld, callD_func, List.nil_append, List.append_nil, List.map_cons, List.map_nil, Option.map_some, Option.map_none, reduceIte, Option.some.injEq, exists_eq_left', Nat.reduceBEq, iv_ii, postA_ret, postA_normal, resVs_nil, resVs_tmp, resVs_one, resVs_many, Option.bind_some, tupleOf, Int.toNat_natCast, true_and, and_true, Nat.reduceEqDiff, RdOk_nil, RdOk_refl, rd_load1, rd_loadn, rd_b2s, rd_sll, rd_sla, rd_call, rd_calld, rd_new, rd_box, rd_lit, rd_store, rd_s2b, rd_mk, rd_app, rd_apps, rd_appz, rd_mks, rd_copy, blk_ptr, blk_sl, blk_nil, List.cons_append, addI, subI, mulI, quoI, remI, shrI, eqlI, neqI, eqS, neS, beqB, bneB, lenS, lenV, pickB, ext0, ext1, ext2, ext30, ext31, binA_lss, binA_leq, binA_gtr, binA_geq, convI, decide_eq_true, decide_eq_false, gd_undef, W_scope, mnI, mxI, inBlockA_ne, dec_refl, dec_nrefl, beq_self_eq_true, ite_true, ite_false]
    exact hq _
end Go.AS.C
