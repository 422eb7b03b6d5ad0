import Derived.Test.YtgeoeagohhojbaaAs27
import Derived.Test.YtgeoeagohhojbaaCrcMath
namespace Go.AS.C
open Go Go.Proofs
set_option linter.unusedVariables false
set_option linter.unusedSimpArgs false
set_option maxRecDepth 10000

/-- What is turned after k of the four. -/
def eK (L n k : Nat) (t : List UInt8) : List UInt8 := (List.range L).map fun j => if n ≤ j ∧ j < n + k then t.getD (j - n) 0 else 0
theorem eK_length (L n k : Nat) (t : List UInt8) : (eK L n k t).length = L := by simp [eK]
theorem eK_get {L n k j : Nat} {t : List UInt8} (h : j < L) : (eK L n k t)[j]? = some (if n ≤ j ∧ j < n + k then t.getD (j - n) 0 else 0) := by
  unfold eK
  rw [List.getElem?_map, List.getElem?_range h]; rfl
theorem xorE_get {S : List UInt8} {n k j : Nat} {t : List UInt8} {x : UInt8} (h : S[j]? = some x) : (xorB S (eK S.length n k t))[j]? = some (x ^^^ if n ≤ j ∧ j < n + k then t.getD (j - n) 0 else 0) := by
  unfold xorB
  rw [List.getElem?_zipWith, h, eK_get (lt_of_get h)]
theorem xorE_len (S : List UInt8) (n k : Nat) (t : List UInt8) : (xorB S (eK S.length n k t)).length = S.length := by
  rw [xorB_length _ _ (by rw [eK_length])]
theorem xorE_step {S : List UInt8} {n k : Nat} {t : List UInt8} {x : UInt8} (hx : S[n + k]? = some x) : (xorB S (eK S.length n k t)).set (n + k) (x ^^^ t.getD k 0) = xorB S (eK S.length n (k + 1) t) := by
  apply List.ext_getElem?
  intro j
  rcases Nat.lt_or_ge j S.length with hj | hj
  · have hy := List.getElem?_eq_getElem hj
    rw [List.getElem?_set, xorE_get hy, xorE_get hy]
    by_cases h : n + k = j
    · subst h
      rw [if_pos rfl, if_pos (by rw [xorE_len]; exact hj), if_pos (by omega)]
      rw [hx] at hy
      rw [← Option.some.inj hy, Nat.add_sub_cancel_left]
    · rw [if_neg h]
      congr 2
      by_cases h1 : n ≤ j ∧ j < n + k
      · rw [if_pos h1, if_pos (by omega)]
      · rw [if_neg h1, if_neg (by omega)]
  · rw [List.getElem?_eq_none (by rw [List.length_set, xorE_len]; exact hj), List.getElem?_eq_none (by rw [xorE_len]; exact hj)]
theorem xorE_zero (S : List UInt8) (n : Nat) (t : List UInt8) : xorB S (eK S.length n 0 t) = S := by
  apply List.ext_getElem?
  intro j
  rcases Nat.lt_or_ge j S.length with hj | hj
  · have hy := List.getElem?_eq_getElem hj
    rw [xorE_get hy, hy, if_neg (by omega)]
    simp
  · rw [List.getElem?_eq_none (by rw [xorE_len]; exact hj), List.getElem?_eq_none hj]
theorem eK_four (L n : Nat) (a b c d : UInt8) (h : n + 4 ≤ L) : eK L n 4 [a, b, c, d] = List.replicate n 0 ++ ([a, b, c, d] ++ List.replicate (L - 4 - n) 0) := by
  apply List.ext_getElem?
  intro j
  rcases Nat.lt_or_ge j L with hj | hj
  · rw [eK_get hj]
    by_cases h1 : j < n
    · rw [List.getElem?_append_left (by simpa using h1), if_neg (by omega), List.getElem?_replicate, if_pos h1]
    · rw [List.getElem?_append_right (by simp; omega)]
      simp only [List.length_replicate]
      by_cases h2 : j < n + 4
      · rw [if_pos (by omega), List.getElem?_append_left (by simp; omega)]
        have : j - n = 0 ∨ j - n = 1 ∨ j - n = 2 ∨ j - n = 3 := by omega
        rcases this with e | e | e | e <;> rw [e] <;> rfl
      · rw [if_neg (by omega), List.getElem?_append_right (by simp; omega), List.getElem?_replicate, if_pos (by simp; omega)]
  · rw [List.getElem?_eq_none (by rw [eK_length]; exact hj), List.getElem?_eq_none (by simp; omega)]

theorem keyL (a b c d : UInt8) : Try.prog.keyLits 8 33 [by8 a, by8 b, by8 c, by8 d] = some [.int .u8 a.toNat, .int .u8 b.toNat, .int .u8 c.toNat, .int .u8 d.toNat] := by
  have r4 : List.range 4 = [0, 1, 2, 3] := by decide
  have c1 : Try.prog.cellsOf 5 = 1 := by kernel_rfl
  have c4 : Try.prog.cellsOf 33 = 4 := by kernel_rfl
  have one : ∀ x : UInt8, Try.prog.keyLits 7 5 [by8 x] = some [.int .u8 x.toNat] := by
    intro x
    unfold Program.keyLits by8
    simp only [Try.underlying5]
    rw [if_pos ⟨trivial, by8_wf x⟩]
  unfold Program.keyLits
  simp only [Try.underlying33, c4, c1, r4]
  rw [if_pos (by rfl)]
  simp [one]

open Classical in
theorem CrcTurns_spec {A : AH} {v : Value} {bs : List UInt8} {n : Int} {t0 t1 t2 t3 : UInt8} {Q : Value → AH → Prop} (hv : Byt A v bs) (hl : bs.length ≤ 140737488351232) (hn : -(2 ^ 63) ≤ n ∧ n < 2 ^ 63) (hq : ∀ A', Q (.bool true) A') :
    ACalls 0 Try.prog chantrylaw02_CrcTurns [v, ii n, .agg #[by8 t0, by8 t1, by8 t2, by8 t3]] Q A := by
  refine ACalls.of_fits mixed fits_chantrylaw02_CrcTurns rfl ?_
  unfold ic_chantrylaw02_CrcTurns
  have i0 : initA [v, ii n, .agg #[by8 t0, by8 t1, by8 t2, by8 t3]] 0 = v := rfl
  have i1 : initA [v, ii n, .agg #[by8 t0, by8 t1, by8 t2, by8 t3]] 1 = ii n := rfl
  have i2 : initA [v, ii n, .agg #[by8 t0, by8 t1, by8 t2, by8 t3]] 2 = .agg #[by8 t0, by8 t1, by8 t2, by8 t3] := rfl
  generalize initA [v, ii n, .agg #[by8 t0, by8 t1, by8 t2, by8 t3]] = a at i0 i1 i2
  have b1 : sBox A (.agg #[by8 t0, by8 t1, by8 t2, by8 t3]) = some (.pointer (some ⟨A.length, 0, none⟩), A ++ [.row [by8 t0, by8 t1, by8 t2, by8 t3] .own 0 true]) := rfl
  have k1 : Le A (A ++ [.row [by8 t0, by8 t1, by8 t2, by8 t3] .own 0 true]) := .push _ _
  have hrow : (A ++ [.row [by8 t0, by8 t1, by8 t2, by8 t3] .own 0 true])[A.length]? = some (Blk.row [by8 t0, by8 t1, by8 t2, by8 t3] .own 0 true) := get_last _ _
  simp only [W_seq, W_ops, W_draw, W_block, W_skip, W_exit, W_ret, sq_normal, sq_ret, sq_exit, W_condv, condW_true, condW_false, thenA_normal, thenA_ret, thenA_exit, if_true, if_false, Bool.false_eq_true, decide_eq_true_eq, inBlockA_normal, inBlockA_ret, inBlockA_same, inBlockA_other, noGotoA_normal, noGotoA_ret, noGotoA_exit, Wops_nil, Wops_cons, Wops_le, Wops_guard, Wops_guardle, ok1_some, okV_some, kont_at, kontL_at, gdB_true, gdB_false, decide_true, decide_false, ev_tmp, ev_const, ev_func, ev_global, put_some, put_none, upd_same, upd_at, gd_bt, gd_bf, Bool.not_true, Bool.not_false, pick_true, pick_false, pick_b, not_b, W1_mov, W1_pick, W1_new, W1_box, W1_build, W1_lit, W1_load1, W1_loadn, W1_store, W1_nilc, W1_bin, W1_un, W1_conv, W1_b2s, W1_s2b, W1_field1, W1_fieldn, W1_faddr, W1_iaddr, W1_iarr, W1_idxs, W1_idxa1, W1_idxan, W1_sls, W1_sll, W1_sla, W1_mk, W1_ext, W1_fn, W1_ifc, W1_lens, W1_lenc, W1_app, W1_apps, W1_copy, W1_mn, W1_mx, W1_isnil, W1_strc, W1_beq, W1_mks, W1_capn, W1_appz, W1_eqagg, W1_call, List.map_cons, List.map_nil, Option.map_some, Option.map_none, reduceIte, Option.some.injEq, exists_eq_left', Nat.reduceBEq, iv_ii, postA_ret, postA_normal, resVs_nil, resVs_tmp, tupleOf, Int.toNat_natCast, true_and, and_true, Nat.reduceEqDiff, i0, i2, b1]
  generalize hA1 : A ++ [Blk.row [by8 t0, by8 t1, by8 t2, by8 t3] .own 0 true] = A1 at k1 hrow ⊢
  refine ref_Seal_spec (hv.le k1) hl fun s A2 hle2 hs => ?_
  have hv2 := (hv.le k1).le hle2
  by_cases h1 : ((bs.length : Int) > 2000)
  · have c1 : ((bs.length : Int) > 2000) = True := by simp [h1]
    simp only [W_seq, W_ops, W_draw, W_block, W_skip, W_exit, W_ret, sq_normal, sq_ret, sq_exit, W_condv, condW_true, condW_false, thenA_normal, thenA_ret, thenA_exit, if_true, if_false, Bool.false_eq_true, decide_eq_true_eq, inBlockA_normal, inBlockA_ret, inBlockA_same, inBlockA_other, noGotoA_normal, noGotoA_ret, noGotoA_exit, Wops_nil, Wops_cons, Wops_le, Wops_guard, Wops_guardle, ok1_some, okV_some, kont_at, kontL_at, gdB_true, gdB_false, decide_true, decide_false, ev_tmp, ev_const, ev_func, ev_global, put_some, put_none, upd_same, upd_at, gd_bt, gd_bf, Bool.not_true, Bool.not_false, pick_true, pick_false, pick_b, not_b, W1_mov, W1_pick, W1_new, W1_box, W1_build, W1_lit, W1_load1, W1_loadn, W1_store, W1_nilc, W1_bin, W1_un, W1_conv, W1_b2s, W1_s2b, W1_field1, W1_fieldn, W1_faddr, W1_iaddr, W1_iarr, W1_idxs, W1_idxa1, W1_idxan, W1_sls, W1_sll, W1_sla, W1_mk, W1_ext, W1_fn, W1_ifc, W1_lens, W1_lenc, W1_app, W1_apps, W1_copy, W1_mn, W1_mx, W1_isnil, W1_strc, W1_beq, W1_mks, W1_capn, W1_appz, W1_eqagg, W1_call, List.map_cons, List.map_nil, Option.map_some, Option.map_none, reduceIte, Option.some.injEq, exists_eq_left', Nat.reduceBEq, iv_ii, postA_ret, postA_normal, resVs_nil, resVs_tmp, tupleOf, Int.toNat_natCast, true_and, and_true, Nat.reduceEqDiff, i0, hv2.len, binA_gtr, c1]
    refine awake_spec fun A' _ => ?_
    simp only [W_seq, W_ops, W_draw, W_block, W_skip, W_exit, W_ret, sq_normal, sq_ret, sq_exit, W_condv, condW_true, condW_false, thenA_normal, thenA_ret, thenA_exit, if_true, if_false, Bool.false_eq_true, decide_eq_true_eq, inBlockA_normal, inBlockA_ret, inBlockA_same, inBlockA_other, noGotoA_normal, noGotoA_ret, noGotoA_exit, Wops_nil, Wops_cons, Wops_le, Wops_guard, Wops_guardle, ok1_some, okV_some, kont_at, kontL_at, gdB_true, gdB_false, decide_true, decide_false, ev_tmp, ev_const, ev_func, ev_global, put_some, put_none, upd_same, upd_at, gd_bt, gd_bf, Bool.not_true, Bool.not_false, pick_true, pick_false, pick_b, not_b, W1_mov, W1_pick, W1_new, W1_box, W1_build, W1_lit, W1_load1, W1_loadn, W1_store, W1_nilc, W1_bin, W1_un, W1_conv, W1_b2s, W1_s2b, W1_field1, W1_fieldn, W1_faddr, W1_iaddr, W1_iarr, W1_idxs, W1_idxa1, W1_idxan, W1_sls, W1_sll, W1_sla, W1_mk, W1_ext, W1_fn, W1_ifc, W1_lens, W1_lenc, W1_app, W1_apps, W1_copy, W1_mn, W1_mx, W1_isnil, W1_strc, W1_beq, W1_mks, W1_capn, W1_appz, W1_eqagg, W1_call, List.map_cons, List.map_nil, Option.map_some, Option.map_none, reduceIte, Option.some.injEq, exists_eq_left', Nat.reduceBEq, iv_ii, postA_ret, postA_normal, resVs_nil, resVs_tmp, tupleOf, Int.toNat_natCast, true_and, and_true, Nat.reduceEqDiff]
    exact hq _
  · have c1 : ((bs.length : Int) > 2000) = False := by simp [h1]
    by_cases h2 : n < 0
    · have c2 : (n < 0) = True := by simp [h2]
      simp only [W_seq, W_ops, W_draw, W_block, W_skip, W_exit, W_ret, sq_normal, sq_ret, sq_exit, W_condv, condW_true, condW_false, thenA_normal, thenA_ret, thenA_exit, if_true, if_false, Bool.false_eq_true, decide_eq_true_eq, inBlockA_normal, inBlockA_ret, inBlockA_same, inBlockA_other, noGotoA_normal, noGotoA_ret, noGotoA_exit, Wops_nil, Wops_cons, Wops_le, Wops_guard, Wops_guardle, ok1_some, okV_some, kont_at, kontL_at, gdB_true, gdB_false, decide_true, decide_false, ev_tmp, ev_const, ev_func, ev_global, put_some, put_none, upd_same, upd_at, gd_bt, gd_bf, Bool.not_true, Bool.not_false, pick_true, pick_false, pick_b, not_b, W1_mov, W1_pick, W1_new, W1_box, W1_build, W1_lit, W1_load1, W1_loadn, W1_store, W1_nilc, W1_bin, W1_un, W1_conv, W1_b2s, W1_s2b, W1_field1, W1_fieldn, W1_faddr, W1_iaddr, W1_iarr, W1_idxs, W1_idxa1, W1_idxan, W1_sls, W1_sll, W1_sla, W1_mk, W1_ext, W1_fn, W1_ifc, W1_lens, W1_lenc, W1_app, W1_apps, W1_copy, W1_mn, W1_mx, W1_isnil, W1_strc, W1_beq, W1_mks, W1_capn, W1_appz, W1_eqagg, W1_call, List.map_cons, List.map_nil, Option.map_some, Option.map_none, reduceIte, Option.some.injEq, exists_eq_left', Nat.reduceBEq, iv_ii, postA_ret, postA_normal, resVs_nil, resVs_tmp, tupleOf, Int.toNat_natCast, true_and, and_true, Nat.reduceEqDiff, i0, i1, hv2.len, binA_gtr, c1, binA_lss, c2]
      refine awake_spec fun A' _ => ?_
      simp only [W_seq, W_ops, W_draw, W_block, W_skip, W_exit, W_ret, sq_normal, sq_ret, sq_exit, W_condv, condW_true, condW_false, thenA_normal, thenA_ret, thenA_exit, if_true, if_false, Bool.false_eq_true, decide_eq_true_eq, inBlockA_normal, inBlockA_ret, inBlockA_same, inBlockA_other, noGotoA_normal, noGotoA_ret, noGotoA_exit, Wops_nil, Wops_cons, Wops_le, Wops_guard, Wops_guardle, ok1_some, okV_some, kont_at, kontL_at, gdB_true, gdB_false, decide_true, decide_false, ev_tmp, ev_const, ev_func, ev_global, put_some, put_none, upd_same, upd_at, gd_bt, gd_bf, Bool.not_true, Bool.not_false, pick_true, pick_false, pick_b, not_b, W1_mov, W1_pick, W1_new, W1_box, W1_build, W1_lit, W1_load1, W1_loadn, W1_store, W1_nilc, W1_bin, W1_un, W1_conv, W1_b2s, W1_s2b, W1_field1, W1_fieldn, W1_faddr, W1_iaddr, W1_iarr, W1_idxs, W1_idxa1, W1_idxan, W1_sls, W1_sll, W1_sla, W1_mk, W1_ext, W1_fn, W1_ifc, W1_lens, W1_lenc, W1_app, W1_apps, W1_copy, W1_mn, W1_mx, W1_isnil, W1_strc, W1_beq, W1_mks, W1_capn, W1_appz, W1_eqagg, W1_call, List.map_cons, List.map_nil, Option.map_some, Option.map_none, reduceIte, Option.some.injEq, exists_eq_left', Nat.reduceBEq, iv_ii, postA_ret, postA_normal, resVs_nil, resVs_tmp, tupleOf, Int.toNat_natCast, true_and, and_true, Nat.reduceEqDiff]
      exact hq _
    · have c2 : (n < 0) = False := by simp [h2]
      have hsl := sealB_length bs
      have c3 : binA .sub (ii ((sealB bs).length : Nat)) (ii 4) = some (ii (bs.length : Nat)) := by
        rw [binA_subi _ _ (by omega) (by omega), hsl]
        congr 2; omega
      by_cases h3 : (n > (bs.length : Int))
      · have c4 : (n > (bs.length : Int)) = True := by simp [h3]
        simp only [W_seq, W_ops, W_draw, W_block, W_skip, W_exit, W_ret, sq_normal, sq_ret, sq_exit, W_condv, condW_true, condW_false, thenA_normal, thenA_ret, thenA_exit, if_true, if_false, Bool.false_eq_true, decide_eq_true_eq, inBlockA_normal, inBlockA_ret, inBlockA_same, inBlockA_other, noGotoA_normal, noGotoA_ret, noGotoA_exit, Wops_nil, Wops_cons, Wops_le, Wops_guard, Wops_guardle, ok1_some, okV_some, kont_at, kontL_at, gdB_true, gdB_false, decide_true, decide_false, ev_tmp, ev_const, ev_func, ev_global, put_some, put_none, upd_same, upd_at, gd_bt, gd_bf, Bool.not_true, Bool.not_false, pick_true, pick_false, pick_b, not_b, W1_mov, W1_pick, W1_new, W1_box, W1_build, W1_lit, W1_load1, W1_loadn, W1_store, W1_nilc, W1_bin, W1_un, W1_conv, W1_b2s, W1_s2b, W1_field1, W1_fieldn, W1_faddr, W1_iaddr, W1_iarr, W1_idxs, W1_idxa1, W1_idxan, W1_sls, W1_sll, W1_sla, W1_mk, W1_ext, W1_fn, W1_ifc, W1_lens, W1_lenc, W1_app, W1_apps, W1_copy, W1_mn, W1_mx, W1_isnil, W1_strc, W1_beq, W1_mks, W1_capn, W1_appz, W1_eqagg, W1_call, List.map_cons, List.map_nil, Option.map_some, Option.map_none, reduceIte, Option.some.injEq, exists_eq_left', Nat.reduceBEq, iv_ii, postA_ret, postA_normal, resVs_nil, resVs_tmp, tupleOf, Int.toNat_natCast, true_and, and_true, Nat.reduceEqDiff, i0, i1, hv2.len, binA_gtr, c1, binA_lss, c2, hs.byt.len, c3, c4]
        refine awake_spec fun A' _ => ?_
        simp only [W_seq, W_ops, W_draw, W_block, W_skip, W_exit, W_ret, sq_normal, sq_ret, sq_exit, W_condv, condW_true, condW_false, thenA_normal, thenA_ret, thenA_exit, if_true, if_false, Bool.false_eq_true, decide_eq_true_eq, inBlockA_normal, inBlockA_ret, inBlockA_same, inBlockA_other, noGotoA_normal, noGotoA_ret, noGotoA_exit, Wops_nil, Wops_cons, Wops_le, Wops_guard, Wops_guardle, ok1_some, okV_some, kont_at, kontL_at, gdB_true, gdB_false, decide_true, decide_false, ev_tmp, ev_const, ev_func, ev_global, put_some, put_none, upd_same, upd_at, gd_bt, gd_bf, Bool.not_true, Bool.not_false, pick_true, pick_false, pick_b, not_b, W1_mov, W1_pick, W1_new, W1_box, W1_build, W1_lit, W1_load1, W1_loadn, W1_store, W1_nilc, W1_bin, W1_un, W1_conv, W1_b2s, W1_s2b, W1_field1, W1_fieldn, W1_faddr, W1_iaddr, W1_iarr, W1_idxs, W1_idxa1, W1_idxan, W1_sls, W1_sll, W1_sla, W1_mk, W1_ext, W1_fn, W1_ifc, W1_lens, W1_lenc, W1_app, W1_apps, W1_copy, W1_mn, W1_mx, W1_isnil, W1_strc, W1_beq, W1_mks, W1_capn, W1_appz, W1_eqagg, W1_call, List.map_cons, List.map_nil, Option.map_some, Option.map_none, reduceIte, Option.some.injEq, exists_eq_left', Nat.reduceBEq, iv_ii, postA_ret, postA_normal, resVs_nil, resVs_tmp, tupleOf, Int.toNat_natCast, true_and, and_true, Nat.reduceEqDiff]
        exact hq _
      · have c4 : (n > (bs.length : Int)) = False := by simp [h3]
        obtain ⟨m, rfl⟩ : ∃ m : Nat, n = m := ⟨n.toNat, by omega⟩
        have hrow2 := hle2.get hrow
        have d1 : sLoadn A2 (.pointer (some ⟨A.length, 0, none⟩)) 4 = some (.agg #[by8 t0, by8 t1, by8 t2, by8 t3], A2) := by
          unfold sLoadn getRow
          simp only [hrow2]
          rfl
        have d2 : sBuild A2 [Value.int .u8 0, .int .u8 0, .int .u8 0, .int .u8 0] [] = some (.agg #[by8 0, by8 0, by8 0, by8 0], A2) := rfl
        have d3 : sEqagg A2 false (Try.prog.keyLits 8 33) (.agg #[by8 t0, by8 t1, by8 t2, by8 t3]) (.agg #[by8 0, by8 0, by8 0, by8 0]) = some (.bool (decide (t0 = 0 ∧ t1 = 0 ∧ t2 = 0 ∧ t3 = 0)), A2) := by
          unfold sEqagg
          simp only
          rw [if_pos ⟨rfl, rfl⟩]
          have e1 := keyL t0 t1 t2 t3
          have e2 := keyL 0 0 0 0
          simp only [e1, e2, Option.bind_some, Option.map_some, Bool.bne_false]
          congr 3
          rw [decide_eq_decide]
          simp only [List.cons.injEq, Lit.int.injEq, true_and, and_true]
          have h8 : ∀ x : UInt8, ((x.toNat : Int) = ((0 : UInt8).toNat : Int)) ↔ x = 0 := fun x => ⟨fun h => UInt8.toNat_inj.1 (by omega), fun h => by rw [h]⟩
          rw [h8, h8, h8, h8]
        by_cases hz : t0 = 0 ∧ t1 = 0 ∧ t2 = 0 ∧ t3 = 0
        · have hz2 : (t0 = 0 ∧ t1 = 0 ∧ t2 = 0 ∧ t3 = 0) = True := by simp only [hz]; trivial
          rw [show decide (t0 = 0 ∧ t1 = 0 ∧ t2 = 0 ∧ t3 = 0) = true from decide_eq_true hz] at d3
          simp only [W_seq, W_ops, W_draw, W_block, W_skip, W_exit, W_ret, sq_normal, sq_ret, sq_exit, W_condv, condW_true, condW_false, thenA_normal, thenA_ret, thenA_exit, if_true, if_false, Bool.false_eq_true, decide_eq_true_eq, inBlockA_normal, inBlockA_ret, inBlockA_same, inBlockA_other, noGotoA_normal, noGotoA_ret, noGotoA_exit, Wops_nil, Wops_cons, Wops_le, Wops_guard, Wops_guardle, ok1_some, okV_some, kont_at, kontL_at, gdB_true, gdB_false, decide_true, decide_false, ev_tmp, ev_const, ev_func, ev_global, put_some, put_none, upd_same, upd_at, gd_bt, gd_bf, Bool.not_true, Bool.not_false, pick_true, pick_false, pick_b, not_b, W1_mov, W1_pick, W1_new, W1_box, W1_build, W1_lit, W1_load1, W1_loadn, W1_store, W1_nilc, W1_bin, W1_un, W1_conv, W1_b2s, W1_s2b, W1_field1, W1_fieldn, W1_faddr, W1_iaddr, W1_iarr, W1_idxs, W1_idxa1, W1_idxan, W1_sls, W1_sll, W1_sla, W1_mk, W1_ext, W1_fn, W1_ifc, W1_lens, W1_lenc, W1_app, W1_apps, W1_copy, W1_mn, W1_mx, W1_isnil, W1_strc, W1_beq, W1_mks, W1_capn, W1_appz, W1_eqagg, W1_call, List.map_cons, List.map_nil, Option.map_some, Option.map_none, reduceIte, Option.some.injEq, exists_eq_left', Nat.reduceBEq, iv_ii, postA_ret, postA_normal, resVs_nil, resVs_tmp, tupleOf, Int.toNat_natCast, true_and, and_true, Nat.reduceEqDiff, i0, i1, hv2.len, binA_gtr, c1, binA_lss, c2, hs.byt.len, c3, c4, d1, d2, d3]
          refine awake_spec fun A' _ => ?_
          simp only [W_seq, W_ops, W_draw, W_block, W_skip, W_exit, W_ret, sq_normal, sq_ret, sq_exit, W_condv, condW_true, condW_false, thenA_normal, thenA_ret, thenA_exit, if_true, if_false, Bool.false_eq_true, decide_eq_true_eq, inBlockA_normal, inBlockA_ret, inBlockA_same, inBlockA_other, noGotoA_normal, noGotoA_ret, noGotoA_exit, Wops_nil, Wops_cons, Wops_le, Wops_guard, Wops_guardle, ok1_some, okV_some, kont_at, kontL_at, gdB_true, gdB_false, decide_true, decide_false, ev_tmp, ev_const, ev_func, ev_global, put_some, put_none, upd_same, upd_at, gd_bt, gd_bf, Bool.not_true, Bool.not_false, pick_true, pick_false, pick_b, not_b, W1_mov, W1_pick, W1_new, W1_box, W1_build, W1_lit, W1_load1, W1_loadn, W1_store, W1_nilc, W1_bin, W1_un, W1_conv, W1_b2s, W1_s2b, W1_field1, W1_fieldn, W1_faddr, W1_iaddr, W1_iarr, W1_idxs, W1_idxa1, W1_idxan, W1_sls, W1_sll, W1_sla, W1_mk, W1_ext, W1_fn, W1_ifc, W1_lens, W1_lenc, W1_app, W1_apps, W1_copy, W1_mn, W1_mx, W1_isnil, W1_strc, W1_beq, W1_mks, W1_capn, W1_appz, W1_eqagg, W1_call, List.map_cons, List.map_nil, Option.map_some, Option.map_none, reduceIte, Option.some.injEq, exists_eq_left', Nat.reduceBEq, iv_ii, postA_ret, postA_normal, resVs_nil, resVs_tmp, tupleOf, Int.toNat_natCast, true_and, and_true, Nat.reduceEqDiff]
          exact hq _
        · rw [show decide (t0 = 0 ∧ t1 = 0 ∧ t2 = 0 ∧ t3 = 0) = false from decide_eq_false hz] at d3
          simp only [W_seq, W_ops, W_draw, W_block, W_skip, W_exit, W_ret, sq_normal, sq_ret, sq_exit, W_condv, condW_true, condW_false, thenA_normal, thenA_ret, thenA_exit, if_true, if_false, Bool.false_eq_true, decide_eq_true_eq, inBlockA_normal, inBlockA_ret, inBlockA_same, inBlockA_other, noGotoA_normal, noGotoA_ret, noGotoA_exit, Wops_nil, Wops_cons, Wops_le, Wops_guard, Wops_guardle, ok1_some, okV_some, kont_at, kontL_at, gdB_true, gdB_false, decide_true, decide_false, ev_tmp, ev_const, ev_func, ev_global, put_some, put_none, upd_same, upd_at, gd_bt, gd_bf, Bool.not_true, Bool.not_false, pick_true, pick_false, pick_b, not_b, W1_mov, W1_pick, W1_new, W1_box, W1_build, W1_lit, W1_load1, W1_loadn, W1_store, W1_nilc, W1_bin, W1_un, W1_conv, W1_b2s, W1_s2b, W1_field1, W1_fieldn, W1_faddr, W1_iaddr, W1_iarr, W1_idxs, W1_idxa1, W1_idxan, W1_sls, W1_sll, W1_sla, W1_mk, W1_ext, W1_fn, W1_ifc, W1_lens, W1_lenc, W1_app, W1_apps, W1_copy, W1_mn, W1_mx, W1_isnil, W1_strc, W1_beq, W1_mks, W1_capn, W1_appz, W1_eqagg, W1_call, List.map_cons, List.map_nil, Option.map_some, Option.map_none, reduceIte, Option.some.injEq, exists_eq_left', Nat.reduceBEq, iv_ii, postA_ret, postA_normal, resVs_nil, resVs_tmp, tupleOf, Int.toNat_natCast, true_and, and_true, Nat.reduceEqDiff, i0, i1, hv2.len, binA_gtr, c1, binA_lss, c2, hs.byt.len, c3, c4, d1, d2, d3]
          refine W_loop (fun a' A' => ∃ k : Nat, k ≤ 4 ∧ Le A1 A' ∧ a' 1 = ii m ∧ a' 5 = .pointer (some ⟨A.length, 0, none⟩) ∧ a' 8 = ii k ∧ OwnB A1.length A' (a' 7) (xorB (sealB bs) (eK (sealB bs).length m k [t0, t1, t2, t3]))) (fun a' _ => 4 - (iv (a' 8)).toNat) ?_ ?_
          · refine ⟨0, by omega, hle2, ?_⟩
            simp only [W_seq, W_ops, W_draw, W_block, W_skip, W_exit, W_ret, sq_normal, sq_ret, sq_exit, W_condv, condW_true, condW_false, thenA_normal, thenA_ret, thenA_exit, if_true, if_false, Bool.false_eq_true, decide_eq_true_eq, inBlockA_normal, inBlockA_ret, inBlockA_same, inBlockA_other, noGotoA_normal, noGotoA_ret, noGotoA_exit, Wops_nil, Wops_cons, Wops_le, Wops_guard, Wops_guardle, ok1_some, okV_some, kont_at, kontL_at, gdB_true, gdB_false, decide_true, decide_false, ev_tmp, ev_const, ev_func, ev_global, put_some, put_none, upd_same, upd_at, gd_bt, gd_bf, Bool.not_true, Bool.not_false, pick_true, pick_false, pick_b, not_b, W1_mov, W1_pick, W1_new, W1_box, W1_build, W1_lit, W1_load1, W1_loadn, W1_store, W1_nilc, W1_bin, W1_un, W1_conv, W1_b2s, W1_s2b, W1_field1, W1_fieldn, W1_faddr, W1_iaddr, W1_iarr, W1_idxs, W1_idxa1, W1_idxan, W1_sls, W1_sll, W1_sla, W1_mk, W1_ext, W1_fn, W1_ifc, W1_lens, W1_lenc, W1_app, W1_apps, W1_copy, W1_mn, W1_mx, W1_isnil, W1_strc, W1_beq, W1_mks, W1_capn, W1_appz, W1_eqagg, W1_call, List.map_cons, List.map_nil, Option.map_some, Option.map_none, reduceIte, Option.some.injEq, exists_eq_left', Nat.reduceBEq, iv_ii, postA_ret, postA_normal, resVs_nil, resVs_tmp, tupleOf, Int.toNat_natCast, true_and, and_true, Nat.reduceEqDiff, i1]
            rw [xorE_zero]
            exact ⟨rfl, hs⟩
          · rintro a A3 ⟨k, hk, hle, g1, g5, g8, g7⟩
            rcases Nat.lt_or_ge k 4 with hlt | hge
            · have hc1 : ((k : Int) < 4) = True := by simp; omega
              have hadd : binA .add (ii m) (ii k) = some (ii ((m + k : Nat) : Int)) := by
                rw [binA_addi _ _ (by omega) (by omega)]; rfl
              have hlen := xorE_len (sealB bs) m k [t0, t1, t2, t3]
              obtain ⟨x, hx⟩ : ∃ x, (sealB bs)[m + k]? = some x := ⟨_, List.getElem?_eq_getElem (by omega)⟩
              have hx2 := xorE_get (n := m) (k := k) (t := [t0, t1, t2, t3]) hx
              rw [if_neg (by omega)] at hx2
              have hx0 : x ^^^ 0 = x := by simp
              rw [hx0] at hx2
              obtain ⟨p, hp1, hp2⟩ := g7.byt.at1 hx2
              have hrow3 := hle.get hrow
              have f1 : sIarr A3 (.pointer (some ⟨A.length, 0, none⟩)) (ii k) 4 1 = some (.pointer (some ⟨A.length, k, none⟩), A3) := by
                unfold sIarr
                simp only [ii, asI, Option.bind_some]
                rw [if_pos ⟨by omega, by omega⟩]
                simp
              have f2 : sLoad1 A3 (.pointer (some ⟨A.length, k, none⟩)) = some (by8 ([t0, t1, t2, t3].getD k 0), A3) := by
                unfold sLoad1 getRow
                simp only [hrow3]
                have : k = 0 ∨ k = 1 ∨ k = 2 ∨ k = 3 := by omega
                rcases this with e | e | e | e <;> subst e <;> rfl
              obtain ⟨p2, A4, q1, q2, q3, q4⟩ := own_store (x ^^^ [t0, t1, t2, t3].getD k 0) hle g7 (k := m + k) (by omega)
              rw [xorE_step hx] at q3
              have hpe : p2 = p := by
                rw [hp1] at q1
                injection q1 with q1; injection q1 with q1 _; exact q1.symm
              subst hpe
              simp only [W_seq, W_ops, W_draw, W_block, W_skip, W_exit, W_ret, sq_normal, sq_ret, sq_exit, W_condv, condW_true, condW_false, thenA_normal, thenA_ret, thenA_exit, if_true, if_false, Bool.false_eq_true, decide_eq_true_eq, inBlockA_normal, inBlockA_ret, inBlockA_same, inBlockA_other, noGotoA_normal, noGotoA_ret, noGotoA_exit, Wops_nil, Wops_cons, Wops_le, Wops_guard, Wops_guardle, ok1_some, okV_some, kont_at, kontL_at, gdB_true, gdB_false, decide_true, decide_false, ev_tmp, ev_const, ev_func, ev_global, put_some, put_none, upd_same, upd_at, gd_bt, gd_bf, Bool.not_true, Bool.not_false, pick_true, pick_false, pick_b, not_b, W1_mov, W1_pick, W1_new, W1_box, W1_build, W1_lit, W1_load1, W1_loadn, W1_store, W1_nilc, W1_bin, W1_un, W1_conv, W1_b2s, W1_s2b, W1_field1, W1_fieldn, W1_faddr, W1_iaddr, W1_iarr, W1_idxs, W1_idxa1, W1_idxan, W1_sls, W1_sll, W1_sla, W1_mk, W1_ext, W1_fn, W1_ifc, W1_lens, W1_lenc, W1_app, W1_apps, W1_copy, W1_mn, W1_mx, W1_isnil, W1_strc, W1_beq, W1_mks, W1_capn, W1_appz, W1_eqagg, W1_call, List.map_cons, List.map_nil, Option.map_some, Option.map_none, reduceIte, Option.some.injEq, exists_eq_left', Nat.reduceBEq, iv_ii, postA_ret, postA_normal, resVs_nil, resVs_tmp, tupleOf, Int.toNat_natCast, true_and, and_true, Nat.reduceEqDiff, g1, g5, g8, binA_lss, hc1, hadd, hp1, hp2, f1, f2, binA_xor8, q2, binA_add1 k (by omega)]
              exact ⟨⟨k + 1, by omega, q4, rfl, q3⟩, by omega⟩
            · have hc1 : ((k : Int) < 4) = False := by simp; omega
              have hk4 : k = 4 := by omega
              subst hk4
              have hnone : openB (xorB (sealB bs) (eK (sealB bs).length m 4 [t0, t1, t2, t3])) = none := by
                refine turned_none bs t0 t1 t2 t3 (List.replicate m 0) (List.replicate ((sealB bs).length - 4 - m) 0) hz _ ?_ (by rw [eK_length])
                rw [List.length_replicate, List.length_replicate]
                exact eK_four _ _ _ _ _ _ (by omega)
              simp only [W_seq, W_ops, W_draw, W_block, W_skip, W_exit, W_ret, sq_normal, sq_ret, sq_exit, W_condv, condW_true, condW_false, thenA_normal, thenA_ret, thenA_exit, if_true, if_false, Bool.false_eq_true, decide_eq_true_eq, inBlockA_normal, inBlockA_ret, inBlockA_same, inBlockA_other, noGotoA_normal, noGotoA_ret, noGotoA_exit, Wops_nil, Wops_cons, Wops_le, Wops_guard, Wops_guardle, ok1_some, okV_some, kont_at, kontL_at, gdB_true, gdB_false, decide_true, decide_false, ev_tmp, ev_const, ev_func, ev_global, put_some, put_none, upd_same, upd_at, gd_bt, gd_bf, Bool.not_true, Bool.not_false, pick_true, pick_false, pick_b, not_b, W1_mov, W1_pick, W1_new, W1_box, W1_build, W1_lit, W1_load1, W1_loadn, W1_store, W1_nilc, W1_bin, W1_un, W1_conv, W1_b2s, W1_s2b, W1_field1, W1_fieldn, W1_faddr, W1_iaddr, W1_iarr, W1_idxs, W1_idxa1, W1_idxan, W1_sls, W1_sll, W1_sla, W1_mk, W1_ext, W1_fn, W1_ifc, W1_lens, W1_lenc, W1_app, W1_apps, W1_copy, W1_mn, W1_mx, W1_isnil, W1_strc, W1_beq, W1_mks, W1_capn, W1_appz, W1_eqagg, W1_call, List.map_cons, List.map_nil, Option.map_some, Option.map_none, reduceIte, Option.some.injEq, exists_eq_left', Nat.reduceBEq, iv_ii, postA_ret, postA_normal, resVs_nil, resVs_tmp, tupleOf, Int.toNat_natCast, true_and, and_true, Nat.reduceEqDiff, g1, g5, g8, binA_lss, hc1]
              refine crc_Open_spec g7.byt (by rw [xorE_len]; omega) (fun x u A4 hx _ _ => by rw [hnone] at hx; cases hx) (fun A4 _ _ => ?_)
              simp only [W_seq, W_ops, W_draw, W_block, W_skip, W_exit, W_ret, sq_normal, sq_ret, sq_exit, W_condv, condW_true, condW_false, thenA_normal, thenA_ret, thenA_exit, if_true, if_false, Bool.false_eq_true, decide_eq_true_eq, inBlockA_normal, inBlockA_ret, inBlockA_same, inBlockA_other, noGotoA_normal, noGotoA_ret, noGotoA_exit, Wops_nil, Wops_cons, Wops_le, Wops_guard, Wops_guardle, ok1_some, okV_some, kont_at, kontL_at, gdB_true, gdB_false, decide_true, decide_false, ev_tmp, ev_const, ev_func, ev_global, put_some, put_none, upd_same, upd_at, gd_bt, gd_bf, Bool.not_true, Bool.not_false, pick_true, pick_false, pick_b, not_b, W1_mov, W1_pick, W1_new, W1_box, W1_build, W1_lit, W1_load1, W1_loadn, W1_store, W1_nilc, W1_bin, W1_un, W1_conv, W1_b2s, W1_s2b, W1_field1, W1_fieldn, W1_faddr, W1_iaddr, W1_iarr, W1_idxs, W1_idxa1, W1_idxan, W1_sls, W1_sll, W1_sla, W1_mk, W1_ext, W1_fn, W1_ifc, W1_lens, W1_lenc, W1_app, W1_apps, W1_copy, W1_mn, W1_mx, W1_isnil, W1_strc, W1_beq, W1_mks, W1_capn, W1_appz, W1_eqagg, W1_call, List.map_cons, List.map_nil, Option.map_some, Option.map_none, reduceIte, Option.some.injEq, exists_eq_left', Nat.reduceBEq, iv_ii, postA_ret, postA_normal, resVs_nil, resVs_tmp, tupleOf, Int.toNat_natCast, true_and, and_true, Nat.reduceEqDiff, ext0, ext1, binA_eql, lens_sl, BEq.rfl]
              refine awake_spec fun A' _ => ?_
              simp only [W_seq, W_ops, W_draw, W_block, W_skip, W_exit, W_ret, sq_normal, sq_ret, sq_exit, W_condv, condW_true, condW_false, thenA_normal, thenA_ret, thenA_exit, if_true, if_false, Bool.false_eq_true, decide_eq_true_eq, inBlockA_normal, inBlockA_ret, inBlockA_same, inBlockA_other, noGotoA_normal, noGotoA_ret, noGotoA_exit, Wops_nil, Wops_cons, Wops_le, Wops_guard, Wops_guardle, ok1_some, okV_some, kont_at, kontL_at, gdB_true, gdB_false, decide_true, decide_false, ev_tmp, ev_const, ev_func, ev_global, put_some, put_none, upd_same, upd_at, gd_bt, gd_bf, Bool.not_true, Bool.not_false, pick_true, pick_false, pick_b, not_b, W1_mov, W1_pick, W1_new, W1_box, W1_build, W1_lit, W1_load1, W1_loadn, W1_store, W1_nilc, W1_bin, W1_un, W1_conv, W1_b2s, W1_s2b, W1_field1, W1_fieldn, W1_faddr, W1_iaddr, W1_iarr, W1_idxs, W1_idxa1, W1_idxan, W1_sls, W1_sll, W1_sla, W1_mk, W1_ext, W1_fn, W1_ifc, W1_lens, W1_lenc, W1_app, W1_apps, W1_copy, W1_mn, W1_mx, W1_isnil, W1_strc, W1_beq, W1_mks, W1_capn, W1_appz, W1_eqagg, W1_call, List.map_cons, List.map_nil, Option.map_some, Option.map_none, reduceIte, Option.some.injEq, exists_eq_left', Nat.reduceBEq, iv_ii, postA_ret, postA_normal, resVs_nil, resVs_tmp, tupleOf, Int.toNat_natCast, true_and, and_true, Nat.reduceEqDiff]
              exact hq _

theorem CrcTurns_law {A : AH} {v0 v1 v2 : Value} (g0 : GoodV Try.prog A 9 22 v0) (g1 : GoodV Try.prog A 9 3 v1) (g2 : GoodV Try.prog A 9 33 v2) : ACalls 0 Try.prog chantrylaw02_CrcTurns [v0, v1, v2] (fun v _ => v = .bool true) A := by
  obtain ⟨xs, h0, hb⟩ := good_bytes Try.underlying22 Try.underlying5 (by kernel_rfl) g0
  obtain ⟨n, rfl, hn⟩ := good_int Try.underlying3 g1
  have e1 : Try.prog.bytesOf 5 = 1 := by kernel_rfl
  rw [e1] at hb
  have hr : reachBytes = 140737488351232 := rfl
  rw [hr] at hb
  obtain ⟨t, rfl, ht⟩ := good_abytes Try.underlying33 Try.underlying5 (by kernel_rfl) (by kernel_rfl) g2
  match t, ht with
  | [a, b, c, d], _ => exact CrcTurns_spec h0 (by omega) (wf_i64 hn) fun _ => rfl
end Go.AS.C
