import Derived.Test.YtgeoeagohhojbaaAs24
import Derived.Test.YtgeoeagohhojbaaCrcCat
namespace Go.AS.C
open Go Go.Proofs
set_option linter.unusedVariables false
set_option linter.unusedSimpArgs false
set_option maxRecDepth 10000

theorem slices_Equal_spec {A : AH} {u v : Value} {xs ys : List UInt8} {Q : Value → AH → Prop} (hu : Byt A u xs) (hv : Byt A v ys) (hl : xs.length < 2 ^ 62) (hq : Q (.bool (xs == ys)) A) :
    ACalls 0 Try.prog slices_Equal_byte_byte [u, v] Q A := by
  refine ACalls.of_fits mixed fits_slices_Equal_byte_byte rfl ?_
  unfold ic_slices_Equal_byte_byte
  have i0 : initA [u, v] 0 = u := rfl
  have i1 : initA [u, v] 1 = v := rfl
  generalize initA [u, v] = a at i0 i1
  by_cases hlen : xs.length = ys.length
  · have c0 : (((xs.length : Nat) : Int) != ((ys.length : Nat) : Int)) = false := by simp [hlen]
    simp only [W_seq, W_ops, W_draw, W_block, W_skip, W_exit, W_ret, sq_normal, sq_ret, sq_exit, W_condv, condW_true, condW_false, thenA_normal, thenA_ret, thenA_exit, if_true, if_false, Bool.false_eq_true, decide_eq_true_eq, inBlockA_normal, inBlockA_ret, inBlockA_same, inBlockA_other, noGotoA_normal, noGotoA_ret, noGotoA_exit, Wops_nil, Wops_cons, Wops_le, Wops_guard, Wops_guardle, ok1_some, okV_some, kont_at, kontL_at, gdB_true, gdB_false, decide_true, decide_false, ev_tmp, ev_const, ev_func, ev_global, put_some, put_none, upd_same, upd_at, gd_bt, gd_bf, Bool.not_true, Bool.not_false, pick_true, pick_false, pick_b, not_b, W1_mov, W1_pick, W1_new, W1_box, W1_build, W1_lit, W1_load1, W1_loadn, W1_store, W1_nilc, W1_bin, W1_un, W1_conv, W1_b2s, W1_s2b, W1_field1, W1_fieldn, W1_faddr, W1_iaddr, W1_iarr, W1_idxs, W1_idxa1, W1_idxan, W1_sls, W1_sll, W1_sla, W1_mk, W1_ext, W1_fn, W1_ifc, W1_lens, W1_lenc, W1_app, W1_apps, W1_copy, W1_mn, W1_mx, W1_isnil, W1_strc, W1_beq, W1_mks, W1_capn, W1_appz, W1_eqagg, W1_call, List.map_cons, List.map_nil, Option.map_some, Option.map_none, reduceIte, Option.some.injEq, exists_eq_left', Nat.reduceBEq, iv_ii, postA_ret, postA_normal, resVs_nil, resVs_tmp, tupleOf, Int.toNat_natCast, true_and, and_true, Nat.reduceEqDiff, i0, i1, hu.len, hv.len, binA_neq, c0]
    refine W_loop (fun a' A' => A' = A ∧ ∃ k : Nat, k ≤ xs.length ∧ xs.take k = ys.take k ∧ a' 0 = u ∧ a' 1 = v ∧ a' 12 = ii xs.length ∧ a' 13 = ii k) (fun a' _ => (xs.length - (iv (a' 13)).toNat)) ?_ ?_
    · refine ⟨rfl, 0, by omega, rfl, ?_⟩
      simp only [W_seq, W_ops, W_draw, W_block, W_skip, W_exit, W_ret, sq_normal, sq_ret, sq_exit, W_condv, condW_true, condW_false, thenA_normal, thenA_ret, thenA_exit, if_true, if_false, Bool.false_eq_true, decide_eq_true_eq, inBlockA_normal, inBlockA_ret, inBlockA_same, inBlockA_other, noGotoA_normal, noGotoA_ret, noGotoA_exit, Wops_nil, Wops_cons, Wops_le, Wops_guard, Wops_guardle, ok1_some, okV_some, kont_at, kontL_at, gdB_true, gdB_false, decide_true, decide_false, ev_tmp, ev_const, ev_func, ev_global, put_some, put_none, upd_same, upd_at, gd_bt, gd_bf, Bool.not_true, Bool.not_false, pick_true, pick_false, pick_b, not_b, W1_mov, W1_pick, W1_new, W1_box, W1_build, W1_lit, W1_load1, W1_loadn, W1_store, W1_nilc, W1_bin, W1_un, W1_conv, W1_b2s, W1_s2b, W1_field1, W1_fieldn, W1_faddr, W1_iaddr, W1_iarr, W1_idxs, W1_idxa1, W1_idxan, W1_sls, W1_sll, W1_sla, W1_mk, W1_ext, W1_fn, W1_ifc, W1_lens, W1_lenc, W1_app, W1_apps, W1_copy, W1_mn, W1_mx, W1_isnil, W1_strc, W1_beq, W1_mks, W1_capn, W1_appz, W1_eqagg, W1_call, List.map_cons, List.map_nil, Option.map_some, Option.map_none, reduceIte, Option.some.injEq, exists_eq_left', Nat.reduceBEq, iv_ii, postA_ret, postA_normal, resVs_nil, resVs_tmp, tupleOf, Int.toNat_natCast, true_and, and_true, Nat.reduceEqDiff, i0, i1]
      simp
    · rintro a A' ⟨rfl, k, hk, ht, g0, g1, g12, g13⟩
      rcases Nat.lt_or_ge k xs.length with hlt | hge
      · have hc1 : ((k : Int) < (xs.length : Int)) = True := by simp; omega
        obtain ⟨x, hx⟩ : ∃ b, xs[k]? = some b := ⟨_, List.getElem?_eq_getElem (by omega)⟩
        obtain ⟨y, hy⟩ : ∃ b, ys[k]? = some b := ⟨_, List.getElem?_eq_getElem (by omega)⟩
        obtain ⟨p, hp1, hp2⟩ := hu.at1 hx
        obtain ⟨q, hq1, hq2⟩ := hv.at1 hy
        by_cases hxy : x = y
        · have c1 : (x != y) = false := by simp [hxy]
          simp only [W_seq, W_ops, W_draw, W_block, W_skip, W_exit, W_ret, sq_normal, sq_ret, sq_exit, W_condv, condW_true, condW_false, thenA_normal, thenA_ret, thenA_exit, if_true, if_false, Bool.false_eq_true, decide_eq_true_eq, inBlockA_normal, inBlockA_ret, inBlockA_same, inBlockA_other, noGotoA_normal, noGotoA_ret, noGotoA_exit, Wops_nil, Wops_cons, Wops_le, Wops_guard, Wops_guardle, ok1_some, okV_some, kont_at, kontL_at, gdB_true, gdB_false, decide_true, decide_false, ev_tmp, ev_const, ev_func, ev_global, put_some, put_none, upd_same, upd_at, gd_bt, gd_bf, Bool.not_true, Bool.not_false, pick_true, pick_false, pick_b, not_b, W1_mov, W1_pick, W1_new, W1_box, W1_build, W1_lit, W1_load1, W1_loadn, W1_store, W1_nilc, W1_bin, W1_un, W1_conv, W1_b2s, W1_s2b, W1_field1, W1_fieldn, W1_faddr, W1_iaddr, W1_iarr, W1_idxs, W1_idxa1, W1_idxan, W1_sls, W1_sll, W1_sla, W1_mk, W1_ext, W1_fn, W1_ifc, W1_lens, W1_lenc, W1_app, W1_apps, W1_copy, W1_mn, W1_mx, W1_isnil, W1_strc, W1_beq, W1_mks, W1_capn, W1_appz, W1_eqagg, W1_call, List.map_cons, List.map_nil, Option.map_some, Option.map_none, reduceIte, Option.some.injEq, exists_eq_left', Nat.reduceBEq, iv_ii, postA_ret, postA_normal, resVs_nil, resVs_tmp, tupleOf, Int.toNat_natCast, true_and, and_true, Nat.reduceEqDiff, g0, g1, g12, g13, binA_lss, hc1, hp1, hp2, hq1, hq2, binA_ne8, c1, binA_add1 k (by omega)]
          refine ⟨⟨k + 1, by omega, ?_, rfl⟩, by omega⟩
          rw [List.take_add_one, List.take_add_one, hx, hy, ht, hxy]
        · have c1 : (x != y) = true := by simp [hxy]
          simp only [W_seq, W_ops, W_draw, W_block, W_skip, W_exit, W_ret, sq_normal, sq_ret, sq_exit, W_condv, condW_true, condW_false, thenA_normal, thenA_ret, thenA_exit, if_true, if_false, Bool.false_eq_true, decide_eq_true_eq, inBlockA_normal, inBlockA_ret, inBlockA_same, inBlockA_other, noGotoA_normal, noGotoA_ret, noGotoA_exit, Wops_nil, Wops_cons, Wops_le, Wops_guard, Wops_guardle, ok1_some, okV_some, kont_at, kontL_at, gdB_true, gdB_false, decide_true, decide_false, ev_tmp, ev_const, ev_func, ev_global, put_some, put_none, upd_same, upd_at, gd_bt, gd_bf, Bool.not_true, Bool.not_false, pick_true, pick_false, pick_b, not_b, W1_mov, W1_pick, W1_new, W1_box, W1_build, W1_lit, W1_load1, W1_loadn, W1_store, W1_nilc, W1_bin, W1_un, W1_conv, W1_b2s, W1_s2b, W1_field1, W1_fieldn, W1_faddr, W1_iaddr, W1_iarr, W1_idxs, W1_idxa1, W1_idxan, W1_sls, W1_sll, W1_sla, W1_mk, W1_ext, W1_fn, W1_ifc, W1_lens, W1_lenc, W1_app, W1_apps, W1_copy, W1_mn, W1_mx, W1_isnil, W1_strc, W1_beq, W1_mks, W1_capn, W1_appz, W1_eqagg, W1_call, List.map_cons, List.map_nil, Option.map_some, Option.map_none, reduceIte, Option.some.injEq, exists_eq_left', Nat.reduceBEq, iv_ii, postA_ret, postA_normal, resVs_nil, resVs_tmp, tupleOf, Int.toNat_natCast, true_and, and_true, Nat.reduceEqDiff, g0, g1, g12, g13, binA_lss, hc1, hp1, hp2, hq1, hq2, binA_ne8, c1]
          have : (xs == ys) = false := by
            rw [beq_eq_false_iff_ne]
            rintro rfl
            rw [hx] at hy
            exact hxy (Option.some.inj hy)
          rw [this] at hq
          exact hq
      · have hc1 : ((k : Int) < (xs.length : Int)) = False := by simp; omega
        simp only [W_seq, W_ops, W_draw, W_block, W_skip, W_exit, W_ret, sq_normal, sq_ret, sq_exit, W_condv, condW_true, condW_false, thenA_normal, thenA_ret, thenA_exit, if_true, if_false, Bool.false_eq_true, decide_eq_true_eq, inBlockA_normal, inBlockA_ret, inBlockA_same, inBlockA_other, noGotoA_normal, noGotoA_ret, noGotoA_exit, Wops_nil, Wops_cons, Wops_le, Wops_guard, Wops_guardle, ok1_some, okV_some, kont_at, kontL_at, gdB_true, gdB_false, decide_true, decide_false, ev_tmp, ev_const, ev_func, ev_global, put_some, put_none, upd_same, upd_at, gd_bt, gd_bf, Bool.not_true, Bool.not_false, pick_true, pick_false, pick_b, not_b, W1_mov, W1_pick, W1_new, W1_box, W1_build, W1_lit, W1_load1, W1_loadn, W1_store, W1_nilc, W1_bin, W1_un, W1_conv, W1_b2s, W1_s2b, W1_field1, W1_fieldn, W1_faddr, W1_iaddr, W1_iarr, W1_idxs, W1_idxa1, W1_idxan, W1_sls, W1_sll, W1_sla, W1_mk, W1_ext, W1_fn, W1_ifc, W1_lens, W1_lenc, W1_app, W1_apps, W1_copy, W1_mn, W1_mx, W1_isnil, W1_strc, W1_beq, W1_mks, W1_capn, W1_appz, W1_eqagg, W1_call, List.map_cons, List.map_nil, Option.map_some, Option.map_none, reduceIte, Option.some.injEq, exists_eq_left', Nat.reduceBEq, iv_ii, postA_ret, postA_normal, resVs_nil, resVs_tmp, tupleOf, Int.toNat_natCast, true_and, and_true, Nat.reduceEqDiff, g0, g1, g12, g13, binA_lss, hc1]
        have : (xs == ys) = true := by
          rw [beq_iff_eq]
          rw [List.take_of_length_le hge, List.take_of_length_le (by omega)] at ht
          exact ht
        rw [this] at hq
        exact hq
  · have c0 : (((xs.length : Nat) : Int) != ((ys.length : Nat) : Int)) = true := by simp; omega
    simp only [W_seq, W_ops, W_draw, W_block, W_skip, W_exit, W_ret, sq_normal, sq_ret, sq_exit, W_condv, condW_true, condW_false, thenA_normal, thenA_ret, thenA_exit, if_true, if_false, Bool.false_eq_true, decide_eq_true_eq, inBlockA_normal, inBlockA_ret, inBlockA_same, inBlockA_other, noGotoA_normal, noGotoA_ret, noGotoA_exit, Wops_nil, Wops_cons, Wops_le, Wops_guard, Wops_guardle, ok1_some, okV_some, kont_at, kontL_at, gdB_true, gdB_false, decide_true, decide_false, ev_tmp, ev_const, ev_func, ev_global, put_some, put_none, upd_same, upd_at, gd_bt, gd_bf, Bool.not_true, Bool.not_false, pick_true, pick_false, pick_b, not_b, W1_mov, W1_pick, W1_new, W1_box, W1_build, W1_lit, W1_load1, W1_loadn, W1_store, W1_nilc, W1_bin, W1_un, W1_conv, W1_b2s, W1_s2b, W1_field1, W1_fieldn, W1_faddr, W1_iaddr, W1_iarr, W1_idxs, W1_idxa1, W1_idxan, W1_sls, W1_sll, W1_sla, W1_mk, W1_ext, W1_fn, W1_ifc, W1_lens, W1_lenc, W1_app, W1_apps, W1_copy, W1_mn, W1_mx, W1_isnil, W1_strc, W1_beq, W1_mks, W1_capn, W1_appz, W1_eqagg, W1_call, List.map_cons, List.map_nil, Option.map_some, Option.map_none, reduceIte, Option.some.injEq, exists_eq_left', Nat.reduceBEq, iv_ii, postA_ret, postA_normal, resVs_nil, resVs_tmp, tupleOf, Int.toNat_natCast, true_and, and_true, Nat.reduceEqDiff, i0, i1, hu.len, hv.len, binA_neq, c0]
    have : (xs == ys) = false := by
      rw [beq_eq_false_iff_ne]
      rintro rfl
      exact hlen rfl
    rw [this] at hq
    exact hq

theorem slices_Clone_spec {A : AH} {v : Value} {xs : List UInt8} {Q : Value → AH → Prop} (hv : Byt A v xs) (hl : xs.length ≤ 2 ^ 40) (hq : ∀ u A', Le A A' → OwnB A.length A' u xs → Q u A') :
    ACalls 0 Try.prog slices_Clone_byte_byte [v] Q A := by
  refine ACalls.of_fits mixed fits_slices_Clone_byte_byte rfl ?_
  unfold ic_slices_Clone_byte_byte
  have i0 : initA [v] 0 = v := rfl
  generalize initA [v] = a at i0
  obtain ⟨p, c, hs, hp⟩ := hv.shape
  cases p with
  | none =>
    have c1 : (if kindOf (.slice 5) v = true then sIsnil A v false else none) = some (.bool true, A) := by subst hs; rfl
    simp only [W_seq, W_ops, W_draw, W_block, W_skip, W_exit, W_ret, sq_normal, sq_ret, sq_exit, W_condv, condW_true, condW_false, thenA_normal, thenA_ret, thenA_exit, if_true, if_false, Bool.false_eq_true, decide_eq_true_eq, inBlockA_normal, inBlockA_ret, inBlockA_same, inBlockA_other, noGotoA_normal, noGotoA_ret, noGotoA_exit, Wops_nil, Wops_cons, Wops_le, Wops_guard, Wops_guardle, ok1_some, okV_some, kont_at, kontL_at, gdB_true, gdB_false, decide_true, decide_false, ev_tmp, ev_const, ev_func, ev_global, put_some, put_none, upd_same, upd_at, gd_bt, gd_bf, Bool.not_true, Bool.not_false, pick_true, pick_false, pick_b, not_b, W1_mov, W1_pick, W1_new, W1_box, W1_build, W1_lit, W1_load1, W1_loadn, W1_store, W1_nilc, W1_bin, W1_un, W1_conv, W1_b2s, W1_s2b, W1_field1, W1_fieldn, W1_faddr, W1_iaddr, W1_iarr, W1_idxs, W1_idxa1, W1_idxan, W1_sls, W1_sll, W1_sla, W1_mk, W1_ext, W1_fn, W1_ifc, W1_lens, W1_lenc, W1_app, W1_apps, W1_copy, W1_mn, W1_mx, W1_isnil, W1_strc, W1_beq, W1_mks, W1_capn, W1_appz, W1_eqagg, W1_call, List.map_cons, List.map_nil, Option.map_some, Option.map_none, reduceIte, Option.some.injEq, exists_eq_left', Nat.reduceBEq, iv_ii, postA_ret, postA_normal, resVs_nil, resVs_tmp, tupleOf, Int.toNat_natCast, true_and, and_true, Nat.reduceEqDiff, i0, c1]
    rw [hp rfl] at hq
    exact hq _ _ (.refl _) (OwnB.nil _ _)
  | some b =>
    have c1 : (if kindOf (.slice 5) v = true then sIsnil A v false else none) = some (.bool false, A) := by subst hs; rfl
    obtain ⟨v', A', q1, q2, q3, _⟩ := app_bytes (A0 := A) (A := A ++ [.row [] .own 1 true]) (v := .slice (some ⟨A.length, 0, none⟩) 0 0) (bs := []) (.push _ _) (own_lit_none (.refl _)) (hv.le (.push _ _)) (by simp; omega)
    simp only [W_seq, W_ops, W_draw, W_block, W_skip, W_exit, W_ret, sq_normal, sq_ret, sq_exit, W_condv, condW_true, condW_false, thenA_normal, thenA_ret, thenA_exit, if_true, if_false, Bool.false_eq_true, decide_eq_true_eq, inBlockA_normal, inBlockA_ret, inBlockA_same, inBlockA_other, noGotoA_normal, noGotoA_ret, noGotoA_exit, Wops_nil, Wops_cons, Wops_le, Wops_guard, Wops_guardle, ok1_some, okV_some, kont_at, kontL_at, gdB_true, gdB_false, decide_true, decide_false, ev_tmp, ev_const, ev_func, ev_global, put_some, put_none, upd_same, upd_at, gd_bt, gd_bf, Bool.not_true, Bool.not_false, pick_true, pick_false, pick_b, not_b, W1_mov, W1_pick, W1_new, W1_box, W1_build, W1_lit, W1_load1, W1_loadn, W1_store, W1_nilc, W1_bin, W1_un, W1_conv, W1_b2s, W1_s2b, W1_field1, W1_fieldn, W1_faddr, W1_iaddr, W1_iarr, W1_idxs, W1_idxa1, W1_idxan, W1_sls, W1_sll, W1_sla, W1_mk, W1_ext, W1_fn, W1_ifc, W1_lens, W1_lenc, W1_app, W1_apps, W1_copy, W1_mn, W1_mx, W1_isnil, W1_strc, W1_beq, W1_mks, W1_capn, W1_appz, W1_eqagg, W1_call, List.map_cons, List.map_nil, Option.map_some, Option.map_none, reduceIte, Option.some.injEq, exists_eq_left', Nat.reduceBEq, iv_ii, postA_ret, postA_normal, resVs_nil, resVs_tmp, tupleOf, Int.toNat_natCast, true_and, and_true, Nat.reduceEqDiff, i0, c1, lit_none, q1]
    exact hq _ _ q2 q3

theorem num_Fix_own {A : AH} {n w : Nat} {Q : Value → AH → Prop} (h1 : 1 ≤ w) (h4 : w ≤ 4) (hn : n ≤ 2147483647) (hw : n / 2 ^ (8 * w) = 0)
    (hq : ∀ v A', Le A A' → OwnB A.length A' v (leB n w) → Q (.tuple #[v, ii 0]) A') : ACalls 0 Try.prog num_Fix [ii n, ii w] Q A :=
  num_Fix_ok h1 h4 hn hw (hq _ _ (.push _ _) (own_row (get_last _ _) (leB_length n w).symm (Nat.le_refl _) (Nat.le_refl _)))

theorem leB4 (s : BitVec 32) : leB (s &&& 65535#32).toNat 2 ++ leB (s >>> 16).toNat 2 = leB s.toNat 4 := by
  have h := s.isLt
  have e1 : (s &&& 65535#32).toNat = s.toNat % 65536 := by
    rw [BitVec.toNat_and]
    exact Nat.and_two_pow_sub_one_eq_mod s.toNat 16
  have e2 : (s >>> 16).toNat = s.toNat / 65536 := by
    rw [BitVec.toNat_ushiftRight, Nat.shiftRight_eq_div_pow]
  rw [e1, e2]
  have r2 : List.range 2 = [0, 1] := by decide
  have r4 : List.range 4 = [0, 1, 2, 3] := by decide
  unfold leB
  rw [r2, r4]
  simp only [List.map_cons, List.map_nil, List.cons_append, List.nil_append]
  simp only [List.cons.injEq, and_true]
  exact ⟨u8eq (by omega), u8eq (by omega), u8eq (by omega), u8eq (by omega)⟩

theorem h65535 : (Value.int .u32 65535) = u32 65535#32 := rfl
theorem shr16 (a : BitVec 32) : binA .shr (u32 a) (.int .u64 16) = some (u32 (a >>> 16)) := binA_shr32 a .u64 16 (by omega)

theorem crc_tail_spec {A : AH} {s : BitVec 32} {Q : Value → AH → Prop} (hq : ∀ v A', Le A A' → OwnB A.length A' v (leB s.toNat 4) → Q v A') : ACalls 0 Try.prog crc_tail [u32 s] Q A := by
  refine ACalls.of_fits mixed fits_crc_tail rfl ?_
  unfold ic_crc_tail
  have i0 : initA [u32 s] 0 = u32 s := rfl
  generalize initA [u32 s] = a at i0
  have hs := s.isLt
  have e1 : (s &&& 65535#32).toNat = s.toNat % 65536 := by
    rw [BitVec.toNat_and]
    exact Nat.and_two_pow_sub_one_eq_mod s.toNat 16
  have e2 : (s >>> 16).toNat = s.toNat / 65536 := by
    rw [BitVec.toNat_ushiftRight, Nat.shiftRight_eq_div_pow]
  simp only [W_seq, W_ops, W_draw, W_block, W_skip, W_exit, W_ret, sq_normal, sq_ret, sq_exit, W_condv, condW_true, condW_false, thenA_normal, thenA_ret, thenA_exit, if_true, if_false, Bool.false_eq_true, decide_eq_true_eq, inBlockA_normal, inBlockA_ret, inBlockA_same, inBlockA_other, noGotoA_normal, noGotoA_ret, noGotoA_exit, Wops_nil, Wops_cons, Wops_le, Wops_guard, Wops_guardle, ok1_some, okV_some, kont_at, kontL_at, gdB_true, gdB_false, decide_true, decide_false, ev_tmp, ev_const, ev_func, ev_global, put_some, put_none, upd_same, upd_at, gd_bt, gd_bf, Bool.not_true, Bool.not_false, pick_true, pick_false, pick_b, not_b, W1_mov, W1_pick, W1_new, W1_box, W1_build, W1_lit, W1_load1, W1_loadn, W1_store, W1_nilc, W1_bin, W1_un, W1_conv, W1_b2s, W1_s2b, W1_field1, W1_fieldn, W1_faddr, W1_iaddr, W1_iarr, W1_idxs, W1_idxa1, W1_idxan, W1_sls, W1_sll, W1_sla, W1_mk, W1_ext, W1_fn, W1_ifc, W1_lens, W1_lenc, W1_app, W1_apps, W1_copy, W1_mn, W1_mx, W1_isnil, W1_strc, W1_beq, W1_mks, W1_capn, W1_appz, W1_eqagg, W1_call, List.map_cons, List.map_nil, Option.map_some, Option.map_none, reduceIte, Option.some.injEq, exists_eq_left', Nat.reduceBEq, iv_ii, postA_ret, postA_normal, resVs_nil, resVs_tmp, tupleOf, Int.toNat_natCast, true_and, and_true, Nat.reduceEqDiff, i0, h65535, binA_and32, conv_i64_u32]
  refine num_Fix_own (w := 2) (by omega) (by omega) (by omega) (by omega) fun lo A1 hle1 ho1 => ?_
  simp only [W_seq, W_ops, W_draw, W_block, W_skip, W_exit, W_ret, sq_normal, sq_ret, sq_exit, W_condv, condW_true, condW_false, thenA_normal, thenA_ret, thenA_exit, if_true, if_false, Bool.false_eq_true, decide_eq_true_eq, inBlockA_normal, inBlockA_ret, inBlockA_same, inBlockA_other, noGotoA_normal, noGotoA_ret, noGotoA_exit, Wops_nil, Wops_cons, Wops_le, Wops_guard, Wops_guardle, ok1_some, okV_some, kont_at, kontL_at, gdB_true, gdB_false, decide_true, decide_false, ev_tmp, ev_const, ev_func, ev_global, put_some, put_none, upd_same, upd_at, gd_bt, gd_bf, Bool.not_true, Bool.not_false, pick_true, pick_false, pick_b, not_b, W1_mov, W1_pick, W1_new, W1_box, W1_build, W1_lit, W1_load1, W1_loadn, W1_store, W1_nilc, W1_bin, W1_un, W1_conv, W1_b2s, W1_s2b, W1_field1, W1_fieldn, W1_faddr, W1_iaddr, W1_iarr, W1_idxs, W1_idxa1, W1_idxan, W1_sls, W1_sll, W1_sla, W1_mk, W1_ext, W1_fn, W1_ifc, W1_lens, W1_lenc, W1_app, W1_apps, W1_copy, W1_mn, W1_mx, W1_isnil, W1_strc, W1_beq, W1_mks, W1_capn, W1_appz, W1_eqagg, W1_call, List.map_cons, List.map_nil, Option.map_some, Option.map_none, reduceIte, Option.some.injEq, exists_eq_left', Nat.reduceBEq, iv_ii, postA_ret, postA_normal, resVs_nil, resVs_tmp, tupleOf, Int.toNat_natCast, true_and, and_true, Nat.reduceEqDiff, i0, ext0, ext1, shr16, conv_i64_u32]
  refine num_Fix_own (w := 2) (by omega) (by omega) (by omega) (by omega) fun hi A2 hle2 ho2 => ?_
  obtain ⟨p1, c1, hs1, _⟩ := ho1.byt.shape
  obtain ⟨p2, c2, hs2, _⟩ := ho2.byt.shape
  have hlit := lit1 (A := A2) (z := .slice none 0 0) (len := 2) (ps := [(0, 1, lo), (1, 1, hi)]) [lo, hi] rfl rfl (by
    intro x hx
    simp only [List.mem_cons, List.not_mem_nil, or_false] at hx
    rcases hx with rfl | rfl
    · rw [hs1]; exact one1_sl _ _ _
    · rw [hs2]; exact one1_sl _ _ _)
  simp only [W_seq, W_ops, W_draw, W_block, W_skip, W_exit, W_ret, sq_normal, sq_ret, sq_exit, W_condv, condW_true, condW_false, thenA_normal, thenA_ret, thenA_exit, if_true, if_false, Bool.false_eq_true, decide_eq_true_eq, inBlockA_normal, inBlockA_ret, inBlockA_same, inBlockA_other, noGotoA_normal, noGotoA_ret, noGotoA_exit, Wops_nil, Wops_cons, Wops_le, Wops_guard, Wops_guardle, ok1_some, okV_some, kont_at, kontL_at, gdB_true, gdB_false, decide_true, decide_false, ev_tmp, ev_const, ev_func, ev_global, put_some, put_none, upd_same, upd_at, gd_bt, gd_bf, Bool.not_true, Bool.not_false, pick_true, pick_false, pick_b, not_b, W1_mov, W1_pick, W1_new, W1_box, W1_build, W1_lit, W1_load1, W1_loadn, W1_store, W1_nilc, W1_bin, W1_un, W1_conv, W1_b2s, W1_s2b, W1_field1, W1_fieldn, W1_faddr, W1_iaddr, W1_iarr, W1_idxs, W1_idxa1, W1_idxan, W1_sls, W1_sll, W1_sla, W1_mk, W1_ext, W1_fn, W1_ifc, W1_lens, W1_lenc, W1_app, W1_apps, W1_copy, W1_mn, W1_mx, W1_isnil, W1_strc, W1_beq, W1_mks, W1_capn, W1_appz, W1_eqagg, W1_call, List.map_cons, List.map_nil, Option.map_some, Option.map_none, reduceIte, Option.some.injEq, exists_eq_left', Nat.reduceBEq, iv_ii, postA_ret, postA_normal, resVs_nil, resVs_tmp, tupleOf, Int.toNat_natCast, true_and, and_true, Nat.reduceEqDiff, ext0, ext1, hlit]
  have hle3 : Le A2 (A2 ++ [.row [lo, hi] .own 1 true]) := .push _ _
  refine slices_Concat_spec (vs := [lo, hi]) (bss := [leB (s &&& 65535#32).toNat 2, leB (s >>> 16).toNat 2]) ?_ rfl ?_ ?_ ?_ ?_
  · exact ⟨rfl, .inr (.inr ⟨A2.length, 0, 2, [lo, hi], .own, true, rfl, Nat.le_refl _, get_last _ _, by simp, by simp, fun j _ => by rw [Nat.zero_add]⟩)⟩
  · intro j x bs hx hb
    match j with
    | 0 => simp only [List.getElem?_cons_zero, Option.some.injEq] at hx hb; subst hx hb; exact (ho1.byt.le hle2).le hle3
    | 1 => simp only [List.getElem?_cons_succ, List.getElem?_cons_zero, Option.some.injEq] at hx hb; subst hx hb; exact ho2.byt.le hle3
    | j + 2 => simp at hx
  · simp [leB_length]
  · simp
  · intro v A' hle ho
    simp only [W_seq, W_ops, W_draw, W_block, W_skip, W_exit, W_ret, sq_normal, sq_ret, sq_exit, W_condv, condW_true, condW_false, thenA_normal, thenA_ret, thenA_exit, if_true, if_false, Bool.false_eq_true, decide_eq_true_eq, inBlockA_normal, inBlockA_ret, inBlockA_same, inBlockA_other, noGotoA_normal, noGotoA_ret, noGotoA_exit, Wops_nil, Wops_cons, Wops_le, Wops_guard, Wops_guardle, ok1_some, okV_some, kont_at, kontL_at, gdB_true, gdB_false, decide_true, decide_false, ev_tmp, ev_const, ev_func, ev_global, put_some, put_none, upd_same, upd_at, gd_bt, gd_bf, Bool.not_true, Bool.not_false, pick_true, pick_false, pick_b, not_b, W1_mov, W1_pick, W1_new, W1_box, W1_build, W1_lit, W1_load1, W1_loadn, W1_store, W1_nilc, W1_bin, W1_un, W1_conv, W1_b2s, W1_s2b, W1_field1, W1_fieldn, W1_faddr, W1_iaddr, W1_iarr, W1_idxs, W1_idxa1, W1_idxan, W1_sls, W1_sll, W1_sla, W1_mk, W1_ext, W1_fn, W1_ifc, W1_lens, W1_lenc, W1_app, W1_apps, W1_copy, W1_mn, W1_mx, W1_isnil, W1_strc, W1_beq, W1_mks, W1_capn, W1_appz, W1_eqagg, W1_call, List.map_cons, List.map_nil, Option.map_some, Option.map_none, reduceIte, Option.some.injEq, exists_eq_left', Nat.reduceBEq, iv_ii, postA_ret, postA_normal, resVs_nil, resVs_tmp, tupleOf, Int.toNat_natCast, true_and, and_true, Nat.reduceEqDiff]
    refine hq _ _ (((hle1.trans hle2).trans hle3).trans hle) ?_
    have e : [leB (s &&& 65535#32).toNat 2, leB (s >>> 16).toNat 2].flatten = leB s.toNat 4 := by
      rw [← leB4]; simp
    rw [e] at ho
    exact OwnS.mono ho (((hle1.trans hle2).trans hle3).len)

/-- What seals bytes. -/
def sealB (bs : List UInt8) : List UInt8 := bs ++ leB (more 0#32 bs).toNat 4
theorem sealB_length (bs : List UInt8) : (sealB bs).length = bs.length + 4 := by simp [sealB, leB_length]

theorem crc_Seal_spec {A : AH} {v : Value} {bs : List UInt8} {Q : Value → AH → Prop} (hv : Byt A v bs) (hl : bs.length ≤ 2 ^ 39) (hq : ∀ v A', Le A A' → OwnB A.length A' v (sealB bs) → Q v A') :
    ACalls 0 Try.prog crc_Seal [v] Q A := by
  refine ACalls.of_fits mixed fits_crc_Seal rfl ?_
  unfold ic_crc_Seal
  have i0 : initA [v] 0 = v := rfl
  generalize initA [v] = a at i0
  simp only [W_seq, W_ops, W_draw, W_block, W_skip, W_exit, W_ret, sq_normal, sq_ret, sq_exit, W_condv, condW_true, condW_false, thenA_normal, thenA_ret, thenA_exit, if_true, if_false, Bool.false_eq_true, decide_eq_true_eq, inBlockA_normal, inBlockA_ret, inBlockA_same, inBlockA_other, noGotoA_normal, noGotoA_ret, noGotoA_exit, Wops_nil, Wops_cons, Wops_le, Wops_guard, Wops_guardle, ok1_some, okV_some, kont_at, kontL_at, gdB_true, gdB_false, decide_true, decide_false, ev_tmp, ev_const, ev_func, ev_global, put_some, put_none, upd_same, upd_at, gd_bt, gd_bf, Bool.not_true, Bool.not_false, pick_true, pick_false, pick_b, not_b, W1_mov, W1_pick, W1_new, W1_box, W1_build, W1_lit, W1_load1, W1_loadn, W1_store, W1_nilc, W1_bin, W1_un, W1_conv, W1_b2s, W1_s2b, W1_field1, W1_fieldn, W1_faddr, W1_iaddr, W1_iarr, W1_idxs, W1_idxa1, W1_idxan, W1_sls, W1_sll, W1_sla, W1_mk, W1_ext, W1_fn, W1_ifc, W1_lens, W1_lenc, W1_app, W1_apps, W1_copy, W1_mn, W1_mx, W1_isnil, W1_strc, W1_beq, W1_mks, W1_capn, W1_appz, W1_eqagg, W1_call, List.map_cons, List.map_nil, Option.map_some, Option.map_none, reduceIte, Option.some.injEq, exists_eq_left', Nat.reduceBEq, iv_ii, postA_ret, postA_normal, resVs_nil, resVs_tmp, tupleOf, Int.toNat_natCast, true_and, and_true, Nat.reduceEqDiff, i0]
  refine crc_Sum_spec hv (by omega) ?_
  simp only [W_seq, W_ops, W_draw, W_block, W_skip, W_exit, W_ret, sq_normal, sq_ret, sq_exit, W_condv, condW_true, condW_false, thenA_normal, thenA_ret, thenA_exit, if_true, if_false, Bool.false_eq_true, decide_eq_true_eq, inBlockA_normal, inBlockA_ret, inBlockA_same, inBlockA_other, noGotoA_normal, noGotoA_ret, noGotoA_exit, Wops_nil, Wops_cons, Wops_le, Wops_guard, Wops_guardle, ok1_some, okV_some, kont_at, kontL_at, gdB_true, gdB_false, decide_true, decide_false, ev_tmp, ev_const, ev_func, ev_global, put_some, put_none, upd_same, upd_at, gd_bt, gd_bf, Bool.not_true, Bool.not_false, pick_true, pick_false, pick_b, not_b, W1_mov, W1_pick, W1_new, W1_box, W1_build, W1_lit, W1_load1, W1_loadn, W1_store, W1_nilc, W1_bin, W1_un, W1_conv, W1_b2s, W1_s2b, W1_field1, W1_fieldn, W1_faddr, W1_iaddr, W1_iarr, W1_idxs, W1_idxa1, W1_idxan, W1_sls, W1_sll, W1_sla, W1_mk, W1_ext, W1_fn, W1_ifc, W1_lens, W1_lenc, W1_app, W1_apps, W1_copy, W1_mn, W1_mx, W1_isnil, W1_strc, W1_beq, W1_mks, W1_capn, W1_appz, W1_eqagg, W1_call, List.map_cons, List.map_nil, Option.map_some, Option.map_none, reduceIte, Option.some.injEq, exists_eq_left', Nat.reduceBEq, iv_ii, postA_ret, postA_normal, resVs_nil, resVs_tmp, tupleOf, Int.toNat_natCast, true_and, and_true, Nat.reduceEqDiff]
  refine crc_tail_spec fun t A1 hle1 ho1 => ?_
  obtain ⟨p1, c1, hs1, _⟩ := ho1.byt.shape
  obtain ⟨p2, c2, hs2, _⟩ := hv.shape
  have hlit := lit1 (A := A1) (z := .slice none 0 0) (len := 2) (ps := [(0, 1, v), (1, 1, t)]) [v, t] rfl rfl (by
    intro x hx
    simp only [List.mem_cons, List.not_mem_nil, or_false] at hx
    rcases hx with rfl | rfl
    · rw [hs2]; exact one1_sl _ _ _
    · rw [hs1]; exact one1_sl _ _ _)
  simp only [W_seq, W_ops, W_draw, W_block, W_skip, W_exit, W_ret, sq_normal, sq_ret, sq_exit, W_condv, condW_true, condW_false, thenA_normal, thenA_ret, thenA_exit, if_true, if_false, Bool.false_eq_true, decide_eq_true_eq, inBlockA_normal, inBlockA_ret, inBlockA_same, inBlockA_other, noGotoA_normal, noGotoA_ret, noGotoA_exit, Wops_nil, Wops_cons, Wops_le, Wops_guard, Wops_guardle, ok1_some, okV_some, kont_at, kontL_at, gdB_true, gdB_false, decide_true, decide_false, ev_tmp, ev_const, ev_func, ev_global, put_some, put_none, upd_same, upd_at, gd_bt, gd_bf, Bool.not_true, Bool.not_false, pick_true, pick_false, pick_b, not_b, W1_mov, W1_pick, W1_new, W1_box, W1_build, W1_lit, W1_load1, W1_loadn, W1_store, W1_nilc, W1_bin, W1_un, W1_conv, W1_b2s, W1_s2b, W1_field1, W1_fieldn, W1_faddr, W1_iaddr, W1_iarr, W1_idxs, W1_idxa1, W1_idxan, W1_sls, W1_sll, W1_sla, W1_mk, W1_ext, W1_fn, W1_ifc, W1_lens, W1_lenc, W1_app, W1_apps, W1_copy, W1_mn, W1_mx, W1_isnil, W1_strc, W1_beq, W1_mks, W1_capn, W1_appz, W1_eqagg, W1_call, List.map_cons, List.map_nil, Option.map_some, Option.map_none, reduceIte, Option.some.injEq, exists_eq_left', Nat.reduceBEq, iv_ii, postA_ret, postA_normal, resVs_nil, resVs_tmp, tupleOf, Int.toNat_natCast, true_and, and_true, Nat.reduceEqDiff, hlit]
  have hle3 : Le A1 (A1 ++ [.row [v, t] .own 1 true]) := .push _ _
  refine slices_Concat_spec (vs := [v, t]) (bss := [bs, leB (more 0#32 bs).toNat 4]) ?_ rfl ?_ ?_ ?_ ?_
  · exact ⟨rfl, .inr (.inr ⟨A1.length, 0, 2, [v, t], .own, true, rfl, Nat.le_refl _, get_last _ _, by simp, by simp, fun j _ => by rw [Nat.zero_add]⟩)⟩
  · intro j x bs hx hb
    match j with
    | 0 => simp only [List.getElem?_cons_zero, Option.some.injEq] at hx hb; subst hx hb; exact (hv.le hle1).le hle3
    | 1 => simp only [List.getElem?_cons_succ, List.getElem?_cons_zero, Option.some.injEq] at hx hb; subst hx hb; exact ho1.byt.le hle3
    | j + 2 => simp at hx
  · simp [leB_length]; omega
  · simp
  · intro u A' hle ho
    simp only [W_seq, W_ops, W_draw, W_block, W_skip, W_exit, W_ret, sq_normal, sq_ret, sq_exit, W_condv, condW_true, condW_false, thenA_normal, thenA_ret, thenA_exit, if_true, if_false, Bool.false_eq_true, decide_eq_true_eq, inBlockA_normal, inBlockA_ret, inBlockA_same, inBlockA_other, noGotoA_normal, noGotoA_ret, noGotoA_exit, Wops_nil, Wops_cons, Wops_le, Wops_guard, Wops_guardle, ok1_some, okV_some, kont_at, kontL_at, gdB_true, gdB_false, decide_true, decide_false, ev_tmp, ev_const, ev_func, ev_global, put_some, put_none, upd_same, upd_at, gd_bt, gd_bf, Bool.not_true, Bool.not_false, pick_true, pick_false, pick_b, not_b, W1_mov, W1_pick, W1_new, W1_box, W1_build, W1_lit, W1_load1, W1_loadn, W1_store, W1_nilc, W1_bin, W1_un, W1_conv, W1_b2s, W1_s2b, W1_field1, W1_fieldn, W1_faddr, W1_iaddr, W1_iarr, W1_idxs, W1_idxa1, W1_idxan, W1_sls, W1_sll, W1_sla, W1_mk, W1_ext, W1_fn, W1_ifc, W1_lens, W1_lenc, W1_app, W1_apps, W1_copy, W1_mn, W1_mx, W1_isnil, W1_strc, W1_beq, W1_mks, W1_capn, W1_appz, W1_eqagg, W1_call, List.map_cons, List.map_nil, Option.map_some, Option.map_none, reduceIte, Option.some.injEq, exists_eq_left', Nat.reduceBEq, iv_ii, postA_ret, postA_normal, resVs_nil, resVs_tmp, tupleOf, Int.toNat_natCast, true_and, and_true, Nat.reduceEqDiff]
    refine hq _ _ ((hle1.trans hle3).trans hle) ?_
    have e : [bs, leB (more 0#32 bs).toNat 4].flatten = sealB bs := by
      simp [sealB]
    rw [e] at ho
    exact OwnS.mono ho ((hle1.trans hle3).len)

/-- What was sealed is these bytes. -/
def openB (bs : List UInt8) : Option (List UInt8) :=
  if 4 ≤ bs.length ∧ bs.drop (bs.length - 4) = leB (more 0#32 (bs.take (bs.length - 4))).toNat 4 then some (bs.take (bs.length - 4)) else none

theorem crc_Open_spec {A : AH} {v : Value} {bs : List UInt8} {Q : Value → AH → Prop} (hv : Byt A v bs) (hl : bs.length ≤ 2 ^ 39)
    (hok : ∀ x u A', openB bs = some x → Le A A' → OwnB A.length A' u x → Q (.tuple #[u, ii 0]) A') (hbad : ∀ A', openB bs = none → Le A A' → Q (.tuple #[.slice none 0 0, ii 12]) A') :
    ACalls 0 Try.prog crc_Open [v] Q A := by
  refine ACalls.of_fits mixed fits_crc_Open rfl ?_
  unfold ic_crc_Open
  have i0 : initA [v] 0 = v := rfl
  generalize initA [v] = a at i0
  rcases Nat.lt_or_ge bs.length 4 with h4 | h4
  · have c1 : ((bs.length : Int) - 4 < 0) = True := by simp; omega
    simp only [W_seq, W_ops, W_draw, W_block, W_skip, W_exit, W_ret, sq_normal, sq_ret, sq_exit, W_condv, condW_true, condW_false, thenA_normal, thenA_ret, thenA_exit, if_true, if_false, Bool.false_eq_true, decide_eq_true_eq, inBlockA_normal, inBlockA_ret, inBlockA_same, inBlockA_other, noGotoA_normal, noGotoA_ret, noGotoA_exit, Wops_nil, Wops_cons, Wops_le, Wops_guard, Wops_guardle, ok1_some, okV_some, kont_at, kontL_at, gdB_true, gdB_false, decide_true, decide_false, ev_tmp, ev_const, ev_func, ev_global, put_some, put_none, upd_same, upd_at, gd_bt, gd_bf, Bool.not_true, Bool.not_false, pick_true, pick_false, pick_b, not_b, W1_mov, W1_pick, W1_new, W1_box, W1_build, W1_lit, W1_load1, W1_loadn, W1_store, W1_nilc, W1_bin, W1_un, W1_conv, W1_b2s, W1_s2b, W1_field1, W1_fieldn, W1_faddr, W1_iaddr, W1_iarr, W1_idxs, W1_idxa1, W1_idxan, W1_sls, W1_sll, W1_sla, W1_mk, W1_ext, W1_fn, W1_ifc, W1_lens, W1_lenc, W1_app, W1_apps, W1_copy, W1_mn, W1_mx, W1_isnil, W1_strc, W1_beq, W1_mks, W1_capn, W1_appz, W1_eqagg, W1_call, List.map_cons, List.map_nil, Option.map_some, Option.map_none, reduceIte, Option.some.injEq, exists_eq_left', Nat.reduceBEq, iv_ii, postA_ret, postA_normal, resVs_nil, resVs_tmp, tupleOf, Int.toNat_natCast, true_and, and_true, Nat.reduceEqDiff, i0, hv.len, binA_subi (bs.length : Int) 4 (by omega) (by omega), binA_lss, c1]
    refine hbad _ ?_ (.refl _)
    unfold openB
    rw [if_neg (by omega)]
  · have c1 : ((bs.length : Int) - 4 < 0) = False := by simp; omega
    have c2 : binA .sub (ii (bs.length : Int)) (ii 4) = some (ii ((bs.length - 4 : Nat) : Int)) := by
      rw [binA_subi (bs.length : Int) 4 (by omega) (by omega)]
      congr 2; omega
    have c3 : (((bs.length - 4 : Nat) : Int) < 0) = False := by simp
    obtain ⟨u1, d1, d2⟩ := hv.from (l := bs.length - 4) (by omega)
    obtain ⟨u2, d3, d4⟩ := hv.upto (k := bs.length - 4) (by omega)
    simp only [W_seq, W_ops, W_draw, W_block, W_skip, W_exit, W_ret, sq_normal, sq_ret, sq_exit, W_condv, condW_true, condW_false, thenA_normal, thenA_ret, thenA_exit, if_true, if_false, Bool.false_eq_true, decide_eq_true_eq, inBlockA_normal, inBlockA_ret, inBlockA_same, inBlockA_other, noGotoA_normal, noGotoA_ret, noGotoA_exit, Wops_nil, Wops_cons, Wops_le, Wops_guard, Wops_guardle, ok1_some, okV_some, kont_at, kontL_at, gdB_true, gdB_false, decide_true, decide_false, ev_tmp, ev_const, ev_func, ev_global, put_some, put_none, upd_same, upd_at, gd_bt, gd_bf, Bool.not_true, Bool.not_false, pick_true, pick_false, pick_b, not_b, W1_mov, W1_pick, W1_new, W1_box, W1_build, W1_lit, W1_load1, W1_loadn, W1_store, W1_nilc, W1_bin, W1_un, W1_conv, W1_b2s, W1_s2b, W1_field1, W1_fieldn, W1_faddr, W1_iaddr, W1_iarr, W1_idxs, W1_idxa1, W1_idxan, W1_sls, W1_sll, W1_sla, W1_mk, W1_ext, W1_fn, W1_ifc, W1_lens, W1_lenc, W1_app, W1_apps, W1_copy, W1_mn, W1_mx, W1_isnil, W1_strc, W1_beq, W1_mks, W1_capn, W1_appz, W1_eqagg, W1_call, List.map_cons, List.map_nil, Option.map_some, Option.map_none, reduceIte, Option.some.injEq, exists_eq_left', Nat.reduceBEq, iv_ii, postA_ret, postA_normal, resVs_nil, resVs_tmp, tupleOf, Int.toNat_natCast, true_and, and_true, Nat.reduceEqDiff, i0, hv.len, c2, binA_lss, c3, d1, d3]
    refine crc_Sum_spec d4 (by rw [List.length_take]; omega) ?_
    simp only [W_seq, W_ops, W_draw, W_block, W_skip, W_exit, W_ret, sq_normal, sq_ret, sq_exit, W_condv, condW_true, condW_false, thenA_normal, thenA_ret, thenA_exit, if_true, if_false, Bool.false_eq_true, decide_eq_true_eq, inBlockA_normal, inBlockA_ret, inBlockA_same, inBlockA_other, noGotoA_normal, noGotoA_ret, noGotoA_exit, Wops_nil, Wops_cons, Wops_le, Wops_guard, Wops_guardle, ok1_some, okV_some, kont_at, kontL_at, gdB_true, gdB_false, decide_true, decide_false, ev_tmp, ev_const, ev_func, ev_global, put_some, put_none, upd_same, upd_at, gd_bt, gd_bf, Bool.not_true, Bool.not_false, pick_true, pick_false, pick_b, not_b, W1_mov, W1_pick, W1_new, W1_box, W1_build, W1_lit, W1_load1, W1_loadn, W1_store, W1_nilc, W1_bin, W1_un, W1_conv, W1_b2s, W1_s2b, W1_field1, W1_fieldn, W1_faddr, W1_iaddr, W1_iarr, W1_idxs, W1_idxa1, W1_idxan, W1_sls, W1_sll, W1_sla, W1_mk, W1_ext, W1_fn, W1_ifc, W1_lens, W1_lenc, W1_app, W1_apps, W1_copy, W1_mn, W1_mx, W1_isnil, W1_strc, W1_beq, W1_mks, W1_capn, W1_appz, W1_eqagg, W1_call, List.map_cons, List.map_nil, Option.map_some, Option.map_none, reduceIte, Option.some.injEq, exists_eq_left', Nat.reduceBEq, iv_ii, postA_ret, postA_normal, resVs_nil, resVs_tmp, tupleOf, Int.toNat_natCast, true_and, and_true, Nat.reduceEqDiff]
    refine ⟨.refl _, ?_⟩
    refine crc_tail_spec fun t A1 hle1 ho1 => ?_
    simp only [W_seq, W_ops, W_draw, W_block, W_skip, W_exit, W_ret, sq_normal, sq_ret, sq_exit, W_condv, condW_true, condW_false, thenA_normal, thenA_ret, thenA_exit, if_true, if_false, Bool.false_eq_true, decide_eq_true_eq, inBlockA_normal, inBlockA_ret, inBlockA_same, inBlockA_other, noGotoA_normal, noGotoA_ret, noGotoA_exit, Wops_nil, Wops_cons, Wops_le, Wops_guard, Wops_guardle, ok1_some, okV_some, kont_at, kontL_at, gdB_true, gdB_false, decide_true, decide_false, ev_tmp, ev_const, ev_func, ev_global, put_some, put_none, upd_same, upd_at, gd_bt, gd_bf, Bool.not_true, Bool.not_false, pick_true, pick_false, pick_b, not_b, W1_mov, W1_pick, W1_new, W1_box, W1_build, W1_lit, W1_load1, W1_loadn, W1_store, W1_nilc, W1_bin, W1_un, W1_conv, W1_b2s, W1_s2b, W1_field1, W1_fieldn, W1_faddr, W1_iaddr, W1_iarr, W1_idxs, W1_idxa1, W1_idxan, W1_sls, W1_sll, W1_sla, W1_mk, W1_ext, W1_fn, W1_ifc, W1_lens, W1_lenc, W1_app, W1_apps, W1_copy, W1_mn, W1_mx, W1_isnil, W1_strc, W1_beq, W1_mks, W1_capn, W1_appz, W1_eqagg, W1_call, List.map_cons, List.map_nil, Option.map_some, Option.map_none, reduceIte, Option.some.injEq, exists_eq_left', Nat.reduceBEq, iv_ii, postA_ret, postA_normal, resVs_nil, resVs_tmp, tupleOf, Int.toNat_natCast, true_and, and_true, Nat.reduceEqDiff]
    refine ⟨hle1, ?_⟩
    refine slices_Equal_spec (d2.le hle1) ho1.byt (by rw [List.length_drop]; omega) ?_
    by_cases he : bs.drop (bs.length - 4) = leB (more 0#32 (bs.take (bs.length - 4))).toNat 4
    · have c4 : (bs.drop (bs.length - 4) == leB (more 0#32 (bs.take (bs.length - 4))).toNat 4) = true := by simp [he]
      obtain ⟨u3, d5, d6⟩ := (hv.le hle1).upto (k := bs.length - 4) (by omega)
      simp only [W_seq, W_ops, W_draw, W_block, W_skip, W_exit, W_ret, sq_normal, sq_ret, sq_exit, W_condv, condW_true, condW_false, thenA_normal, thenA_ret, thenA_exit, if_true, if_false, Bool.false_eq_true, decide_eq_true_eq, inBlockA_normal, inBlockA_ret, inBlockA_same, inBlockA_other, noGotoA_normal, noGotoA_ret, noGotoA_exit, Wops_nil, Wops_cons, Wops_le, Wops_guard, Wops_guardle, ok1_some, okV_some, kont_at, kontL_at, gdB_true, gdB_false, decide_true, decide_false, ev_tmp, ev_const, ev_func, ev_global, put_some, put_none, upd_same, upd_at, gd_bt, gd_bf, Bool.not_true, Bool.not_false, pick_true, pick_false, pick_b, not_b, W1_mov, W1_pick, W1_new, W1_box, W1_build, W1_lit, W1_load1, W1_loadn, W1_store, W1_nilc, W1_bin, W1_un, W1_conv, W1_b2s, W1_s2b, W1_field1, W1_fieldn, W1_faddr, W1_iaddr, W1_iarr, W1_idxs, W1_idxa1, W1_idxan, W1_sls, W1_sll, W1_sla, W1_mk, W1_ext, W1_fn, W1_ifc, W1_lens, W1_lenc, W1_app, W1_apps, W1_copy, W1_mn, W1_mx, W1_isnil, W1_strc, W1_beq, W1_mks, W1_capn, W1_appz, W1_eqagg, W1_call, List.map_cons, List.map_nil, Option.map_some, Option.map_none, reduceIte, Option.some.injEq, exists_eq_left', Nat.reduceBEq, iv_ii, postA_ret, postA_normal, resVs_nil, resVs_tmp, tupleOf, Int.toNat_natCast, true_and, and_true, Nat.reduceEqDiff, c4, i0, d5]
      refine slices_Clone_spec d6 (by rw [List.length_take]; omega) fun u A2 hle2 ho2 => ?_
      simp only [W_seq, W_ops, W_draw, W_block, W_skip, W_exit, W_ret, sq_normal, sq_ret, sq_exit, W_condv, condW_true, condW_false, thenA_normal, thenA_ret, thenA_exit, if_true, if_false, Bool.false_eq_true, decide_eq_true_eq, inBlockA_normal, inBlockA_ret, inBlockA_same, inBlockA_other, noGotoA_normal, noGotoA_ret, noGotoA_exit, Wops_nil, Wops_cons, Wops_le, Wops_guard, Wops_guardle, ok1_some, okV_some, kont_at, kontL_at, gdB_true, gdB_false, decide_true, decide_false, ev_tmp, ev_const, ev_func, ev_global, put_some, put_none, upd_same, upd_at, gd_bt, gd_bf, Bool.not_true, Bool.not_false, pick_true, pick_false, pick_b, not_b, W1_mov, W1_pick, W1_new, W1_box, W1_build, W1_lit, W1_load1, W1_loadn, W1_store, W1_nilc, W1_bin, W1_un, W1_conv, W1_b2s, W1_s2b, W1_field1, W1_fieldn, W1_faddr, W1_iaddr, W1_iarr, W1_idxs, W1_idxa1, W1_idxan, W1_sls, W1_sll, W1_sla, W1_mk, W1_ext, W1_fn, W1_ifc, W1_lens, W1_lenc, W1_app, W1_apps, W1_copy, W1_mn, W1_mx, W1_isnil, W1_strc, W1_beq, W1_mks, W1_capn, W1_appz, W1_eqagg, W1_call, List.map_cons, List.map_nil, Option.map_some, Option.map_none, reduceIte, Option.some.injEq, exists_eq_left', Nat.reduceBEq, iv_ii, postA_ret, postA_normal, resVs_nil, resVs_tmp, tupleOf, Int.toNat_natCast, true_and, and_true, Nat.reduceEqDiff]
      refine hok _ _ _ ?_ (hle1.trans hle2) (OwnS.mono ho2 hle1.len)
      unfold openB
      rw [if_pos ⟨h4, he⟩]
    · have c4 : (bs.drop (bs.length - 4) == leB (more 0#32 (bs.take (bs.length - 4))).toNat 4) = false := by simp [he]
      simp only [W_seq, W_ops, W_draw, W_block, W_skip, W_exit, W_ret, sq_normal, sq_ret, sq_exit, W_condv, condW_true, condW_false, thenA_normal, thenA_ret, thenA_exit, if_true, if_false, Bool.false_eq_true, decide_eq_true_eq, inBlockA_normal, inBlockA_ret, inBlockA_same, inBlockA_other, noGotoA_normal, noGotoA_ret, noGotoA_exit, Wops_nil, Wops_cons, Wops_le, Wops_guard, Wops_guardle, ok1_some, okV_some, kont_at, kontL_at, gdB_true, gdB_false, decide_true, decide_false, ev_tmp, ev_const, ev_func, ev_global, put_some, put_none, upd_same, upd_at, gd_bt, gd_bf, Bool.not_true, Bool.not_false, pick_true, pick_false, pick_b, not_b, W1_mov, W1_pick, W1_new, W1_box, W1_build, W1_lit, W1_load1, W1_loadn, W1_store, W1_nilc, W1_bin, W1_un, W1_conv, W1_b2s, W1_s2b, W1_field1, W1_fieldn, W1_faddr, W1_iaddr, W1_iarr, W1_idxs, W1_idxa1, W1_idxan, W1_sls, W1_sll, W1_sla, W1_mk, W1_ext, W1_fn, W1_ifc, W1_lens, W1_lenc, W1_app, W1_apps, W1_copy, W1_mn, W1_mx, W1_isnil, W1_strc, W1_beq, W1_mks, W1_capn, W1_appz, W1_eqagg, W1_call, List.map_cons, List.map_nil, Option.map_some, Option.map_none, reduceIte, Option.some.injEq, exists_eq_left', Nat.reduceBEq, iv_ii, postA_ret, postA_normal, resVs_nil, resVs_tmp, tupleOf, Int.toNat_natCast, true_and, and_true, Nat.reduceEqDiff, c4, i0]
      refine hbad _ ?_ hle1
      unfold openB
      rw [if_neg (fun h => he h.2)]
end Go.AS.C
