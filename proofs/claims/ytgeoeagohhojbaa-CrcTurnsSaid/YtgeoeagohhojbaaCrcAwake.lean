import Derived.Test.YtgeoeagohhojbaaCrcEnds
namespace Go.AS.C
open Go Go.Proofs
set_option linter.unusedVariables false
set_option linter.unusedSimpArgs false
set_option maxRecDepth 10000

theorem openB_sealB (bs : List UInt8) : openB (sealB bs) = some bs := by
  unfold openB
  have e : (sealB bs).length - 4 = bs.length := by rw [sealB_length]; omega
  have h1 : (sealB bs).take bs.length = bs := by unfold sealB; simp
  have h2 : (sealB bs).drop bs.length = leB (more 0#32 bs).toNat 4 := by unfold sealB; simp
  rw [e, h1, h2, if_pos ⟨by rw [sealB_length]; omega, rfl⟩]
theorem openB_iff {bs x : List UInt8} : openB bs = some x ↔ bs = sealB x := by
  constructor
  · intro h
    unfold openB at h
    split at h
    · rename_i hc
      injection h with h
      rw [h] at hc
      unfold sealB
      rw [← hc.2, ← h]
      simp
    · cases h
  · rintro rfl
    exact openB_sealB x

def b9 : List UInt8 := [49, 50, 51, 52, 53, 54, 55, 56, 57]
def tAB : List UInt8 := [97, 98]
def tAF : List UInt8 := [97, 98, 99, 100, 101, 102]
def tAC : List UInt8 := [97, 98, 99]
def t14 : List UInt8 := [49, 50, 51, 52]
def t59 : List UInt8 := [53, 54, 55, 56, 57]
theorem sum9 : more 0#32 b9 = 3808858755#32 := by decide +kernel
theorem sum45 : more (more 0#32 t14) t59 = 3808858755#32 := by decide +kernel
theorem sum0 : more 0#32 [] = 0#32 := by decide +kernel
theorem open6 : openB tAF = none := by decide +kernel
theorem open3 : openB tAC = none := by decide +kernel
theorem h38 : (Value.int .u32 3808858755) = u32 3808858755#32 := rfl

theorem awake_spec {A : AH} {Q : Value → AH → Prop} (hq : ∀ A', Le A A' → Q (.bool true) A') : ACalls 0 Try.prog chantrylaw02_awake [] Q A := by
  refine ACalls.of_fits mixed fits_chantrylaw02_awake rfl ?_
  unfold ic_chantrylaw02_awake
  generalize initA [] = a
  have l1 := litB A tAB (len := 2) (ps := [(0, 1, .int .u8 97), (1, 1, .int .u8 98)]) rfl rfl
  have m1 := mks_last A (sz := 1) (cs := List.map by8 tAB) (ex := true) (n := tAB.length) (c := tAB.length) (by decide)
  simp only [W_seq, W_ops, W_draw, W_block, W_skip, W_exit, W_ret, sq_normal, sq_ret, sq_exit, W_condv, condW_true, condW_false, thenA_normal, thenA_ret, thenA_exit, if_true, if_false, Bool.false_eq_true, decide_eq_true_eq, inBlockA_normal, inBlockA_ret, inBlockA_same, inBlockA_other, noGotoA_normal, noGotoA_ret, noGotoA_exit, Wops_nil, Wops_cons, Wops_le, Wops_guard, Wops_guardle, ok1_some, okV_some, kont_at, kontL_at, gdB_true, gdB_false, decide_true, decide_false, ev_tmp, ev_const, ev_func, ev_global, put_some, put_none, upd_same, upd_at, gd_bt, gd_bf, Bool.not_true, Bool.not_false, pick_true, pick_false, pick_b, not_b, W1_mov, W1_pick, W1_new, W1_box, W1_build, W1_lit, W1_load1, W1_loadn, W1_store, W1_nilc, W1_bin, W1_un, W1_conv, W1_b2s, W1_s2b, W1_field1, W1_fieldn, W1_faddr, W1_iaddr, W1_iarr, W1_idxs, W1_idxa1, W1_idxan, W1_sls, W1_sll, W1_sla, W1_mk, W1_ext, W1_fn, W1_ifc, W1_lens, W1_lenc, W1_app, W1_apps, W1_copy, W1_mn, W1_mx, W1_isnil, W1_strc, W1_beq, W1_mks, W1_capn, W1_appz, W1_eqagg, W1_call, List.map_cons, List.map_nil, Option.map_some, Option.map_none, reduceIte, Option.some.injEq, exists_eq_left', Nat.reduceBEq, iv_ii, postA_ret, postA_normal, resVs_nil, resVs_tmp, tupleOf, Int.toNat_natCast, true_and, and_true, Nat.reduceEqDiff, l1, m1]
  have hle0 : Le A (A ++ [.row (tAB.map by8) .own 1 true]) := .push _ _
  refine crc_Seal_spec (byt_last A tAB) (by decide) fun s A1 hle1 ho1 => ?_
  simp only [W_seq, W_ops, W_draw, W_block, W_skip, W_exit, W_ret, sq_normal, sq_ret, sq_exit, W_condv, condW_true, condW_false, thenA_normal, thenA_ret, thenA_exit, if_true, if_false, Bool.false_eq_true, decide_eq_true_eq, inBlockA_normal, inBlockA_ret, inBlockA_same, inBlockA_other, noGotoA_normal, noGotoA_ret, noGotoA_exit, Wops_nil, Wops_cons, Wops_le, Wops_guard, Wops_guardle, ok1_some, okV_some, kont_at, kontL_at, gdB_true, gdB_false, decide_true, decide_false, ev_tmp, ev_const, ev_func, ev_global, put_some, put_none, upd_same, upd_at, gd_bt, gd_bf, Bool.not_true, Bool.not_false, pick_true, pick_false, pick_b, not_b, W1_mov, W1_pick, W1_new, W1_box, W1_build, W1_lit, W1_load1, W1_loadn, W1_store, W1_nilc, W1_bin, W1_un, W1_conv, W1_b2s, W1_s2b, W1_field1, W1_fieldn, W1_faddr, W1_iaddr, W1_iarr, W1_idxs, W1_idxa1, W1_idxan, W1_sls, W1_sll, W1_sla, W1_mk, W1_ext, W1_fn, W1_ifc, W1_lens, W1_lenc, W1_app, W1_apps, W1_copy, W1_mn, W1_mx, W1_isnil, W1_strc, W1_beq, W1_mks, W1_capn, W1_appz, W1_eqagg, W1_call, List.map_cons, List.map_nil, Option.map_some, Option.map_none, reduceIte, Option.some.injEq, exists_eq_left', Nat.reduceBEq, iv_ii, postA_ret, postA_normal, resVs_nil, resVs_tmp, tupleOf, Int.toNat_natCast, true_and, and_true, Nat.reduceEqDiff]
  refine crc_Open_spec ho1.byt (by decide) (fun x u A2 hx hle2 ho2 => ?_) (fun A2 hx _ => by rw [openB_sealB] at hx; cases hx)
  rw [openB_sealB] at hx
  obtain rfl := Option.some.inj hx
  have l2 := litB A2 tAF (len := 6) (ps := [(0, 1, .int .u8 97), (1, 1, .int .u8 98), (2, 1, .int .u8 99), (3, 1, .int .u8 100), (4, 1, .int .u8 101), (5, 1, .int .u8 102)]) rfl rfl
  have m2 := mks_last A2 (sz := 1) (cs := List.map by8 tAF) (ex := true) (n := tAF.length) (c := tAF.length) (by decide)
  have k2 : Le A2 (A2 ++ [.row (tAF.map by8) .own 1 true]) := .push _ _
  simp only [W_seq, W_ops, W_draw, W_block, W_skip, W_exit, W_ret, sq_normal, sq_ret, sq_exit, W_condv, condW_true, condW_false, thenA_normal, thenA_ret, thenA_exit, if_true, if_false, Bool.false_eq_true, decide_eq_true_eq, inBlockA_normal, inBlockA_ret, inBlockA_same, inBlockA_other, noGotoA_normal, noGotoA_ret, noGotoA_exit, Wops_nil, Wops_cons, Wops_le, Wops_guard, Wops_guardle, ok1_some, okV_some, kont_at, kontL_at, gdB_true, gdB_false, decide_true, decide_false, ev_tmp, ev_const, ev_func, ev_global, put_some, put_none, upd_same, upd_at, gd_bt, gd_bf, Bool.not_true, Bool.not_false, pick_true, pick_false, pick_b, not_b, W1_mov, W1_pick, W1_new, W1_box, W1_build, W1_lit, W1_load1, W1_loadn, W1_store, W1_nilc, W1_bin, W1_un, W1_conv, W1_b2s, W1_s2b, W1_field1, W1_fieldn, W1_faddr, W1_iaddr, W1_iarr, W1_idxs, W1_idxa1, W1_idxan, W1_sls, W1_sll, W1_sla, W1_mk, W1_ext, W1_fn, W1_ifc, W1_lens, W1_lenc, W1_app, W1_apps, W1_copy, W1_mn, W1_mx, W1_isnil, W1_strc, W1_beq, W1_mks, W1_capn, W1_appz, W1_eqagg, W1_call, List.map_cons, List.map_nil, Option.map_some, Option.map_none, reduceIte, Option.some.injEq, exists_eq_left', Nat.reduceBEq, iv_ii, postA_ret, postA_normal, resVs_nil, resVs_tmp, tupleOf, Int.toNat_natCast, true_and, and_true, Nat.reduceEqDiff, ext0, ext1, l2, m2]
  refine crc_Open_spec (byt_last A2 tAF) (by decide) (fun x u A3 hx _ _ => by rw [open6] at hx; cases hx) (fun A3 _ hle3 => ?_)
  have l3 := litB A3 tAC (len := 3) (ps := [(0, 1, .int .u8 97), (1, 1, .int .u8 98), (2, 1, .int .u8 99)]) rfl rfl
  have m3 := mks_last A3 (sz := 1) (cs := List.map by8 tAC) (ex := true) (n := tAC.length) (c := tAC.length) (by decide)
  have k3 : Le A3 (A3 ++ [.row (tAC.map by8) .own 1 true]) := .push _ _
  simp only [W_seq, W_ops, W_draw, W_block, W_skip, W_exit, W_ret, sq_normal, sq_ret, sq_exit, W_condv, condW_true, condW_false, thenA_normal, thenA_ret, thenA_exit, if_true, if_false, Bool.false_eq_true, decide_eq_true_eq, inBlockA_normal, inBlockA_ret, inBlockA_same, inBlockA_other, noGotoA_normal, noGotoA_ret, noGotoA_exit, Wops_nil, Wops_cons, Wops_le, Wops_guard, Wops_guardle, ok1_some, okV_some, kont_at, kontL_at, gdB_true, gdB_false, decide_true, decide_false, ev_tmp, ev_const, ev_func, ev_global, put_some, put_none, upd_same, upd_at, gd_bt, gd_bf, Bool.not_true, Bool.not_false, pick_true, pick_false, pick_b, not_b, W1_mov, W1_pick, W1_new, W1_box, W1_build, W1_lit, W1_load1, W1_loadn, W1_store, W1_nilc, W1_bin, W1_un, W1_conv, W1_b2s, W1_s2b, W1_field1, W1_fieldn, W1_faddr, W1_iaddr, W1_iarr, W1_idxs, W1_idxa1, W1_idxan, W1_sls, W1_sll, W1_sla, W1_mk, W1_ext, W1_fn, W1_ifc, W1_lens, W1_lenc, W1_app, W1_apps, W1_copy, W1_mn, W1_mx, W1_isnil, W1_strc, W1_beq, W1_mks, W1_capn, W1_appz, W1_eqagg, W1_call, List.map_cons, List.map_nil, Option.map_some, Option.map_none, reduceIte, Option.some.injEq, exists_eq_left', Nat.reduceBEq, iv_ii, postA_ret, postA_normal, resVs_nil, resVs_tmp, tupleOf, Int.toNat_natCast, true_and, and_true, Nat.reduceEqDiff, ext0, ext1, l3, m3]
  refine crc_Open_spec (byt_last A3 tAC) (by decide) (fun x u A4 hx _ _ => by rw [open3] at hx; cases hx) (fun A4 _ hle4 => ?_)
  have l4 := litB A4 b9 (len := 9) (ps := [(0, 1, .int .u8 49), (1, 1, .int .u8 50), (2, 1, .int .u8 51), (3, 1, .int .u8 52), (4, 1, .int .u8 53), (5, 1, .int .u8 54), (6, 1, .int .u8 55), (7, 1, .int .u8 56), (8, 1, .int .u8 57)]) rfl rfl
  have m4 := mks_last A4 (sz := 1) (cs := List.map by8 b9) (ex := true) (n := b9.length) (c := b9.length) (by decide)
  have k4 : Le A4 (A4 ++ [.row (b9.map by8) .own 1 true]) := .push _ _
  simp only [W_seq, W_ops, W_draw, W_block, W_skip, W_exit, W_ret, sq_normal, sq_ret, sq_exit, W_condv, condW_true, condW_false, thenA_normal, thenA_ret, thenA_exit, if_true, if_false, Bool.false_eq_true, decide_eq_true_eq, inBlockA_normal, inBlockA_ret, inBlockA_same, inBlockA_other, noGotoA_normal, noGotoA_ret, noGotoA_exit, Wops_nil, Wops_cons, Wops_le, Wops_guard, Wops_guardle, ok1_some, okV_some, kont_at, kontL_at, gdB_true, gdB_false, decide_true, decide_false, ev_tmp, ev_const, ev_func, ev_global, put_some, put_none, upd_same, upd_at, gd_bt, gd_bf, Bool.not_true, Bool.not_false, pick_true, pick_false, pick_b, not_b, W1_mov, W1_pick, W1_new, W1_box, W1_build, W1_lit, W1_load1, W1_loadn, W1_store, W1_nilc, W1_bin, W1_un, W1_conv, W1_b2s, W1_s2b, W1_field1, W1_fieldn, W1_faddr, W1_iaddr, W1_iarr, W1_idxs, W1_idxa1, W1_idxan, W1_sls, W1_sll, W1_sla, W1_mk, W1_ext, W1_fn, W1_ifc, W1_lens, W1_lenc, W1_app, W1_apps, W1_copy, W1_mn, W1_mx, W1_isnil, W1_strc, W1_beq, W1_mks, W1_capn, W1_appz, W1_eqagg, W1_call, List.map_cons, List.map_nil, Option.map_some, Option.map_none, reduceIte, Option.some.injEq, exists_eq_left', Nat.reduceBEq, iv_ii, postA_ret, postA_normal, resVs_nil, resVs_tmp, tupleOf, Int.toNat_natCast, true_and, and_true, Nat.reduceEqDiff, ext0, ext1, l4, m4]
  refine crc_Sum_spec (byt_last A4 b9) (by decide) ?_
  rw [sum9]
  generalize (A4 ++ [.row (b9.map by8) .own 1 true]) = A5 at k4 ⊢
  have l5 := litB A5 t14 (len := 4) (ps := [(0, 1, .int .u8 49), (1, 1, .int .u8 50), (2, 1, .int .u8 51), (3, 1, .int .u8 52)]) rfl rfl
  have m5 := mks_last A5 (sz := 1) (cs := List.map by8 t14) (ex := true) (n := t14.length) (c := t14.length) (by decide)
  have k5 : Le A5 (A5 ++ [.row (t14.map by8) .own 1 true]) := .push _ _
  simp only [W_seq, W_ops, W_draw, W_block, W_skip, W_exit, W_ret, sq_normal, sq_ret, sq_exit, W_condv, condW_true, condW_false, thenA_normal, thenA_ret, thenA_exit, if_true, if_false, Bool.false_eq_true, decide_eq_true_eq, inBlockA_normal, inBlockA_ret, inBlockA_same, inBlockA_other, noGotoA_normal, noGotoA_ret, noGotoA_exit, Wops_nil, Wops_cons, Wops_le, Wops_guard, Wops_guardle, ok1_some, okV_some, kont_at, kontL_at, gdB_true, gdB_false, decide_true, decide_false, ev_tmp, ev_const, ev_func, ev_global, put_some, put_none, upd_same, upd_at, gd_bt, gd_bf, Bool.not_true, Bool.not_false, pick_true, pick_false, pick_b, not_b, W1_mov, W1_pick, W1_new, W1_box, W1_build, W1_lit, W1_load1, W1_loadn, W1_store, W1_nilc, W1_bin, W1_un, W1_conv, W1_b2s, W1_s2b, W1_field1, W1_fieldn, W1_faddr, W1_iaddr, W1_iarr, W1_idxs, W1_idxa1, W1_idxan, W1_sls, W1_sll, W1_sla, W1_mk, W1_ext, W1_fn, W1_ifc, W1_lens, W1_lenc, W1_app, W1_apps, W1_copy, W1_mn, W1_mx, W1_isnil, W1_strc, W1_beq, W1_mks, W1_capn, W1_appz, W1_eqagg, W1_call, List.map_cons, List.map_nil, Option.map_some, Option.map_none, reduceIte, Option.some.injEq, exists_eq_left', Nat.reduceBEq, iv_ii, postA_ret, postA_normal, resVs_nil, resVs_tmp, tupleOf, Int.toNat_natCast, true_and, and_true, Nat.reduceEqDiff, h38, binA_eq32, BEq.rfl, l5, m5]
  refine crc_Sum_spec (byt_last A5 t14) (by decide) ?_
  generalize (A5 ++ [.row (t14.map by8) .own 1 true]) = A6 at k5 ⊢
  have l6 := litB A6 t59 (len := 5) (ps := [(0, 1, .int .u8 53), (1, 1, .int .u8 54), (2, 1, .int .u8 55), (3, 1, .int .u8 56), (4, 1, .int .u8 57)]) rfl rfl
  have m6 := mks_last A6 (sz := 1) (cs := List.map by8 t59) (ex := true) (n := t59.length) (c := t59.length) (by decide)
  have k6 : Le A6 (A6 ++ [.row (t59.map by8) .own 1 true]) := .push _ _
  simp only [W_seq, W_ops, W_draw, W_block, W_skip, W_exit, W_ret, sq_normal, sq_ret, sq_exit, W_condv, condW_true, condW_false, thenA_normal, thenA_ret, thenA_exit, if_true, if_false, Bool.false_eq_true, decide_eq_true_eq, inBlockA_normal, inBlockA_ret, inBlockA_same, inBlockA_other, noGotoA_normal, noGotoA_ret, noGotoA_exit, Wops_nil, Wops_cons, Wops_le, Wops_guard, Wops_guardle, ok1_some, okV_some, kont_at, kontL_at, gdB_true, gdB_false, decide_true, decide_false, ev_tmp, ev_const, ev_func, ev_global, put_some, put_none, upd_same, upd_at, gd_bt, gd_bf, Bool.not_true, Bool.not_false, pick_true, pick_false, pick_b, not_b, W1_mov, W1_pick, W1_new, W1_box, W1_build, W1_lit, W1_load1, W1_loadn, W1_store, W1_nilc, W1_bin, W1_un, W1_conv, W1_b2s, W1_s2b, W1_field1, W1_fieldn, W1_faddr, W1_iaddr, W1_iarr, W1_idxs, W1_idxa1, W1_idxan, W1_sls, W1_sll, W1_sla, W1_mk, W1_ext, W1_fn, W1_ifc, W1_lens, W1_lenc, W1_app, W1_apps, W1_copy, W1_mn, W1_mx, W1_isnil, W1_strc, W1_beq, W1_mks, W1_capn, W1_appz, W1_eqagg, W1_call, List.map_cons, List.map_nil, Option.map_some, Option.map_none, reduceIte, Option.some.injEq, exists_eq_left', Nat.reduceBEq, iv_ii, postA_ret, postA_normal, resVs_nil, resVs_tmp, tupleOf, Int.toNat_natCast, true_and, and_true, Nat.reduceEqDiff, l6, m6]
  refine crc_More_spec (byt_last A6 t59) (by decide) ?_
  rw [sum45]
  generalize (A6 ++ [.row (t59.map by8) .own 1 true]) = A7 at k6 ⊢
  have h27 : Le A2 A7 := ((((k2.trans hle3).trans (k3.trans hle4)).trans k4).trans k5).trans k6
  have hs := (ho2.byt.le h27).str
  have e1 := eq_str tAB tAB
  simp only [tAB] at hs e1
  simp only [W_seq, W_ops, W_draw, W_block, W_skip, W_exit, W_ret, sq_normal, sq_ret, sq_exit, W_condv, condW_true, condW_false, thenA_normal, thenA_ret, thenA_exit, if_true, if_false, Bool.false_eq_true, decide_eq_true_eq, inBlockA_normal, inBlockA_ret, inBlockA_same, inBlockA_other, noGotoA_normal, noGotoA_ret, noGotoA_exit, Wops_nil, Wops_cons, Wops_le, Wops_guard, Wops_guardle, ok1_some, okV_some, kont_at, kontL_at, gdB_true, gdB_false, decide_true, decide_false, ev_tmp, ev_const, ev_func, ev_global, put_some, put_none, upd_same, upd_at, gd_bt, gd_bf, Bool.not_true, Bool.not_false, pick_true, pick_false, pick_b, not_b, W1_mov, W1_pick, W1_new, W1_box, W1_build, W1_lit, W1_load1, W1_loadn, W1_store, W1_nilc, W1_bin, W1_un, W1_conv, W1_b2s, W1_s2b, W1_field1, W1_fieldn, W1_faddr, W1_iaddr, W1_iarr, W1_idxs, W1_idxa1, W1_idxan, W1_sls, W1_sll, W1_sla, W1_mk, W1_ext, W1_fn, W1_ifc, W1_lens, W1_lenc, W1_app, W1_apps, W1_copy, W1_mn, W1_mx, W1_isnil, W1_strc, W1_beq, W1_mks, W1_capn, W1_appz, W1_eqagg, W1_call, List.map_cons, List.map_nil, Option.map_some, Option.map_none, reduceIte, Option.some.injEq, exists_eq_left', Nat.reduceBEq, iv_ii, postA_ret, postA_normal, resVs_nil, resVs_tmp, tupleOf, Int.toNat_natCast, true_and, and_true, Nat.reduceEqDiff, h38, binA_eq32, BEq.rfl, hs, e1, binA_eql]
  refine crc_Sum_spec (bs := []) ⟨rfl, .inl ⟨rfl, rfl⟩⟩ (by decide) ?_
  rw [sum0]
  simp only [W_seq, W_ops, W_draw, W_block, W_skip, W_exit, W_ret, sq_normal, sq_ret, sq_exit, W_condv, condW_true, condW_false, thenA_normal, thenA_ret, thenA_exit, if_true, if_false, Bool.false_eq_true, decide_eq_true_eq, inBlockA_normal, inBlockA_ret, inBlockA_same, inBlockA_other, noGotoA_normal, noGotoA_ret, noGotoA_exit, Wops_nil, Wops_cons, Wops_le, Wops_guard, Wops_guardle, ok1_some, okV_some, kont_at, kontL_at, gdB_true, gdB_false, decide_true, decide_false, ev_tmp, ev_const, ev_func, ev_global, put_some, put_none, upd_same, upd_at, gd_bt, gd_bf, Bool.not_true, Bool.not_false, pick_true, pick_false, pick_b, not_b, W1_mov, W1_pick, W1_new, W1_box, W1_build, W1_lit, W1_load1, W1_loadn, W1_store, W1_nilc, W1_bin, W1_un, W1_conv, W1_b2s, W1_s2b, W1_field1, W1_fieldn, W1_faddr, W1_iaddr, W1_iarr, W1_idxs, W1_idxa1, W1_idxan, W1_sls, W1_sll, W1_sla, W1_mk, W1_ext, W1_fn, W1_ifc, W1_lens, W1_lenc, W1_app, W1_apps, W1_copy, W1_mn, W1_mx, W1_isnil, W1_strc, W1_beq, W1_mks, W1_capn, W1_appz, W1_eqagg, W1_call, List.map_cons, List.map_nil, Option.map_some, Option.map_none, reduceIte, Option.some.injEq, exists_eq_left', Nat.reduceBEq, iv_ii, postA_ret, postA_normal, resVs_nil, resVs_tmp, tupleOf, Int.toNat_natCast, true_and, and_true, Nat.reduceEqDiff, hzero32, binA_eq32, BEq.rfl]
  exact hq _ (((hle0.trans hle1).trans hle2).trans h27)
end Go.AS.C
