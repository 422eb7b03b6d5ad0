import Derived.Test.YtgeoeagohhojbaaAs25
import Derived.Test.YtgeoeagohhojbaaCrcRef
namespace Go.AS.C
open Go Go.Proofs
set_option linter.unusedVariables false
set_option linter.unusedSimpArgs false
set_option maxRecDepth 10000

theorem sel_eq (c : BitVec 32) : 2197175160#32 &&& -(c &&& 1#32) = if c.getLsbD 0 then 2197175160#32 else 0#32 := by
  rw [and1]
  have e : c.getLsbD 0 = decide (c.toNat % 2 = 1) := by
    unfold BitVec.getLsbD
    rw [Nat.testBit_zero]
  rw [e]
  by_cases h : c.toNat % 2 = 1
  · have e : -(1#32) = BitVec.allOnes 32 := by decide
    simp [h, e]
  · simp [h]
theorem bit1_sel (c : BitVec 32) : bit1 c = (c >>> 1) ^^^ (if c.getLsbD 0 then 2197175160#32 else 0#32) := by
  unfold bit1
  rw [sel_eq]
theorem xor_swap (a b c d : BitVec 32) : (a ^^^ b) ^^^ (c ^^^ d) = (a ^^^ c) ^^^ (b ^^^ d) := by
  rw [BitVec.xor_assoc, BitVec.xor_assoc, ← BitVec.xor_assoc b c d, BitVec.xor_comm b c, BitVec.xor_assoc c b d]
theorem bit1_xor (x y : BitVec 32) : bit1 (x ^^^ y) = bit1 x ^^^ bit1 y := by
  rw [bit1_sel, bit1_sel, bit1_sel, BitVec.getLsbD_xor, BitVec.ushiftRight_xor_distrib, xor_swap]
  congr 1
  cases x.getLsbD 0 <;> cases y.getLsbD 0 <;> simp
theorem bitsN_xor (n : Nat) (x y : BitVec 32) : bitsN n (x ^^^ y) = bitsN n x ^^^ bitsN n y := by
  induction n with
  | zero => rfl
  | succ n ih => simp only [bitsN, ih, bit1_xor]
theorem ofByte_xor (a b : UInt8) : BitVec.ofNat 32 (a ^^^ b).toNat = BitVec.ofNat 32 a.toNat ^^^ BitVec.ofNat 32 b.toNat := by
  rw [UInt8.toNat_xor, BitVec.ofNat_xor]
theorem byte1_xor (c d : BitVec 32) (a b : UInt8) : byte1 (c ^^^ d) (a ^^^ b) = byte1 c a ^^^ byte1 d b := by
  unfold byte1
  rw [ofByte_xor, xor_swap, bitsN_xor]
def xorB (a b : List UInt8) : List UInt8 := List.zipWith (· ^^^ ·) a b
theorem fold_xor : ∀ (a b : List UInt8) (c d : BitVec 32), a.length = b.length → (xorB a b).foldl byte1 (c ^^^ d) = a.foldl byte1 c ^^^ b.foldl byte1 d
  | [], [], c, d, _ => rfl
  | [], _ :: _, _, _, h => by simp at h
  | _ :: _, [], _, _, h => by simp at h
  | x :: a, y :: b, c, d, h => by
    have := fold_xor a b (byte1 c x) (byte1 d y) (by simpa using h)
    simp only [xorB, List.zipWith_cons_cons, List.foldl_cons, byte1_xor] at this ⊢
    exact this
theorem xorB_length (a b : List UInt8) (h : a.length = b.length) : (xorB a b).length = a.length := by simp [xorB, h]

/-- The sum is of what stands in an odd number of three. -/
theorem more3 (a b c : List UInt8) (h1 : b.length = a.length) (h2 : c.length = a.length) : more 0#32 (xorB (xorB a b) c) = more 0#32 a ^^^ more 0#32 b ^^^ more 0#32 c := by
  unfold more
  have hone : (~~~ 0#32) = (~~~ 0#32) ^^^ (~~~ 0#32) ^^^ (~~~ 0#32) := by decide
  have e : (xorB (xorB a b) c).foldl byte1 (~~~ 0#32) = a.foldl byte1 (~~~ 0#32) ^^^ b.foldl byte1 (~~~ 0#32) ^^^ c.foldl byte1 (~~~ 0#32) := by
    conv => lhs; rw [hone]
    rw [fold_xor _ _ _ _ (by rw [xorB_length _ _ h1.symm]; omega), fold_xor _ _ _ _ h1.symm]
  rw [e]
  generalize a.foldl byte1 (~~~ 0#32) = p
  generalize b.foldl byte1 (~~~ 0#32) = q
  generalize c.foldl byte1 (~~~ 0#32) = r
  have n : ∀ x : BitVec 32, ~~~ x = x ^^^ BitVec.allOnes 32 := fun x => by rw [BitVec.xor_allOnes]
  have a3 : BitVec.allOnes 32 ^^^ BitVec.allOnes 32 = 0#32 := by decide
  rw [n p, n q, n r, n (p ^^^ q ^^^ r), xor_swap p _ q _, a3, BitVec.xor_zero, ← BitVec.xor_assoc]

theorem CrcOdd_spec {A : AH} {u v t : Value} {xs ys zs : List UInt8} {Q : Value → AH → Prop} (hu : Byt A u xs) (hv : Byt A v ys) (ht : Byt A t zs) (hq : ∀ A', Q (.bool true) A') :
    ACalls 0 Try.prog chantrylaw02_CrcOdd [u, v, t] Q A := by
  refine ACalls.of_fits mixed fits_chantrylaw02_CrcOdd rfl ?_
  unfold ic_chantrylaw02_CrcOdd
  have i0 : initA [u, v, t] 0 = u := rfl
  have i1 : initA [u, v, t] 1 = v := rfl
  have i2 : initA [u, v, t] 2 = t := rfl
  generalize initA [u, v, t] = a at i0 i1 i2
  by_cases h1 : ((xs.length : Int) > 500)
  · have c1 : ((xs.length : Int) > 500) = True := by simp [h1]
    simp only [W_seq, W_ops, W_draw, W_block, W_skip, W_exit, W_ret, sq_normal, sq_ret, sq_exit, W_condv, condW_true, condW_false, thenA_normal, thenA_ret, thenA_exit, if_true, if_false, Bool.false_eq_true, decide_eq_true_eq, inBlockA_normal, inBlockA_ret, inBlockA_same, inBlockA_other, noGotoA_normal, noGotoA_ret, noGotoA_exit, Wops_nil, Wops_cons, Wops_le, Wops_guard, Wops_guardle, ok1_some, okV_some, kont_at, kontL_at, gdB_true, gdB_false, decide_true, decide_false, ev_tmp, ev_const, ev_func, ev_global, put_some, put_none, upd_same, upd_at, gd_bt, gd_bf, Bool.not_true, Bool.not_false, pick_true, pick_false, pick_b, not_b, W1_mov, W1_pick, W1_new, W1_box, W1_build, W1_lit, W1_load1, W1_loadn, W1_store, W1_nilc, W1_bin, W1_un, W1_conv, W1_b2s, W1_s2b, W1_field1, W1_fieldn, W1_faddr, W1_iaddr, W1_iarr, W1_idxs, W1_idxa1, W1_idxan, W1_sls, W1_sll, W1_sla, W1_mk, W1_ext, W1_fn, W1_ifc, W1_lens, W1_lenc, W1_app, W1_apps, W1_copy, W1_mn, W1_mx, W1_isnil, W1_strc, W1_beq, W1_mks, W1_capn, W1_appz, W1_eqagg, W1_call, List.map_cons, List.map_nil, Option.map_some, Option.map_none, reduceIte, Option.some.injEq, exists_eq_left', Nat.reduceBEq, iv_ii, postA_ret, postA_normal, resVs_nil, resVs_tmp, tupleOf, Int.toNat_natCast, true_and, and_true, Nat.reduceEqDiff, i0, i1, i2, hu.len, hv.len, ht.len, binA_gtr, c1]
    refine awake_spec fun A' _ => ?_
    simp only [W_seq, W_ops, W_draw, W_block, W_skip, W_exit, W_ret, sq_normal, sq_ret, sq_exit, W_condv, condW_true, condW_false, thenA_normal, thenA_ret, thenA_exit, if_true, if_false, Bool.false_eq_true, decide_eq_true_eq, inBlockA_normal, inBlockA_ret, inBlockA_same, inBlockA_other, noGotoA_normal, noGotoA_ret, noGotoA_exit, Wops_nil, Wops_cons, Wops_le, Wops_guard, Wops_guardle, ok1_some, okV_some, kont_at, kontL_at, gdB_true, gdB_false, decide_true, decide_false, ev_tmp, ev_const, ev_func, ev_global, put_some, put_none, upd_same, upd_at, gd_bt, gd_bf, Bool.not_true, Bool.not_false, pick_true, pick_false, pick_b, not_b, W1_mov, W1_pick, W1_new, W1_box, W1_build, W1_lit, W1_load1, W1_loadn, W1_store, W1_nilc, W1_bin, W1_un, W1_conv, W1_b2s, W1_s2b, W1_field1, W1_fieldn, W1_faddr, W1_iaddr, W1_iarr, W1_idxs, W1_idxa1, W1_idxan, W1_sls, W1_sll, W1_sla, W1_mk, W1_ext, W1_fn, W1_ifc, W1_lens, W1_lenc, W1_app, W1_apps, W1_copy, W1_mn, W1_mx, W1_isnil, W1_strc, W1_beq, W1_mks, W1_capn, W1_appz, W1_eqagg, W1_call, List.map_cons, List.map_nil, Option.map_some, Option.map_none, reduceIte, Option.some.injEq, exists_eq_left', Nat.reduceBEq, iv_ii, postA_ret, postA_normal, resVs_nil, resVs_tmp, tupleOf, Int.toNat_natCast, true_and, and_true, Nat.reduceEqDiff]
    exact hq _
  · have c1 : ((xs.length : Int) > 500) = False := by simp [h1]
    by_cases h2 : ys.length = xs.length
    · have c2 : (((ys.length : Nat) : Int) != ((xs.length : Nat) : Int)) = false := by simp [h2]
      by_cases h3 : zs.length = xs.length
      · have c3 : (((zs.length : Nat) : Int) != ((xs.length : Nat) : Int)) = false := by simp [h3]
        simp only [W_seq, W_ops, W_draw, W_block, W_skip, W_exit, W_ret, sq_normal, sq_ret, sq_exit, W_condv, condW_true, condW_false, thenA_normal, thenA_ret, thenA_exit, if_true, if_false, Bool.false_eq_true, decide_eq_true_eq, inBlockA_normal, inBlockA_ret, inBlockA_same, inBlockA_other, noGotoA_normal, noGotoA_ret, noGotoA_exit, Wops_nil, Wops_cons, Wops_le, Wops_guard, Wops_guardle, ok1_some, okV_some, kont_at, kontL_at, gdB_true, gdB_false, decide_true, decide_false, ev_tmp, ev_const, ev_func, ev_global, put_some, put_none, upd_same, upd_at, gd_bt, gd_bf, Bool.not_true, Bool.not_false, pick_true, pick_false, pick_b, not_b, W1_mov, W1_pick, W1_new, W1_box, W1_build, W1_lit, W1_load1, W1_loadn, W1_store, W1_nilc, W1_bin, W1_un, W1_conv, W1_b2s, W1_s2b, W1_field1, W1_fieldn, W1_faddr, W1_iaddr, W1_iarr, W1_idxs, W1_idxa1, W1_idxan, W1_sls, W1_sll, W1_sla, W1_mk, W1_ext, W1_fn, W1_ifc, W1_lens, W1_lenc, W1_app, W1_apps, W1_copy, W1_mn, W1_mx, W1_isnil, W1_strc, W1_beq, W1_mks, W1_capn, W1_appz, W1_eqagg, W1_call, List.map_cons, List.map_nil, Option.map_some, Option.map_none, reduceIte, Option.some.injEq, exists_eq_left', Nat.reduceBEq, iv_ii, postA_ret, postA_normal, resVs_nil, resVs_tmp, tupleOf, Int.toNat_natCast, true_and, and_true, Nat.reduceEqDiff, i0, i1, i2, hu.len, hv.len, ht.len, binA_gtr, c1, binA_neq, c2, c3]
        refine W_loop (fun a' A' => ∃ k : Nat, k ≤ xs.length ∧ Le A A' ∧ a' 0 = u ∧ a' 1 = v ∧ a' 2 = t ∧ a' 8 = ii k ∧ OwnB A.length A' (a' 7) ((xorB (xorB xs ys) zs).take k)) (fun a' _ => (xs.length - (iv (a' 8)).toNat)) ?_ ?_
        · refine ⟨0, by omega, .refl _, ?_⟩
          simp only [W_seq, W_ops, W_draw, W_block, W_skip, W_exit, W_ret, sq_normal, sq_ret, sq_exit, W_condv, condW_true, condW_false, thenA_normal, thenA_ret, thenA_exit, if_true, if_false, Bool.false_eq_true, decide_eq_true_eq, inBlockA_normal, inBlockA_ret, inBlockA_same, inBlockA_other, noGotoA_normal, noGotoA_ret, noGotoA_exit, Wops_nil, Wops_cons, Wops_le, Wops_guard, Wops_guardle, ok1_some, okV_some, kont_at, kontL_at, gdB_true, gdB_false, decide_true, decide_false, ev_tmp, ev_const, ev_func, ev_global, put_some, put_none, upd_same, upd_at, gd_bt, gd_bf, Bool.not_true, Bool.not_false, pick_true, pick_false, pick_b, not_b, W1_mov, W1_pick, W1_new, W1_box, W1_build, W1_lit, W1_load1, W1_loadn, W1_store, W1_nilc, W1_bin, W1_un, W1_conv, W1_b2s, W1_s2b, W1_field1, W1_fieldn, W1_faddr, W1_iaddr, W1_iarr, W1_idxs, W1_idxa1, W1_idxan, W1_sls, W1_sll, W1_sla, W1_mk, W1_ext, W1_fn, W1_ifc, W1_lens, W1_lenc, W1_app, W1_apps, W1_copy, W1_mn, W1_mx, W1_isnil, W1_strc, W1_beq, W1_mks, W1_capn, W1_appz, W1_eqagg, W1_call, List.map_cons, List.map_nil, Option.map_some, Option.map_none, reduceIte, Option.some.injEq, exists_eq_left', Nat.reduceBEq, iv_ii, postA_ret, postA_normal, resVs_nil, resVs_tmp, tupleOf, Int.toNat_natCast, true_and, and_true, Nat.reduceEqDiff, i0, i1, i2]
          exact ⟨rfl, OwnB.nil _ _⟩
        · rintro a A' ⟨k, hk, hle, g0, g1, g2, g8, g7⟩
          rcases Nat.lt_or_ge k xs.length with hlt | hge
          · have hc1 : ((k : Int) < (xs.length : Int)) = True := by simp; omega
            obtain ⟨x, hx⟩ : ∃ b, xs[k]? = some b := ⟨_, List.getElem?_eq_getElem (by omega)⟩
            obtain ⟨y, hy⟩ : ∃ b, ys[k]? = some b := ⟨_, List.getElem?_eq_getElem (by omega)⟩
            obtain ⟨z, hz⟩ : ∃ b, zs[k]? = some b := ⟨_, List.getElem?_eq_getElem (by omega)⟩
            obtain ⟨p, hp1, hp2⟩ := (hu.le hle).at1 hx
            obtain ⟨q, hq1, hq2⟩ := (hv.le hle).at1 hy
            obtain ⟨r, hr1, hr2⟩ := (ht.le hle).at1 hz
            have l1 := litB A' [x ^^^ y ^^^ z] (len := 1) (ps := [(0, 1, by8 (x ^^^ y ^^^ z))]) rfl rfl
            have k1 : Le A' (A' ++ [.row (List.map by8 [x ^^^ y ^^^ z]) .own 1 true]) := .push _ _
            obtain ⟨v2, A2, p1, p2, p3, _⟩ := app_bytes (hle.trans k1) (OwnS.le g7 k1) (byt_last A' [x ^^^ y ^^^ z]) (by simp; omega)
            have hxe : (xorB (xorB xs ys) zs)[k]? = some (x ^^^ y ^^^ z) := by
              unfold xorB
              simp only [List.getElem?_zipWith, hx, hy, hz]
            rw [List.length_singleton] at p1
            simp only [List.map_cons, List.map_nil, List.length_singleton] at l1 p1
            simp only [W_seq, W_ops, W_draw, W_block, W_skip, W_exit, W_ret, sq_normal, sq_ret, sq_exit, W_condv, condW_true, condW_false, thenA_normal, thenA_ret, thenA_exit, if_true, if_false, Bool.false_eq_true, decide_eq_true_eq, inBlockA_normal, inBlockA_ret, inBlockA_same, inBlockA_other, noGotoA_normal, noGotoA_ret, noGotoA_exit, Wops_nil, Wops_cons, Wops_le, Wops_guard, Wops_guardle, ok1_some, okV_some, kont_at, kontL_at, gdB_true, gdB_false, decide_true, decide_false, ev_tmp, ev_const, ev_func, ev_global, put_some, put_none, upd_same, upd_at, gd_bt, gd_bf, Bool.not_true, Bool.not_false, pick_true, pick_false, pick_b, not_b, W1_mov, W1_pick, W1_new, W1_box, W1_build, W1_lit, W1_load1, W1_loadn, W1_store, W1_nilc, W1_bin, W1_un, W1_conv, W1_b2s, W1_s2b, W1_field1, W1_fieldn, W1_faddr, W1_iaddr, W1_iarr, W1_idxs, W1_idxa1, W1_idxan, W1_sls, W1_sll, W1_sla, W1_mk, W1_ext, W1_fn, W1_ifc, W1_lens, W1_lenc, W1_app, W1_apps, W1_copy, W1_mn, W1_mx, W1_isnil, W1_strc, W1_beq, W1_mks, W1_capn, W1_appz, W1_eqagg, W1_call, List.map_cons, List.map_nil, Option.map_some, Option.map_none, reduceIte, Option.some.injEq, exists_eq_left', Nat.reduceBEq, iv_ii, postA_ret, postA_normal, resVs_nil, resVs_tmp, tupleOf, Int.toNat_natCast, true_and, and_true, Nat.reduceEqDiff, g0, g1, g2, g8, binA_lss, hc1, (hu.le hle).len, hp1, hp2, hq1, hq2, hr1, hr2, binA_xor8, l1, p1, binA_add1 k (by omega)]
            refine ⟨⟨k + 1, by omega, p2, rfl, ?_⟩, by omega⟩
            rw [List.take_add_one, hxe]
            exact p3
          · have hc1 : ((k : Int) < (xs.length : Int)) = False := by simp; omega
            have hlen : (xorB (xorB xs ys) zs).length = xs.length := by
              rw [xorB_length _ _ (by rw [xorB_length _ _ h2.symm]; omega), xorB_length _ _ h2.symm]
            rw [List.take_of_length_le (by omega)] at g7
            simp only [W_seq, W_ops, W_draw, W_block, W_skip, W_exit, W_ret, sq_normal, sq_ret, sq_exit, W_condv, condW_true, condW_false, thenA_normal, thenA_ret, thenA_exit, if_true, if_false, Bool.false_eq_true, decide_eq_true_eq, inBlockA_normal, inBlockA_ret, inBlockA_same, inBlockA_other, noGotoA_normal, noGotoA_ret, noGotoA_exit, Wops_nil, Wops_cons, Wops_le, Wops_guard, Wops_guardle, ok1_some, okV_some, kont_at, kontL_at, gdB_true, gdB_false, decide_true, decide_false, ev_tmp, ev_const, ev_func, ev_global, put_some, put_none, upd_same, upd_at, gd_bt, gd_bf, Bool.not_true, Bool.not_false, pick_true, pick_false, pick_b, not_b, W1_mov, W1_pick, W1_new, W1_box, W1_build, W1_lit, W1_load1, W1_loadn, W1_store, W1_nilc, W1_bin, W1_un, W1_conv, W1_b2s, W1_s2b, W1_field1, W1_fieldn, W1_faddr, W1_iaddr, W1_iarr, W1_idxs, W1_idxa1, W1_idxan, W1_sls, W1_sll, W1_sla, W1_mk, W1_ext, W1_fn, W1_ifc, W1_lens, W1_lenc, W1_app, W1_apps, W1_copy, W1_mn, W1_mx, W1_isnil, W1_strc, W1_beq, W1_mks, W1_capn, W1_appz, W1_eqagg, W1_call, List.map_cons, List.map_nil, Option.map_some, Option.map_none, reduceIte, Option.some.injEq, exists_eq_left', Nat.reduceBEq, iv_ii, postA_ret, postA_normal, resVs_nil, resVs_tmp, tupleOf, Int.toNat_natCast, true_and, and_true, Nat.reduceEqDiff, g0, g1, g2, g8, binA_lss, hc1, (hu.le hle).len]
            refine crc_Sum_spec g7.byt (by omega) ?_
            simp only [W_seq, W_ops, W_draw, W_block, W_skip, W_exit, W_ret, sq_normal, sq_ret, sq_exit, W_condv, condW_true, condW_false, thenA_normal, thenA_ret, thenA_exit, if_true, if_false, Bool.false_eq_true, decide_eq_true_eq, inBlockA_normal, inBlockA_ret, inBlockA_same, inBlockA_other, noGotoA_normal, noGotoA_ret, noGotoA_exit, Wops_nil, Wops_cons, Wops_le, Wops_guard, Wops_guardle, ok1_some, okV_some, kont_at, kontL_at, gdB_true, gdB_false, decide_true, decide_false, ev_tmp, ev_const, ev_func, ev_global, put_some, put_none, upd_same, upd_at, gd_bt, gd_bf, Bool.not_true, Bool.not_false, pick_true, pick_false, pick_b, not_b, W1_mov, W1_pick, W1_new, W1_box, W1_build, W1_lit, W1_load1, W1_loadn, W1_store, W1_nilc, W1_bin, W1_un, W1_conv, W1_b2s, W1_s2b, W1_field1, W1_fieldn, W1_faddr, W1_iaddr, W1_iarr, W1_idxs, W1_idxa1, W1_idxan, W1_sls, W1_sll, W1_sla, W1_mk, W1_ext, W1_fn, W1_ifc, W1_lens, W1_lenc, W1_app, W1_apps, W1_copy, W1_mn, W1_mx, W1_isnil, W1_strc, W1_beq, W1_mks, W1_capn, W1_appz, W1_eqagg, W1_call, List.map_cons, List.map_nil, Option.map_some, Option.map_none, reduceIte, Option.some.injEq, exists_eq_left', Nat.reduceBEq, iv_ii, postA_ret, postA_normal, resVs_nil, resVs_tmp, tupleOf, Int.toNat_natCast, true_and, and_true, Nat.reduceEqDiff, g0]
            refine crc_Sum_spec (hu.le hle) (by omega) ?_
            simp only [W_seq, W_ops, W_draw, W_block, W_skip, W_exit, W_ret, sq_normal, sq_ret, sq_exit, W_condv, condW_true, condW_false, thenA_normal, thenA_ret, thenA_exit, if_true, if_false, Bool.false_eq_true, decide_eq_true_eq, inBlockA_normal, inBlockA_ret, inBlockA_same, inBlockA_other, noGotoA_normal, noGotoA_ret, noGotoA_exit, Wops_nil, Wops_cons, Wops_le, Wops_guard, Wops_guardle, ok1_some, okV_some, kont_at, kontL_at, gdB_true, gdB_false, decide_true, decide_false, ev_tmp, ev_const, ev_func, ev_global, put_some, put_none, upd_same, upd_at, gd_bt, gd_bf, Bool.not_true, Bool.not_false, pick_true, pick_false, pick_b, not_b, W1_mov, W1_pick, W1_new, W1_box, W1_build, W1_lit, W1_load1, W1_loadn, W1_store, W1_nilc, W1_bin, W1_un, W1_conv, W1_b2s, W1_s2b, W1_field1, W1_fieldn, W1_faddr, W1_iaddr, W1_iarr, W1_idxs, W1_idxa1, W1_idxan, W1_sls, W1_sll, W1_sla, W1_mk, W1_ext, W1_fn, W1_ifc, W1_lens, W1_lenc, W1_app, W1_apps, W1_copy, W1_mn, W1_mx, W1_isnil, W1_strc, W1_beq, W1_mks, W1_capn, W1_appz, W1_eqagg, W1_call, List.map_cons, List.map_nil, Option.map_some, Option.map_none, reduceIte, Option.some.injEq, exists_eq_left', Nat.reduceBEq, iv_ii, postA_ret, postA_normal, resVs_nil, resVs_tmp, tupleOf, Int.toNat_natCast, true_and, and_true, Nat.reduceEqDiff, g1]
            refine crc_Sum_spec (hv.le hle) (by omega) ?_
            simp only [W_seq, W_ops, W_draw, W_block, W_skip, W_exit, W_ret, sq_normal, sq_ret, sq_exit, W_condv, condW_true, condW_false, thenA_normal, thenA_ret, thenA_exit, if_true, if_false, Bool.false_eq_true, decide_eq_true_eq, inBlockA_normal, inBlockA_ret, inBlockA_same, inBlockA_other, noGotoA_normal, noGotoA_ret, noGotoA_exit, Wops_nil, Wops_cons, Wops_le, Wops_guard, Wops_guardle, ok1_some, okV_some, kont_at, kontL_at, gdB_true, gdB_false, decide_true, decide_false, ev_tmp, ev_const, ev_func, ev_global, put_some, put_none, upd_same, upd_at, gd_bt, gd_bf, Bool.not_true, Bool.not_false, pick_true, pick_false, pick_b, not_b, W1_mov, W1_pick, W1_new, W1_box, W1_build, W1_lit, W1_load1, W1_loadn, W1_store, W1_nilc, W1_bin, W1_un, W1_conv, W1_b2s, W1_s2b, W1_field1, W1_fieldn, W1_faddr, W1_iaddr, W1_iarr, W1_idxs, W1_idxa1, W1_idxan, W1_sls, W1_sll, W1_sla, W1_mk, W1_ext, W1_fn, W1_ifc, W1_lens, W1_lenc, W1_app, W1_apps, W1_copy, W1_mn, W1_mx, W1_isnil, W1_strc, W1_beq, W1_mks, W1_capn, W1_appz, W1_eqagg, W1_call, List.map_cons, List.map_nil, Option.map_some, Option.map_none, reduceIte, Option.some.injEq, exists_eq_left', Nat.reduceBEq, iv_ii, postA_ret, postA_normal, resVs_nil, resVs_tmp, tupleOf, Int.toNat_natCast, true_and, and_true, Nat.reduceEqDiff, g2, binA_xor32]
            refine crc_Sum_spec (ht.le hle) (by omega) ?_
            rw [more3 xs ys zs h2 h3]
            simp only [W_seq, W_ops, W_draw, W_block, W_skip, W_exit, W_ret, sq_normal, sq_ret, sq_exit, W_condv, condW_true, condW_false, thenA_normal, thenA_ret, thenA_exit, if_true, if_false, Bool.false_eq_true, decide_eq_true_eq, inBlockA_normal, inBlockA_ret, inBlockA_same, inBlockA_other, noGotoA_normal, noGotoA_ret, noGotoA_exit, Wops_nil, Wops_cons, Wops_le, Wops_guard, Wops_guardle, ok1_some, okV_some, kont_at, kontL_at, gdB_true, gdB_false, decide_true, decide_false, ev_tmp, ev_const, ev_func, ev_global, put_some, put_none, upd_same, upd_at, gd_bt, gd_bf, Bool.not_true, Bool.not_false, pick_true, pick_false, pick_b, not_b, W1_mov, W1_pick, W1_new, W1_box, W1_build, W1_lit, W1_load1, W1_loadn, W1_store, W1_nilc, W1_bin, W1_un, W1_conv, W1_b2s, W1_s2b, W1_field1, W1_fieldn, W1_faddr, W1_iaddr, W1_iarr, W1_idxs, W1_idxa1, W1_idxan, W1_sls, W1_sll, W1_sla, W1_mk, W1_ext, W1_fn, W1_ifc, W1_lens, W1_lenc, W1_app, W1_apps, W1_copy, W1_mn, W1_mx, W1_isnil, W1_strc, W1_beq, W1_mks, W1_capn, W1_appz, W1_eqagg, W1_call, List.map_cons, List.map_nil, Option.map_some, Option.map_none, reduceIte, Option.some.injEq, exists_eq_left', Nat.reduceBEq, iv_ii, postA_ret, postA_normal, resVs_nil, resVs_tmp, tupleOf, Int.toNat_natCast, true_and, and_true, Nat.reduceEqDiff, g2, binA_xor32, binA_eq32, BEq.rfl]
            refine awake_spec fun A' _ => ?_
            simp only [W_seq, W_ops, W_draw, W_block, W_skip, W_exit, W_ret, sq_normal, sq_ret, sq_exit, W_condv, condW_true, condW_false, thenA_normal, thenA_ret, thenA_exit, if_true, if_false, Bool.false_eq_true, decide_eq_true_eq, inBlockA_normal, inBlockA_ret, inBlockA_same, inBlockA_other, noGotoA_normal, noGotoA_ret, noGotoA_exit, Wops_nil, Wops_cons, Wops_le, Wops_guard, Wops_guardle, ok1_some, okV_some, kont_at, kontL_at, gdB_true, gdB_false, decide_true, decide_false, ev_tmp, ev_const, ev_func, ev_global, put_some, put_none, upd_same, upd_at, gd_bt, gd_bf, Bool.not_true, Bool.not_false, pick_true, pick_false, pick_b, not_b, W1_mov, W1_pick, W1_new, W1_box, W1_build, W1_lit, W1_load1, W1_loadn, W1_store, W1_nilc, W1_bin, W1_un, W1_conv, W1_b2s, W1_s2b, W1_field1, W1_fieldn, W1_faddr, W1_iaddr, W1_iarr, W1_idxs, W1_idxa1, W1_idxan, W1_sls, W1_sll, W1_sla, W1_mk, W1_ext, W1_fn, W1_ifc, W1_lens, W1_lenc, W1_app, W1_apps, W1_copy, W1_mn, W1_mx, W1_isnil, W1_strc, W1_beq, W1_mks, W1_capn, W1_appz, W1_eqagg, W1_call, List.map_cons, List.map_nil, Option.map_some, Option.map_none, reduceIte, Option.some.injEq, exists_eq_left', Nat.reduceBEq, iv_ii, postA_ret, postA_normal, resVs_nil, resVs_tmp, tupleOf, Int.toNat_natCast, true_and, and_true, Nat.reduceEqDiff]
            exact hq _
      · have c3 : (((zs.length : Nat) : Int) != ((xs.length : Nat) : Int)) = true := by simp; omega
        simp only [W_seq, W_ops, W_draw, W_block, W_skip, W_exit, W_ret, sq_normal, sq_ret, sq_exit, W_condv, condW_true, condW_false, thenA_normal, thenA_ret, thenA_exit, if_true, if_false, Bool.false_eq_true, decide_eq_true_eq, inBlockA_normal, inBlockA_ret, inBlockA_same, inBlockA_other, noGotoA_normal, noGotoA_ret, noGotoA_exit, Wops_nil, Wops_cons, Wops_le, Wops_guard, Wops_guardle, ok1_some, okV_some, kont_at, kontL_at, gdB_true, gdB_false, decide_true, decide_false, ev_tmp, ev_const, ev_func, ev_global, put_some, put_none, upd_same, upd_at, gd_bt, gd_bf, Bool.not_true, Bool.not_false, pick_true, pick_false, pick_b, not_b, W1_mov, W1_pick, W1_new, W1_box, W1_build, W1_lit, W1_load1, W1_loadn, W1_store, W1_nilc, W1_bin, W1_un, W1_conv, W1_b2s, W1_s2b, W1_field1, W1_fieldn, W1_faddr, W1_iaddr, W1_iarr, W1_idxs, W1_idxa1, W1_idxan, W1_sls, W1_sll, W1_sla, W1_mk, W1_ext, W1_fn, W1_ifc, W1_lens, W1_lenc, W1_app, W1_apps, W1_copy, W1_mn, W1_mx, W1_isnil, W1_strc, W1_beq, W1_mks, W1_capn, W1_appz, W1_eqagg, W1_call, List.map_cons, List.map_nil, Option.map_some, Option.map_none, reduceIte, Option.some.injEq, exists_eq_left', Nat.reduceBEq, iv_ii, postA_ret, postA_normal, resVs_nil, resVs_tmp, tupleOf, Int.toNat_natCast, true_and, and_true, Nat.reduceEqDiff, i0, i1, i2, hu.len, hv.len, ht.len, binA_gtr, c1, binA_neq, c2, c3]
        refine awake_spec fun A' _ => ?_
        simp only [W_seq, W_ops, W_draw, W_block, W_skip, W_exit, W_ret, sq_normal, sq_ret, sq_exit, W_condv, condW_true, condW_false, thenA_normal, thenA_ret, thenA_exit, if_true, if_false, Bool.false_eq_true, decide_eq_true_eq, inBlockA_normal, inBlockA_ret, inBlockA_same, inBlockA_other, noGotoA_normal, noGotoA_ret, noGotoA_exit, Wops_nil, Wops_cons, Wops_le, Wops_guard, Wops_guardle, ok1_some, okV_some, kont_at, kontL_at, gdB_true, gdB_false, decide_true, decide_false, ev_tmp, ev_const, ev_func, ev_global, put_some, put_none, upd_same, upd_at, gd_bt, gd_bf, Bool.not_true, Bool.not_false, pick_true, pick_false, pick_b, not_b, W1_mov, W1_pick, W1_new, W1_box, W1_build, W1_lit, W1_load1, W1_loadn, W1_store, W1_nilc, W1_bin, W1_un, W1_conv, W1_b2s, W1_s2b, W1_field1, W1_fieldn, W1_faddr, W1_iaddr, W1_iarr, W1_idxs, W1_idxa1, W1_idxan, W1_sls, W1_sll, W1_sla, W1_mk, W1_ext, W1_fn, W1_ifc, W1_lens, W1_lenc, W1_app, W1_apps, W1_copy, W1_mn, W1_mx, W1_isnil, W1_strc, W1_beq, W1_mks, W1_capn, W1_appz, W1_eqagg, W1_call, List.map_cons, List.map_nil, Option.map_some, Option.map_none, reduceIte, Option.some.injEq, exists_eq_left', Nat.reduceBEq, iv_ii, postA_ret, postA_normal, resVs_nil, resVs_tmp, tupleOf, Int.toNat_natCast, true_and, and_true, Nat.reduceEqDiff]
        exact hq _
    · have c2 : (((ys.length : Nat) : Int) != ((xs.length : Nat) : Int)) = true := by simp; omega
      simp only [W_seq, W_ops, W_draw, W_block, W_skip, W_exit, W_ret, sq_normal, sq_ret, sq_exit, W_condv, condW_true, condW_false, thenA_normal, thenA_ret, thenA_exit, if_true, if_false, Bool.false_eq_true, decide_eq_true_eq, inBlockA_normal, inBlockA_ret, inBlockA_same, inBlockA_other, noGotoA_normal, noGotoA_ret, noGotoA_exit, Wops_nil, Wops_cons, Wops_le, Wops_guard, Wops_guardle, ok1_some, okV_some, kont_at, kontL_at, gdB_true, gdB_false, decide_true, decide_false, ev_tmp, ev_const, ev_func, ev_global, put_some, put_none, upd_same, upd_at, gd_bt, gd_bf, Bool.not_true, Bool.not_false, pick_true, pick_false, pick_b, not_b, W1_mov, W1_pick, W1_new, W1_box, W1_build, W1_lit, W1_load1, W1_loadn, W1_store, W1_nilc, W1_bin, W1_un, W1_conv, W1_b2s, W1_s2b, W1_field1, W1_fieldn, W1_faddr, W1_iaddr, W1_iarr, W1_idxs, W1_idxa1, W1_idxan, W1_sls, W1_sll, W1_sla, W1_mk, W1_ext, W1_fn, W1_ifc, W1_lens, W1_lenc, W1_app, W1_apps, W1_copy, W1_mn, W1_mx, W1_isnil, W1_strc, W1_beq, W1_mks, W1_capn, W1_appz, W1_eqagg, W1_call, List.map_cons, List.map_nil, Option.map_some, Option.map_none, reduceIte, Option.some.injEq, exists_eq_left', Nat.reduceBEq, iv_ii, postA_ret, postA_normal, resVs_nil, resVs_tmp, tupleOf, Int.toNat_natCast, true_and, and_true, Nat.reduceEqDiff, i0, i1, i2, hu.len, hv.len, ht.len, binA_gtr, c1, binA_neq, c2]
      refine awake_spec fun A' _ => ?_
      simp only [W_seq, W_ops, W_draw, W_block, W_skip, W_exit, W_ret, sq_normal, sq_ret, sq_exit, W_condv, condW_true, condW_false, thenA_normal, thenA_ret, thenA_exit, if_true, if_false, Bool.false_eq_true, decide_eq_true_eq, inBlockA_normal, inBlockA_ret, inBlockA_same, inBlockA_other, noGotoA_normal, noGotoA_ret, noGotoA_exit, Wops_nil, Wops_cons, Wops_le, Wops_guard, Wops_guardle, ok1_some, okV_some, kont_at, kontL_at, gdB_true, gdB_false, decide_true, decide_false, ev_tmp, ev_const, ev_func, ev_global, put_some, put_none, upd_same, upd_at, gd_bt, gd_bf, Bool.not_true, Bool.not_false, pick_true, pick_false, pick_b, not_b, W1_mov, W1_pick, W1_new, W1_box, W1_build, W1_lit, W1_load1, W1_loadn, W1_store, W1_nilc, W1_bin, W1_un, W1_conv, W1_b2s, W1_s2b, W1_field1, W1_fieldn, W1_faddr, W1_iaddr, W1_iarr, W1_idxs, W1_idxa1, W1_idxan, W1_sls, W1_sll, W1_sla, W1_mk, W1_ext, W1_fn, W1_ifc, W1_lens, W1_lenc, W1_app, W1_apps, W1_copy, W1_mn, W1_mx, W1_isnil, W1_strc, W1_beq, W1_mks, W1_capn, W1_appz, W1_eqagg, W1_call, List.map_cons, List.map_nil, Option.map_some, Option.map_none, reduceIte, Option.some.injEq, exists_eq_left', Nat.reduceBEq, iv_ii, postA_ret, postA_normal, resVs_nil, resVs_tmp, tupleOf, Int.toNat_natCast, true_and, and_true, Nat.reduceEqDiff]
      exact hq _

theorem CrcOdd_law {A : AH} {w : World} {v0 v1 v2 : Value} {a0 a1 a2 : Option Addr} {n0 c0 n1 c1 n2 c2 : Nat} {z0 z1 z2 : List Int} (s0 : (Arg.row .u8 a0 n0 c0 z0).says A v0) (w0 : (Arg.row .u8 a0 n0 c0 z0).ok w) (s1 : (Arg.row .u8 a1 n1 c1 z1).says A v1) (w1 : (Arg.row .u8 a1 n1 c1 z1).ok w) (s2 : (Arg.row .u8 a2 n2 c2 z2).says A v2) (w2 : (Arg.row .u8 a2 n2 c2 z2).ok w) :
    ACalls 0 Try.prog chantrylaw02_CrcOdd [v0, v1, v2] (fun v _ => v = .bool true) A := by
  obtain ⟨xs, h0, _⟩ := arg_bytes s0 w0
  obtain ⟨ys, h1, _⟩ := arg_bytes s1 w1
  obtain ⟨zs, h2, _⟩ := arg_bytes s2 w2
  exact CrcOdd_spec h0 h1 h2 fun _ => rfl
end Go.AS.C
