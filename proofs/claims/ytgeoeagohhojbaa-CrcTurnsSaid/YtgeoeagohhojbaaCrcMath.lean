import Derived.Test.YtgeoeagohhojbaaCrcOddP
namespace Go.AS.C
open Go Go.Proofs
set_option linter.unusedVariables false
set_option linter.unusedSimpArgs false
set_option maxRecDepth 10000

theorem bit1_zero {z : BitVec 32} (h : bit1 z = 0#32) : z = 0#32 := by
  rw [bit1_sel] at h
  have hz := z.isLt
  have hs : (z >>> 1).toNat = z.toNat / 2 := by rw [BitVec.toNat_ushiftRight, Nat.shiftRight_eq_div_pow]
  have hx : z >>> 1 = if z.getLsbD 0 then 2197175160#32 else 0#32 := by
    have := congrArg (· ^^^ (if z.getLsbD 0 then 2197175160#32 else 0#32)) h
    simpa [BitVec.xor_assoc] using this
  have e : z.getLsbD 0 = decide (z.toNat % 2 = 1) := by
    unfold BitVec.getLsbD
    rw [Nat.testBit_zero]
  rw [e] at hx
  by_cases hp : z.toNat % 2 = 1
  · simp only [hp, decide_true, if_true] at hx
    have := congrArg BitVec.toNat hx
    rw [hs] at this
    simp at this
    omega
  · simp only [hp, decide_false, Bool.false_eq_true, if_false] at hx
    have := congrArg BitVec.toNat hx
    rw [hs] at this
    apply BitVec.eq_of_toNat_eq
    simp at this ⊢
    omega
theorem bitsN_zero {z : BitVec 32} : ∀ n, bitsN n z = 0#32 → z = 0#32
  | 0, h => h
  | n + 1, h => bitsN_zero n (bit1_zero h)
theorem bitsN_of0 : ∀ n, bitsN n 0#32 = 0#32
  | 0 => rfl
  | n + 1 => by simp only [bitsN, bitsN_of0 n]; decide
theorem bitsN_add (c : BitVec 32) (n : Nat) : ∀ m, bitsN m (bitsN n c) = bitsN (n + m) c
  | 0 => rfl
  | m + 1 => by
    show bit1 (bitsN m (bitsN n c)) = bit1 (bitsN (n + m) c)
    rw [bitsN_add c n m]
/-- A number whose low bits are none: shifted down. -/
theorem bitsN_shl : ∀ (n : Nat) (z : BitVec 32), z.toNat * 2 ^ n < 2 ^ 32 → bitsN n (z <<< n) = z
  | 0, z, _ => by simp [bitsN]
  | n + 1, z, h => by
    have h2 : (z <<< 1).toNat = z.toNat * 2 := by
      rw [BitVec.toNat_shiftLeft, Nat.shiftLeft_eq, Nat.mod_eq_of_lt]
      have : z.toNat * 2 ≤ z.toNat * 2 ^ (n + 1) := Nat.mul_le_mul_left _ (by rw [Nat.pow_succ]; have := Nat.one_le_two_pow (n := n); omega)
      omega
    have e : z <<< (n + 1) = (z <<< 1) <<< n := by rw [← BitVec.shiftLeft_add, Nat.add_comm]
    rw [e]
    simp only [bitsN]
    rw [bitsN_shl n (z <<< 1) (by rw [h2, Nat.mul_assoc, ← Nat.pow_succ']; exact h), bit1_sel]
    have hl : (z <<< 1).getLsbD 0 = false := by simp
    rw [hl]
    simp only [Bool.false_eq_true, if_false, BitVec.xor_zero]
    apply BitVec.eq_of_toNat_eq
    rw [BitVec.toNat_ushiftRight, h2, Nat.shiftRight_eq_div_pow]
    omega

/-- The lowest byte. -/
def low (w : BitVec 32) : UInt8 := UInt8.ofNat w.toNat
theorem low_split (w : BitVec 32) : w = BitVec.ofNat 32 (low w).toNat ^^^ ((w >>> 8) <<< 8) := by
  have e1 : BitVec.ofNat 32 (low w).toNat = w &&& 255#32 := by
    apply BitVec.eq_of_toNat_eq
    rw [BitVec.toNat_and]
    have : w.toNat &&& (255#32 : BitVec 32).toNat = w.toNat % 2 ^ 8 := Nat.and_two_pow_sub_one_eq_mod w.toNat 8
    rw [this]
    simp [low]
    omega
  rw [e1]
  apply BitVec.eq_of_getLsbD_eq
  intro i hi
  simp only [BitVec.getLsbD_xor, BitVec.getLsbD_and, BitVec.getLsbD_shiftLeft, BitVec.getLsbD_ushiftRight]
  have h255 : (255#32 : BitVec 32).getLsbD i = decide (i < 8) := by
    have : ∀ j : Fin 32, (255#32 : BitVec 32).getLsbD j.val = decide (j.val < 8) := by decide
    exact this ⟨i, hi⟩
  rw [h255]
  by_cases h8 : i < 8
  · simp [h8]
  · simp [h8, hi, show 8 + (i - 8) = i by omega]
theorem byte1_low (c w : BitVec 32) : byte1 c (low w) = bitsN 8 (c ^^^ w) ^^^ (w >>> 8) := by
  have h : bitsN 8 ((w >>> 8) <<< 8) = w >>> 8 := by
    apply bitsN_shl
    rw [BitVec.toNat_ushiftRight, Nat.shiftRight_eq_div_pow]
    have := w.isLt
    omega
  have e : c ^^^ w = (c ^^^ BitVec.ofNat 32 (low w).toNat) ^^^ ((w >>> 8) <<< 8) := by
    conv => lhs; rw [low_split w]
    rw [BitVec.xor_assoc]
  unfold byte1
  rw [e, bitsN_xor 8 (c ^^^ BitVec.ofNat 32 (low w).toNat) ((w >>> 8) <<< 8), h, BitVec.xor_assoc, BitVec.xor_self, BitVec.xor_zero]
theorem leB_low (w : BitVec 32) : leB w.toNat 4 = [low w, low (w >>> 8), low (w >>> 16), low (w >>> 24)] := by
  have r4 : List.range 4 = [0, 1, 2, 3] := by decide
  unfold leB low
  rw [r4]
  simp only [List.map_cons, List.map_nil, BitVec.toNat_ushiftRight, Nat.shiftRight_eq_div_pow, Nat.mul_zero, Nat.pow_zero, Nat.div_one, Nat.mul_one]
theorem fold4 (c w : BitVec 32) : (leB w.toNat 4).foldl byte1 c = bitsN 32 (c ^^^ w) := by
  rw [leB_low]
  simp only [List.foldl_cons, List.foldl_nil]
  have s8 : ∀ n : Nat, (w >>> n) >>> 8 = w >>> (n + 8) := fun n => by rw [← BitVec.shiftRight_add]
  rw [byte1_low c w, byte1_low _ (w >>> 8), BitVec.xor_assoc, BitVec.xor_self, BitVec.xor_zero, s8, byte1_low _ (w >>> 16), BitVec.xor_assoc, BitVec.xor_self, BitVec.xor_zero, s8,
    byte1_low _ (w >>> 24), BitVec.xor_assoc, BitVec.xor_self, BitVec.xor_zero, s8, bitsN_add, bitsN_add, bitsN_add]
  have : w >>> 32 = 0#32 := by
    apply BitVec.eq_of_toNat_eq
    rw [BitVec.toNat_ushiftRight, Nat.shiftRight_eq_div_pow]
    have := w.isLt
    simp
    omega
  rw [this, BitVec.xor_zero]

/-- The register behind sealed bytes. -/
theorem fold_sealB (x : List UInt8) : (sealB x).foldl byte1 (~~~ 0#32) = bitsN 32 (BitVec.allOnes 32) := by
  unfold sealB
  rw [List.foldl_append, fold4]
  unfold more
  congr 1
  generalize x.foldl byte1 (~~~ 0#32) = c
  rw [show ~~~ c = c ^^^ BitVec.allOnes 32 by rw [BitVec.xor_allOnes], ← BitVec.xor_assoc, BitVec.xor_self, BitVec.zero_xor]
theorem fold_zeros : ∀ (n : Nat) (c : BitVec 32), (List.replicate n (0 : UInt8)).foldl byte1 c = bitsN (8 * n) c
  | 0, c => rfl
  | n + 1, c => by
    rw [List.replicate_succ, List.foldl_cons, fold_zeros n]
    have : byte1 c 0 = bitsN 8 c := by unfold byte1; simp
    rw [this, bitsN_add]
    congr 1
    omega

def w4 (a b c d : UInt8) : Nat := a.toNat + 256 * b.toNat + 65536 * c.toNat + 16777216 * d.toNat
theorem leB_w4 (a b c d : UInt8) : leB (w4 a b c d) 4 = [a, b, c, d] := by
  have r4 : List.range 4 = [0, 1, 2, 3] := by decide
  have ha := a.toNat_lt; have hb := b.toNat_lt; have hc := c.toNat_lt; have hd := d.toNat_lt
  unfold leB w4
  rw [r4]
  simp only [List.map_cons, List.map_nil, List.cons.injEq, and_true]
  refine ⟨?_, ?_, ?_, ?_⟩ <;> (apply UInt8.toNat_inj.1; simp; try omega)

/-- Four bytes in a row turned: what was sealed isn't any more. -/
theorem turned_none (bs : List UInt8) (a b c d : UInt8) (p q : List UInt8) (hz : ¬ (a = 0 ∧ b = 0 ∧ c = 0 ∧ d = 0)) (e : List UInt8) (he : e = List.replicate p.length 0 ++ ([a, b, c, d] ++ List.replicate q.length 0)) (hl : e.length = (sealB bs).length) :
    openB (xorB (sealB bs) e) = none := by
  cases ho : openB (xorB (sealB bs) e) with
  | none => rfl
  | some x =>
    exfalso
    have h1 := openB_iff.1 ho
    have h2 := fold_sealB x
    rw [← h1] at h2
    have h3 := fold_xor (sealB bs) e (~~~ 0#32) 0#32 hl.symm
    rw [BitVec.xor_zero, h2, fold_sealB bs] at h3
    have h4 : e.foldl byte1 0#32 = 0#32 := by
      have := congrArg (bitsN 32 (BitVec.allOnes 32) ^^^ ·) h3
      simp only [← BitVec.xor_assoc, BitVec.xor_self, BitVec.zero_xor] at this
      exact this.symm
    rw [he, List.foldl_append, List.foldl_append, fold_zeros, fold_zeros, bitsN_of0, ← leB_w4] at h4
    have hw : w4 a b c d < 2 ^ 32 := by
      have ha := a.toNat_lt; have hb := b.toNat_lt; have hc := c.toNat_lt; have hd := d.toNat_lt
      unfold w4; omega
    have hn : w4 a b c d = (BitVec.ofNat 32 (w4 a b c d)).toNat := by simp; omega
    rw [hn, fold4, BitVec.zero_xor] at h4
    have h5 := bitsN_zero _ (bitsN_zero _ h4)
    have h6 := congrArg BitVec.toNat h5
    rw [← hn] at h6
    apply hz
    unfold w4 at h6
    simp at h6
    refine ⟨?_, ?_, ?_, ?_⟩ <;> (apply UInt8.toNat_inj.1; simp; try omega)
end Go.AS.C
