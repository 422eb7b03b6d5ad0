/- Lemmas for the proof of a given statement; no conditions. -/
import Derived.Test.YtghagepgphaboaaDoorM3
set_option maxHeartbeats 1000000

namespace Go.AS.C
open Go
set_option linter.unusedVariables false
set_option linter.unusedSimpArgs false
set_option maxRecDepth 10000

/-- One bit's turn. -/
def bit1 (c : BitVec 32) : BitVec 32 := (c >>> 1) ^^^ (2197175160#32 &&& -(c &&& 1#32))

def bitsN : Nat → BitVec 32 → BitVec 32
  | 0, c => c
  | n + 1, c => bit1 (bitsN n c)

def byte1 (c : BitVec 32) (b : UInt8) : BitVec 32 := bitsN 8 (c ^^^ BitVec.ofNat 32 b.toNat)

def more (s : BitVec 32) (bs : List UInt8) : BitVec 32 := ~~~ (bs.foldl byte1 (~~~ s))

theorem hones32 : (Value.int .u32 4294967295) = u32 4294967295#32 := rfl

theorem xor_ones (c : BitVec 32) : c ^^^ 4294967295#32 = ~~~ c := by
  have : (4294967295#32) = BitVec.allOnes 32 := by decide
  rw [this, BitVec.xor_allOnes]

/-- n as w bytes, the lowest first. -/
def leB (n w : Nat) : List UInt8 := (List.range w).map fun j => UInt8.ofNat (n / 2 ^ (8 * j))

theorem leB_length (n w : Nat) : (leB n w).length = w := by simp [leB]

theorem flat_take_le {α : Type} (l : List (List α)) (k : Nat) : (l.take k).flatten.length ≤ l.flatten.length := by
  conv => rhs; rw [← List.take_append_drop k l, List.flatten_append, List.length_append]
  omega

theorem flat_take_succ {α : Type} (l : List (List α)) {k : Nat} {x : List α} (h : l[k]? = some x) : (l.take (k + 1)).flatten = (l.take k).flatten ++ x := by
  rw [List.take_add_one, h]
  simp

theorem h256 : (Value.int .u32 256) = u32 256#32 := rfl

end Go.AS.C


namespace Go.AS.C
open Go
set_option linter.unusedVariables false
set_option linter.unusedSimpArgs false

/-- Bytes as a number, the lowest first. -/
def leN : List UInt8 → Nat
  | [] => 0
  | b :: r => b.toNat + 256 * leN r
theorem pow256 (k : Nat) : 2 ^ (8 * k) = 256 ^ k := by rw [Nat.pow_mul]

/-- What num.Unfix gives: the number, and the error. -/
def unfixN (bs : List UInt8) : Nat × Nat := if bs.length < 1 ∨ 4 < bs.length then (0, 1) else if leN bs ≤ 2147483647 then (leN bs, 0) else (0, 5)

end Go.AS.C


namespace Go.AS.C
open Go
set_option linter.unusedVariables false
set_option linter.unusedSimpArgs false

theorem binA_or8 (a b : UInt8) : binA .or (by8 a) (by8 b) = some (by8 (a ||| b)) := by
  show (if IntKind.u8 = IntKind.u8 then some (Value.int .u8 (IntKind.u8.wrap ((BitVec.ofInt 8 (a.toNat : Int) ||| BitVec.ofInt 8 (b.toNat : Int)).toNat : Int))) else none) = _
  rw [if_pos rfl, ofInt_u8, ofInt_u8]
  have h1 : (a.toBitVec ||| b.toBitVec).toNat = (a ||| b).toNat := by simp
  rw [h1, wrap_u8 _ (a ||| b).toNat_lt]
  rfl
end Go.AS.C


namespace Go.AS.C
open Go
set_option linter.unusedVariables false
set_option linter.unusedSimpArgs false

end Go.AS.C


namespace Go.AS.C
open Go
set_option linter.unusedVariables false
set_option linter.unusedSimpArgs false
set_option maxRecDepth 10000

theorem b8_128 : (Value.int .u8 128) = by8 128 := rfl
theorem or128 (m : Nat) : UInt8.ofNat m ||| 128 = UInt8.ofNat (m % 128 + 128) := by
  have h : ∀ x : Fin 256, (x.val ||| 128) = x.val % 128 + 128 := by decide +kernel
  apply UInt8.toNat_inj.1
  have := h ⟨m % 256, Nat.mod_lt _ (by omega)⟩
  simp only at this
  rw [UInt8.toNat_or, UInt8.toNat_ofNat', UInt8.toNat_ofNat', show (128 : UInt8).toNat = 128 from rfl, this]
  omega
/-- A number's bytes: seven bits in each, the lowest first. -/
def putN (n : Nat) : List UInt8 := if n < 128 then [UInt8.ofNat n] else UInt8.ofNat (n % 128 + 128) :: putN (n / 128)
theorem putN_small {n : Nat} (h : n < 128) : putN n = [UInt8.ofNat n] := by rw [putN, if_pos h]
theorem putN_big {n : Nat} (h : 128 ≤ n) : putN n = UInt8.ofNat (n % 128 + 128) :: putN (n / 128) := by rw [putN, if_neg (by omega)]
theorem putN_len {n : Nat} : ∀ k, n < 128 ^ (k + 1) → (putN n).length ≤ k + 1
  | 0, h => by rw [putN_small (by simpa using h)]; simp
  | k + 1, h => by
    rcases Nat.lt_or_ge n 128 with h1 | h1
    · rw [putN_small h1]; simp
    · rw [putN_big h1, List.length_cons]
      have : n / 128 < 128 ^ (k + 1) := by
        rw [Nat.div_lt_iff_lt_mul (by omega)]
        rw [Nat.pow_succ] at h; exact h
      have := putN_len k this
      omega
theorem putN_pos (n : Nat) : 1 ≤ (putN n).length := by
  rw [putN]; split <;> simp
theorem putN_len5 {n : Nat} (h : n ≤ 2147483647) : (putN n).length ≤ 5 := putN_len 4 (by omega)

/-- The number with which bytes begin: from place i on, n being told so far. -/
def getGo : Nat → Nat → List UInt8 → Option (Nat × Nat)
  | _, _, [] => none
  | i, n, b :: r => if 5 ≤ i then none else if 128 ≤ b.toNat then getGo (i + 1) (n + b.toNat % 128 * 128 ^ i) r
    else if 2147483647 < n + b.toNat % 128 * 128 ^ i ∨ (0 < i ∧ b.toNat = 0) then none else some (n + b.toNat % 128 * 128 ^ i, i + 1)
def getN (bs : List UInt8) : Option (Nat × Nat) := getGo 0 0 bs
theorem getGo_put (r : List UInt8) : ∀ (k i m n : Nat), m < 128 ^ (k + 1) → i + k < 5 → n + m * 128 ^ i ≤ 2147483647 → (0 < i → 0 < m) → getGo i n (putN m ++ r) = some (n + m * 128 ^ i, i + (putN m).length)
  | k, i, m, n, hm, hi, hn, h0 => by
    rcases Nat.lt_or_ge m 128 with h | h
    · rw [putN_small h]
      have e : (UInt8.ofNat m).toNat = m := by rw [UInt8.toNat_ofNat', Nat.mod_eq_of_lt (by omega)]
      show getGo i n (UInt8.ofNat m :: r) = _
      unfold getGo
      rw [e, Nat.mod_eq_of_lt h, if_neg (by omega), if_neg (by omega), if_neg (by omega)]
      rfl
    · rw [putN_big h, List.cons_append]
      have e : (UInt8.ofNat (m % 128 + 128)).toNat = m % 128 + 128 := by rw [UInt8.toNat_ofNat', Nat.mod_eq_of_lt (by omega)]
      unfold getGo
      have e2 : (m % 128 + 128) % 128 = m % 128 := by omega
      rw [e, e2, if_neg (by omega), if_pos (by omega)]
      have e3 : n + m % 128 * 128 ^ i + m / 128 * 128 ^ (i + 1) = n + m * 128 ^ i := by
        have := Nat.div_add_mod m 128
        rw [Nat.pow_succ, show m / 128 * (128 ^ i * 128) = (128 * (m / 128)) * 128 ^ i by rw [Nat.mul_comm (128 ^ i) 128, ← Nat.mul_assoc, Nat.mul_comm (m / 128) 128], Nat.add_assoc, ← Nat.add_mul]
        rw [Nat.add_comm (m % 128), this]
      cases k with
      | zero => simp at hm; omega
      | succ k =>
        have hlt : m / 128 < 128 ^ (k + 1) := by
          rw [Nat.div_lt_iff_lt_mul (by omega)]
          rw [Nat.pow_succ] at hm; exact hm
        rw [getGo_put r k (i + 1) (m / 128) _ hlt (by omega) (by rw [e3]; exact hn) (fun _ => Nat.div_pos h (by omega)), e3, List.length_cons]
        congr 2
        omega
theorem getN_put {n : Nat} (h : n ≤ 2147483647) (r : List UInt8) : getN (putN n ++ r) = some (n, (putN n).length) := by
  have := getGo_put r 4 0 n 0 (by omega) (by omega) (by simpa using h) (fun h => by omega)
  simpa [getN] using this

theorem getGo_ok : ∀ (bs : List UInt8) (i n m k : Nat), n < 128 ^ i → getGo i n bs = some (m, k) → i < k ∧ k ≤ i + bs.length ∧ k ≤ 5 ∧ m ≤ 2147483647 ∧ n ≤ m ∧ (m - n) % 128 ^ i = 0 ∧ putN ((m - n) / 128 ^ i) = bs.take (k - i) ∧ (0 < i → 0 < (m - n) / 128 ^ i)
  | [], i, n, m, k, _, h => by cases h
  | b :: r, i, n, m, k, hn, h => by
    unfold getGo at h
    split at h
    · cases h
    · rename_i hi
      have hp : 0 < 128 ^ i := Nat.pow_pos (by omega)
      split at h
      · rename_i hb
        have hb8 := b.toNat_lt
        have hn2 : n + b.toNat % 128 * 128 ^ i < 128 ^ (i + 1) := by
          have : b.toNat % 128 * 128 ^ i ≤ 127 * 128 ^ i := Nat.mul_le_mul_right _ (by omega)
          rw [Nat.pow_succ]; omega
        obtain ⟨h1, h2, h3, h4, h5, h6, h7, h8⟩ := getGo_ok r (i + 1) _ m k hn2 h
        have hx := h8 (by omega)
        generalize hq : (m - (n + b.toNat % 128 * 128 ^ i)) / 128 ^ (i + 1) = q at h7 hx
        have hm : m - (n + b.toNat % 128 * 128 ^ i) = q * 128 ^ (i + 1) := by
          have := Nat.div_add_mod (m - (n + b.toNat % 128 * 128 ^ i)) (128 ^ (i + 1))
          rw [hq, h6, Nat.mul_comm] at this
          omega
        have hm2 : m - n = (b.toNat % 128 + 128 * q) * 128 ^ i := by
          have e : 128 * q * 128 ^ i = q * 128 ^ (i + 1) := by rw [Nat.pow_succ]; ac_rfl
          rw [Nat.add_mul, e]
          omega
        have hd : (m - n) / 128 ^ i = b.toNat % 128 + 128 * q := by rw [hm2, Nat.mul_div_cancel _ hp]
        refine ⟨by omega, by simp; omega, h3, h4, by omega, by rw [hm2]; exact Nat.mul_mod_left _ _, ?_, by omega⟩
        rw [hd, putN_big (by omega)]
        have e1 : (b.toNat % 128 + 128 * q) % 128 + 128 = b.toNat := by omega
        have e2 : (b.toNat % 128 + 128 * q) / 128 = q := by omega
        have e3 : k - i = (k - (i + 1)) + 1 := by omega
        rw [e1, e2, e3, List.take_succ_cons, h7]
        congr 1
        exact UInt8.toNat_inj.1 (by rw [UInt8.toNat_ofNat', Nat.mod_eq_of_lt hb8])
      · rename_i hb
        split at h
        · cases h
        · rename_i hc
          simp only [Option.some.injEq, Prod.mk.injEq] at h
          obtain ⟨rfl, rfl⟩ := h
          have hb8 := b.toNat_lt
          have e1 : b.toNat % 128 = b.toNat := by omega
          have e2 : n + b.toNat % 128 * 128 ^ i - n = b.toNat * 128 ^ i := by rw [e1]; omega
          refine ⟨by omega, by simp only [List.length_cons]; omega, by omega, by omega, by omega, by rw [e2]; exact Nat.mul_mod_left _ _, ?_, ?_⟩
          · rw [e2, Nat.mul_div_cancel _ hp, putN_small (by omega), show i + 1 - i = 1 by omega]
            show [UInt8.ofNat b.toNat] = [b]
            rw [UInt8.ofNat_toNat]
          · intro h0
            rw [e2, Nat.mul_div_cancel _ hp]
            omega
theorem getN_ok {bs : List UInt8} {n k : Nat} (h : getN bs = some (n, k)) : 1 ≤ k ∧ k ≤ bs.length ∧ k ≤ 5 ∧ n ≤ 2147483647 ∧ putN n = bs.take k := by
  obtain ⟨h1, h2, h3, h4, _, _, h7, _⟩ := getGo_ok bs 0 0 n k (by simp) h
  simp at h7 h2
  exact ⟨by omega, h2, h3, h4, h7⟩

/-- A text's bytes. -/
def textN (bs : List UInt8) : List UInt8 := putN bs.length ++ bs
/-- What Fix gives. -/
def fixF (n w : Int) : Option (List UInt8) := if (1 ≤ w ∧ w ≤ 4) ∧ (0 ≤ n ∧ n ≤ 2147483647) ∧ n.toNat / 256 ^ w.toNat = 0 then some (leB n.toNat w.toNat) else none
theorem leN_leB (w : Nat) : ∀ n, n < 256 ^ w → leN (leB n w) = n := by
  induction w with
  | zero => intro n h; simp at h; subst h; rfl
  | succ w ih =>
    intro n h
    have e : leB n (w + 1) = UInt8.ofNat n :: leB (n / 256) w := by
      unfold leB
      rw [List.range_succ_eq_map, List.map_cons, List.map_map]
      congr 1
      · simp
      apply List.map_congr_left
      intro k _
      show UInt8.ofNat (n / 2 ^ (8 * (k + 1))) = UInt8.ofNat (n / 256 / 2 ^ (8 * k))
      rw [Nat.div_div_eq_div_mul, show 2 ^ (8 * (k + 1)) = 256 * 2 ^ (8 * k) by rw [Nat.mul_add, Nat.pow_add, Nat.mul_comm]]
    rw [e]
    unfold leN
    rw [ih (n / 256) (by rw [Nat.div_lt_iff_lt_mul (by omega)]; rw [Nat.pow_succ] at h; exact h), UInt8.toNat_ofNat']
    omega
end Go.AS.C
