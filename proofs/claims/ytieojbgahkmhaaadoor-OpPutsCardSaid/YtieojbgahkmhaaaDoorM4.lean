/- Lemmas for the proof of a given statement; no conditions. -/
import Derived.Test.YtieojbgahkmhaaaDoorM3
import Derived.Test.YtieojbgahkmhaaaDoorRows
import Derived.Lib.ItoaMem
import Derived.Lib.ItoaLen
set_option maxHeartbeats 1000000

namespace Go.AS.C
open Go
set_option linter.unusedVariables false
set_option linter.unusedSimpArgs false
set_option maxRecDepth 10000

/-- One bit's turn. -/
def bit1 (c : BitVec 32) : BitVec 32 := (c >>> 1) ^^^ (2197175160#32 &&& -(c &&& 1#32))

def bitsN : Nat → BitVec 32 → BitVec 32
  | 0, c => c
  | n + 1, c => bit1 (bitsN n c)

def byte1 (c : BitVec 32) (b : UInt8) : BitVec 32 := bitsN 8 (c ^^^ BitVec.ofNat 32 b.toNat)

def more (s : BitVec 32) (bs : List UInt8) : BitVec 32 := ~~~ (bs.foldl byte1 (~~~ s))

/-- n as w bytes, the lowest first. -/
def leB (n w : Nat) : List UInt8 := (List.range w).map fun j => UInt8.ofNat (n / 2 ^ (8 * j))

theorem leB_length (n w : Nat) : (leB n w).length = w := by simp [leB]

theorem flat_take_le {α : Type} (l : List (List α)) (k : Nat) : (l.take k).flatten.length ≤ l.flatten.length := by
  conv => rhs; rw [← List.take_append_drop k l, List.flatten_append, List.length_append]
  omega

theorem flat_take_succ {α : Type} (l : List (List α)) {k : Nat} {x : List α} (h : l[k]? = some x) : (l.take (k + 1)).flatten = (l.take k).flatten ++ x := by
  rw [List.take_add_one, h]
  simp

theorem h256 : (Value.int .u32 256) = u32 256#32 := rfl

end Go.AS.C


namespace Go.AS.C
open Go
set_option linter.unusedVariables false
set_option linter.unusedSimpArgs false

/-- Bytes as a number, the lowest first. -/
def leN : List UInt8 → Nat
  | [] => 0
  | b :: r => b.toNat + 256 * leN r
theorem leN_append : ∀ (a b : List UInt8), leN (a ++ b) = leN a + 256 ^ a.length * leN b
  | [], b => by simp [leN]
  | x :: a, b => by
    simp only [List.cons_append, leN, leN_append a b, List.length_cons, Nat.pow_succ, Nat.mul_add, ← Nat.mul_assoc]
    rw [Nat.mul_comm 256 (256 ^ a.length)]
    omega
theorem leN_lt : ∀ a : List UInt8, leN a < 256 ^ a.length
  | [] => by simp [leN]
  | x :: a => by
    have h1 := leN_lt a
    have h2 := x.toNat_lt
    simp only [leN, List.length_cons, Nat.pow_succ]
    omega
theorem pow256 (k : Nat) : 2 ^ (8 * k) = 256 ^ k := by rw [Nat.pow_mul]

/-- What num.Unfix gives: the number, and the error. -/
def unfixN (bs : List UInt8) : Nat × Nat := if bs.length < 1 ∨ 4 < bs.length then (0, 1) else if leN bs ≤ 2147483647 then (leN bs, 0) else (0, 5)

theorem wrap_i64_nat (n : Nat) (h : n < 2 ^ 62) : IntKind.i64.wrap (n : Int) = n := wrap_i64 _ (by omega) (by omega)
theorem toNat_i64 (n : Nat) (h : n < 2 ^ 62) : (BitVec.ofInt 64 (n : Int)).toNat = n := by
  rw [BitVec.ofInt_natCast, BitVec.toNat_ofNat, Nat.mod_eq_of_lt (by omega)]
theorem or_ii (a b : Nat) (ha : a < 2 ^ 62) (hb : b < 2 ^ 62) : binA .or (ii a) (ii b) = some (ii ((a ||| b : Nat) : Int)) := by
  show (if IntKind.i64 = IntKind.i64 then some (Value.int .i64 (IntKind.i64.wrap ((BitVec.ofInt 64 (a : Int) ||| BitVec.ofInt 64 (b : Int)).toNat : Int))) else none) = _
  rw [if_pos rfl, BitVec.toNat_or, toNat_i64 a ha, toNat_i64 b hb, wrap_i64_nat _ (Nat.or_lt_two_pow ha hb)]
theorem shl_ii (a : Nat) (k : IntKind) (m : Nat) (hm : m ≤ 64) (h : a * 2 ^ m < 2 ^ 62) : binA .shl (ii a) (.int k m) = some (ii ((a * 2 ^ m : Nat) : Int)) := by
  simp only [binA]
  have hn : ¬ ((m : Int) < 0) := by omega
  rw [if_neg hn]
  have : min ((m : Int).toNat) IntKind.i64.bits = m := by
    show min ((m : Int).toNat) 64 = m
    simp; omega
  rw [this, show ((2 : Int) ^ m) = ((2 ^ m : Nat) : Int) by simp, ← Int.natCast_mul, wrap_i64_nat _ h]
theorem or_low (a b k : Nat) (h : a < 2 ^ k) : a ||| (b * 2 ^ k) = a + b * 2 ^ k := by
  rw [Nat.mul_comm, Nat.or_comm, ← Nat.two_pow_add_eq_or_of_lt h, Nat.add_comm]
end Go.AS.C


namespace Go.AS.C
open Go
set_option linter.unusedVariables false
set_option linter.unusedSimpArgs false

theorem binA_or8 (a b : UInt8) : binA .or (by8 a) (by8 b) = some (by8 (a ||| b)) := by
  show (if IntKind.u8 = IntKind.u8 then some (Value.int .u8 (IntKind.u8.wrap ((BitVec.ofInt 8 (a.toNat : Int) ||| BitVec.ofInt 8 (b.toNat : Int)).toNat : Int))) else none) = _
  rw [if_pos rfl, ofInt_u8, ofInt_u8]
  have h1 : (a.toBitVec ||| b.toBitVec).toNat = (a ||| b).toNat := by simp
  rw [h1, wrap_u8 _ (a ||| b).toNat_lt]
  rfl
theorem binA_and8 (a b : UInt8) : binA .and (by8 a) (by8 b) = some (by8 (a &&& b)) := by
  show (if IntKind.u8 = IntKind.u8 then some (Value.int .u8 (IntKind.u8.wrap ((BitVec.ofInt 8 (a.toNat : Int) &&& BitVec.ofInt 8 (b.toNat : Int)).toNat : Int))) else none) = _
  rw [if_pos rfl, ofInt_u8, ofInt_u8]
  have h1 : (a.toBitVec &&& b.toBitVec).toNat = (a &&& b).toNat := by simp
  rw [h1, wrap_u8 _ (a &&& b).toNat_lt]
  rfl
theorem binA_shr8 (a : UInt8) (k : IntKind) (n : Nat) (h : n ≤ 8) : binA .shr (by8 a) (.int k n) = some (by8 (UInt8.ofNat (a.toNat / 2 ^ n))) := by
  simp only [binA, by8]
  have hn : ¬ ((n : Int) < 0) := by omega
  rw [if_neg hn]
  have : min ((n : Int).toNat) IntKind.u8.bits = n := by
    show min ((n : Int).toNat) 8 = n
    simp; omega
  rw [this, show ((2 : Int) ^ n) = ((2 ^ n : Nat) : Int) by simp, Int.fdiv_eq_ediv_of_nonneg _ (Int.natCast_nonneg _)]
  congr 2
  have hlt : a.toNat / 2 ^ n < 256 := Nat.lt_of_le_of_lt (Nat.div_le_self _ _) a.toNat_lt
  rw [UInt8.toNat_ofNat', Nat.mod_eq_of_lt hlt, Int.natCast_ediv]
end Go.AS.C


namespace Go.AS.C
open Go
set_option linter.unusedVariables false
set_option linter.unusedSimpArgs false

theorem size_bytes (s : ByteArray) : s.size = s.data.toList.length := by rw [Array.length_toList]; rfl
theorem sls_both {A : AH} {s : ByteArray} {l h : Nat} (h1 : l ≤ h) (h2 : h ≤ s.size) : sSls A (.string s) (some (ii l)) (some (ii h)) = some (.string (s.extract l h), A) := by
  unfold sSls
  simp only [bnd_both h1 h2]
  rfl
theorem s2b_row (A : AH) (s : ByteArray) : sS2b A (.string s) = some (.slice (some ⟨A.length, 0, none⟩) s.size s.size, A ++ [.row (s.data.toList.map by8) .own 1 false]) := id rfl
theorem s2b_byt (A : AH) (s : ByteArray) : OwnB A.length (A ++ [.row (s.data.toList.map by8) .own 1 false]) (.slice (some ⟨A.length, 0, none⟩) s.size s.size) s.data.toList :=
  own_row (get_last _ _) (size_bytes s) (Nat.le_refl _) (Nat.le_refl _)
end Go.AS.C


namespace Go.AS.C
open Go
set_option linter.unusedVariables false
set_option linter.unusedSimpArgs false
set_option maxRecDepth 10000

theorem b8_128 : (Value.int .u8 128) = by8 128 := rfl
theorem b8_127 : (Value.int .u8 127) = by8 127 := rfl
theorem or128 (m : Nat) : UInt8.ofNat m ||| 128 = UInt8.ofNat (m % 128 + 128) := by
  have h : ∀ x : Fin 256, (x.val ||| 128) = x.val % 128 + 128 := by decide +kernel
  apply UInt8.toNat_inj.1
  have := h ⟨m % 256, Nat.mod_lt _ (by omega)⟩
  simp only at this
  rw [UInt8.toNat_or, UInt8.toNat_ofNat', UInt8.toNat_ofNat', show (128 : UInt8).toNat = 128 from rfl, this]
  omega
theorem and127 (x : UInt8) : (x &&& 127).toNat = x.toNat % 128 := by
  rw [UInt8.toNat_and, show (127 : UInt8).toNat = 2 ^ 7 - 1 from rfl, Nat.and_two_pow_sub_one_eq_mod]
theorem binA_geq8 (x : UInt8) (n : Int) : binA .geq (by8 x) (.int .u8 n) = some (.bool (decide (n ≤ (x.toNat : Int)))) := by
  simp [binA, by8]
theorem binA_eql8 (x : UInt8) (n : Int) : binA .eql (by8 x) (.int .u8 n) = some (.bool (decide ((x.toNat : Int) = n))) := by
  simp only [by8, eqlI]

/-- A number's bytes: seven bits in each, the lowest first. -/
def putN (n : Nat) : List UInt8 := if n < 128 then [UInt8.ofNat n] else UInt8.ofNat (n % 128 + 128) :: putN (n / 128)
theorem putN_small {n : Nat} (h : n < 128) : putN n = [UInt8.ofNat n] := by rw [putN, if_pos h]
theorem putN_big {n : Nat} (h : 128 ≤ n) : putN n = UInt8.ofNat (n % 128 + 128) :: putN (n / 128) := by rw [putN, if_neg (by omega)]
theorem putN_len {n : Nat} : ∀ k, n < 128 ^ (k + 1) → (putN n).length ≤ k + 1
  | 0, h => by rw [putN_small (by simpa using h)]; simp
  | k + 1, h => by
    rcases Nat.lt_or_ge n 128 with h1 | h1
    · rw [putN_small h1]; simp
    · rw [putN_big h1, List.length_cons]
      have : n / 128 < 128 ^ (k + 1) := by
        rw [Nat.div_lt_iff_lt_mul (by omega)]
        rw [Nat.pow_succ] at h; exact h
      have := putN_len k this
      omega
theorem putN_pos (n : Nat) : 1 ≤ (putN n).length := by
  rw [putN]; split <;> simp
theorem putN_len5 {n : Nat} (h : n ≤ 2147483647) : (putN n).length ≤ 5 := putN_len 4 (by omega)

/-- The number with which bytes begin: from place i on, n being told so far. -/
def getGo : Nat → Nat → List UInt8 → Option (Nat × Nat)
  | _, _, [] => none
  | i, n, b :: r => if 5 ≤ i then none else if 128 ≤ b.toNat then getGo (i + 1) (n + b.toNat % 128 * 128 ^ i) r
    else if 2147483647 < n + b.toNat % 128 * 128 ^ i ∨ (0 < i ∧ b.toNat = 0) then none else some (n + b.toNat % 128 * 128 ^ i, i + 1)
def getN (bs : List UInt8) : Option (Nat × Nat) := getGo 0 0 bs
/-- What Get gives. -/
def getT (bs : List UInt8) : Nat × Nat × Nat := match getN bs with | some (n, k) => (n, k, 0) | none => (0, 0, 5)

theorem getGo_put (r : List UInt8) : ∀ (k i m n : Nat), m < 128 ^ (k + 1) → i + k < 5 → n + m * 128 ^ i ≤ 2147483647 → (0 < i → 0 < m) → getGo i n (putN m ++ r) = some (n + m * 128 ^ i, i + (putN m).length)
  | k, i, m, n, hm, hi, hn, h0 => by
    rcases Nat.lt_or_ge m 128 with h | h
    · rw [putN_small h]
      have e : (UInt8.ofNat m).toNat = m := by rw [UInt8.toNat_ofNat', Nat.mod_eq_of_lt (by omega)]
      show getGo i n (UInt8.ofNat m :: r) = _
      unfold getGo
      rw [e, Nat.mod_eq_of_lt h, if_neg (by omega), if_neg (by omega), if_neg (by omega)]
      rfl
    · rw [putN_big h, List.cons_append]
      have e : (UInt8.ofNat (m % 128 + 128)).toNat = m % 128 + 128 := by rw [UInt8.toNat_ofNat', Nat.mod_eq_of_lt (by omega)]
      unfold getGo
      have e2 : (m % 128 + 128) % 128 = m % 128 := by omega
      rw [e, e2, if_neg (by omega), if_pos (by omega)]
      have e3 : n + m % 128 * 128 ^ i + m / 128 * 128 ^ (i + 1) = n + m * 128 ^ i := by
        have := Nat.div_add_mod m 128
        rw [Nat.pow_succ, show m / 128 * (128 ^ i * 128) = (128 * (m / 128)) * 128 ^ i by rw [Nat.mul_comm (128 ^ i) 128, ← Nat.mul_assoc, Nat.mul_comm (m / 128) 128], Nat.add_assoc, ← Nat.add_mul]
        rw [Nat.add_comm (m % 128), this]
      cases k with
      | zero => simp at hm; omega
      | succ k =>
        have hlt : m / 128 < 128 ^ (k + 1) := by
          rw [Nat.div_lt_iff_lt_mul (by omega)]
          rw [Nat.pow_succ] at hm; exact hm
        rw [getGo_put r k (i + 1) (m / 128) _ hlt (by omega) (by rw [e3]; exact hn) (fun _ => Nat.div_pos h (by omega)), e3, List.length_cons]
        congr 2
        omega
theorem getN_put {n : Nat} (h : n ≤ 2147483647) (r : List UInt8) : getN (putN n ++ r) = some (n, (putN n).length) := by
  have := getGo_put r 4 0 n 0 (by omega) (by omega) (by simpa using h) (fun h => by omega)
  simpa [getN] using this

theorem getGo_ok : ∀ (bs : List UInt8) (i n m k : Nat), n < 128 ^ i → getGo i n bs = some (m, k) → i < k ∧ k ≤ i + bs.length ∧ k ≤ 5 ∧ m ≤ 2147483647 ∧ n ≤ m ∧ (m - n) % 128 ^ i = 0 ∧ putN ((m - n) / 128 ^ i) = bs.take (k - i) ∧ (0 < i → 0 < (m - n) / 128 ^ i)
  | [], i, n, m, k, _, h => by cases h
  | b :: r, i, n, m, k, hn, h => by
    unfold getGo at h
    split at h
    · cases h
    · rename_i hi
      have hp : 0 < 128 ^ i := Nat.pow_pos (by omega)
      split at h
      · rename_i hb
        have hb8 := b.toNat_lt
        have hn2 : n + b.toNat % 128 * 128 ^ i < 128 ^ (i + 1) := by
          have : b.toNat % 128 * 128 ^ i ≤ 127 * 128 ^ i := Nat.mul_le_mul_right _ (by omega)
          rw [Nat.pow_succ]; omega
        obtain ⟨h1, h2, h3, h4, h5, h6, h7, h8⟩ := getGo_ok r (i + 1) _ m k hn2 h
        have hx := h8 (by omega)
        generalize hq : (m - (n + b.toNat % 128 * 128 ^ i)) / 128 ^ (i + 1) = q at h7 hx
        have hm : m - (n + b.toNat % 128 * 128 ^ i) = q * 128 ^ (i + 1) := by
          have := Nat.div_add_mod (m - (n + b.toNat % 128 * 128 ^ i)) (128 ^ (i + 1))
          rw [hq, h6, Nat.mul_comm] at this
          omega
        have hm2 : m - n = (b.toNat % 128 + 128 * q) * 128 ^ i := by
          have e : 128 * q * 128 ^ i = q * 128 ^ (i + 1) := by rw [Nat.pow_succ]; ac_rfl
          rw [Nat.add_mul, e]
          omega
        have hd : (m - n) / 128 ^ i = b.toNat % 128 + 128 * q := by rw [hm2, Nat.mul_div_cancel _ hp]
        refine ⟨by omega, by simp; omega, h3, h4, by omega, by rw [hm2]; exact Nat.mul_mod_left _ _, ?_, by omega⟩
        rw [hd, putN_big (by omega)]
        have e1 : (b.toNat % 128 + 128 * q) % 128 + 128 = b.toNat := by omega
        have e2 : (b.toNat % 128 + 128 * q) / 128 = q := by omega
        have e3 : k - i = (k - (i + 1)) + 1 := by omega
        rw [e1, e2, e3, List.take_succ_cons, h7]
        congr 1
        exact UInt8.toNat_inj.1 (by rw [UInt8.toNat_ofNat', Nat.mod_eq_of_lt hb8])
      · rename_i hb
        split at h
        · cases h
        · rename_i hc
          simp only [Option.some.injEq, Prod.mk.injEq] at h
          obtain ⟨rfl, rfl⟩ := h
          have hb8 := b.toNat_lt
          have e1 : b.toNat % 128 = b.toNat := by omega
          have e2 : n + b.toNat % 128 * 128 ^ i - n = b.toNat * 128 ^ i := by rw [e1]; omega
          refine ⟨by omega, by simp only [List.length_cons]; omega, by omega, by omega, by omega, by rw [e2]; exact Nat.mul_mod_left _ _, ?_, ?_⟩
          · rw [e2, Nat.mul_div_cancel _ hp, putN_small (by omega), show i + 1 - i = 1 by omega]
            show [UInt8.ofNat b.toNat] = [b]
            rw [UInt8.ofNat_toNat]
          · intro h0
            rw [e2, Nat.mul_div_cancel _ hp]
            omega
theorem getN_ok {bs : List UInt8} {n k : Nat} (h : getN bs = some (n, k)) : 1 ≤ k ∧ k ≤ bs.length ∧ k ≤ 5 ∧ n ≤ 2147483647 ∧ putN n = bs.take k := by
  obtain ⟨h1, h2, h3, h4, _, _, h7, _⟩ := getGo_ok bs 0 0 n k (by simp) h
  simp at h7 h2
  exact ⟨by omega, h2, h3, h4, h7⟩

/-- A text's bytes. -/
def textN (bs : List UInt8) : List UInt8 := putN bs.length ++ bs
/-- What Fix gives. -/
def fixF (n w : Int) : Option (List UInt8) := if (1 ≤ w ∧ w ≤ 4) ∧ (0 ≤ n ∧ n ≤ 2147483647) ∧ n.toNat / 256 ^ w.toNat = 0 then some (leB n.toNat w.toNat) else none
theorem leN_leB (w : Nat) : ∀ n, n < 256 ^ w → leN (leB n w) = n := by
  induction w with
  | zero => intro n h; simp at h; subst h; rfl
  | succ w ih =>
    intro n h
    have e : leB n (w + 1) = UInt8.ofNat n :: leB (n / 256) w := by
      unfold leB
      rw [List.range_succ_eq_map, List.map_cons, List.map_map]
      congr 1
      · simp
      apply List.map_congr_left
      intro k _
      show UInt8.ofNat (n / 2 ^ (8 * (k + 1))) = UInt8.ofNat (n / 256 / 2 ^ (8 * k))
      rw [Nat.div_div_eq_div_mul, show 2 ^ (8 * (k + 1)) = 256 * 2 ^ (8 * k) by rw [Nat.mul_add, Nat.pow_add, Nat.mul_comm]]
    rw [e]
    unfold leN
    rw [ih (n / 256) (by rw [Nat.div_lt_iff_lt_mul (by omega)]; rw [Nat.pow_succ] at h; exact h), UInt8.toNat_ofNat']
    omega
end Go.AS.C


-- ALIAS Tryd G 1
-- Printed by gen.py (wip/tools): the abstract code of each function, and that it fits the program.
namespace Go.AS.C
open Go Go.Proofs
set_option maxRecDepth 100000
abbrev chantrylaw14_OpPuts : FuncId := 3
abbrev chantrylaw14_large : FuncId := 6
abbrev chantrylaw14_awake : FuncId := 7
abbrev op_Put : FuncId := 8
abbrev chantryref14_Put : FuncId := 9
abbrev op_Get : FuncId := 10
abbrev op_Check : FuncId := 11
abbrev op_Show : FuncId := 12
abbrev chantryref14_Show : FuncId := 13
abbrev op_Name : FuncId := 15
abbrev chantryref14_Name : FuncId := 16
abbrev chantryref14_Check : FuncId := 17
abbrev op_has : FuncId := 18
abbrev op_Put_1 : FuncId := 19
abbrev num_Text : FuncId := 20
abbrev num_Fix : FuncId := 21
abbrev op_truth : FuncId := 22
abbrev chantryref14_Has : FuncId := 23
abbrev chantryref01_Text : FuncId := 24
abbrev chantryref01_Fix : FuncId := 25
abbrev num_From : FuncId := 26
abbrev num_Cursor_Byte : FuncId := 27
abbrev num_Cursor_Text : FuncId := 28
abbrev op_number : FuncId := 29
abbrev op_place : FuncId := 30
abbrev num_Cursor_Bad : FuncId := 31
abbrev num_Cursor_Left : FuncId := 32
abbrev ids_Right : FuncId := 33
abbrev op_bare : FuncId := 34
abbrev op_names : FuncId := 35
abbrev ids_Hex : FuncId := 36
abbrev strconv_Itoa : FuncId := 37
abbrev strings_Join : FuncId := 38
abbrev chantryref04_Hex : FuncId := 39
abbrev chantryref14_Digits : FuncId := 40
abbrev strings_IndexFunc : FuncId := 47
abbrev op_Name_1 : FuncId := 48
abbrev num_Put : FuncId := 49
abbrev slices_Concat_byte_byte : FuncId := 50
abbrev num_is : FuncId := 51
abbrev chantryref01_Put : FuncId := 52
abbrev slices_Clone_byte_byte : FuncId := 53
abbrev num_Cursor_Take : FuncId := 54
abbrev num_Cursor_Num : FuncId := 55
abbrev num_Unfix : FuncId := 56
abbrev slices_Grow_byte_byte : FuncId := 64
abbrev num_Cursor_fail : FuncId := 65
abbrev num_Get : FuncId := 66
/-- chantry/chantrylaw14.OpPuts -/
noncomputable def ic_chantrylaw14_OpPuts : IC :=
  (.seq (.ops [
    ⟨(some 2), none, false, .box (.tmp 0)⟩,
    ⟨(some 4), none, false, .mov (.const (.bool false))⟩]) (.seq (.seq (.ops [
    ⟨(some 12), none, false, .loadn (.tmp 2) 5⟩,
    ⟨(some 13), none, false, .call chantrylaw14_large [(.tmp 12)]⟩,
    ⟨(some 14), none, false, .mov (.tmp 13)⟩,
    ⟨(some 15), (some (14, false)), false, .mov (.tmp 1)⟩,
    ⟨(some 16), (some (14, false)), false, .lens false (.tmp 15)⟩,
    ⟨(some 17), (some (14, false)), false, .bin .gtr (.tmp 16) (.const (.int .i64 300))⟩,
    ⟨(some 18), none, false, .pick (.tmp 14) (.const (.bool true)) (.tmp 17)⟩]) (.cond (.tmp 18) (.seq (.ops [
    ⟨(some 19), none, false, .call chantrylaw14_awake []⟩,
    ⟨(some 4), none, false, .mov (.tmp 19)⟩]) .ret) .skip)) (.seq (.ops [
    ⟨(some 21), none, false, .loadn (.tmp 2) 5⟩,
    ⟨(some 22), none, false, .call op_Put [(.tmp 21)]⟩,
    ⟨(some 20), none, false, .mov (.tmp 22)⟩,
    ⟨(some 23), none, false, .ext (.tmp 20) 0⟩,
    ⟨(some 24), none, false, .ext (.tmp 20) 1⟩,
    ⟨(some 5), none, false, .mov (.tmp 23)⟩,
    ⟨(some 6), none, false, .mov (.tmp 24)⟩]) (.seq (.ops [
    ⟨(some 26), none, false, .loadn (.tmp 2) 5⟩,
    ⟨(some 27), none, false, .call chantryref14_Put [(.tmp 26)]⟩,
    ⟨(some 25), none, false, .mov (.tmp 27)⟩,
    ⟨(some 28), none, false, .ext (.tmp 25) 0⟩,
    ⟨(some 29), none, false, .ext (.tmp 25) 1⟩,
    ⟨(some 7), none, false, .mov (.tmp 28)⟩,
    ⟨(some 8), none, false, .mov (.tmp 29)⟩]) (.seq (.ops [
    ⟨(some 31), none, false, .lit [.int .u8 0] 1 0 []⟩,
    ⟨(some 32), none, false, .mov (.tmp 5)⟩,
    ⟨(some 33), none, false, .app (.tmp 31) (.tmp 32) 1 1⟩,
    ⟨(some 34), none, false, .mov (.tmp 1)⟩,
    ⟨(some 35), none, false, .app (.tmp 33) (.tmp 34) 1 1⟩,
    ⟨(some 36), none, false, .call op_Get [(.tmp 35)]⟩,
    ⟨(some 30), none, false, .mov (.tmp 36)⟩,
    ⟨(some 37), none, false, .ext (.tmp 30) 0⟩,
    ⟨(some 38), none, false, .ext (.tmp 30) 1⟩,
    ⟨(some 39), none, false, .ext (.tmp 30) 2⟩,
    ⟨(some 9), none, false, .new [.int .i64 0, .string ⟨#[]⟩, .string ⟨#[]⟩, .int .i64 0, .string ⟨#[]⟩]⟩,
    ⟨none, none, false, .store (.tmp 9) (.tmp 37) 5⟩,
    ⟨(some 10), none, false, .mov (.tmp 38)⟩,
    ⟨(some 11), none, false, .mov (.tmp 39)⟩]) (.seq (.draw [
    ⟨(some 40), none, false, .mov (.tmp 5)⟩,
    ⟨(some 41), none, false, .b2s (.tmp 40)⟩,
    ⟨(some 42), none, false, .mov (.tmp 7)⟩,
    ⟨(some 43), none, false, .b2s (.tmp 42)⟩,
    ⟨(some 44), none, false, .bin .eql (.tmp 41) (.tmp 43)⟩,
    ⟨(some 45), none, false, .mov (.tmp 44)⟩,
    ⟨(some 46), (some (45, true)), false, .mov (.tmp 6)⟩,
    ⟨(some 47), (some (45, true)), false, .mov (.tmp 8)⟩,
    ⟨(some 48), (some (45, true)), false, .bin .eql (.tmp 46) (.tmp 47)⟩,
    ⟨(some 49), none, false, .pick (.tmp 45) (.tmp 48) (.const (.bool false))⟩,
    ⟨(some 50), none, false, .mov (.tmp 49)⟩,
    ⟨(some 51), (some (50, true)), false, .loadn (.tmp 2) 5⟩,
    ⟨(some 53), (some (50, true)), false, .mov (.tmp 6)⟩,
    ⟨(some 52), (some (50, true)), false, .call op_Check [(.tmp 51)]⟩,
    ⟨(some 54), (some (50, true)), false, .bin .eql (.tmp 52) (.tmp 53)⟩,
    ⟨(some 55), none, false, .pick (.tmp 50) (.tmp 54) (.const (.bool false))⟩,
    ⟨(some 56), none, false, .mov (.tmp 55)⟩,
    ⟨(some 57), (some (56, true)), false, .mov (.tmp 6)⟩,
    ⟨(some 58), (some (56, true)), false, .bin .neq (.tmp 57) (.const (.int .i64 0))⟩,
    ⟨(some 59), (some (56, true)), false, .mov (.tmp 58)⟩,
    ⟨(some 60), (some (59, false)), false, .mov (.tmp 11)⟩,
    ⟨(some 61), (some (59, false)), false, .bin .eql (.tmp 60) (.const (.int .i64 0))⟩,
    ⟨(some 62), (some (59, false)), false, .mov (.tmp 61)⟩,
    ⟨(some 63), (some (62, true)), false, .loadn (.tmp 9) 5⟩,
    ⟨(some 64), (some (62, true)), false, .loadn (.tmp 2) 5⟩,
    ⟨(some 65), (some (62, true)), false, .eqagg false (Tryd.prog.keyLits 8 23) (.tmp 63) (.tmp 64)⟩,
    ⟨(some 66), (some (59, false)), false, .pick (.tmp 62) (.tmp 65) (.const (.bool false))⟩,
    ⟨(some 67), (some (59, false)), false, .mov (.tmp 66)⟩,
    ⟨(some 68), (some (67, true)), false, .mov (.tmp 10)⟩,
    ⟨(some 69), (some (67, true)), false, .mov (.tmp 5)⟩,
    ⟨(some 70), (some (67, true)), false, .lens false (.tmp 69)⟩,
    ⟨(some 71), (some (67, true)), false, .bin .eql (.tmp 68) (.tmp 70)⟩,
    ⟨(some 72), (some (59, false)), false, .pick (.tmp 67) (.tmp 71) (.const (.bool false))⟩,
    ⟨(some 73), (some (56, true)), false, .pick (.tmp 59) (.const (.bool true)) (.tmp 72)⟩,
    ⟨(some 74), none, false, .pick (.tmp 56) (.tmp 73) (.const (.bool false))⟩,
    ⟨(some 75), none, false, .mov (.tmp 74)⟩,
    ⟨(some 76), (some (75, true)), false, .loadn (.tmp 2) 5⟩,
    ⟨(some 78), (some (75, true)), true, .loadn (.tmp 2) 5⟩,
    ⟨(some 77), (some (75, true)), true, .call op_Show [(.tmp 76)]⟩,
    ⟨(some 79), (some (75, true)), false, .call chantryref14_Show [(.tmp 78)]⟩,
    ⟨(some 80), (some (75, true)), false, .bin .eql (.tmp 77) (.tmp 79)⟩,
    ⟨(some 81), none, false, .pick (.tmp 75) (.tmp 80) (.const (.bool false))⟩,
    ⟨(some 82), none, false, .mov (.tmp 81)⟩,
    ⟨(some 83), (some (82, true)), false, .call chantrylaw14_awake []⟩,
    ⟨(some 84), none, false, .pick (.tmp 82) (.tmp 83) (.const (.bool false))⟩,
    ⟨(some 4), none, false, .mov (.tmp 84)⟩]) .ret))))))
theorem fits_chantrylaw14_OpPuts : Fits Tryd.prog 1 chantrylaw14_OpPuts ic_chantrylaw14_OpPuts [.tmp 4] 2 :=
  ⟨Tryd.f3, Tryd.func3, by decide, by kernel_rfl, by kernel_rfl⟩

/-- chantry/chantrylaw14.large -/
noncomputable def ic_chantrylaw14_large : IC :=
  (.seq (.ops [
    ⟨(some 1), none, false, .box (.tmp 0)⟩,
    ⟨(some 2), none, false, .mov (.const (.bool false))⟩]) (.seq (.ops [
    ⟨(some 3), none, false, .faddr (.tmp 1) 1⟩,
    ⟨(some 4), none, false, .load1 (.tmp 3)⟩,
    ⟨(some 5), none, false, .lens true (.tmp 4)⟩,
    ⟨(some 6), none, false, .bin .gtr (.tmp 5) (.const (.int .i64 300))⟩,
    ⟨(some 7), none, false, .mov (.tmp 6)⟩,
    ⟨(some 8), (some (7, false)), false, .faddr (.tmp 1) 2⟩,
    ⟨(some 9), (some (7, false)), false, .load1 (.tmp 8)⟩,
    ⟨(some 10), (some (7, false)), false, .lens true (.tmp 9)⟩,
    ⟨(some 11), (some (7, false)), false, .bin .gtr (.tmp 10) (.const (.int .i64 300))⟩,
    ⟨(some 12), none, false, .pick (.tmp 7) (.const (.bool true)) (.tmp 11)⟩,
    ⟨(some 13), none, false, .mov (.tmp 12)⟩,
    ⟨(some 14), (some (13, false)), false, .faddr (.tmp 1) 4⟩,
    ⟨(some 15), (some (13, false)), false, .load1 (.tmp 14)⟩,
    ⟨(some 16), (some (13, false)), false, .lens true (.tmp 15)⟩,
    ⟨(some 17), (some (13, false)), false, .bin .gtr (.tmp 16) (.const (.int .i64 300))⟩,
    ⟨(some 18), none, false, .pick (.tmp 13) (.const (.bool true)) (.tmp 17)⟩,
    ⟨(some 2), none, false, .mov (.tmp 18)⟩]) .ret))
theorem fits_chantrylaw14_large : Fits Tryd.prog 1 chantrylaw14_large ic_chantrylaw14_large [.tmp 2] 1 :=
  ⟨Tryd.f6, Tryd.func6, by decide, by kernel_rfl, by kernel_rfl⟩

/-- chantry/chantrylaw14.awake -/
noncomputable def ic_chantrylaw14_awake : IC :=
  (.seq (.ops [
    ⟨(some 0), none, false, .mov (.const (.bool false))⟩]) (.seq (.ops [
    ⟨(some 15), none, false, .build [.int .i64 0, .string ⟨#[]⟩, .string ⟨#[]⟩, .int .i64 0, .string ⟨#[]⟩] [(0, 1, (.const (.int .i64 1))), (1, 1, (.const (.string ⟨#[110]⟩))), (3, 1, (.const (.int .i64 (-5))))]⟩,
    ⟨(some 1), none, false, .new [.int .i64 0, .string ⟨#[]⟩, .string ⟨#[]⟩, .int .i64 0, .string ⟨#[]⟩]⟩,
    ⟨none, none, false, .store (.tmp 1) (.tmp 15) 5⟩]) (.seq (.ops [
    ⟨(some 17), none, false, .loadn (.tmp 1) 5⟩,
    ⟨(some 18), none, false, .call op_Put [(.tmp 17)]⟩,
    ⟨(some 16), none, false, .mov (.tmp 18)⟩,
    ⟨(some 19), none, false, .ext (.tmp 16) 0⟩,
    ⟨(some 20), none, false, .ext (.tmp 16) 1⟩,
    ⟨(some 2), none, false, .mov (.tmp 19)⟩,
    ⟨(some 3), none, false, .mov (.tmp 20)⟩]) (.seq (.ops [
    ⟨(some 22), none, false, .lit [.int .u8 0] 1 0 []⟩,
    ⟨(some 23), none, false, .mov (.tmp 2)⟩,
    ⟨(some 24), none, false, .app (.tmp 22) (.tmp 23) 1 1⟩,
    ⟨(some 25), none, false, .lit [.int .u8 0] 1 1 [(0, 1, (.const (.int .u8 9)))]⟩,
    ⟨(some 26), none, false, .app (.tmp 24) (.tmp 25) 1 1⟩,
    ⟨(some 27), none, false, .call op_Get [(.tmp 26)]⟩,
    ⟨(some 21), none, false, .mov (.tmp 27)⟩,
    ⟨(some 28), none, false, .ext (.tmp 21) 0⟩,
    ⟨(some 29), none, false, .ext (.tmp 21) 1⟩,
    ⟨(some 30), none, false, .ext (.tmp 21) 2⟩,
    ⟨(some 4), none, false, .new [.int .i64 0, .string ⟨#[]⟩, .string ⟨#[]⟩, .int .i64 0, .string ⟨#[]⟩]⟩,
    ⟨none, none, false, .store (.tmp 4) (.tmp 28) 5⟩,
    ⟨(some 5), none, false, .mov (.tmp 29)⟩,
    ⟨(some 6), none, false, .mov (.tmp 30)⟩]) (.seq (.ops [
    ⟨(some 32), none, false, .build [.int .i64 0, .string ⟨#[]⟩, .string ⟨#[]⟩, .int .i64 0, .string ⟨#[]⟩] [(0, 1, (.const (.int .i64 7))), (1, 1, (.const (.string ⟨#[110]⟩)))]⟩,
    ⟨(some 33), none, false, .call op_Put [(.tmp 32)]⟩,
    ⟨(some 31), none, false, .mov (.tmp 33)⟩,
    ⟨(some 34), none, false, .ext (.tmp 31) 0⟩,
    ⟨(some 35), none, false, .ext (.tmp 31) 1⟩,
    ⟨(some 7), none, false, .mov (.tmp 34)⟩,
    ⟨(some 8), none, false, .mov (.tmp 35)⟩]) (.seq (.ops [
    ⟨(some 37), none, false, .lit [.int .u8 0] 1 1 [(0, 1, (.const (.int .u8 9)))]⟩,
    ⟨(some 38), none, false, .call op_Get [(.tmp 37)]⟩,
    ⟨(some 36), none, false, .mov (.tmp 38)⟩,
    ⟨(some 39), none, false, .ext (.tmp 36) 0⟩,
    ⟨(some 40), none, false, .ext (.tmp 36) 1⟩,
    ⟨(some 41), none, false, .ext (.tmp 36) 2⟩,
    ⟨(some 9), none, false, .new [.int .i64 0, .string ⟨#[]⟩, .string ⟨#[]⟩, .int .i64 0, .string ⟨#[]⟩]⟩,
    ⟨none, none, false, .store (.tmp 9) (.tmp 39) 5⟩,
    ⟨(some 10), none, false, .mov (.tmp 40)⟩,
    ⟨(some 11), none, false, .mov (.tmp 41)⟩]) (.seq (.ops [
    ⟨(some 43), none, false, .call op_Get [(.const (.slice none 0 0))]⟩,
    ⟨(some 42), none, false, .mov (.tmp 43)⟩,
    ⟨(some 44), none, false, .ext (.tmp 42) 0⟩,
    ⟨(some 45), none, false, .ext (.tmp 42) 1⟩,
    ⟨(some 46), none, false, .ext (.tmp 42) 2⟩,
    ⟨(some 12), none, false, .new [.int .i64 0, .string ⟨#[]⟩, .string ⟨#[]⟩, .int .i64 0, .string ⟨#[]⟩]⟩,
    ⟨none, none, false, .store (.tmp 12) (.tmp 44) 5⟩,
    ⟨(some 13), none, false, .mov (.tmp 45)⟩,
    ⟨(some 14), none, false, .mov (.tmp 46)⟩]) (.seq (.ops [
    ⟨(some 47), none, false, .mov (.tmp 3)⟩,
    ⟨(some 48), none, false, .bin .eql (.tmp 47) (.const (.int .i64 0))⟩,
    ⟨(some 49), none, false, .mov (.tmp 48)⟩,
    ⟨(some 50), (some (49, true)), false, .mov (.tmp 2)⟩,
    ⟨(some 51), (some (49, true)), false, .b2s (.tmp 50)⟩,
    ⟨(some 52), (some (49, true)), false, .bin .eql (.tmp 51) (.const (.string ⟨#[1, 1, 110, 1, 5, 0, 0, 0]⟩))⟩,
    ⟨(some 53), none, false, .pick (.tmp 49) (.tmp 52) (.const (.bool false))⟩,
    ⟨(some 54), none, false, .mov (.tmp 53)⟩,
    ⟨(some 55), (some (54, true)), false, .mov (.tmp 6)⟩,
    ⟨(some 56), (some (54, true)), false, .bin .eql (.tmp 55) (.const (.int .i64 0))⟩,
    ⟨(some 57), none, false, .pick (.tmp 54) (.tmp 56) (.const (.bool false))⟩,
    ⟨(some 58), none, false, .mov (.tmp 57)⟩,
    ⟨(some 59), (some (58, true)), false, .loadn (.tmp 4) 5⟩,
    ⟨(some 60), (some (58, true)), false, .loadn (.tmp 1) 5⟩,
    ⟨(some 61), (some (58, true)), false, .eqagg false (Tryd.prog.keyLits 8 23) (.tmp 59) (.tmp 60)⟩,
    ⟨(some 62), none, false, .pick (.tmp 58) (.tmp 61) (.const (.bool false))⟩,
    ⟨(some 63), none, false, .mov (.tmp 62)⟩,
    ⟨(some 64), (some (63, true)), false, .mov (.tmp 5)⟩,
    ⟨(some 65), (some (63, true)), false, .bin .eql (.tmp 64) (.const (.int .i64 8))⟩,
    ⟨(some 66), none, false, .pick (.tmp 63) (.tmp 65) (.const (.bool false))⟩,
    ⟨(some 67), none, false, .mov (.tmp 66)⟩,
    ⟨(some 68), (some (67, true)), false, .mov (.tmp 8)⟩,
    ⟨(some 69), (some (67, true)), false, .bin .eql (.tmp 68) (.const (.int .i64 1))⟩,
    ⟨(some 70), none, false, .pick (.tmp 67) (.tmp 69) (.const (.bool false))⟩,
    ⟨(some 71), none, false, .mov (.tmp 70)⟩,
    ⟨(some 72), (some (71, true)), false, .mov (.tmp 11)⟩,
    ⟨(some 73), (some (71, true)), false, .bin .eql (.tmp 72) (.const (.int .i64 5))⟩,
    ⟨(some 74), none, false, .pick (.tmp 71) (.tmp 73) (.const (.bool false))⟩,
    ⟨(some 75), none, false, .mov (.tmp 74)⟩,
    ⟨(some 76), (some (75, true)), false, .mov (.tmp 14)⟩,
    ⟨(some 77), (some (75, true)), false, .bin .eql (.tmp 76) (.const (.int .i64 5))⟩,
    ⟨(some 78), none, false, .pick (.tmp 75) (.tmp 77) (.const (.bool false))⟩,
    ⟨(some 79), none, false, .mov (.tmp 78)⟩,
    ⟨(some 80), (some (79, true)), false, .loadn (.tmp 1) 5⟩,
    ⟨(some 81), (some (79, true)), false, .call op_Show [(.tmp 80)]⟩,
    ⟨(some 82), (some (79, true)), false, .bin .eql (.tmp 81) (.const (.string ⟨#[99, 111, 117, 110, 116, 32, 110, 32, 45, 53]⟩))⟩,
    ⟨(some 83), none, false, .pick (.tmp 79) (.tmp 82) (.const (.bool false))⟩,
    ⟨(some 84), none, false, .mov (.tmp 83)⟩,
    ⟨(some 85), (some (84, true)), false, .build [.int .i64 0, .string ⟨#[]⟩, .string ⟨#[]⟩, .int .i64 0, .string ⟨#[]⟩] [(0, 1, (.const (.int .i64 5))), (1, 1, (.const (.string ⟨#[108]⟩))), (2, 1, (.const (.string ⟨#[97, 98]⟩)))]⟩,
    ⟨(some 86), (some (84, true)), false, .call op_Show [(.tmp 85)]⟩,
    ⟨(some 87), (some (84, true)), false, .bin .eql (.tmp 86) (.const (.string ⟨#[105, 110, 115, 101, 114, 116, 32, 108, 32, 35, 54, 49, 54, 50, 32, 35]⟩))⟩,
    ⟨(some 88), none, false, .pick (.tmp 84) (.tmp 87) (.const (.bool false))⟩,
    ⟨(some 89), none, false, .mov (.tmp 88)⟩,
    ⟨(some 90), (some (89, true)), false, .build [.int .i64 0, .string ⟨#[]⟩, .string ⟨#[]⟩, .int .i64 0, .string ⟨#[]⟩] []⟩,
    ⟨(some 91), (some (89, true)), false, .call op_Show [(.tmp 90)]⟩,
    ⟨(some 92), (some (89, true)), false, .bin .eql (.tmp 91) (.const (.string ⟨#[63]⟩))⟩,
    ⟨(some 93), none, false, .pick (.tmp 89) (.tmp 92) (.const (.bool false))⟩,
    ⟨(some 94), none, false, .mov (.tmp 93)⟩,
    ⟨(some 95), (some (94, true)), false, .call op_Name [(.const (.string ⟨#[97, 45, 49]⟩))]⟩,
    ⟨(some 96), none, false, .pick (.tmp 94) (.tmp 95) (.const (.bool false))⟩,
    ⟨(some 97), none, false, .mov (.tmp 96)⟩,
    ⟨(some 98), (some (97, true)), false, .call op_Name [(.const (.string ⟨#[65]⟩))]⟩,
    ⟨(some 99), (some (97, true)), false, .un .not (.tmp 98)⟩,
    ⟨(some 100), none, false, .pick (.tmp 97) (.tmp 99) (.const (.bool false))⟩,
    ⟨(some 101), none, false, .mov (.tmp 100)⟩,
    ⟨(some 102), (some (101, true)), false, .loadn (.tmp 1) 5⟩,
    ⟨(some 103), (some (101, true)), false, .call op_Check [(.tmp 102)]⟩,
    ⟨(some 104), (some (101, true)), false, .bin .eql (.tmp 103) (.const (.int .i64 0))⟩,
    ⟨(some 105), none, false, .pick (.tmp 101) (.tmp 104) (.const (.bool false))⟩,
    ⟨(some 106), none, false, .mov (.tmp 105)⟩,
    ⟨(some 107), (some (106, true)), false, .build [.int .i64 0, .string ⟨#[]⟩, .string ⟨#[]⟩, .int .i64 0, .string ⟨#[]⟩] [(0, 1, (.const (.int .i64 7)))]⟩,
    ⟨(some 108), (some (106, true)), false, .call op_Check [(.tmp 107)]⟩,
    ⟨(some 109), (some (106, true)), false, .bin .eql (.tmp 108) (.const (.int .i64 0))⟩,
    ⟨(some 110), none, false, .pick (.tmp 106) (.tmp 109) (.const (.bool false))⟩,
    ⟨(some 0), none, false, .mov (.tmp 110)⟩]) .ret))))))))
theorem fits_chantrylaw14_awake : Fits Tryd.prog 1 chantrylaw14_awake ic_chantrylaw14_awake [.tmp 0] 0 :=
  ⟨Tryd.f7, Tryd.func7, by decide, by kernel_rfl, by kernel_rfl⟩

/-- chantry/op.Put -/
noncomputable def ic_op_Put : IC :=
  (.seq (.ops [
    ⟨(some 1), none, false, .box (.tmp 0)⟩,
    ⟨(some 2), none, false, .mov (.const (.slice none 0 0))⟩,
    ⟨(some 3), none, false, .mov (.const (.int .i64 0))⟩]) (.seq (.seq (.ops [
    ⟨(some 10), none, false, .loadn (.tmp 1) 5⟩,
    ⟨(some 11), none, false, .call op_Check [(.tmp 10)]⟩,
    ⟨(some 4), none, false, .mov (.tmp 11)⟩]) (.seq (.ops [
    ⟨(some 12), none, false, .mov (.tmp 4)⟩,
    ⟨(some 13), none, false, .bin .neq (.tmp 12) (.const (.int .i64 0))⟩]) (.cond (.tmp 13) (.seq (.ops [
    ⟨(some 14), none, false, .mov (.tmp 4)⟩,
    ⟨(some 2), none, false, .mov (.const (.slice none 0 0))⟩,
    ⟨(some 3), none, false, .mov (.tmp 14)⟩]) .ret) .skip))) (.seq (.ops [
    ⟨(some 15), none, false, .faddr (.tmp 1) 0⟩,
    ⟨(some 16), none, false, .load1 (.tmp 15)⟩,
    ⟨(some 17), none, false, .call op_has [(.tmp 16)]⟩,
    ⟨(some 5), none, false, .mov (.tmp 17)⟩]) (.seq (.ops [
    ⟨(some 18), none, false, .faddr (.tmp 1) 0⟩,
    ⟨(some 19), none, false, .load1 (.tmp 18)⟩,
    ⟨(some 20), none, false, .conv .u8 (.tmp 19)⟩,
    ⟨(some 21), none, false, .lit [.int .u8 0] 1 1 [(0, 1, (.tmp 20))]⟩,
    ⟨(some 6), none, false, .new [.slice none 0 0]⟩,
    ⟨none, none, false, .store (.tmp 6) (.tmp 21) 1⟩]) (.seq (.ops [
    ⟨(some 22), none, false, .fn (.func op_Put_1) [] [(.tmp 6)]⟩,
    ⟨(some 7), none, false, .mov (.tmp 22)⟩]) (.seq (.seq (.ops [
    ⟨(some 23), none, false, .mov (.tmp 5)⟩,
    ⟨(some 24), none, false, .bin .and (.tmp 23) (.const (.int .i64 1))⟩,
    ⟨(some 25), none, false, .bin .gtr (.tmp 24) (.const (.int .i64 0))⟩]) (.cond (.tmp 25) (.ops [
    ⟨(some 26), none, false, .mov (.tmp 7)⟩,
    ⟨(some 27), none, false, .faddr (.tmp 1) 1⟩,
    ⟨(some 28), none, false, .load1 (.tmp 27)⟩,
    ⟨(some 29), none, false, .calld (.tmp 26) [(.tmp 28)]⟩]) .skip)) (.seq (.seq (.ops [
    ⟨(some 30), none, false, .mov (.tmp 5)⟩,
    ⟨(some 31), none, false, .bin .and (.tmp 30) (.const (.int .i64 2))⟩,
    ⟨(some 32), none, false, .bin .gtr (.tmp 31) (.const (.int .i64 0))⟩]) (.cond (.tmp 32) (.ops [
    ⟨(some 33), none, false, .mov (.tmp 7)⟩,
    ⟨(some 34), none, false, .faddr (.tmp 1) 2⟩,
    ⟨(some 35), none, false, .load1 (.tmp 34)⟩,
    ⟨(some 36), none, false, .calld (.tmp 33) [(.tmp 35)]⟩]) .skip)) (.seq (.seq (.ops [
    ⟨(some 37), none, false, .mov (.tmp 5)⟩,
    ⟨(some 38), none, false, .bin .and (.tmp 37) (.const (.int .i64 4))⟩,
    ⟨(some 39), none, false, .bin .gtr (.tmp 38) (.const (.int .i64 0))⟩]) (.cond (.tmp 39) (.seq (.ops [
    ⟨(some 41), none, false, .faddr (.tmp 1) 3⟩,
    ⟨(some 42), none, false, .load1 (.tmp 41)⟩,
    ⟨(some 43), none, false, .faddr (.tmp 1) 3⟩,
    ⟨(some 44), none, false, .load1 (.tmp 43)⟩,
    ⟨(some 45), none, false, .un .neg (.tmp 44)⟩,
    ⟨(some 46), none, false, .mx (.tmp 42) (.tmp 45)⟩,
    ⟨(some 47), none, false, .call num_Fix [(.tmp 46), (.const (.int .i64 4))]⟩,
    ⟨(some 40), none, false, .mov (.tmp 47)⟩,
    ⟨(some 48), none, false, .ext (.tmp 40) 0⟩,
    ⟨(some 49), none, false, .ext (.tmp 40) 1⟩,
    ⟨(some 8), none, false, .mov (.tmp 48)⟩,
    ⟨(some 9), none, false, .mov (.tmp 49)⟩]) (.draw [
    ⟨(some 50), none, true, .load1 (.tmp 6)⟩,
    ⟨(some 51), none, false, .faddr (.tmp 1) 3⟩,
    ⟨(some 52), none, false, .load1 (.tmp 51)⟩,
    ⟨(some 53), none, false, .bin .lss (.tmp 52) (.const (.int .i64 0))⟩,
    ⟨(some 57), none, false, .mov (.tmp 8)⟩,
    ⟨(some 54), none, true, .call op_truth [(.tmp 53)]⟩,
    ⟨(some 55), none, true, .lit [.int .u8 0] 1 1 [(0, 1, (.tmp 54))]⟩,
    ⟨(some 56), none, false, .app (.tmp 50) (.tmp 55) 1 1⟩,
    ⟨(some 58), none, false, .app (.tmp 56) (.tmp 57) 1 1⟩,
    ⟨none, none, false, .store (.tmp 6) (.tmp 58) 1⟩])) .skip)) (.seq (.seq (.ops [
    ⟨(some 59), none, false, .faddr (.tmp 1) 0⟩,
    ⟨(some 60), none, false, .load1 (.tmp 59)⟩,
    ⟨(some 61), none, false, .bin .eql (.tmp 60) (.const (.int .i64 5))⟩]) (.cond (.tmp 61) (.draw [
    ⟨(some 62), none, true, .load1 (.tmp 6)⟩,
    ⟨(some 63), none, false, .faddr (.tmp 1) 4⟩,
    ⟨(some 64), none, false, .load1 (.tmp 63)⟩,
    ⟨(some 65), none, false, .bin .neq (.tmp 64) (.const (.string ⟨#[]⟩))⟩,
    ⟨(some 66), none, true, .call op_truth [(.tmp 65)]⟩,
    ⟨(some 67), none, true, .lit [.int .u8 0] 1 1 [(0, 1, (.tmp 66))]⟩,
    ⟨(some 68), none, false, .app (.tmp 62) (.tmp 67) 1 1⟩,
    ⟨none, none, false, .store (.tmp 6) (.tmp 68) 1⟩]) .skip)) (.seq (.ops [
    ⟨(some 69), none, false, .load1 (.tmp 6)⟩,
    ⟨(some 70), none, false, .faddr (.tmp 1) 4⟩,
    ⟨(some 71), none, false, .load1 (.tmp 70)⟩,
    ⟨(some 72), none, false, .apps (.tmp 69) (.tmp 71) 1⟩,
    ⟨(some 2), none, false, .mov (.tmp 72)⟩,
    ⟨(some 3), none, false, .mov (.const (.int .i64 0))⟩]) .ret))))))))))
theorem fits_op_Put : Fits Tryd.prog 1 op_Put ic_op_Put [.tmp 2, .tmp 3] 1 :=
  ⟨Tryd.f8, Tryd.func8, by decide, by kernel_rfl, by kernel_rfl⟩

/-- chantry/chantryref14.Put -/
noncomputable def ic_chantryref14_Put : IC :=
  (.seq (.ops [
    ⟨(some 1), none, false, .box (.tmp 0)⟩,
    ⟨(some 2), none, false, .mov (.const (.slice none 0 0))⟩,
    ⟨(some 3), none, false, .mov (.const (.int .i64 0))⟩]) (.seq (.seq (.ops [
    ⟨(some 19), none, false, .loadn (.tmp 1) 5⟩,
    ⟨(some 20), none, false, .call chantryref14_Check [(.tmp 19)]⟩,
    ⟨(some 21), none, false, .un .not (.tmp 20)⟩]) (.cond (.tmp 21) (.seq (.ops [
    ⟨(some 2), none, false, .mov (.const (.slice none 0 0))⟩,
    ⟨(some 3), none, false, .mov (.const (.int .i64 1))⟩]) .ret) .skip)) (.seq (.ops [
    ⟨(some 23), none, false, .faddr (.tmp 1) 0⟩,
    ⟨(some 24), none, false, .load1 (.tmp 23)⟩,
    ⟨(some 25), none, false, .call chantryref14_Has [(.tmp 24)]⟩,
    ⟨(some 22), none, false, .mov (.tmp 25)⟩,
    ⟨(some 26), none, false, .ext (.tmp 22) 0⟩,
    ⟨(some 27), none, false, .ext (.tmp 22) 1⟩,
    ⟨(some 28), none, false, .ext (.tmp 22) 2⟩,
    ⟨(some 29), none, false, .ext (.tmp 22) 3⟩,
    ⟨(some 30), none, false, .ext (.tmp 22) 4⟩,
    ⟨(some 4), none, false, .mov (.tmp 26)⟩,
    ⟨(some 5), none, false, .mov (.tmp 27)⟩,
    ⟨(some 6), none, false, .mov (.tmp 28)⟩,
    ⟨(some 7), none, false, .mov (.tmp 29)⟩,
    ⟨(some 8), none, false, .mov (.tmp 30)⟩]) (.seq (.ops [
    ⟨(some 31), none, false, .faddr (.tmp 1) 0⟩,
    ⟨(some 32), none, false, .load1 (.tmp 31)⟩,
    ⟨(some 33), none, false, .conv .u8 (.tmp 32)⟩,
    ⟨(some 34), none, false, .lit [.int .u8 0] 1 1 [(0, 1, (.tmp 33))]⟩,
    ⟨(some 9), none, false, .mov (.tmp 34)⟩]) (.seq (.seq (.ops [
    ⟨(some 35), none, false, .mov (.tmp 4)⟩]) (.cond (.tmp 35) (.seq (.ops [
    ⟨(some 37), none, false, .faddr (.tmp 1) 1⟩,
    ⟨(some 38), none, false, .load1 (.tmp 37)⟩,
    ⟨(some 39), none, false, .s2b (.tmp 38)⟩,
    ⟨(some 40), none, false, .call chantryref01_Text [(.tmp 39)]⟩,
    ⟨(some 36), none, false, .mov (.tmp 40)⟩,
    ⟨(some 41), none, false, .ext (.tmp 36) 0⟩,
    ⟨(some 42), none, false, .ext (.tmp 36) 1⟩,
    ⟨(some 10), none, false, .mov (.tmp 41)⟩,
    ⟨(some 11), none, false, .mov (.tmp 42)⟩]) (.ops [
    ⟨(some 43), none, false, .mov (.tmp 9)⟩,
    ⟨(some 44), none, false, .mov (.tmp 10)⟩,
    ⟨(some 45), none, false, .app (.tmp 43) (.tmp 44) 1 1⟩,
    ⟨(some 9), none, false, .mov (.tmp 45)⟩])) .skip)) (.seq (.seq (.ops [
    ⟨(some 46), none, false, .mov (.tmp 5)⟩]) (.cond (.tmp 46) (.seq (.ops [
    ⟨(some 48), none, false, .faddr (.tmp 1) 2⟩,
    ⟨(some 49), none, false, .load1 (.tmp 48)⟩,
    ⟨(some 50), none, false, .s2b (.tmp 49)⟩,
    ⟨(some 51), none, false, .call chantryref01_Text [(.tmp 50)]⟩,
    ⟨(some 47), none, false, .mov (.tmp 51)⟩,
    ⟨(some 52), none, false, .ext (.tmp 47) 0⟩,
    ⟨(some 53), none, false, .ext (.tmp 47) 1⟩,
    ⟨(some 12), none, false, .mov (.tmp 52)⟩,
    ⟨(some 13), none, false, .mov (.tmp 53)⟩]) (.ops [
    ⟨(some 54), none, false, .mov (.tmp 9)⟩,
    ⟨(some 55), none, false, .mov (.tmp 12)⟩,
    ⟨(some 56), none, false, .app (.tmp 54) (.tmp 55) 1 1⟩,
    ⟨(some 9), none, false, .mov (.tmp 56)⟩])) .skip)) (.seq (.seq (.ops [
    ⟨(some 57), none, false, .mov (.tmp 6)⟩]) (.cond (.tmp 57) (.seq (.ops [
    ⟨(some 14), none, false, .mov (.const (.int .u8 0))⟩]) (.seq (.ops [
    ⟨(some 58), none, false, .faddr (.tmp 1) 3⟩,
    ⟨(some 59), none, false, .load1 (.tmp 58)⟩,
    ⟨(some 15), none, false, .mov (.tmp 59)⟩]) (.seq (.seq (.ops [
    ⟨(some 60), none, false, .mov (.tmp 15)⟩,
    ⟨(some 61), none, false, .bin .lss (.tmp 60) (.const (.int .i64 0))⟩]) (.cond (.tmp 61) (.seq (.ops [
    ⟨(some 14), none, false, .mov (.const (.int .u8 1))⟩]) (.ops [
    ⟨(some 62), none, false, .mov (.tmp 15)⟩,
    ⟨(some 63), none, false, .un .neg (.tmp 62)⟩,
    ⟨(some 15), none, false, .mov (.tmp 63)⟩])) .skip)) (.seq (.ops [
    ⟨(some 65), none, false, .mov (.tmp 15)⟩,
    ⟨(some 66), none, false, .call chantryref01_Fix [(.tmp 65), (.const (.int .i64 4))]⟩,
    ⟨(some 64), none, false, .mov (.tmp 66)⟩,
    ⟨(some 67), none, false, .ext (.tmp 64) 0⟩,
    ⟨(some 68), none, false, .ext (.tmp 64) 1⟩,
    ⟨(some 16), none, false, .mov (.tmp 67)⟩,
    ⟨(some 17), none, false, .mov (.tmp 68)⟩]) (.ops [
    ⟨(some 69), none, false, .mov (.tmp 9)⟩,
    ⟨(some 70), none, false, .mov (.tmp 14)⟩,
    ⟨(some 71), none, false, .lit [.int .u8 0] 1 1 [(0, 1, (.tmp 70))]⟩,
    ⟨(some 72), none, false, .app (.tmp 69) (.tmp 71) 1 1⟩,
    ⟨(some 73), none, false, .mov (.tmp 16)⟩,
    ⟨(some 74), none, false, .app (.tmp 72) (.tmp 73) 1 1⟩,
    ⟨(some 9), none, false, .mov (.tmp 74)⟩]))))) .skip)) (.seq (.seq (.ops [
    ⟨(some 75), none, false, .mov (.tmp 7)⟩,
    ⟨(some 76), none, false, .mov (.tmp 75)⟩,
    ⟨(some 77), (some (76, true)), false, .faddr (.tmp 1) 0⟩,
    ⟨(some 78), (some (76, true)), false, .load1 (.tmp 77)⟩,
    ⟨(some 79), (some (76, true)), false, .bin .eql (.tmp 78) (.const (.int .i64 5))⟩,
    ⟨(some 80), none, false, .pick (.tmp 76) (.tmp 79) (.const (.bool false))⟩]) (.cond (.tmp 80) (.seq (.ops [
    ⟨(some 18), none, false, .mov (.const (.int .u8 0))⟩]) (.seq (.seq (.ops [
    ⟨(some 81), none, false, .faddr (.tmp 1) 4⟩,
    ⟨(some 82), none, false, .load1 (.tmp 81)⟩,
    ⟨(some 83), none, false, .bin .neq (.tmp 82) (.const (.string ⟨#[]⟩))⟩]) (.cond (.tmp 83) (.ops [
    ⟨(some 18), none, false, .mov (.const (.int .u8 1))⟩]) .skip)) (.ops [
    ⟨(some 84), none, false, .mov (.tmp 9)⟩,
    ⟨(some 85), none, false, .mov (.tmp 18)⟩,
    ⟨(some 86), none, false, .lit [.int .u8 0] 1 1 [(0, 1, (.tmp 85))]⟩,
    ⟨(some 87), none, false, .app (.tmp 84) (.tmp 86) 1 1⟩,
    ⟨(some 9), none, false, .mov (.tmp 87)⟩]))) .skip)) (.seq (.ops [
    ⟨(some 88), none, false, .mov (.tmp 9)⟩,
    ⟨(some 89), none, false, .faddr (.tmp 1) 4⟩,
    ⟨(some 90), none, false, .load1 (.tmp 89)⟩,
    ⟨(some 91), none, false, .apps (.tmp 88) (.tmp 90) 1⟩,
    ⟨(some 2), none, false, .mov (.tmp 91)⟩,
    ⟨(some 3), none, false, .mov (.const (.int .i64 0))⟩]) .ret)))))))))
theorem fits_chantryref14_Put : Fits Tryd.prog 1 chantryref14_Put ic_chantryref14_Put [.tmp 2, .tmp 3] 1 :=
  ⟨Tryd.f9, Tryd.func9, by decide, by kernel_rfl, by kernel_rfl⟩

/-- chantry/op.Get -/
noncomputable def ic_op_Get : IC :=
  (.seq (.ops [
    ⟨(some 2), none, false, .new [.int .i64 0, .string ⟨#[]⟩, .string ⟨#[]⟩, .int .i64 0, .string ⟨#[]⟩]⟩,
    ⟨(some 3), none, false, .mov (.const (.int .i64 0))⟩,
    ⟨(some 4), none, false, .mov (.const (.int .i64 0))⟩]) (.seq (.ops [
    ⟨(some 10), none, false, .mov (.tmp 0)⟩,
    ⟨(some 11), none, false, .call num_From [(.tmp 10)]⟩,
    ⟨(some 5), none, false, .mov (.tmp 11)⟩]) (.seq (.ops [
    ⟨(some 12), none, false, .mov (.tmp 5)⟩,
    ⟨(some 13), none, false, .call num_Cursor_Byte [(.tmp 12)]⟩,
    ⟨(some 14), none, false, .build [.int .i64 0, .string ⟨#[]⟩, .string ⟨#[]⟩, .int .i64 0, .string ⟨#[]⟩] [(0, 1, (.tmp 13))]⟩,
    ⟨(some 6), none, false, .new [.int .i64 0, .string ⟨#[]⟩, .string ⟨#[]⟩, .int .i64 0, .string ⟨#[]⟩]⟩,
    ⟨none, none, false, .store (.tmp 6) (.tmp 14) 5⟩]) (.seq (.ops [
    ⟨(some 15), none, false, .faddr (.tmp 6) 0⟩,
    ⟨(some 16), none, false, .load1 (.tmp 15)⟩,
    ⟨(some 17), none, false, .call op_has [(.tmp 16)]⟩,
    ⟨(some 7), none, false, .mov (.tmp 17)⟩,
    ⟨(some 8), none, false, .mov (.const (.bool true))⟩,
    ⟨(some 9), none, false, .mov (.const (.bool true))⟩]) (.seq (.seq (.ops [
    ⟨(some 18), none, false, .mov (.tmp 7)⟩,
    ⟨(some 19), none, false, .bin .gtr (.tmp 18) (.const (.int .i64 0))⟩,
    ⟨(some 20), none, false, .mov (.tmp 19)⟩,
    ⟨(some 21), (some (20, true)), false, .mov (.tmp 7)⟩,
    ⟨(some 22), (some (20, true)), false, .bin .and (.tmp 21) (.const (.int .i64 1))⟩,
    ⟨(some 23), (some (20, true)), false, .bin .gtr (.tmp 22) (.const (.int .i64 0))⟩,
    ⟨(some 24), none, false, .pick (.tmp 20) (.tmp 23) (.const (.bool false))⟩]) (.cond (.tmp 24) (.ops [
    ⟨(some 25), none, false, .mov (.tmp 5)⟩,
    ⟨(some 26), none, false, .call num_Cursor_Text [(.tmp 25)]⟩,
    ⟨(some 27), none, false, .b2s (.tmp 26)⟩,
    ⟨(some 28), none, false, .faddr (.tmp 6) 1⟩,
    ⟨none, none, false, .store (.tmp 28) (.tmp 27) 1⟩]) .skip)) (.seq (.seq (.ops [
    ⟨(some 29), none, false, .mov (.tmp 7)⟩,
    ⟨(some 30), none, false, .bin .gtr (.tmp 29) (.const (.int .i64 0))⟩,
    ⟨(some 31), none, false, .mov (.tmp 30)⟩,
    ⟨(some 32), (some (31, true)), false, .mov (.tmp 7)⟩,
    ⟨(some 33), (some (31, true)), false, .bin .and (.tmp 32) (.const (.int .i64 2))⟩,
    ⟨(some 34), (some (31, true)), false, .bin .gtr (.tmp 33) (.const (.int .i64 0))⟩,
    ⟨(some 35), none, false, .pick (.tmp 31) (.tmp 34) (.const (.bool false))⟩]) (.cond (.tmp 35) (.ops [
    ⟨(some 36), none, false, .mov (.tmp 5)⟩,
    ⟨(some 37), none, false, .call num_Cursor_Text [(.tmp 36)]⟩,
    ⟨(some 38), none, false, .b2s (.tmp 37)⟩,
    ⟨(some 39), none, false, .faddr (.tmp 6) 2⟩,
    ⟨none, none, false, .store (.tmp 39) (.tmp 38) 1⟩]) .skip)) (.seq (.seq (.ops [
    ⟨(some 40), none, false, .mov (.tmp 7)⟩,
    ⟨(some 41), none, false, .bin .gtr (.tmp 40) (.const (.int .i64 0))⟩,
    ⟨(some 42), none, false, .mov (.tmp 41)⟩,
    ⟨(some 43), (some (42, true)), false, .mov (.tmp 7)⟩,
    ⟨(some 44), (some (42, true)), false, .bin .and (.tmp 43) (.const (.int .i64 4))⟩,
    ⟨(some 45), (some (42, true)), false, .bin .gtr (.tmp 44) (.const (.int .i64 0))⟩,
    ⟨(some 46), none, false, .pick (.tmp 42) (.tmp 45) (.const (.bool false))⟩]) (.cond (.tmp 46) (.ops [
    ⟨(some 48), none, false, .mov (.tmp 5)⟩,
    ⟨(some 49), none, false, .call op_number [(.tmp 48)]⟩,
    ⟨(some 47), none, false, .mov (.tmp 49)⟩,
    ⟨(some 50), none, false, .ext (.tmp 47) 0⟩,
    ⟨(some 51), none, false, .ext (.tmp 47) 1⟩,
    ⟨(some 52), none, false, .faddr (.tmp 6) 3⟩,
    ⟨none, none, false, .store (.tmp 52) (.tmp 50) 1⟩,
    ⟨(some 8), none, false, .mov (.tmp 51)⟩]) .skip)) (.seq (.seq (.ops [
    ⟨(some 53), none, false, .mov (.tmp 7)⟩,
    ⟨(some 54), none, false, .bin .gtr (.tmp 53) (.const (.int .i64 0))⟩,
    ⟨(some 55), none, false, .mov (.tmp 54)⟩,
    ⟨(some 56), (some (55, true)), false, .mov (.tmp 7)⟩,
    ⟨(some 57), (some (55, true)), false, .bin .and (.tmp 56) (.const (.int .i64 8))⟩,
    ⟨(some 58), (some (55, true)), false, .bin .gtr (.tmp 57) (.const (.int .i64 0))⟩,
    ⟨(some 59), none, false, .pick (.tmp 55) (.tmp 58) (.const (.bool false))⟩]) (.cond (.tmp 59) (.ops [
    ⟨(some 61), none, false, .mov (.tmp 5)⟩,
    ⟨(some 62), none, false, .faddr (.tmp 6) 0⟩,
    ⟨(some 63), none, false, .load1 (.tmp 62)⟩,
    ⟨(some 64), none, false, .call op_place [(.tmp 61), (.tmp 63)]⟩,
    ⟨(some 60), none, false, .mov (.tmp 64)⟩,
    ⟨(some 65), none, false, .ext (.tmp 60) 0⟩,
    ⟨(some 66), none, false, .ext (.tmp 60) 1⟩,
    ⟨(some 67), none, false, .faddr (.tmp 6) 4⟩,
    ⟨none, none, false, .store (.tmp 67) (.tmp 65) 1⟩,
    ⟨(some 9), none, false, .mov (.tmp 66)⟩]) .skip)) (.seq (.seq (.ops [
    ⟨(some 68), none, false, .mov (.tmp 5)⟩,
    ⟨(some 69), none, false, .call num_Cursor_Bad [(.tmp 68)]⟩,
    ⟨(some 70), none, false, .mov (.tmp 69)⟩,
    ⟨(some 71), (some (70, false)), false, .mov (.tmp 8)⟩,
    ⟨(some 72), (some (70, false)), false, .un .not (.tmp 71)⟩,
    ⟨(some 73), none, false, .pick (.tmp 70) (.const (.bool true)) (.tmp 72)⟩,
    ⟨(some 74), none, false, .mov (.tmp 73)⟩,
    ⟨(some 75), (some (74, false)), false, .mov (.tmp 9)⟩,
    ⟨(some 76), (some (74, false)), false, .un .not (.tmp 75)⟩,
    ⟨(some 77), none, false, .pick (.tmp 74) (.const (.bool true)) (.tmp 76)⟩,
    ⟨(some 78), none, false, .mov (.tmp 77)⟩,
    ⟨(some 79), (some (78, false)), false, .loadn (.tmp 6) 5⟩,
    ⟨(some 80), (some (78, false)), false, .call op_Check [(.tmp 79)]⟩,
    ⟨(some 81), (some (78, false)), false, .bin .neq (.tmp 80) (.const (.int .i64 0))⟩,
    ⟨(some 82), none, false, .pick (.tmp 78) (.const (.bool true)) (.tmp 81)⟩]) (.cond (.tmp 82) (.seq (.ops [
    ⟨(some 83), none, false, .build [.int .i64 0, .string ⟨#[]⟩, .string ⟨#[]⟩, .int .i64 0, .string ⟨#[]⟩] []⟩,
    ⟨none, none, false, .store (.tmp 2) (.tmp 83) 5⟩,
    ⟨(some 3), none, false, .mov (.const (.int .i64 0))⟩,
    ⟨(some 4), none, false, .mov (.const (.int .i64 5))⟩]) .ret) .skip)) (.seq (.draw [
    ⟨(some 84), none, true, .loadn (.tmp 6) 5⟩,
    ⟨(some 85), none, false, .mov (.tmp 0)⟩,
    ⟨(some 86), none, false, .lens false (.tmp 85)⟩,
    ⟨(some 87), none, false, .mov (.tmp 5)⟩,
    ⟨(some 88), none, true, .call num_Cursor_Left [(.tmp 87)]⟩,
    ⟨(some 89), none, false, .bin .sub (.tmp 86) (.tmp 88)⟩,
    ⟨none, none, false, .store (.tmp 2) (.tmp 84) 5⟩,
    ⟨(some 3), none, false, .mov (.tmp 89)⟩,
    ⟨(some 4), none, false, .mov (.const (.int .i64 0))⟩]) .ret))))))))))
theorem fits_op_Get : Fits Tryd.prog 1 op_Get ic_op_Get [.many 2 5, .tmp 3, .tmp 4] 1 :=
  ⟨Tryd.f10, Tryd.func10, by decide, by kernel_rfl, by kernel_rfl⟩

/-- chantry/op.Check -/
noncomputable def ic_op_Check : IC :=
  (.seq (.ops [
    ⟨(some 1), none, false, .box (.tmp 0)⟩,
    ⟨(some 2), none, false, .mov (.const (.int .i64 0))⟩]) (.seq (.ops [
    ⟨(some 7), none, false, .faddr (.tmp 1) 0⟩,
    ⟨(some 8), none, false, .load1 (.tmp 7)⟩,
    ⟨(some 9), none, false, .call op_has [(.tmp 8)]⟩,
    ⟨(some 3), none, false, .mov (.tmp 9)⟩]) (.seq (.ops [
    ⟨(some 10), none, false, .mov (.tmp 3)⟩,
    ⟨(some 11), none, false, .bin .and (.tmp 10) (.const (.int .i64 1))⟩,
    ⟨(some 12), none, false, .bin .eql (.tmp 11) (.const (.int .i64 0))⟩,
    ⟨(some 13), none, false, .mov (.tmp 12)⟩,
    ⟨(some 14), (some (13, false)), false, .faddr (.tmp 1) 1⟩,
    ⟨(some 15), (some (13, false)), false, .load1 (.tmp 14)⟩,
    ⟨(some 16), (some (13, false)), false, .call op_Name [(.tmp 15)]⟩,
    ⟨(some 17), none, false, .pick (.tmp 13) (.const (.bool true)) (.tmp 16)⟩,
    ⟨(some 4), none, false, .mov (.tmp 17)⟩]) (.seq (.ops [
    ⟨(some 18), none, false, .faddr (.tmp 1) 2⟩,
    ⟨(some 19), none, false, .load1 (.tmp 18)⟩,
    ⟨(some 20), none, false, .lens true (.tmp 19)⟩,
    ⟨(some 21), none, false, .bin .leq (.tmp 20) (.const (.int .i64 48))⟩,
    ⟨(some 22), none, false, .mov (.tmp 21)⟩,
    ⟨(some 23), (some (22, true)), false, .faddr (.tmp 1) 3⟩,
    ⟨(some 24), (some (22, true)), false, .load1 (.tmp 23)⟩,
    ⟨(some 25), (some (22, true)), false, .bin .geq (.tmp 24) (.const (.int .i64 (-2147483647)))⟩,
    ⟨(some 26), none, false, .pick (.tmp 22) (.tmp 25) (.const (.bool false))⟩,
    ⟨(some 27), none, false, .mov (.tmp 26)⟩,
    ⟨(some 28), (some (27, true)), false, .faddr (.tmp 1) 3⟩,
    ⟨(some 29), (some (27, true)), false, .load1 (.tmp 28)⟩,
    ⟨(some 30), (some (27, true)), false, .bin .leq (.tmp 29) (.const (.int .i64 2147483647))⟩,
    ⟨(some 31), none, false, .pick (.tmp 27) (.tmp 30) (.const (.bool false))⟩,
    ⟨(some 5), none, false, .mov (.tmp 31)⟩]) (.seq (.ops [
    ⟨(some 32), none, false, .faddr (.tmp 1) 4⟩,
    ⟨(some 33), none, false, .load1 (.tmp 32)⟩,
    ⟨(some 34), none, false, .bin .eql (.tmp 33) (.const (.string ⟨#[]⟩))⟩,
    ⟨(some 35), none, false, .mov (.tmp 34)⟩,
    ⟨(some 36), (some (35, false)), false, .faddr (.tmp 1) 4⟩,
    ⟨(some 37), (some (35, false)), false, .load1 (.tmp 36)⟩,
    ⟨(some 38), (some (35, false)), false, .call ids_Right [(.tmp 37)]⟩,
    ⟨(some 39), none, false, .pick (.tmp 35) (.const (.bool true)) (.tmp 38)⟩,
    ⟨(some 6), none, false, .mov (.tmp 39)⟩]) (.seq (.block 0 (.seq (.draw [
    ⟨(some 41), none, false, .mov (.tmp 3)⟩,
    ⟨(some 42), none, false, .bin .lss (.tmp 41) (.const (.int .i64 0))⟩,
    ⟨(some 43), none, false, .mov (.tmp 42)⟩,
    ⟨(some 44), (some (43, false)), false, .loadn (.tmp 1) 5⟩,
    ⟨(some 46), (some (43, false)), true, .loadn (.tmp 1) 5⟩,
    ⟨(some 45), (some (43, false)), true, .call op_bare [(.tmp 44)]⟩,
    ⟨(some 47), (some (43, false)), false, .eqagg true (Tryd.prog.keyLits 8 23) (.tmp 45) (.tmp 46)⟩,
    ⟨(some 48), none, false, .pick (.tmp 43) (.const (.bool true)) (.tmp 47)⟩,
    ⟨(some 49), none, false, .mov (.tmp 48)⟩,
    ⟨(some 50), (some (49, false)), false, .mov (.tmp 4)⟩,
    ⟨(some 51), (some (49, false)), false, .un .not (.tmp 50)⟩,
    ⟨(some 52), none, false, .pick (.tmp 49) (.const (.bool true)) (.tmp 51)⟩,
    ⟨(some 53), none, false, .mov (.tmp 52)⟩,
    ⟨(some 54), (some (53, false)), false, .mov (.tmp 5)⟩,
    ⟨(some 55), (some (53, false)), false, .un .not (.tmp 54)⟩,
    ⟨(some 56), none, false, .pick (.tmp 53) (.const (.bool true)) (.tmp 55)⟩,
    ⟨(some 57), none, false, .mov (.tmp 56)⟩,
    ⟨(some 58), (some (57, false)), false, .mov (.tmp 6)⟩,
    ⟨(some 59), (some (57, false)), false, .un .not (.tmp 58)⟩,
    ⟨(some 60), none, false, .pick (.tmp 57) (.const (.bool true)) (.tmp 59)⟩,
    ⟨(some 40), none, false, .mov (.tmp 60)⟩]) (.cond (.tmp 40) (.seq (.ops [
    ⟨(some 2), none, false, .mov (.const (.int .i64 1))⟩]) .ret) (.seq (.ops [
    ⟨(some 62), none, false, .faddr (.tmp 1) 0⟩,
    ⟨(some 63), none, false, .load1 (.tmp 62)⟩,
    ⟨(some 64), none, false, .bin .eql (.tmp 63) (.const (.int .i64 5))⟩,
    ⟨(some 65), none, false, .mov (.tmp 64)⟩,
    ⟨(some 66), (some (65, true)), false, .faddr (.tmp 1) 2⟩,
    ⟨(some 67), (some (65, true)), false, .load1 (.tmp 66)⟩,
    ⟨(some 68), (some (65, true)), false, .bin .eql (.tmp 67) (.const (.string ⟨#[]⟩))⟩,
    ⟨(some 69), none, false, .pick (.tmp 65) (.tmp 68) (.const (.bool false))⟩,
    ⟨(some 70), none, false, .mov (.tmp 69)⟩,
    ⟨(some 71), (some (70, false)), false, .faddr (.tmp 1) 0⟩,
    ⟨(some 72), (some (70, false)), false, .load1 (.tmp 71)⟩,
    ⟨(some 73), (some (70, false)), false, .bin .eql (.tmp 72) (.const (.int .i64 6))⟩,
    ⟨(some 74), (some (70, false)), false, .mov (.tmp 73)⟩,
    ⟨(some 75), (some (74, true)), false, .faddr (.tmp 1) 4⟩,
    ⟨(some 76), (some (74, true)), false, .load1 (.tmp 75)⟩,
    ⟨(some 77), (some (74, true)), false, .bin .eql (.tmp 76) (.const (.string ⟨#[]⟩))⟩,
    ⟨(some 78), (some (70, false)), false, .pick (.tmp 74) (.tmp 77) (.const (.bool false))⟩,
    ⟨(some 79), none, false, .pick (.tmp 70) (.const (.bool true)) (.tmp 78)⟩,
    ⟨(some 61), none, false, .mov (.tmp 79)⟩]) (.cond (.tmp 61) (.seq (.ops [
    ⟨(some 2), none, false, .mov (.const (.int .i64 1))⟩]) .ret) .skip))))) (.seq (.ops [
    ⟨(some 2), none, false, .mov (.const (.int .i64 0))⟩]) .ret)))))))
theorem fits_op_Check : Fits Tryd.prog 1 op_Check ic_op_Check [.tmp 2] 1 :=
  ⟨Tryd.f11, Tryd.func11, by decide, by kernel_rfl, by kernel_rfl⟩

/-- chantry/op.Show -/
noncomputable def ic_op_Show : IC :=
  (.seq (.ops [
    ⟨(some 1), none, false, .box (.tmp 0)⟩,
    ⟨(some 2), none, false, .mov (.const (.string ⟨#[]⟩))⟩]) (.seq (.seq (.ops [
    ⟨(some 5), none, false, .loadn (.tmp 1) 5⟩,
    ⟨(some 6), none, false, .call op_Check [(.tmp 5)]⟩,
    ⟨(some 7), none, false, .bin .neq (.tmp 6) (.const (.int .i64 0))⟩]) (.cond (.tmp 7) (.seq (.ops [
    ⟨(some 2), none, false, .mov (.const (.string ⟨#[63]⟩))⟩]) .ret) .skip)) (.seq (.draw [
    ⟨(some 8), none, false, .faddr (.tmp 1) 0⟩,
    ⟨(some 9), none, false, .load1 (.tmp 8)⟩,
    ⟨(some 12), none, false, .faddr (.tmp 1) 0⟩,
    ⟨(some 13), none, true, .load1 (.tmp 12)⟩,
    ⟨(some 14), none, false, .bin .sub (.tmp 13) (.const (.int .i64 1))⟩,
    ⟨(some 10), none, true, .call op_has [(.tmp 9)]⟩,
    ⟨(some 11), none, true, .call op_names []⟩,
    ⟨(some 15), none, false, .iaddr (.tmp 11) (.tmp 14) 1⟩,
    ⟨(some 16), none, false, .load1 (.tmp 15)⟩,
    ⟨(some 3), none, false, .mov (.tmp 10)⟩,
    ⟨(some 17), none, false, .lit [.string ⟨#[]⟩] 1 1 [(0, 1, (.tmp 16))]⟩,
    ⟨(some 4), none, false, .mov (.tmp 17)⟩]) (.seq (.seq (.ops [
    ⟨(some 18), none, false, .mov (.tmp 3)⟩,
    ⟨(some 19), none, false, .bin .and (.tmp 18) (.const (.int .i64 1))⟩,
    ⟨(some 20), none, false, .bin .gtr (.tmp 19) (.const (.int .i64 0))⟩]) (.cond (.tmp 20) (.ops [
    ⟨(some 21), none, false, .mov (.tmp 4)⟩,
    ⟨(some 22), none, false, .faddr (.tmp 1) 1⟩,
    ⟨(some 23), none, false, .load1 (.tmp 22)⟩,
    ⟨(some 24), none, false, .lit [.string ⟨#[]⟩] 1 1 [(0, 1, (.tmp 23))]⟩,
    ⟨(some 25), none, false, .app (.tmp 21) (.tmp 24) 1 16⟩,
    ⟨(some 4), none, false, .mov (.tmp 25)⟩]) .skip)) (.seq (.seq (.ops [
    ⟨(some 26), none, false, .mov (.tmp 3)⟩,
    ⟨(some 27), none, false, .bin .and (.tmp 26) (.const (.int .i64 2))⟩,
    ⟨(some 28), none, false, .bin .gtr (.tmp 27) (.const (.int .i64 0))⟩]) (.cond (.tmp 28) (.ops [
    ⟨(some 29), none, false, .mov (.tmp 4)⟩,
    ⟨(some 30), none, false, .faddr (.tmp 1) 2⟩,
    ⟨(some 31), none, false, .load1 (.tmp 30)⟩,
    ⟨(some 32), none, false, .call ids_Hex [(.tmp 31)]⟩,
    ⟨(some 33), none, false, .bin .add (.const (.string ⟨#[35]⟩)) (.tmp 32)⟩,
    ⟨(some 34), none, false, .lit [.string ⟨#[]⟩] 1 1 [(0, 1, (.tmp 33))]⟩,
    ⟨(some 35), none, false, .app (.tmp 29) (.tmp 34) 1 16⟩,
    ⟨(some 4), none, false, .mov (.tmp 35)⟩]) .skip)) (.seq (.seq (.ops [
    ⟨(some 36), none, false, .mov (.tmp 3)⟩,
    ⟨(some 37), none, false, .bin .and (.tmp 36) (.const (.int .i64 4))⟩,
    ⟨(some 38), none, false, .bin .gtr (.tmp 37) (.const (.int .i64 0))⟩]) (.cond (.tmp 38) (.ops [
    ⟨(some 39), none, false, .mov (.tmp 4)⟩,
    ⟨(some 40), none, false, .faddr (.tmp 1) 3⟩,
    ⟨(some 41), none, false, .load1 (.tmp 40)⟩,
    ⟨(some 42), none, false, .call strconv_Itoa [(.tmp 41)]⟩,
    ⟨(some 43), none, false, .lit [.string ⟨#[]⟩] 1 1 [(0, 1, (.tmp 42))]⟩,
    ⟨(some 44), none, false, .app (.tmp 39) (.tmp 43) 1 16⟩,
    ⟨(some 4), none, false, .mov (.tmp 44)⟩]) .skip)) (.seq (.seq (.ops [
    ⟨(some 45), none, false, .mov (.tmp 3)⟩,
    ⟨(some 46), none, false, .bin .and (.tmp 45) (.const (.int .i64 8))⟩,
    ⟨(some 47), none, false, .bin .gtr (.tmp 46) (.const (.int .i64 0))⟩]) (.cond (.tmp 47) (.ops [
    ⟨(some 48), none, false, .mov (.tmp 4)⟩,
    ⟨(some 49), none, false, .faddr (.tmp 1) 4⟩,
    ⟨(some 50), none, false, .load1 (.tmp 49)⟩,
    ⟨(some 51), none, false, .call ids_Hex [(.tmp 50)]⟩,
    ⟨(some 52), none, false, .bin .add (.const (.string ⟨#[35]⟩)) (.tmp 51)⟩,
    ⟨(some 53), none, false, .lit [.string ⟨#[]⟩] 1 1 [(0, 1, (.tmp 52))]⟩,
    ⟨(some 54), none, false, .app (.tmp 48) (.tmp 53) 1 16⟩,
    ⟨(some 4), none, false, .mov (.tmp 54)⟩]) .skip)) (.seq (.ops [
    ⟨(some 55), none, false, .mov (.tmp 4)⟩,
    ⟨(some 56), none, false, .call strings_Join [(.tmp 55), (.const (.string ⟨#[32]⟩))]⟩,
    ⟨(some 2), none, false, .mov (.tmp 56)⟩]) .ret))))))))
theorem fits_op_Show : Fits Tryd.prog 1 op_Show ic_op_Show [.tmp 2] 1 :=
  ⟨Tryd.f12, Tryd.func12, by decide, by kernel_rfl, by kernel_rfl⟩

/-- chantry/chantryref14.Show -/
noncomputable def ic_chantryref14_Show : IC :=
  (.seq (.ops [
    ⟨(some 1), none, false, .box (.tmp 0)⟩,
    ⟨(some 2), none, false, .mov (.const (.string ⟨#[]⟩))⟩]) (.seq (.seq (.ops [
    ⟨(some 10), none, false, .loadn (.tmp 1) 5⟩,
    ⟨(some 11), none, false, .call chantryref14_Check [(.tmp 10)]⟩,
    ⟨(some 12), none, false, .un .not (.tmp 11)⟩]) (.cond (.tmp 12) (.seq (.ops [
    ⟨(some 2), none, false, .mov (.const (.string ⟨#[63]⟩))⟩]) .ret) .skip)) (.seq (.ops [
    ⟨(some 13), none, false, .lit [.string ⟨#[]⟩] 1 7 [(0, 1, (.const (.string ⟨#[99, 111, 117, 110, 116]⟩))), (1, 1, (.const (.string ⟨#[97, 100, 100]⟩))), (2, 1, (.const (.string ⟨#[114, 101, 109, 111, 118, 101]⟩))), (3, 1, (.const (.string ⟨#[119, 114, 105, 116, 101]⟩))), (4, 1, (.const (.string ⟨#[105, 110, 115, 101, 114, 116]⟩))), (5, 1, (.const (.string ⟨#[100, 101, 108, 101, 116, 101]⟩))), (6, 1, (.const (.string ⟨#[109, 101, 114, 103, 101]⟩)))]⟩,
    ⟨(some 3), none, false, .mov (.tmp 13)⟩]) (.seq (.ops [
    ⟨(some 14), none, false, .mov (.tmp 3)⟩,
    ⟨(some 15), none, false, .faddr (.tmp 1) 0⟩,
    ⟨(some 16), none, false, .load1 (.tmp 15)⟩,
    ⟨(some 17), none, false, .bin .sub (.tmp 16) (.const (.int .i64 1))⟩,
    ⟨(some 18), none, false, .iaddr (.tmp 14) (.tmp 17) 1⟩,
    ⟨(some 19), none, false, .load1 (.tmp 18)⟩,
    ⟨(some 4), none, false, .mov (.tmp 19)⟩]) (.seq (.ops [
    ⟨(some 21), none, false, .faddr (.tmp 1) 0⟩,
    ⟨(some 22), none, false, .load1 (.tmp 21)⟩,
    ⟨(some 23), none, false, .call chantryref14_Has [(.tmp 22)]⟩,
    ⟨(some 20), none, false, .mov (.tmp 23)⟩,
    ⟨(some 24), none, false, .ext (.tmp 20) 0⟩,
    ⟨(some 25), none, false, .ext (.tmp 20) 1⟩,
    ⟨(some 26), none, false, .ext (.tmp 20) 2⟩,
    ⟨(some 27), none, false, .ext (.tmp 20) 3⟩,
    ⟨(some 28), none, false, .ext (.tmp 20) 4⟩,
    ⟨(some 5), none, false, .mov (.tmp 24)⟩,
    ⟨(some 6), none, false, .mov (.tmp 25)⟩,
    ⟨(some 7), none, false, .mov (.tmp 26)⟩,
    ⟨(some 8), none, false, .mov (.tmp 27)⟩,
    ⟨(some 9), none, false, .mov (.tmp 28)⟩]) (.seq (.seq (.ops [
    ⟨(some 29), none, false, .mov (.tmp 5)⟩]) (.cond (.tmp 29) (.ops [
    ⟨(some 30), none, false, .mov (.tmp 4)⟩,
    ⟨(some 31), none, false, .bin .add (.tmp 30) (.const (.string ⟨#[32]⟩))⟩,
    ⟨(some 32), none, false, .faddr (.tmp 1) 1⟩,
    ⟨(some 33), none, false, .load1 (.tmp 32)⟩,
    ⟨(some 34), none, false, .bin .add (.tmp 31) (.tmp 33)⟩,
    ⟨(some 4), none, false, .mov (.tmp 34)⟩]) .skip)) (.seq (.seq (.ops [
    ⟨(some 35), none, false, .mov (.tmp 6)⟩]) (.cond (.tmp 35) (.ops [
    ⟨(some 36), none, false, .mov (.tmp 4)⟩,
    ⟨(some 37), none, false, .bin .add (.tmp 36) (.const (.string ⟨#[32, 35]⟩))⟩,
    ⟨(some 38), none, false, .faddr (.tmp 1) 2⟩,
    ⟨(some 39), none, false, .load1 (.tmp 38)⟩,
    ⟨(some 40), none, false, .call chantryref04_Hex [(.tmp 39)]⟩,
    ⟨(some 41), none, false, .bin .add (.tmp 37) (.tmp 40)⟩,
    ⟨(some 4), none, false, .mov (.tmp 41)⟩]) .skip)) (.seq (.seq (.ops [
    ⟨(some 42), none, false, .mov (.tmp 7)⟩]) (.cond (.tmp 42) (.ops [
    ⟨(some 43), none, false, .mov (.tmp 4)⟩,
    ⟨(some 44), none, false, .bin .add (.tmp 43) (.const (.string ⟨#[32]⟩))⟩,
    ⟨(some 45), none, false, .faddr (.tmp 1) 3⟩,
    ⟨(some 46), none, false, .load1 (.tmp 45)⟩,
    ⟨(some 47), none, false, .call chantryref14_Digits [(.tmp 46)]⟩,
    ⟨(some 48), none, false, .bin .add (.tmp 44) (.tmp 47)⟩,
    ⟨(some 4), none, false, .mov (.tmp 48)⟩]) .skip)) (.seq (.seq (.ops [
    ⟨(some 49), none, false, .mov (.tmp 8)⟩]) (.cond (.tmp 49) (.ops [
    ⟨(some 50), none, false, .mov (.tmp 4)⟩,
    ⟨(some 51), none, false, .bin .add (.tmp 50) (.const (.string ⟨#[32, 35]⟩))⟩,
    ⟨(some 52), none, false, .faddr (.tmp 1) 4⟩,
    ⟨(some 53), none, false, .load1 (.tmp 52)⟩,
    ⟨(some 54), none, false, .call chantryref04_Hex [(.tmp 53)]⟩,
    ⟨(some 55), none, false, .bin .add (.tmp 51) (.tmp 54)⟩,
    ⟨(some 4), none, false, .mov (.tmp 55)⟩]) .skip)) (.seq (.ops [
    ⟨(some 56), none, false, .mov (.tmp 4)⟩,
    ⟨(some 2), none, false, .mov (.tmp 56)⟩]) .ret))))))))))
theorem fits_chantryref14_Show : Fits Tryd.prog 1 chantryref14_Show ic_chantryref14_Show [.tmp 2] 1 :=
  ⟨Tryd.f13, Tryd.func13, by decide, by kernel_rfl, by kernel_rfl⟩

/-- chantry/op.Name -/
noncomputable def ic_op_Name : IC :=
  (.seq (.ops [
    ⟨(some 2), none, false, .mov (.const (.bool false))⟩]) (.seq (.ops [
    ⟨(some 4), none, false, .mov (.tmp 0)⟩,
    ⟨(some 5), none, false, .call strings_IndexFunc [(.tmp 4), (.func 48)]⟩,
    ⟨(some 3), none, false, .mov (.tmp 5)⟩]) (.seq (.ops [
    ⟨(some 6), none, false, .mov (.tmp 3)⟩,
    ⟨(some 7), none, false, .bin .lss (.tmp 6) (.const (.int .i64 0))⟩,
    ⟨(some 8), none, false, .mov (.tmp 7)⟩,
    ⟨(some 9), (some (8, true)), false, .mov (.tmp 0)⟩,
    ⟨(some 10), (some (8, true)), false, .lens true (.tmp 9)⟩,
    ⟨(some 11), (some (8, true)), false, .bin .geq (.tmp 10) (.const (.int .i64 1))⟩,
    ⟨(some 12), none, false, .pick (.tmp 8) (.tmp 11) (.const (.bool false))⟩,
    ⟨(some 13), none, false, .mov (.tmp 12)⟩,
    ⟨(some 14), (some (13, true)), false, .mov (.tmp 0)⟩,
    ⟨(some 15), (some (13, true)), false, .lens true (.tmp 14)⟩,
    ⟨(some 16), (some (13, true)), false, .bin .leq (.tmp 15) (.const (.int .i64 12))⟩,
    ⟨(some 17), none, false, .pick (.tmp 13) (.tmp 16) (.const (.bool false))⟩,
    ⟨(some 2), none, false, .mov (.tmp 17)⟩]) .ret)))
theorem fits_op_Name : Fits Tryd.prog 1 op_Name ic_op_Name [.tmp 2] 1 :=
  ⟨Tryd.f15, Tryd.func15, by decide, by kernel_rfl, by kernel_rfl⟩

/-- chantry/chantryref14.Name -/
noncomputable def ic_chantryref14_Name : IC :=
  (.seq (.ops [
    ⟨(some 2), none, false, .mov (.const (.bool false))⟩]) (.seq (.seq (.ops [
    ⟨(some 3), none, false, .mov (.const (.int .i64 0))⟩]) (.block 0 (.loop (.seq (.seq (.ops [
    ⟨(some 5), none, false, .mov (.tmp 3)⟩,
    ⟨(some 6), none, false, .mov (.tmp 0)⟩,
    ⟨(some 7), none, false, .lens true (.tmp 6)⟩,
    ⟨(some 8), none, false, .bin .lss (.tmp 5) (.tmp 7)⟩]) (.cond (.tmp 8) .skip (.exit 0))) (.seq (.block 1 (.seq (.ops [
    ⟨(some 11), none, false, .mov (.tmp 0)⟩,
    ⟨(some 12), none, false, .mov (.tmp 3)⟩,
    ⟨(some 13), none, false, .idxs (.tmp 11) (.tmp 12)⟩,
    ⟨(some 4), none, false, .mov (.tmp 13)⟩]) (.seq (.ops [
    ⟨(some 14), none, false, .mov (.tmp 4)⟩,
    ⟨(some 15), none, false, .bin .geq (.tmp 14) (.const (.int .u8 97))⟩,
    ⟨(some 16), none, false, .mov (.tmp 15)⟩,
    ⟨(some 17), (some (16, true)), false, .mov (.tmp 4)⟩,
    ⟨(some 18), (some (16, true)), false, .bin .leq (.tmp 17) (.const (.int .u8 122))⟩,
    ⟨(some 19), none, false, .pick (.tmp 16) (.tmp 18) (.const (.bool false))⟩,
    ⟨(some 20), none, false, .mov (.tmp 19)⟩,
    ⟨(some 21), (some (20, false)), false, .mov (.tmp 4)⟩,
    ⟨(some 22), (some (20, false)), false, .bin .geq (.tmp 21) (.const (.int .u8 48))⟩,
    ⟨(some 23), (some (20, false)), false, .mov (.tmp 22)⟩,
    ⟨(some 24), (some (23, true)), false, .mov (.tmp 4)⟩,
    ⟨(some 25), (some (23, true)), false, .bin .leq (.tmp 24) (.const (.int .u8 57))⟩,
    ⟨(some 26), (some (20, false)), false, .pick (.tmp 23) (.tmp 25) (.const (.bool false))⟩,
    ⟨(some 27), none, false, .pick (.tmp 20) (.const (.bool true)) (.tmp 26)⟩,
    ⟨(some 28), none, false, .mov (.tmp 27)⟩,
    ⟨(some 29), (some (28, false)), false, .mov (.tmp 4)⟩,
    ⟨(some 30), (some (28, false)), false, .bin .eql (.tmp 29) (.const (.int .u8 45))⟩,
    ⟨(some 31), none, false, .pick (.tmp 28) (.const (.bool true)) (.tmp 30)⟩,
    ⟨(some 32), none, false, .un .not (.tmp 31)⟩]) (.cond (.tmp 32) (.seq (.ops [
    ⟨(some 2), none, false, .mov (.const (.bool false))⟩]) .ret) .skip)))) (.ops [
    ⟨(some 9), none, false, .mov (.tmp 3)⟩,
    ⟨(some 10), none, false, .bin .add (.tmp 9) (.const (.int .i64 1))⟩,
    ⟨(some 3), none, false, .mov (.tmp 10)⟩])))))) (.seq (.ops [
    ⟨(some 33), none, false, .mov (.tmp 0)⟩,
    ⟨(some 34), none, false, .lens true (.tmp 33)⟩,
    ⟨(some 35), none, false, .bin .geq (.tmp 34) (.const (.int .i64 1))⟩,
    ⟨(some 36), none, false, .mov (.tmp 35)⟩,
    ⟨(some 37), (some (36, true)), false, .mov (.tmp 0)⟩,
    ⟨(some 38), (some (36, true)), false, .lens true (.tmp 37)⟩,
    ⟨(some 39), (some (36, true)), false, .bin .leq (.tmp 38) (.const (.int .i64 12))⟩,
    ⟨(some 40), none, false, .pick (.tmp 36) (.tmp 39) (.const (.bool false))⟩,
    ⟨(some 2), none, false, .mov (.tmp 40)⟩]) .ret)))
theorem fits_chantryref14_Name : Fits Tryd.prog 1 chantryref14_Name ic_chantryref14_Name [.tmp 2] 1 :=
  ⟨Tryd.f16, Tryd.func16, by decide, by kernel_rfl, by kernel_rfl⟩

/-- chantry/chantryref14.Check -/
noncomputable def ic_chantryref14_Check : IC :=
  (.seq (.ops [
    ⟨(some 1), none, false, .box (.tmp 0)⟩,
    ⟨(some 2), none, false, .mov (.const (.bool false))⟩]) (.seq (.ops [
    ⟨(some 9), none, false, .faddr (.tmp 1) 0⟩,
    ⟨(some 10), none, false, .load1 (.tmp 9)⟩,
    ⟨(some 11), none, false, .call chantryref14_Has [(.tmp 10)]⟩,
    ⟨(some 8), none, false, .mov (.tmp 11)⟩,
    ⟨(some 12), none, false, .ext (.tmp 8) 0⟩,
    ⟨(some 13), none, false, .ext (.tmp 8) 1⟩,
    ⟨(some 14), none, false, .ext (.tmp 8) 2⟩,
    ⟨(some 15), none, false, .ext (.tmp 8) 3⟩,
    ⟨(some 16), none, false, .ext (.tmp 8) 4⟩,
    ⟨(some 3), none, false, .mov (.tmp 12)⟩,
    ⟨(some 4), none, false, .mov (.tmp 13)⟩,
    ⟨(some 5), none, false, .mov (.tmp 14)⟩,
    ⟨(some 6), none, false, .mov (.tmp 15)⟩,
    ⟨(some 7), none, false, .mov (.tmp 16)⟩]) (.seq (.seq (.ops [
    ⟨(some 17), none, false, .mov (.tmp 7)⟩,
    ⟨(some 18), none, false, .un .not (.tmp 17)⟩,
    ⟨(some 19), none, false, .mov (.tmp 18)⟩,
    ⟨(some 20), (some (19, false)), false, .mov (.tmp 3)⟩,
    ⟨(some 21), (some (19, false)), false, .mov (.tmp 20)⟩,
    ⟨(some 22), (some (21, true)), false, .faddr (.tmp 1) 1⟩,
    ⟨(some 23), (some (21, true)), false, .load1 (.tmp 22)⟩,
    ⟨(some 24), (some (21, true)), false, .call chantryref14_Name [(.tmp 23)]⟩,
    ⟨(some 25), (some (21, true)), false, .un .not (.tmp 24)⟩,
    ⟨(some 26), (some (19, false)), false, .pick (.tmp 21) (.tmp 25) (.const (.bool false))⟩,
    ⟨(some 27), none, false, .pick (.tmp 19) (.const (.bool true)) (.tmp 26)⟩,
    ⟨(some 28), none, false, .mov (.tmp 27)⟩,
    ⟨(some 29), (some (28, false)), false, .mov (.tmp 3)⟩,
    ⟨(some 30), (some (28, false)), false, .un .not (.tmp 29)⟩,
    ⟨(some 31), (some (28, false)), false, .mov (.tmp 30)⟩,
    ⟨(some 32), (some (31, true)), false, .faddr (.tmp 1) 1⟩,
    ⟨(some 33), (some (31, true)), false, .load1 (.tmp 32)⟩,
    ⟨(some 34), (some (31, true)), false, .bin .neq (.tmp 33) (.const (.string ⟨#[]⟩))⟩,
    ⟨(some 35), (some (28, false)), false, .pick (.tmp 31) (.tmp 34) (.const (.bool false))⟩,
    ⟨(some 36), none, false, .pick (.tmp 28) (.const (.bool true)) (.tmp 35)⟩,
    ⟨(some 37), none, false, .mov (.tmp 36)⟩,
    ⟨(some 38), (some (37, false)), false, .faddr (.tmp 1) 2⟩,
    ⟨(some 39), (some (37, false)), false, .load1 (.tmp 38)⟩,
    ⟨(some 40), (some (37, false)), false, .lens true (.tmp 39)⟩,
    ⟨(some 41), (some (37, false)), false, .bin .gtr (.tmp 40) (.const (.int .i64 48))⟩,
    ⟨(some 42), none, false, .pick (.tmp 37) (.const (.bool true)) (.tmp 41)⟩,
    ⟨(some 43), none, false, .mov (.tmp 42)⟩,
    ⟨(some 44), (some (43, false)), false, .mov (.tmp 4)⟩,
    ⟨(some 45), (some (43, false)), false, .un .not (.tmp 44)⟩,
    ⟨(some 46), (some (43, false)), false, .mov (.tmp 45)⟩,
    ⟨(some 47), (some (46, true)), false, .faddr (.tmp 1) 2⟩,
    ⟨(some 48), (some (46, true)), false, .load1 (.tmp 47)⟩,
    ⟨(some 49), (some (46, true)), false, .bin .neq (.tmp 48) (.const (.string ⟨#[]⟩))⟩,
    ⟨(some 50), (some (43, false)), false, .pick (.tmp 46) (.tmp 49) (.const (.bool false))⟩,
    ⟨(some 51), none, false, .pick (.tmp 43) (.const (.bool true)) (.tmp 50)⟩,
    ⟨(some 52), none, false, .mov (.tmp 51)⟩,
    ⟨(some 53), (some (52, false)), false, .mov (.tmp 5)⟩,
    ⟨(some 54), (some (52, false)), false, .un .not (.tmp 53)⟩,
    ⟨(some 55), (some (52, false)), false, .mov (.tmp 54)⟩,
    ⟨(some 56), (some (55, true)), false, .faddr (.tmp 1) 3⟩,
    ⟨(some 57), (some (55, true)), false, .load1 (.tmp 56)⟩,
    ⟨(some 58), (some (55, true)), false, .bin .neq (.tmp 57) (.const (.int .i64 0))⟩,
    ⟨(some 59), (some (52, false)), false, .pick (.tmp 55) (.tmp 58) (.const (.bool false))⟩,
    ⟨(some 60), none, false, .pick (.tmp 52) (.const (.bool true)) (.tmp 59)⟩,
    ⟨(some 61), none, false, .mov (.tmp 60)⟩,
    ⟨(some 62), (some (61, false)), false, .mov (.tmp 6)⟩,
    ⟨(some 63), (some (61, false)), false, .un .not (.tmp 62)⟩,
    ⟨(some 64), (some (61, false)), false, .mov (.tmp 63)⟩,
    ⟨(some 65), (some (64, true)), false, .faddr (.tmp 1) 4⟩,
    ⟨(some 66), (some (64, true)), false, .load1 (.tmp 65)⟩,
    ⟨(some 67), (some (64, true)), false, .bin .neq (.tmp 66) (.const (.string ⟨#[]⟩))⟩,
    ⟨(some 68), (some (61, false)), false, .pick (.tmp 64) (.tmp 67) (.const (.bool false))⟩,
    ⟨(some 69), none, false, .pick (.tmp 61) (.const (.bool true)) (.tmp 68)⟩]) (.cond (.tmp 69) (.seq (.ops [
    ⟨(some 2), none, false, .mov (.const (.bool false))⟩]) .ret) .skip)) (.seq (.seq (.ops [
    ⟨(some 70), none, false, .faddr (.tmp 1) 3⟩,
    ⟨(some 71), none, false, .load1 (.tmp 70)⟩,
    ⟨(some 72), none, false, .bin .lss (.tmp 71) (.const (.int .i64 (-2147483647)))⟩,
    ⟨(some 73), none, false, .mov (.tmp 72)⟩,
    ⟨(some 74), (some (73, false)), false, .faddr (.tmp 1) 3⟩,
    ⟨(some 75), (some (73, false)), false, .load1 (.tmp 74)⟩,
    ⟨(some 76), (some (73, false)), false, .bin .gtr (.tmp 75) (.const (.int .i64 2147483647))⟩,
    ⟨(some 77), none, false, .pick (.tmp 73) (.const (.bool true)) (.tmp 76)⟩,
    ⟨(some 78), none, false, .mov (.tmp 77)⟩,
    ⟨(some 79), (some (78, false)), false, .faddr (.tmp 1) 4⟩,
    ⟨(some 80), (some (78, false)), false, .load1 (.tmp 79)⟩,
    ⟨(some 81), (some (78, false)), false, .bin .neq (.tmp 80) (.const (.string ⟨#[]⟩))⟩,
    ⟨(some 82), (some (78, false)), false, .mov (.tmp 81)⟩,
    ⟨(some 83), (some (82, true)), false, .faddr (.tmp 1) 4⟩,
    ⟨(some 84), (some (82, true)), false, .load1 (.tmp 83)⟩,
    ⟨(some 85), (some (82, true)), false, .lens true (.tmp 84)⟩,
    ⟨(some 86), (some (82, true)), false, .bin .neq (.tmp 85) (.const (.int .i64 32))⟩,
    ⟨(some 87), (some (78, false)), false, .pick (.tmp 82) (.tmp 86) (.const (.bool false))⟩,
    ⟨(some 88), none, false, .pick (.tmp 78) (.const (.bool true)) (.tmp 87)⟩]) (.cond (.tmp 88) (.seq (.ops [
    ⟨(some 2), none, false, .mov (.const (.bool false))⟩]) .ret) .skip)) (.seq (.ops [
    ⟨(some 89), none, false, .faddr (.tmp 1) 0⟩,
    ⟨(some 90), none, false, .load1 (.tmp 89)⟩,
    ⟨(some 91), none, false, .bin .eql (.tmp 90) (.const (.int .i64 5))⟩,
    ⟨(some 92), none, false, .mov (.tmp 91)⟩,
    ⟨(some 93), (some (92, true)), false, .faddr (.tmp 1) 2⟩,
    ⟨(some 94), (some (92, true)), false, .load1 (.tmp 93)⟩,
    ⟨(some 95), (some (92, true)), false, .bin .eql (.tmp 94) (.const (.string ⟨#[]⟩))⟩,
    ⟨(some 96), none, false, .pick (.tmp 92) (.tmp 95) (.const (.bool false))⟩,
    ⟨(some 97), none, false, .un .not (.tmp 96)⟩,
    ⟨(some 98), none, false, .mov (.tmp 97)⟩,
    ⟨(some 99), (some (98, true)), false, .faddr (.tmp 1) 0⟩,
    ⟨(some 100), (some (98, true)), false, .load1 (.tmp 99)⟩,
    ⟨(some 101), (some (98, true)), false, .bin .eql (.tmp 100) (.const (.int .i64 6))⟩,
    ⟨(some 102), (some (98, true)), false, .mov (.tmp 101)⟩,
    ⟨(some 103), (some (102, true)), false, .faddr (.tmp 1) 4⟩,
    ⟨(some 104), (some (102, true)), false, .load1 (.tmp 103)⟩,
    ⟨(some 105), (some (102, true)), false, .bin .eql (.tmp 104) (.const (.string ⟨#[]⟩))⟩,
    ⟨(some 106), (some (98, true)), false, .pick (.tmp 102) (.tmp 105) (.const (.bool false))⟩,
    ⟨(some 107), (some (98, true)), false, .un .not (.tmp 106)⟩,
    ⟨(some 108), none, false, .pick (.tmp 98) (.tmp 107) (.const (.bool false))⟩,
    ⟨(some 2), none, false, .mov (.tmp 108)⟩]) .ret)))))
theorem fits_chantryref14_Check : Fits Tryd.prog 1 chantryref14_Check ic_chantryref14_Check [.tmp 2] 1 :=
  ⟨Tryd.f17, Tryd.func17, by decide, by kernel_rfl, by kernel_rfl⟩

/-- chantry/op.has -/
noncomputable def ic_op_has : IC :=
  (.seq (.ops [
    ⟨(some 2), none, false, .mov (.const (.int .i64 0))⟩]) (.seq (.seq (.ops [
    ⟨(some 3), none, false, .mov (.tmp 0)⟩]) (.block 0 (.seq (.ops [
    ⟨(some 5), none, false, .bin .eql (.tmp 3) (.const (.int .i64 1))⟩,
    ⟨(some 4), none, false, .mov (.tmp 5)⟩]) (.cond (.tmp 4) (.seq (.ops [
    ⟨(some 2), none, false, .mov (.const (.int .i64 5))⟩]) .ret) (.seq (.seq (.ops [
    ⟨(some 7), none, false, .bin .eql (.tmp 3) (.const (.int .i64 2))⟩,
    ⟨(some 6), none, false, .mov (.tmp 7)⟩]) (.cond (.tmp 6) .skip (.seq (.ops [
    ⟨(some 8), none, false, .bin .eql (.tmp 3) (.const (.int .i64 3))⟩,
    ⟨(some 6), none, false, .mov (.tmp 8)⟩]) (.cond (.tmp 6) .skip (.ops [
    ⟨(some 9), none, false, .bin .eql (.tmp 3) (.const (.int .i64 4))⟩,
    ⟨(some 6), none, false, .mov (.tmp 9)⟩]))))) (.cond (.tmp 6) (.seq (.ops [
    ⟨(some 2), none, false, .mov (.const (.int .i64 3))⟩]) .ret) (.seq (.ops [
    ⟨(some 11), none, false, .bin .eql (.tmp 3) (.const (.int .i64 5))⟩,
    ⟨(some 10), none, false, .mov (.tmp 11)⟩]) (.cond (.tmp 10) (.seq (.ops [
    ⟨(some 2), none, false, .mov (.const (.int .i64 11))⟩]) .ret) (.seq (.ops [
    ⟨(some 13), none, false, .bin .eql (.tmp 3) (.const (.int .i64 6))⟩,
    ⟨(some 12), none, false, .mov (.tmp 13)⟩]) (.cond (.tmp 12) (.seq (.ops [
    ⟨(some 2), none, false, .mov (.const (.int .i64 9))⟩]) .ret) (.seq (.ops [
    ⟨(some 15), none, false, .bin .eql (.tmp 3) (.const (.int .i64 7))⟩,
    ⟨(some 14), none, false, .mov (.tmp 15)⟩]) (.cond (.tmp 14) (.seq (.ops [
    ⟨(some 2), none, false, .mov (.const (.int .i64 0))⟩]) .ret) .skip)))))))))))) (.seq (.ops [
    ⟨(some 2), none, false, .mov (.const (.int .i64 (-1)))⟩]) .ret)))
theorem fits_op_has : Fits Tryd.prog 1 op_has ic_op_has [.tmp 2] 1 :=
  ⟨Tryd.f18, Tryd.func18, by decide, by kernel_rfl, by kernel_rfl⟩

/-- chantry/op.Put$1 -/
noncomputable def ic_op_Put_1 : IC :=
  (.seq (.ops [
    ⟨(some 6), none, false, .mov (.tmp 0)⟩,
    ⟨(some 7), none, false, .s2b (.tmp 6)⟩,
    ⟨(some 8), none, false, .call num_Text [(.tmp 7)]⟩,
    ⟨(some 5), none, false, .mov (.tmp 8)⟩,
    ⟨(some 9), none, false, .ext (.tmp 5) 0⟩,
    ⟨(some 10), none, false, .ext (.tmp 5) 1⟩,
    ⟨(some 3), none, false, .mov (.tmp 9)⟩,
    ⟨(some 4), none, false, .mov (.tmp 10)⟩]) (.ops [
    ⟨(some 11), none, false, .load1 (.tmp 1)⟩,
    ⟨(some 12), none, false, .mov (.tmp 3)⟩,
    ⟨(some 13), none, false, .app (.tmp 11) (.tmp 12) 1 1⟩,
    ⟨none, none, false, .store (.tmp 1) (.tmp 13) 1⟩]))
theorem fits_op_Put_1 : Fits Tryd.prog 1 op_Put_1 ic_op_Put_1 [] 1 :=
  ⟨Tryd.f19, Tryd.func19, by decide, by kernel_rfl, by kernel_rfl⟩

/-- chantry/num.Text -/
noncomputable def ic_num_Text : IC :=
  (.seq (.ops [
    ⟨(some 2), none, false, .mov (.const (.slice none 0 0))⟩,
    ⟨(some 3), none, false, .mov (.const (.int .i64 0))⟩]) (.seq (.seq (.ops [
    ⟨(some 6), none, false, .mov (.tmp 0)⟩,
    ⟨(some 7), none, false, .lens false (.tmp 6)⟩,
    ⟨(some 8), none, false, .bin .gtr (.tmp 7) (.const (.int .i64 262144))⟩]) (.cond (.tmp 8) (.seq (.ops [
    ⟨(some 2), none, false, .mov (.const (.slice none 0 0))⟩,
    ⟨(some 3), none, false, .mov (.const (.int .i64 3))⟩]) .ret) .skip)) (.seq (.ops [
    ⟨(some 10), none, false, .mov (.tmp 0)⟩,
    ⟨(some 11), none, false, .lens false (.tmp 10)⟩,
    ⟨(some 12), none, false, .call num_Put [(.tmp 11)]⟩,
    ⟨(some 9), none, false, .mov (.tmp 12)⟩,
    ⟨(some 13), none, false, .ext (.tmp 9) 0⟩,
    ⟨(some 14), none, false, .ext (.tmp 9) 1⟩,
    ⟨(some 4), none, false, .mov (.tmp 13)⟩,
    ⟨(some 5), none, false, .mov (.tmp 14)⟩]) (.seq (.ops [
    ⟨(some 15), none, false, .mov (.tmp 4)⟩,
    ⟨(some 16), none, false, .mov (.tmp 0)⟩,
    ⟨(some 17), none, false, .lit [.slice none 0 0] 1 2 [(0, 1, (.tmp 15)), (1, 1, (.tmp 16))]⟩,
    ⟨(some 18), none, false, .call slices_Concat_byte_byte [(.tmp 17)]⟩,
    ⟨(some 2), none, false, .mov (.tmp 18)⟩,
    ⟨(some 3), none, false, .mov (.const (.int .i64 0))⟩]) .ret))))
theorem fits_num_Text : Fits Tryd.prog 1 num_Text ic_num_Text [.tmp 2, .tmp 3] 1 :=
  ⟨Tryd.f20, Tryd.func20, by decide, by kernel_rfl, by kernel_rfl⟩

/-- chantry/num.Fix -/
noncomputable def ic_num_Fix : IC :=
  (.seq (.ops [
    ⟨(some 4), none, false, .mov (.const (.slice none 0 0))⟩,
    ⟨(some 5), none, false, .mov (.const (.int .i64 0))⟩]) (.seq (.seq (.ops [
    ⟨(some 8), none, false, .mov (.tmp 1)⟩,
    ⟨(some 9), none, false, .bin .lss (.tmp 8) (.const (.int .i64 1))⟩,
    ⟨(some 10), none, false, .mov (.tmp 9)⟩,
    ⟨(some 11), (some (10, false)), false, .mov (.tmp 1)⟩,
    ⟨(some 12), (some (10, false)), false, .bin .gtr (.tmp 11) (.const (.int .i64 4))⟩,
    ⟨(some 13), none, false, .pick (.tmp 10) (.const (.bool true)) (.tmp 12)⟩,
    ⟨(some 14), none, false, .mov (.tmp 13)⟩,
    ⟨(some 15), (some (14, false)), false, .mov (.tmp 0)⟩,
    ⟨(some 16), (some (14, false)), false, .call num_is [(.tmp 15)]⟩,
    ⟨(some 17), (some (14, false)), false, .un .not (.tmp 16)⟩,
    ⟨(some 18), none, false, .pick (.tmp 14) (.const (.bool true)) (.tmp 17)⟩,
    ⟨(some 19), none, false, .mov (.tmp 18)⟩,
    ⟨(some 20), (some (19, false)), false, .mov (.tmp 0)⟩,
    ⟨(some 21), (some (19, false)), false, .mov (.tmp 1)⟩,
    ⟨(some 22), (some (19, false)), false, .bin .mul (.const (.int .i64 8)) (.tmp 21)⟩,
    ⟨(some 23), (some (19, false)), false, .bin .shr (.tmp 20) (.tmp 22)⟩,
    ⟨(some 24), (some (19, false)), false, .bin .gtr (.tmp 23) (.const (.int .i64 0))⟩,
    ⟨(some 25), none, false, .pick (.tmp 19) (.const (.bool true)) (.tmp 24)⟩]) (.cond (.tmp 25) (.seq (.ops [
    ⟨(some 4), none, false, .mov (.const (.slice none 0 0))⟩,
    ⟨(some 5), none, false, .mov (.const (.int .i64 1))⟩]) .ret) .skip)) (.seq (.ops [
    ⟨(some 26), none, false, .mov (.tmp 1)⟩,
    ⟨(some 27), none, false, .mk [.int .u8 0] 1 (.tmp 26) (.tmp 26)⟩,
    ⟨(some 6), none, false, .mov (.tmp 27)⟩]) (.seq (.seq (.ops [
    ⟨(some 28), none, false, .mov (.tmp 6)⟩,
    ⟨(some 29), none, false, .lens false (.tmp 28)⟩,
    ⟨(some 30), none, false, .mov (.const (.int .i64 0))⟩]) (.block 0 (.loop (.seq (.ops [
    ⟨(some 31), none, false, .bin .lss (.tmp 30) (.tmp 29)⟩]) (.seq (.cond (.tmp 31) .skip (.exit 0)) (.seq (.block 1 (.seq (.ops [
    ⟨(some 32), none, false, .mov (.tmp 30)⟩,
    ⟨(some 7), none, false, .mov (.tmp 32)⟩]) (.ops [
    ⟨(some 33), none, false, .mov (.tmp 6)⟩,
    ⟨(some 34), none, false, .mov (.tmp 7)⟩,
    ⟨(some 35), none, false, .mov (.tmp 0)⟩,
    ⟨(some 36), none, false, .mov (.tmp 7)⟩,
    ⟨(some 37), none, false, .bin .mul (.const (.int .i64 8)) (.tmp 36)⟩,
    ⟨(some 38), none, false, .bin .shr (.tmp 35) (.tmp 37)⟩,
    ⟨(some 39), none, false, .conv .u8 (.tmp 38)⟩,
    ⟨(some 40), none, false, .iaddr (.tmp 33) (.tmp 34) 1⟩,
    ⟨none, none, false, .store (.tmp 40) (.tmp 39) 1⟩]))) (.ops [
    ⟨(some 41), none, false, .bin .add (.tmp 30) (.const (.int .i64 1))⟩,
    ⟨(some 30), none, false, .mov (.tmp 41)⟩]))))))) (.seq (.ops [
    ⟨(some 42), none, false, .mov (.tmp 6)⟩,
    ⟨(some 4), none, false, .mov (.tmp 42)⟩,
    ⟨(some 5), none, false, .mov (.const (.int .i64 0))⟩]) .ret)))))
theorem fits_num_Fix : Fits Tryd.prog 1 num_Fix ic_num_Fix [.tmp 4, .tmp 5] 2 :=
  ⟨Tryd.f21, Tryd.func21, by decide, by kernel_rfl, by kernel_rfl⟩

/-- chantry/op.truth -/
noncomputable def ic_op_truth : IC :=
  (.seq (.ops [
    ⟨(some 2), none, false, .mov (.const (.int .u8 0))⟩]) (.seq (.seq (.ops [
    ⟨(some 3), none, false, .mov (.tmp 0)⟩]) (.cond (.tmp 3) (.seq (.ops [
    ⟨(some 2), none, false, .mov (.const (.int .u8 1))⟩]) .ret) .skip)) (.seq (.ops [
    ⟨(some 2), none, false, .mov (.const (.int .u8 0))⟩]) .ret)))
theorem fits_op_truth : Fits Tryd.prog 1 op_truth ic_op_truth [.tmp 2] 1 :=
  ⟨Tryd.f22, Tryd.func22, by decide, by kernel_rfl, by kernel_rfl⟩

/-- chantry/chantryref14.Has -/
noncomputable def ic_chantryref14_Has : IC :=
  (.seq (.ops [
    ⟨(some 2), none, false, .mov (.const (.bool false))⟩,
    ⟨(some 3), none, false, .mov (.const (.bool false))⟩,
    ⟨(some 4), none, false, .mov (.const (.bool false))⟩,
    ⟨(some 5), none, false, .mov (.const (.bool false))⟩,
    ⟨(some 6), none, false, .mov (.const (.bool false))⟩]) (.seq (.seq (.ops [
    ⟨(some 7), none, false, .mov (.tmp 0)⟩]) (.block 0 (.seq (.ops [
    ⟨(some 9), none, false, .bin .eql (.tmp 7) (.const (.int .i64 1))⟩,
    ⟨(some 8), none, false, .mov (.tmp 9)⟩]) (.cond (.tmp 8) (.seq (.ops [
    ⟨(some 2), none, false, .mov (.const (.bool true))⟩,
    ⟨(some 3), none, false, .mov (.const (.bool false))⟩,
    ⟨(some 4), none, false, .mov (.const (.bool true))⟩,
    ⟨(some 5), none, false, .mov (.const (.bool false))⟩,
    ⟨(some 6), none, false, .mov (.const (.bool true))⟩]) .ret) (.seq (.seq (.ops [
    ⟨(some 11), none, false, .bin .eql (.tmp 7) (.const (.int .i64 2))⟩,
    ⟨(some 10), none, false, .mov (.tmp 11)⟩]) (.cond (.tmp 10) .skip (.seq (.ops [
    ⟨(some 12), none, false, .bin .eql (.tmp 7) (.const (.int .i64 3))⟩,
    ⟨(some 10), none, false, .mov (.tmp 12)⟩]) (.cond (.tmp 10) .skip (.ops [
    ⟨(some 13), none, false, .bin .eql (.tmp 7) (.const (.int .i64 4))⟩,
    ⟨(some 10), none, false, .mov (.tmp 13)⟩]))))) (.cond (.tmp 10) (.seq (.ops [
    ⟨(some 2), none, false, .mov (.const (.bool true))⟩,
    ⟨(some 3), none, false, .mov (.const (.bool true))⟩,
    ⟨(some 4), none, false, .mov (.const (.bool false))⟩,
    ⟨(some 5), none, false, .mov (.const (.bool false))⟩,
    ⟨(some 6), none, false, .mov (.const (.bool true))⟩]) .ret) (.seq (.ops [
    ⟨(some 15), none, false, .bin .eql (.tmp 7) (.const (.int .i64 5))⟩,
    ⟨(some 14), none, false, .mov (.tmp 15)⟩]) (.cond (.tmp 14) (.seq (.ops [
    ⟨(some 2), none, false, .mov (.const (.bool true))⟩,
    ⟨(some 3), none, false, .mov (.const (.bool true))⟩,
    ⟨(some 4), none, false, .mov (.const (.bool false))⟩,
    ⟨(some 5), none, false, .mov (.const (.bool true))⟩,
    ⟨(some 6), none, false, .mov (.const (.bool true))⟩]) .ret) (.seq (.ops [
    ⟨(some 17), none, false, .bin .eql (.tmp 7) (.const (.int .i64 6))⟩,
    ⟨(some 16), none, false, .mov (.tmp 17)⟩]) (.cond (.tmp 16) (.seq (.ops [
    ⟨(some 2), none, false, .mov (.const (.bool true))⟩,
    ⟨(some 3), none, false, .mov (.const (.bool false))⟩,
    ⟨(some 4), none, false, .mov (.const (.bool false))⟩,
    ⟨(some 5), none, false, .mov (.const (.bool true))⟩,
    ⟨(some 6), none, false, .mov (.const (.bool true))⟩]) .ret) (.seq (.ops [
    ⟨(some 19), none, false, .bin .eql (.tmp 7) (.const (.int .i64 7))⟩,
    ⟨(some 18), none, false, .mov (.tmp 19)⟩]) (.cond (.tmp 18) (.seq (.ops [
    ⟨(some 2), none, false, .mov (.const (.bool false))⟩,
    ⟨(some 3), none, false, .mov (.const (.bool false))⟩,
    ⟨(some 4), none, false, .mov (.const (.bool false))⟩,
    ⟨(some 5), none, false, .mov (.const (.bool false))⟩,
    ⟨(some 6), none, false, .mov (.const (.bool true))⟩]) .ret) .skip)))))))))))) (.seq (.ops [
    ⟨(some 2), none, false, .mov (.const (.bool false))⟩,
    ⟨(some 3), none, false, .mov (.const (.bool false))⟩,
    ⟨(some 4), none, false, .mov (.const (.bool false))⟩,
    ⟨(some 5), none, false, .mov (.const (.bool false))⟩,
    ⟨(some 6), none, false, .mov (.const (.bool false))⟩]) .ret)))
theorem fits_chantryref14_Has : Fits Tryd.prog 1 chantryref14_Has ic_chantryref14_Has [.tmp 2, .tmp 3, .tmp 4, .tmp 5, .tmp 6] 1 :=
  ⟨Tryd.f23, Tryd.func23, by decide, by kernel_rfl, by kernel_rfl⟩

/-- chantry/chantryref01.Text -/
noncomputable def ic_chantryref01_Text : IC :=
  (.seq (.ops [
    ⟨(some 2), none, false, .mov (.const (.slice none 0 0))⟩,
    ⟨(some 3), none, false, .mov (.const (.int .i64 0))⟩]) (.seq (.seq (.ops [
    ⟨(some 6), none, false, .mov (.tmp 0)⟩,
    ⟨(some 7), none, false, .lens false (.tmp 6)⟩,
    ⟨(some 8), none, false, .bin .gtr (.tmp 7) (.const (.int .i64 262144))⟩]) (.cond (.tmp 8) (.seq (.ops [
    ⟨(some 2), none, false, .mov (.const (.slice none 0 0))⟩,
    ⟨(some 3), none, false, .mov (.const (.int .i64 3))⟩]) .ret) .skip)) (.seq (.ops [
    ⟨(some 10), none, false, .mov (.tmp 0)⟩,
    ⟨(some 11), none, false, .lens false (.tmp 10)⟩,
    ⟨(some 12), none, false, .call chantryref01_Put [(.tmp 11)]⟩,
    ⟨(some 9), none, false, .mov (.tmp 12)⟩,
    ⟨(some 13), none, false, .ext (.tmp 9) 0⟩,
    ⟨(some 14), none, false, .ext (.tmp 9) 1⟩,
    ⟨(some 4), none, false, .mov (.tmp 13)⟩,
    ⟨(some 5), none, false, .mov (.tmp 14)⟩]) (.seq (.ops [
    ⟨(some 15), none, false, .mov (.tmp 4)⟩,
    ⟨(some 16), none, false, .mov (.tmp 0)⟩,
    ⟨(some 17), none, false, .app (.tmp 15) (.tmp 16) 1 1⟩,
    ⟨(some 2), none, false, .mov (.tmp 17)⟩,
    ⟨(some 3), none, false, .mov (.const (.int .i64 0))⟩]) .ret))))
theorem fits_chantryref01_Text : Fits Tryd.prog 1 chantryref01_Text ic_chantryref01_Text [.tmp 2, .tmp 3] 1 :=
  ⟨Tryd.f24, Tryd.func24, by decide, by kernel_rfl, by kernel_rfl⟩

/-- chantry/chantryref01.Fix -/
noncomputable def ic_chantryref01_Fix : IC :=
  (.seq (.ops [
    ⟨(some 4), none, false, .mov (.const (.slice none 0 0))⟩,
    ⟨(some 5), none, false, .mov (.const (.int .i64 0))⟩]) (.seq (.seq (.ops [
    ⟨(some 8), none, false, .mov (.tmp 1)⟩,
    ⟨(some 9), none, false, .bin .lss (.tmp 8) (.const (.int .i64 1))⟩,
    ⟨(some 10), none, false, .mov (.tmp 9)⟩,
    ⟨(some 11), (some (10, false)), false, .mov (.tmp 1)⟩,
    ⟨(some 12), (some (10, false)), false, .bin .gtr (.tmp 11) (.const (.int .i64 4))⟩,
    ⟨(some 13), none, false, .pick (.tmp 10) (.const (.bool true)) (.tmp 12)⟩,
    ⟨(some 14), none, false, .mov (.tmp 13)⟩,
    ⟨(some 15), (some (14, false)), false, .mov (.tmp 0)⟩,
    ⟨(some 16), (some (14, false)), false, .bin .lss (.tmp 15) (.const (.int .i64 0))⟩,
    ⟨(some 17), none, false, .pick (.tmp 14) (.const (.bool true)) (.tmp 16)⟩,
    ⟨(some 18), none, false, .mov (.tmp 17)⟩,
    ⟨(some 19), (some (18, false)), false, .mov (.tmp 0)⟩,
    ⟨(some 20), (some (18, false)), false, .bin .gtr (.tmp 19) (.const (.int .i64 2147483647))⟩,
    ⟨(some 21), none, false, .pick (.tmp 18) (.const (.bool true)) (.tmp 20)⟩]) (.cond (.tmp 21) (.seq (.ops [
    ⟨(some 4), none, false, .mov (.const (.slice none 0 0))⟩,
    ⟨(some 5), none, false, .mov (.const (.int .i64 1))⟩]) .ret) .skip)) (.seq (.ops [
    ⟨(some 6), none, false, .mov (.const (.slice none 0 0))⟩]) (.seq (.seq (.ops [
    ⟨(some 7), none, false, .mov (.const (.int .i64 0))⟩]) (.block 0 (.loop (.seq (.seq (.ops [
    ⟨(some 22), none, false, .mov (.tmp 7)⟩,
    ⟨(some 23), none, false, .mov (.tmp 1)⟩,
    ⟨(some 24), none, false, .bin .lss (.tmp 22) (.tmp 23)⟩]) (.cond (.tmp 24) .skip (.exit 0))) (.seq (.block 1 (.seq (.ops [
    ⟨(some 27), none, false, .mov (.tmp 6)⟩,
    ⟨(some 28), none, false, .mov (.tmp 0)⟩,
    ⟨(some 29), none, false, .bin .rem (.tmp 28) (.const (.int .i64 256))⟩,
    ⟨(some 30), none, false, .conv .u8 (.tmp 29)⟩,
    ⟨(some 31), none, false, .lit [.int .u8 0] 1 1 [(0, 1, (.tmp 30))]⟩,
    ⟨(some 32), none, false, .app (.tmp 27) (.tmp 31) 1 1⟩,
    ⟨(some 6), none, false, .mov (.tmp 32)⟩]) (.ops [
    ⟨(some 33), none, false, .mov (.tmp 0)⟩,
    ⟨(some 34), none, false, .bin .quo (.tmp 33) (.const (.int .i64 256))⟩,
    ⟨(some 0), none, false, .mov (.tmp 34)⟩]))) (.ops [
    ⟨(some 25), none, false, .mov (.tmp 7)⟩,
    ⟨(some 26), none, false, .bin .add (.tmp 25) (.const (.int .i64 1))⟩,
    ⟨(some 7), none, false, .mov (.tmp 26)⟩])))))) (.seq (.seq (.ops [
    ⟨(some 35), none, false, .mov (.tmp 0)⟩,
    ⟨(some 36), none, false, .bin .gtr (.tmp 35) (.const (.int .i64 0))⟩]) (.cond (.tmp 36) (.seq (.ops [
    ⟨(some 4), none, false, .mov (.const (.slice none 0 0))⟩,
    ⟨(some 5), none, false, .mov (.const (.int .i64 1))⟩]) .ret) .skip)) (.seq (.ops [
    ⟨(some 37), none, false, .mov (.tmp 6)⟩,
    ⟨(some 4), none, false, .mov (.tmp 37)⟩,
    ⟨(some 5), none, false, .mov (.const (.int .i64 0))⟩]) .ret))))))
theorem fits_chantryref01_Fix : Fits Tryd.prog 1 chantryref01_Fix ic_chantryref01_Fix [.tmp 4, .tmp 5] 2 :=
  ⟨Tryd.f25, Tryd.func25, by decide, by kernel_rfl, by kernel_rfl⟩

/-- chantry/num.From -/
noncomputable def ic_num_From : IC :=
  (.seq (.ops [
    ⟨(some 2), none, false, .mov (.const (.pointer none))⟩]) (.seq (.ops [
    ⟨(some 3), none, false, .mov (.tmp 0)⟩,
    ⟨(some 4), none, false, .call slices_Clone_byte_byte [(.tmp 3)]⟩,
    ⟨(some 5), none, false, .build [.slice none 0 0, .bool false] [(0, 1, (.tmp 4))]⟩,
    ⟨(some 6), none, false, .box (.tmp 5)⟩,
    ⟨(some 2), none, false, .mov (.tmp 6)⟩]) .ret))
theorem fits_num_From : Fits Tryd.prog 1 num_From ic_num_From [.tmp 2] 1 :=
  ⟨Tryd.f26, Tryd.func26, by decide, by kernel_rfl, by kernel_rfl⟩

/-- (*chantry/num.Cursor).Byte -/
noncomputable def ic_num_Cursor_Byte : IC :=
  (.seq (.ops [
    ⟨(some 2), none, false, .mov (.const (.int .i64 0))⟩]) (.seq (.seq (.ops [
    ⟨(some 5), none, false, .mov (.tmp 0)⟩,
    ⟨(some 6), none, false, .call num_Cursor_Take [(.tmp 5), (.const (.int .i64 1))]⟩,
    ⟨(some 7), none, false, .lens false (.tmp 6)⟩,
    ⟨(some 8), none, false, .mov (.const (.int .i64 0))⟩]) (.block 0 (.loop (.seq (.ops [
    ⟨(some 9), none, false, .bin .lss (.tmp 8) (.tmp 7)⟩]) (.seq (.cond (.tmp 9) .skip (.exit 0)) (.seq (.block 1 (.seq (.ops [
    ⟨(some 10), none, false, .iaddr (.tmp 6) (.tmp 8) 1⟩,
    ⟨(some 11), none, false, .load1 (.tmp 10)⟩,
    ⟨(some 4), none, false, .mov (.tmp 11)⟩]) (.seq (.ops [
    ⟨(some 12), none, false, .mov (.tmp 4)⟩,
    ⟨(some 13), none, false, .conv .i64 (.tmp 12)⟩,
    ⟨(some 2), none, false, .mov (.tmp 13)⟩]) .ret))) (.ops [
    ⟨(some 14), none, false, .bin .add (.tmp 8) (.const (.int .i64 1))⟩,
    ⟨(some 8), none, false, .mov (.tmp 14)⟩]))))))) (.seq (.ops [
    ⟨(some 2), none, false, .mov (.const (.int .i64 0))⟩]) .ret)))
theorem fits_num_Cursor_Byte : Fits Tryd.prog 1 num_Cursor_Byte ic_num_Cursor_Byte [.tmp 2] 1 :=
  ⟨Tryd.f27, Tryd.func27, by decide, by kernel_rfl, by kernel_rfl⟩

/-- (*chantry/num.Cursor).Text -/
noncomputable def ic_num_Cursor_Text : IC :=
  (.seq (.ops [
    ⟨(some 2), none, false, .mov (.const (.slice none 0 0))⟩]) (.seq (.ops [
    ⟨(some 4), none, false, .mov (.tmp 0)⟩,
    ⟨(some 5), none, false, .call num_Cursor_Num [(.tmp 4)]⟩,
    ⟨(some 3), none, false, .mov (.tmp 5)⟩]) (.seq (.seq (.ops [
    ⟨(some 6), none, false, .mov (.tmp 3)⟩,
    ⟨(some 7), none, false, .bin .gtr (.tmp 6) (.const (.int .i64 262144))⟩]) (.cond (.tmp 7) (.ops [
    ⟨(some 3), none, false, .mov (.const (.int .i64 (-1)))⟩]) .skip)) (.seq (.seq (.ops [
    ⟨(some 8), none, false, .mov (.tmp 0)⟩,
    ⟨(some 9), none, false, .call num_Cursor_Bad [(.tmp 8)]⟩]) (.cond (.tmp 9) (.seq (.ops [
    ⟨(some 2), none, false, .mov (.const (.slice none 0 0))⟩]) .ret) .skip)) (.seq (.ops [
    ⟨(some 10), none, false, .mov (.tmp 0)⟩,
    ⟨(some 11), none, false, .mov (.tmp 3)⟩,
    ⟨(some 12), none, false, .call num_Cursor_Take [(.tmp 10), (.tmp 11)]⟩,
    ⟨(some 2), none, false, .mov (.tmp 12)⟩]) .ret)))))
theorem fits_num_Cursor_Text : Fits Tryd.prog 1 num_Cursor_Text ic_num_Cursor_Text [.tmp 2] 1 :=
  ⟨Tryd.f28, Tryd.func28, by decide, by kernel_rfl, by kernel_rfl⟩

/-- chantry/op.number -/
noncomputable def ic_op_number : IC :=
  (.seq (.ops [
    ⟨(some 2), none, false, .mov (.const (.int .i64 0))⟩,
    ⟨(some 3), none, false, .mov (.const (.bool false))⟩]) (.seq (.ops [
    ⟨(some 7), none, false, .mov (.tmp 0)⟩,
    ⟨(some 8), none, false, .call num_Cursor_Byte [(.tmp 7)]⟩,
    ⟨(some 4), none, false, .mov (.tmp 8)⟩]) (.seq (.ops [
    ⟨(some 10), none, false, .mov (.tmp 0)⟩,
    ⟨(some 11), none, false, .call num_Cursor_Take [(.tmp 10), (.const (.int .i64 4))]⟩,
    ⟨(some 12), none, false, .call num_Unfix [(.tmp 11)]⟩,
    ⟨(some 9), none, false, .mov (.tmp 12)⟩,
    ⟨(some 13), none, false, .ext (.tmp 9) 0⟩,
    ⟨(some 14), none, false, .ext (.tmp 9) 1⟩,
    ⟨(some 5), none, false, .mov (.tmp 13)⟩,
    ⟨(some 6), none, false, .mov (.tmp 14)⟩]) (.seq (.seq (.ops [
    ⟨(some 15), none, false, .mov (.tmp 4)⟩,
    ⟨(some 16), none, false, .bin .gtr (.tmp 15) (.const (.int .i64 1))⟩,
    ⟨(some 17), none, false, .mov (.tmp 16)⟩,
    ⟨(some 18), (some (17, false)), false, .mov (.tmp 4)⟩,
    ⟨(some 19), (some (17, false)), false, .bin .eql (.tmp 18) (.const (.int .i64 1))⟩,
    ⟨(some 20), (some (17, false)), false, .mov (.tmp 19)⟩,
    ⟨(some 21), (some (20, true)), false, .mov (.tmp 5)⟩,
    ⟨(some 22), (some (20, true)), false, .bin .eql (.tmp 21) (.const (.int .i64 0))⟩,
    ⟨(some 23), (some (17, false)), false, .pick (.tmp 20) (.tmp 22) (.const (.bool false))⟩,
    ⟨(some 24), none, false, .pick (.tmp 17) (.const (.bool true)) (.tmp 23)⟩]) (.cond (.tmp 24) (.seq (.ops [
    ⟨(some 2), none, false, .mov (.const (.int .i64 0))⟩,
    ⟨(some 3), none, false, .mov (.const (.bool false))⟩]) .ret) .skip)) (.seq (.ops [
    ⟨(some 25), none, false, .mov (.tmp 5)⟩,
    ⟨(some 26), none, false, .mov (.tmp 4)⟩,
    ⟨(some 27), none, false, .bin .mul (.const (.int .i64 2)) (.tmp 26)⟩,
    ⟨(some 28), none, false, .bin .sub (.const (.int .i64 1)) (.tmp 27)⟩,
    ⟨(some 29), none, false, .bin .mul (.tmp 25) (.tmp 28)⟩,
    ⟨(some 30), none, false, .mov (.tmp 6)⟩,
    ⟨(some 31), none, false, .bin .eql (.tmp 30) (.const (.int .i64 0))⟩,
    ⟨(some 2), none, false, .mov (.tmp 29)⟩,
    ⟨(some 3), none, false, .mov (.tmp 31)⟩]) .ret)))))
theorem fits_op_number : Fits Tryd.prog 1 op_number ic_op_number [.tmp 2, .tmp 3] 1 :=
  ⟨Tryd.f29, Tryd.func29, by decide, by kernel_rfl, by kernel_rfl⟩

/-- chantry/op.place -/
noncomputable def ic_op_place : IC :=
  (.seq (.ops [
    ⟨(some 4), none, false, .mov (.const (.string ⟨#[]⟩))⟩,
    ⟨(some 5), none, false, .mov (.const (.bool false))⟩]) (.seq (.seq (.ops [
    ⟨(some 6), none, false, .mov (.tmp 1)⟩,
    ⟨(some 7), none, false, .bin .eql (.tmp 6) (.const (.int .i64 5))⟩]) (.cond (.tmp 7) (.seq (.ops [
    ⟨(some 8), none, false, .mov (.tmp 0)⟩,
    ⟨(some 9), none, false, .call num_Cursor_Byte [(.tmp 8)]⟩]) (.block 0 (.seq (.ops [
    ⟨(some 11), none, false, .bin .eql (.tmp 9) (.const (.int .i64 0))⟩,
    ⟨(some 10), none, false, .mov (.tmp 11)⟩]) (.cond (.tmp 10) (.seq (.ops [
    ⟨(some 4), none, false, .mov (.const (.string ⟨#[]⟩))⟩,
    ⟨(some 5), none, false, .mov (.const (.bool true))⟩]) .ret) (.seq (.ops [
    ⟨(some 13), none, false, .bin .eql (.tmp 9) (.const (.int .i64 1))⟩,
    ⟨(some 12), none, false, .mov (.tmp 13)⟩]) (.cond (.tmp 12) .skip (.seq (.ops [
    ⟨(some 4), none, false, .mov (.const (.string ⟨#[]⟩))⟩,
    ⟨(some 5), none, false, .mov (.const (.bool false))⟩]) .ret))))))) .skip)) (.seq (.ops [
    ⟨(some 14), none, false, .mov (.tmp 0)⟩,
    ⟨(some 15), none, false, .call num_Cursor_Take [(.tmp 14), (.const (.int .i64 32))]⟩,
    ⟨(some 16), none, false, .b2s (.tmp 15)⟩,
    ⟨(some 4), none, false, .mov (.tmp 16)⟩,
    ⟨(some 5), none, false, .mov (.const (.bool true))⟩]) .ret)))
theorem fits_op_place : Fits Tryd.prog 1 op_place ic_op_place [.tmp 4, .tmp 5] 2 :=
  ⟨Tryd.f30, Tryd.func30, by decide, by kernel_rfl, by kernel_rfl⟩

/-- (*chantry/num.Cursor).Bad -/
noncomputable def ic_num_Cursor_Bad : IC :=
  (.seq (.ops [
    ⟨(some 2), none, false, .mov (.const (.bool false))⟩]) (.seq (.ops [
    ⟨(some 3), none, false, .mov (.tmp 0)⟩,
    ⟨(some 4), none, false, .isnil (.pointer 77) (.tmp 3) false⟩,
    ⟨(some 5), none, false, .mov (.tmp 4)⟩,
    ⟨(some 6), (some (5, false)), false, .mov (.tmp 0)⟩,
    ⟨(some 7), (some (5, false)), false, .nilc (.tmp 6)⟩,
    ⟨(some 8), (some (5, false)), false, .faddr (.tmp 7) 1⟩,
    ⟨(some 9), (some (5, false)), false, .load1 (.tmp 8)⟩,
    ⟨(some 10), none, false, .pick (.tmp 5) (.const (.bool true)) (.tmp 9)⟩,
    ⟨(some 2), none, false, .mov (.tmp 10)⟩]) .ret))
theorem fits_num_Cursor_Bad : Fits Tryd.prog 1 num_Cursor_Bad ic_num_Cursor_Bad [.tmp 2] 1 :=
  ⟨Tryd.f31, Tryd.func31, by decide, by kernel_rfl, by kernel_rfl⟩

/-- (*chantry/num.Cursor).Left -/
noncomputable def ic_num_Cursor_Left : IC :=
  (.seq (.ops [
    ⟨(some 2), none, false, .mov (.const (.int .i64 0))⟩]) (.seq (.seq (.ops [
    ⟨(some 3), none, false, .mov (.tmp 0)⟩,
    ⟨(some 4), none, false, .call num_Cursor_Bad [(.tmp 3)]⟩]) (.cond (.tmp 4) (.seq (.ops [
    ⟨(some 2), none, false, .mov (.const (.int .i64 0))⟩]) .ret) .skip)) (.seq (.ops [
    ⟨(some 5), none, false, .mov (.tmp 0)⟩,
    ⟨(some 6), none, false, .nilc (.tmp 5)⟩,
    ⟨(some 7), none, false, .faddr (.tmp 6) 0⟩,
    ⟨(some 8), none, false, .load1 (.tmp 7)⟩,
    ⟨(some 9), none, false, .lens false (.tmp 8)⟩,
    ⟨(some 2), none, false, .mov (.tmp 9)⟩]) .ret)))
theorem fits_num_Cursor_Left : Fits Tryd.prog 1 num_Cursor_Left ic_num_Cursor_Left [.tmp 2] 1 :=
  ⟨Tryd.f32, Tryd.func32, by decide, by kernel_rfl, by kernel_rfl⟩

/-- chantry/ids.Right -/
noncomputable def ic_ids_Right : IC :=
  (.seq (.ops [
    ⟨(some 2), none, false, .mov (.const (.bool false))⟩]) (.seq (.ops [
    ⟨(some 3), none, false, .mov (.tmp 0)⟩,
    ⟨(some 4), none, false, .lens true (.tmp 3)⟩,
    ⟨(some 5), none, false, .bin .eql (.tmp 4) (.const (.int .i64 32))⟩,
    ⟨(some 2), none, false, .mov (.tmp 5)⟩]) .ret))
theorem fits_ids_Right : Fits Tryd.prog 1 ids_Right ic_ids_Right [.tmp 2] 1 :=
  ⟨Tryd.f33, Tryd.func33, by decide, by kernel_rfl, by kernel_rfl⟩

/-- chantry/op.bare -/
noncomputable def ic_op_bare : IC :=
  (.seq (.ops [
    ⟨(some 1), none, false, .box (.tmp 0)⟩,
    ⟨(some 2), none, false, .new [.int .i64 0, .string ⟨#[]⟩, .string ⟨#[]⟩, .int .i64 0, .string ⟨#[]⟩]⟩]) (.seq (.tree (.op ⟨(some 5), none, false, .faddr (.tmp 1) 0⟩
    (.op ⟨(some 6), none, true, .load1 (.tmp 5)⟩
    (.op ⟨(some 7), none, false, .build [.int .i64 0, .string ⟨#[]⟩, .string ⟨#[]⟩, .int .i64 0, .string ⟨#[]⟩] [(0, 1, (.tmp 6))]⟩
    (.op ⟨(some 8), none, false, .faddr (.tmp 1) 0⟩
    (.op ⟨(some 9), none, true, .load1 (.tmp 8)⟩
    (.alt (.op ⟨(some 10), none, true, .call op_has [(.tmp 9)]⟩
    (.op ⟨(some 3), none, true, .new [.int .i64 0, .string ⟨#[]⟩, .string ⟨#[]⟩, .int .i64 0, .string ⟨#[]⟩]⟩
    (.op ⟨none, none, false, .store (.tmp 3) (.tmp 7) 5⟩
    (.op ⟨(some 4), none, false, .mov (.tmp 10)⟩
    (.nil)))))
    (.op ⟨(some 3), none, true, .new [.int .i64 0, .string ⟨#[]⟩, .string ⟨#[]⟩, .int .i64 0, .string ⟨#[]⟩]⟩
    (.op ⟨(some 10), none, true, .call op_has [(.tmp 9)]⟩
    (.op ⟨none, none, false, .store (.tmp 3) (.tmp 7) 5⟩
    (.op ⟨(some 4), none, false, .mov (.tmp 10)⟩
    (.nil)))))))))))) (.seq (.seq (.ops [
    ⟨(some 11), none, false, .mov (.tmp 4)⟩,
    ⟨(some 12), none, false, .bin .and (.tmp 11) (.const (.int .i64 1))⟩,
    ⟨(some 13), none, false, .bin .gtr (.tmp 12) (.const (.int .i64 0))⟩]) (.cond (.tmp 13) (.ops [
    ⟨(some 14), none, false, .faddr (.tmp 1) 1⟩,
    ⟨(some 15), none, false, .load1 (.tmp 14)⟩,
    ⟨(some 16), none, false, .faddr (.tmp 3) 1⟩,
    ⟨none, none, false, .store (.tmp 16) (.tmp 15) 1⟩]) .skip)) (.seq (.seq (.ops [
    ⟨(some 17), none, false, .mov (.tmp 4)⟩,
    ⟨(some 18), none, false, .bin .and (.tmp 17) (.const (.int .i64 2))⟩,
    ⟨(some 19), none, false, .bin .gtr (.tmp 18) (.const (.int .i64 0))⟩]) (.cond (.tmp 19) (.ops [
    ⟨(some 20), none, false, .faddr (.tmp 1) 2⟩,
    ⟨(some 21), none, false, .load1 (.tmp 20)⟩,
    ⟨(some 22), none, false, .faddr (.tmp 3) 2⟩,
    ⟨none, none, false, .store (.tmp 22) (.tmp 21) 1⟩]) .skip)) (.seq (.seq (.ops [
    ⟨(some 23), none, false, .mov (.tmp 4)⟩,
    ⟨(some 24), none, false, .bin .and (.tmp 23) (.const (.int .i64 4))⟩,
    ⟨(some 25), none, false, .bin .gtr (.tmp 24) (.const (.int .i64 0))⟩]) (.cond (.tmp 25) (.ops [
    ⟨(some 26), none, false, .faddr (.tmp 1) 3⟩,
    ⟨(some 27), none, false, .load1 (.tmp 26)⟩,
    ⟨(some 28), none, false, .faddr (.tmp 3) 3⟩,
    ⟨none, none, false, .store (.tmp 28) (.tmp 27) 1⟩]) .skip)) (.seq (.seq (.ops [
    ⟨(some 29), none, false, .mov (.tmp 4)⟩,
    ⟨(some 30), none, false, .bin .and (.tmp 29) (.const (.int .i64 8))⟩,
    ⟨(some 31), none, false, .bin .gtr (.tmp 30) (.const (.int .i64 0))⟩]) (.cond (.tmp 31) (.ops [
    ⟨(some 32), none, false, .faddr (.tmp 1) 4⟩,
    ⟨(some 33), none, false, .load1 (.tmp 32)⟩,
    ⟨(some 34), none, false, .faddr (.tmp 3) 4⟩,
    ⟨none, none, false, .store (.tmp 34) (.tmp 33) 1⟩]) .skip)) (.seq (.ops [
    ⟨(some 35), none, false, .loadn (.tmp 3) 5⟩,
    ⟨none, none, false, .store (.tmp 2) (.tmp 35) 5⟩]) .ret)))))))
theorem fits_op_bare : Fits Tryd.prog 1 op_bare ic_op_bare [.many 2 5] 1 :=
  ⟨Tryd.f34, Tryd.func34, by decide, by kernel_rfl, by kernel_rfl⟩

/-- chantry/op.names -/
noncomputable def ic_op_names : IC :=
  (.seq (.ops [
    ⟨(some 0), none, false, .mov (.const (.slice none 0 0))⟩]) (.seq (.ops [
    ⟨(some 1), none, false, .lit [.string ⟨#[]⟩] 1 7 [(0, 1, (.const (.string ⟨#[99, 111, 117, 110, 116]⟩))), (1, 1, (.const (.string ⟨#[97, 100, 100]⟩))), (2, 1, (.const (.string ⟨#[114, 101, 109, 111, 118, 101]⟩))), (3, 1, (.const (.string ⟨#[119, 114, 105, 116, 101]⟩))), (4, 1, (.const (.string ⟨#[105, 110, 115, 101, 114, 116]⟩))), (5, 1, (.const (.string ⟨#[100, 101, 108, 101, 116, 101]⟩))), (6, 1, (.const (.string ⟨#[109, 101, 114, 103, 101]⟩)))]⟩,
    ⟨(some 0), none, false, .mov (.tmp 1)⟩]) .ret))
theorem fits_op_names : Fits Tryd.prog 1 op_names ic_op_names [.tmp 0] 0 :=
  ⟨Tryd.f35, Tryd.func35, by decide, by kernel_rfl, by kernel_rfl⟩

/-- chantry/ids.Hex -/
noncomputable def ic_ids_Hex : IC :=
  (.seq (.ops [
    ⟨(some 2), none, false, .mov (.const (.string ⟨#[]⟩))⟩]) (.seq (.ops [
    ⟨(some 3), none, false, .mov (.const (.slice none 0 0))⟩]) (.seq (.seq (.ops [
    ⟨(some 6), none, false, .mov (.tmp 0)⟩,
    ⟨(some 7), none, false, .s2b (.tmp 6)⟩,
    ⟨(some 8), none, false, .lens false (.tmp 7)⟩,
    ⟨(some 9), none, false, .mov (.const (.int .i64 0))⟩]) (.block 0 (.loop (.seq (.ops [
    ⟨(some 10), none, false, .bin .lss (.tmp 9) (.tmp 8)⟩]) (.seq (.cond (.tmp 10) .skip (.exit 0)) (.seq (.block 1 (.seq (.ops [
    ⟨(some 11), none, false, .iaddr (.tmp 7) (.tmp 9) 1⟩,
    ⟨(some 12), none, false, .load1 (.tmp 11)⟩,
    ⟨(some 5), none, false, .mov (.tmp 12)⟩]) (.draw [
    ⟨(some 13), none, false, .mov (.tmp 3)⟩,
    ⟨(some 14), none, false, .mov (.tmp 5)⟩,
    ⟨(some 15), none, false, .bin .shr (.tmp 14) (.const (.int .u64 4))⟩,
    ⟨(some 16), none, false, .idxs (.const (.string ⟨#[48, 49, 50, 51, 52, 53, 54, 55, 56, 57, 97, 98, 99, 100, 101, 102]⟩)) (.tmp 15)⟩,
    ⟨(some 17), none, false, .mov (.tmp 5)⟩,
    ⟨(some 18), none, false, .bin .and (.tmp 17) (.const (.int .u8 15))⟩,
    ⟨(some 19), none, false, .idxs (.const (.string ⟨#[48, 49, 50, 51, 52, 53, 54, 55, 56, 57, 97, 98, 99, 100, 101, 102]⟩)) (.tmp 18)⟩,
    ⟨(some 20), none, false, .lit [.int .u8 0] 1 2 [(0, 1, (.tmp 16)), (1, 1, (.tmp 19))]⟩,
    ⟨(some 21), none, false, .app (.tmp 13) (.tmp 20) 1 1⟩,
    ⟨(some 3), none, false, .mov (.tmp 21)⟩]))) (.ops [
    ⟨(some 22), none, false, .bin .add (.tmp 9) (.const (.int .i64 1))⟩,
    ⟨(some 9), none, false, .mov (.tmp 22)⟩]))))))) (.seq (.ops [
    ⟨(some 23), none, false, .mov (.tmp 3)⟩,
    ⟨(some 24), none, false, .b2s (.tmp 23)⟩,
    ⟨(some 2), none, false, .mov (.tmp 24)⟩]) .ret))))
theorem fits_ids_Hex : Fits Tryd.prog 1 ids_Hex ic_ids_Hex [.tmp 2] 1 :=
  ⟨Tryd.f36, Tryd.func36, by decide, by kernel_rfl, by kernel_rfl⟩

/-- chantry/chantryref04.Hex -/
noncomputable def ic_chantryref04_Hex : IC :=
  (.seq (.ops [
    ⟨(some 2), none, false, .mov (.const (.string ⟨#[]⟩))⟩]) (.seq (.ops [
    ⟨(some 3), none, false, .mov (.const (.string ⟨#[48, 49, 50, 51, 52, 53, 54, 55, 56, 57, 97, 98, 99, 100, 101, 102]⟩))⟩]) (.seq (.ops [
    ⟨(some 4), none, false, .mov (.const (.slice none 0 0))⟩]) (.seq (.seq (.ops [
    ⟨(some 5), none, false, .mov (.const (.int .i64 0))⟩]) (.block 0 (.loop (.seq (.seq (.ops [
    ⟨(some 6), none, false, .mov (.tmp 5)⟩,
    ⟨(some 7), none, false, .mov (.tmp 0)⟩,
    ⟨(some 8), none, false, .lens true (.tmp 7)⟩,
    ⟨(some 9), none, false, .bin .lss (.tmp 6) (.tmp 8)⟩]) (.cond (.tmp 9) .skip (.exit 0))) (.seq (.block 1 (.draw [
    ⟨(some 12), none, false, .mov (.tmp 4)⟩,
    ⟨(some 13), none, false, .mov (.tmp 3)⟩,
    ⟨(some 14), none, false, .mov (.tmp 0)⟩,
    ⟨(some 15), none, false, .mov (.tmp 5)⟩,
    ⟨(some 16), none, false, .idxs (.tmp 14) (.tmp 15)⟩,
    ⟨(some 17), none, false, .bin .quo (.tmp 16) (.const (.int .u8 16))⟩,
    ⟨(some 18), none, false, .idxs (.tmp 13) (.tmp 17)⟩,
    ⟨(some 19), none, false, .mov (.tmp 3)⟩,
    ⟨(some 20), none, false, .mov (.tmp 0)⟩,
    ⟨(some 21), none, false, .mov (.tmp 5)⟩,
    ⟨(some 22), none, false, .idxs (.tmp 20) (.tmp 21)⟩,
    ⟨(some 23), none, false, .bin .rem (.tmp 22) (.const (.int .u8 16))⟩,
    ⟨(some 24), none, false, .idxs (.tmp 19) (.tmp 23)⟩,
    ⟨(some 25), none, false, .lit [.int .u8 0] 1 2 [(0, 1, (.tmp 18)), (1, 1, (.tmp 24))]⟩,
    ⟨(some 26), none, false, .app (.tmp 12) (.tmp 25) 1 1⟩,
    ⟨(some 4), none, false, .mov (.tmp 26)⟩])) (.ops [
    ⟨(some 10), none, false, .mov (.tmp 5)⟩,
    ⟨(some 11), none, false, .bin .add (.tmp 10) (.const (.int .i64 1))⟩,
    ⟨(some 5), none, false, .mov (.tmp 11)⟩])))))) (.seq (.ops [
    ⟨(some 27), none, false, .mov (.tmp 4)⟩,
    ⟨(some 28), none, false, .b2s (.tmp 27)⟩,
    ⟨(some 2), none, false, .mov (.tmp 28)⟩]) .ret)))))
theorem fits_chantryref04_Hex : Fits Tryd.prog 1 chantryref04_Hex ic_chantryref04_Hex [.tmp 2] 1 :=
  ⟨Tryd.f39, Tryd.func39, by decide, by kernel_rfl, by kernel_rfl⟩

/-- chantry/chantryref14.Digits -/
noncomputable def ic_chantryref14_Digits : IC :=
  (.seq (.ops [
    ⟨(some 2), none, false, .mov (.const (.string ⟨#[]⟩))⟩]) (.seq (.seq (.ops [
    ⟨(some 4), none, false, .mov (.tmp 0)⟩,
    ⟨(some 5), none, false, .bin .lss (.tmp 4) (.const (.int .i64 0))⟩]) (.cond (.tmp 5) (.seq (.ops [
    ⟨(some 6), none, false, .mov (.tmp 0)⟩,
    ⟨(some 7), none, false, .un .neg (.tmp 6)⟩,
    ⟨(some 8), none, false, .call chantryref14_Digits [(.tmp 7)]⟩,
    ⟨(some 9), none, false, .bin .add (.const (.string ⟨#[45]⟩)) (.tmp 8)⟩,
    ⟨(some 2), none, false, .mov (.tmp 9)⟩]) .ret) .skip)) (.seq (.ops [
    ⟨(some 3), none, false, .mov (.const (.string ⟨#[]⟩))⟩]) (.seq (.block 0 (.loop (.seq (.seq (.ops [
    ⟨(some 10), none, false, .mov (.tmp 0)⟩,
    ⟨(some 11), none, false, .bin .gtr (.tmp 10) (.const (.int .i64 0))⟩,
    ⟨(some 12), none, false, .mov (.tmp 11)⟩,
    ⟨(some 13), (some (12, false)), false, .mov (.tmp 3)⟩,
    ⟨(some 14), (some (12, false)), false, .bin .eql (.tmp 13) (.const (.string ⟨#[]⟩))⟩,
    ⟨(some 15), none, false, .pick (.tmp 12) (.const (.bool true)) (.tmp 14)⟩]) (.cond (.tmp 15) .skip (.exit 0))) (.block 1 (.seq (.ops [
    ⟨(some 16), none, false, .mov (.tmp 0)⟩,
    ⟨(some 17), none, false, .bin .rem (.tmp 16) (.const (.int .i64 10))⟩,
    ⟨(some 18), none, false, .mov (.tmp 0)⟩,
    ⟨(some 19), none, false, .bin .rem (.tmp 18) (.const (.int .i64 10))⟩,
    ⟨(some 20), none, false, .bin .add (.tmp 19) (.const (.int .i64 1))⟩,
    ⟨(some 21), none, false, .sls (.const (.string ⟨#[48, 49, 50, 51, 52, 53, 54, 55, 56, 57]⟩)) (some (.tmp 17)) (some (.tmp 20))⟩,
    ⟨(some 22), none, false, .mov (.tmp 3)⟩,
    ⟨(some 23), none, false, .bin .add (.tmp 21) (.tmp 22)⟩,
    ⟨(some 3), none, false, .mov (.tmp 23)⟩]) (.ops [
    ⟨(some 24), none, false, .mov (.tmp 0)⟩,
    ⟨(some 25), none, false, .bin .quo (.tmp 24) (.const (.int .i64 10))⟩,
    ⟨(some 0), none, false, .mov (.tmp 25)⟩])))))) (.seq (.ops [
    ⟨(some 26), none, false, .mov (.tmp 3)⟩,
    ⟨(some 2), none, false, .mov (.tmp 26)⟩]) .ret)))))
theorem fits_chantryref14_Digits : Fits Tryd.prog 1 chantryref14_Digits ic_chantryref14_Digits [.tmp 2] 1 :=
  ⟨Tryd.f40, Tryd.func40, by decide, by kernel_rfl, by kernel_rfl⟩

/-- chantry/op.Name$1 -/
noncomputable def ic_op_Name_1 : IC :=
  (.seq (.ops [
    ⟨(some 2), none, false, .mov (.const (.bool false))⟩]) (.seq (.ops [
    ⟨(some 3), none, false, .mov (.tmp 0)⟩,
    ⟨(some 4), none, false, .bin .geq (.tmp 3) (.const (.int .i32 97))⟩,
    ⟨(some 5), none, false, .mov (.tmp 4)⟩,
    ⟨(some 6), (some (5, true)), false, .mov (.tmp 0)⟩,
    ⟨(some 7), (some (5, true)), false, .bin .leq (.tmp 6) (.const (.int .i32 122))⟩,
    ⟨(some 8), none, false, .pick (.tmp 5) (.tmp 7) (.const (.bool false))⟩,
    ⟨(some 9), none, false, .mov (.tmp 8)⟩,
    ⟨(some 10), (some (9, false)), false, .mov (.tmp 0)⟩,
    ⟨(some 11), (some (9, false)), false, .bin .geq (.tmp 10) (.const (.int .i32 48))⟩,
    ⟨(some 12), (some (9, false)), false, .mov (.tmp 11)⟩,
    ⟨(some 13), (some (12, true)), false, .mov (.tmp 0)⟩,
    ⟨(some 14), (some (12, true)), false, .bin .leq (.tmp 13) (.const (.int .i32 57))⟩,
    ⟨(some 15), (some (9, false)), false, .pick (.tmp 12) (.tmp 14) (.const (.bool false))⟩,
    ⟨(some 16), none, false, .pick (.tmp 9) (.const (.bool true)) (.tmp 15)⟩,
    ⟨(some 17), none, false, .mov (.tmp 16)⟩,
    ⟨(some 18), (some (17, false)), false, .mov (.tmp 0)⟩,
    ⟨(some 19), (some (17, false)), false, .bin .eql (.tmp 18) (.const (.int .i32 45))⟩,
    ⟨(some 20), none, false, .pick (.tmp 17) (.const (.bool true)) (.tmp 19)⟩,
    ⟨(some 21), none, false, .un .not (.tmp 20)⟩,
    ⟨(some 2), none, false, .mov (.tmp 21)⟩]) .ret))
theorem fits_op_Name_1 : Fits Tryd.prog 1 op_Name_1 ic_op_Name_1 [.tmp 2] 1 :=
  ⟨Tryd.f48, Tryd.func48, by decide, by kernel_rfl, by kernel_rfl⟩

/-- chantry/num.Put -/
noncomputable def ic_num_Put : IC :=
  (.seq (.ops [
    ⟨(some 2), none, false, .mov (.const (.slice none 0 0))⟩,
    ⟨(some 3), none, false, .mov (.const (.int .i64 0))⟩]) (.seq (.seq (.ops [
    ⟨(some 5), none, false, .mov (.tmp 0)⟩,
    ⟨(some 6), none, false, .call num_is [(.tmp 5)]⟩,
    ⟨(some 7), none, false, .un .not (.tmp 6)⟩]) (.cond (.tmp 7) (.seq (.ops [
    ⟨(some 2), none, false, .mov (.const (.slice none 0 0))⟩,
    ⟨(some 3), none, false, .mov (.const (.int .i64 1))⟩]) .ret) .skip)) (.seq (.ops [
    ⟨(some 4), none, false, .mov (.const (.slice none 0 0))⟩]) (.seq (.block 0 (.loop (.seq (.seq (.ops [
    ⟨(some 8), none, false, .mov (.tmp 0)⟩,
    ⟨(some 9), none, false, .bin .geq (.tmp 8) (.const (.int .i64 128))⟩]) (.cond (.tmp 9) .skip (.exit 0))) (.seq (.block 1 (.ops [
    ⟨(some 12), none, false, .mov (.tmp 4)⟩,
    ⟨(some 13), none, false, .mov (.tmp 0)⟩,
    ⟨(some 14), none, false, .conv .u8 (.tmp 13)⟩,
    ⟨(some 15), none, false, .bin .or (.tmp 14) (.const (.int .u8 128))⟩,
    ⟨(some 16), none, false, .lit [.int .u8 0] 1 1 [(0, 1, (.tmp 15))]⟩,
    ⟨(some 17), none, false, .app (.tmp 12) (.tmp 16) 1 1⟩,
    ⟨(some 4), none, false, .mov (.tmp 17)⟩])) (.ops [
    ⟨(some 10), none, false, .mov (.tmp 0)⟩,
    ⟨(some 11), none, false, .bin .shr (.tmp 10) (.const (.int .u64 7))⟩,
    ⟨(some 0), none, false, .mov (.tmp 11)⟩]))))) (.seq (.ops [
    ⟨(some 18), none, false, .mov (.tmp 4)⟩,
    ⟨(some 19), none, false, .mov (.tmp 0)⟩,
    ⟨(some 20), none, false, .conv .u8 (.tmp 19)⟩,
    ⟨(some 21), none, false, .lit [.int .u8 0] 1 1 [(0, 1, (.tmp 20))]⟩,
    ⟨(some 22), none, false, .app (.tmp 18) (.tmp 21) 1 1⟩,
    ⟨(some 2), none, false, .mov (.tmp 22)⟩,
    ⟨(some 3), none, false, .mov (.const (.int .i64 0))⟩]) .ret)))))
theorem fits_num_Put : Fits Tryd.prog 1 num_Put ic_num_Put [.tmp 2, .tmp 3] 1 :=
  ⟨Tryd.f49, Tryd.func49, by decide, by kernel_rfl, by kernel_rfl⟩

/-- slices.Concat[[]byte,byte] -/
noncomputable def ic_slices_Concat_byte_byte : IC :=
  (.seq (.ops [
    ⟨(some 2), none, false, .mov (.const (.slice none 0 0))⟩]) (.seq (.ops [
    ⟨(some 3), none, false, .mov (.const (.int .i64 0))⟩]) (.seq (.seq (.ops [
    ⟨(some 9), none, false, .mov (.tmp 0)⟩,
    ⟨(some 10), none, false, .lens false (.tmp 9)⟩,
    ⟨(some 11), none, false, .mov (.const (.int .i64 0))⟩]) (.block 0 (.loop (.seq (.ops [
    ⟨(some 12), none, false, .bin .lss (.tmp 11) (.tmp 10)⟩]) (.seq (.cond (.tmp 12) .skip (.exit 0)) (.seq (.block 1 (.seq (.ops [
    ⟨(some 13), none, false, .iaddr (.tmp 9) (.tmp 11) 1⟩,
    ⟨(some 14), none, false, .load1 (.tmp 13)⟩,
    ⟨(some 5), none, false, .mov (.tmp 14)⟩]) (.seq (.ops [
    ⟨(some 15), none, false, .mov (.tmp 3)⟩,
    ⟨(some 16), none, false, .mov (.tmp 5)⟩,
    ⟨(some 17), none, false, .lens false (.tmp 16)⟩,
    ⟨(some 18), none, false, .bin .add (.tmp 15) (.tmp 17)⟩,
    ⟨(some 3), none, false, .mov (.tmp 18)⟩]) (.seq (.ops [
    ⟨(some 19), none, false, .mov (.tmp 3)⟩,
    ⟨(some 20), none, false, .bin .lss (.tmp 19) (.const (.int .i64 0))⟩]) (.cond (.tmp 20) (.ops [
    ⟨(some 21), none, false, .ifc 9 (.const (.string ⟨#[108, 101, 110, 32, 111, 117, 116, 32, 111, 102, 32, 114, 97, 110, 103, 101]⟩))⟩,
    ⟨none, none, false, .fail⟩]) .skip))))) (.ops [
    ⟨(some 22), none, false, .bin .add (.tmp 11) (.const (.int .i64 1))⟩,
    ⟨(some 11), none, false, .mov (.tmp 22)⟩]))))))) (.seq (.ops [
    ⟨(some 23), none, false, .mov (.tmp 3)⟩,
    ⟨(some 24), none, false, .call slices_Grow_byte_byte [(.const (.slice none 0 0)), (.tmp 23)]⟩,
    ⟨(some 6), none, false, .mov (.tmp 24)⟩]) (.seq (.seq (.ops [
    ⟨(some 25), none, false, .mov (.tmp 0)⟩,
    ⟨(some 26), none, false, .lens false (.tmp 25)⟩,
    ⟨(some 27), none, false, .mov (.const (.int .i64 0))⟩]) (.block 2 (.loop (.seq (.ops [
    ⟨(some 28), none, false, .bin .lss (.tmp 27) (.tmp 26)⟩]) (.seq (.cond (.tmp 28) .skip (.exit 2)) (.seq (.block 3 (.seq (.ops [
    ⟨(some 29), none, false, .iaddr (.tmp 25) (.tmp 27) 1⟩,
    ⟨(some 30), none, false, .load1 (.tmp 29)⟩,
    ⟨(some 8), none, false, .mov (.tmp 30)⟩]) (.ops [
    ⟨(some 31), none, false, .mov (.tmp 6)⟩,
    ⟨(some 32), none, false, .mov (.tmp 8)⟩,
    ⟨(some 33), none, false, .app (.tmp 31) (.tmp 32) 1 1⟩,
    ⟨(some 6), none, false, .mov (.tmp 33)⟩]))) (.ops [
    ⟨(some 34), none, false, .bin .add (.tmp 27) (.const (.int .i64 1))⟩,
    ⟨(some 27), none, false, .mov (.tmp 34)⟩]))))))) (.seq (.ops [
    ⟨(some 35), none, false, .mov (.tmp 6)⟩,
    ⟨(some 2), none, false, .mov (.tmp 35)⟩]) .ret))))))
theorem fits_slices_Concat_byte_byte : Fits Tryd.prog 1 slices_Concat_byte_byte ic_slices_Concat_byte_byte [.tmp 2] 1 :=
  ⟨Tryd.f50, Tryd.func50, by decide, by kernel_rfl, by kernel_rfl⟩

/-- chantry/num.is -/
noncomputable def ic_num_is : IC :=
  (.seq (.ops [
    ⟨(some 2), none, false, .mov (.const (.bool false))⟩]) (.seq (.ops [
    ⟨(some 3), none, false, .mov (.tmp 0)⟩,
    ⟨(some 4), none, false, .bin .geq (.tmp 3) (.const (.int .i64 0))⟩,
    ⟨(some 5), none, false, .mov (.tmp 4)⟩,
    ⟨(some 6), (some (5, true)), false, .mov (.tmp 0)⟩,
    ⟨(some 7), (some (5, true)), false, .bin .leq (.tmp 6) (.const (.int .i64 2147483647))⟩,
    ⟨(some 8), none, false, .pick (.tmp 5) (.tmp 7) (.const (.bool false))⟩,
    ⟨(some 2), none, false, .mov (.tmp 8)⟩]) .ret))
theorem fits_num_is : Fits Tryd.prog 1 num_is ic_num_is [.tmp 2] 1 :=
  ⟨Tryd.f51, Tryd.func51, by decide, by kernel_rfl, by kernel_rfl⟩

/-- chantry/chantryref01.Put -/
noncomputable def ic_chantryref01_Put : IC :=
  (.seq (.ops [
    ⟨(some 2), none, false, .mov (.const (.slice none 0 0))⟩,
    ⟨(some 3), none, false, .mov (.const (.int .i64 0))⟩]) (.seq (.seq (.ops [
    ⟨(some 5), none, false, .mov (.tmp 0)⟩,
    ⟨(some 6), none, false, .bin .lss (.tmp 5) (.const (.int .i64 0))⟩,
    ⟨(some 7), none, false, .mov (.tmp 6)⟩,
    ⟨(some 8), (some (7, false)), false, .mov (.tmp 0)⟩,
    ⟨(some 9), (some (7, false)), false, .bin .gtr (.tmp 8) (.const (.int .i64 2147483647))⟩,
    ⟨(some 10), none, false, .pick (.tmp 7) (.const (.bool true)) (.tmp 9)⟩]) (.cond (.tmp 10) (.seq (.ops [
    ⟨(some 2), none, false, .mov (.const (.slice none 0 0))⟩,
    ⟨(some 3), none, false, .mov (.const (.int .i64 1))⟩]) .ret) .skip)) (.seq (.ops [
    ⟨(some 4), none, false, .mov (.const (.slice none 0 0))⟩]) (.seq (.block 0 (.loop (.seq (.seq (.ops [
    ⟨(some 11), none, false, .mov (.tmp 0)⟩,
    ⟨(some 12), none, false, .bin .geq (.tmp 11) (.const (.int .i64 128))⟩]) (.cond (.tmp 12) .skip (.exit 0))) (.block 1 (.seq (.ops [
    ⟨(some 13), none, false, .mov (.tmp 4)⟩,
    ⟨(some 14), none, false, .mov (.tmp 0)⟩,
    ⟨(some 15), none, false, .bin .rem (.tmp 14) (.const (.int .i64 128))⟩,
    ⟨(some 16), none, false, .bin .add (.tmp 15) (.const (.int .i64 128))⟩,
    ⟨(some 17), none, false, .conv .u8 (.tmp 16)⟩,
    ⟨(some 18), none, false, .lit [.int .u8 0] 1 1 [(0, 1, (.tmp 17))]⟩,
    ⟨(some 19), none, false, .app (.tmp 13) (.tmp 18) 1 1⟩,
    ⟨(some 4), none, false, .mov (.tmp 19)⟩]) (.ops [
    ⟨(some 20), none, false, .mov (.tmp 0)⟩,
    ⟨(some 21), none, false, .bin .quo (.tmp 20) (.const (.int .i64 128))⟩,
    ⟨(some 0), none, false, .mov (.tmp 21)⟩])))))) (.seq (.ops [
    ⟨(some 22), none, false, .mov (.tmp 4)⟩,
    ⟨(some 23), none, false, .mov (.tmp 0)⟩,
    ⟨(some 24), none, false, .conv .u8 (.tmp 23)⟩,
    ⟨(some 25), none, false, .lit [.int .u8 0] 1 1 [(0, 1, (.tmp 24))]⟩,
    ⟨(some 26), none, false, .app (.tmp 22) (.tmp 25) 1 1⟩,
    ⟨(some 2), none, false, .mov (.tmp 26)⟩,
    ⟨(some 3), none, false, .mov (.const (.int .i64 0))⟩]) .ret)))))
theorem fits_chantryref01_Put : Fits Tryd.prog 1 chantryref01_Put ic_chantryref01_Put [.tmp 2, .tmp 3] 1 :=
  ⟨Tryd.f52, Tryd.func52, by decide, by kernel_rfl, by kernel_rfl⟩

/-- slices.Clone[[]byte,byte] -/
noncomputable def ic_slices_Clone_byte_byte : IC :=
  (.seq (.ops [
    ⟨(some 2), none, false, .mov (.const (.slice none 0 0))⟩]) (.seq (.seq (.ops [
    ⟨(some 3), none, false, .mov (.tmp 0)⟩,
    ⟨(some 4), none, false, .isnil (.slice 5) (.tmp 3) false⟩]) (.cond (.tmp 4) (.seq (.ops [
    ⟨(some 2), none, false, .mov (.const (.slice none 0 0))⟩]) .ret) .skip)) (.seq (.ops [
    ⟨(some 5), none, false, .lit [.int .u8 0] 1 0 []⟩,
    ⟨(some 6), none, false, .mov (.tmp 0)⟩,
    ⟨(some 7), none, false, .app (.tmp 5) (.tmp 6) 1 1⟩,
    ⟨(some 2), none, false, .mov (.tmp 7)⟩]) .ret)))
theorem fits_slices_Clone_byte_byte : Fits Tryd.prog 1 slices_Clone_byte_byte ic_slices_Clone_byte_byte [.tmp 2] 1 :=
  ⟨Tryd.f53, Tryd.func53, by decide, by kernel_rfl, by kernel_rfl⟩

/-- (*chantry/num.Cursor).Take -/
noncomputable def ic_num_Cursor_Take : IC :=
  (.seq (.ops [
    ⟨(some 4), none, false, .mov (.const (.slice none 0 0))⟩]) (.seq (.seq (.ops [
    ⟨(some 6), none, false, .mov (.tmp 0)⟩,
    ⟨(some 7), none, false, .call num_Cursor_Bad [(.tmp 6)]⟩,
    ⟨(some 8), none, false, .mov (.tmp 7)⟩,
    ⟨(some 9), (some (8, false)), false, .mov (.tmp 1)⟩,
    ⟨(some 10), (some (8, false)), false, .bin .lss (.tmp 9) (.const (.int .i64 0))⟩,
    ⟨(some 11), none, false, .pick (.tmp 8) (.const (.bool true)) (.tmp 10)⟩,
    ⟨(some 12), none, false, .mov (.tmp 11)⟩,
    ⟨(some 13), (some (12, false)), false, .mov (.tmp 1)⟩,
    ⟨(some 14), (some (12, false)), false, .mov (.tmp 0)⟩,
    ⟨(some 15), (some (12, false)), false, .nilc (.tmp 14)⟩,
    ⟨(some 16), (some (12, false)), false, .faddr (.tmp 15) 0⟩,
    ⟨(some 17), (some (12, false)), false, .load1 (.tmp 16)⟩,
    ⟨(some 18), (some (12, false)), false, .lens false (.tmp 17)⟩,
    ⟨(some 19), (some (12, false)), false, .bin .gtr (.tmp 13) (.tmp 18)⟩,
    ⟨(some 20), none, false, .pick (.tmp 12) (.const (.bool true)) (.tmp 19)⟩]) (.cond (.tmp 20) (.seq (.ops [
    ⟨(some 21), none, false, .mov (.tmp 0)⟩,
    ⟨(some 22), none, false, .call num_Cursor_fail [(.tmp 21)]⟩]) (.seq (.ops [
    ⟨(some 4), none, false, .mov (.const (.slice none 0 0))⟩]) .ret)) .skip)) (.seq (.ops [
    ⟨(some 23), none, false, .mov (.tmp 1)⟩,
    ⟨(some 24), none, false, .mk [.int .u8 0] 1 (.tmp 23) (.tmp 23)⟩,
    ⟨(some 5), none, false, .mov (.tmp 24)⟩]) (.seq (.ops [
    ⟨(some 25), none, false, .mov (.tmp 5)⟩,
    ⟨(some 26), none, false, .mov (.tmp 0)⟩,
    ⟨(some 27), none, false, .nilc (.tmp 26)⟩,
    ⟨(some 28), none, false, .faddr (.tmp 27) 0⟩,
    ⟨(some 29), none, false, .load1 (.tmp 28)⟩,
    ⟨(some 30), none, false, .copy (.tmp 25) (.tmp 29) 1⟩]) (.seq (.ops [
    ⟨(some 31), none, false, .mov (.tmp 0)⟩,
    ⟨(some 32), none, false, .mov (.tmp 0)⟩,
    ⟨(some 33), none, false, .nilc (.tmp 32)⟩,
    ⟨(some 34), none, false, .faddr (.tmp 33) 0⟩,
    ⟨(some 35), none, false, .load1 (.tmp 34)⟩,
    ⟨(some 36), none, false, .mov (.tmp 1)⟩,
    ⟨(some 37), none, false, .sll (.tmp 35) (some (.tmp 36)) none none 1⟩,
    ⟨(some 38), none, false, .nilc (.tmp 31)⟩,
    ⟨(some 39), none, false, .faddr (.tmp 38) 0⟩,
    ⟨none, none, false, .store (.tmp 39) (.tmp 37) 1⟩]) (.seq (.ops [
    ⟨(some 40), none, false, .mov (.tmp 5)⟩,
    ⟨(some 4), none, false, .mov (.tmp 40)⟩]) .ret))))))
theorem fits_num_Cursor_Take : Fits Tryd.prog 1 num_Cursor_Take ic_num_Cursor_Take [.tmp 4] 2 :=
  ⟨Tryd.f54, Tryd.func54, by decide, by kernel_rfl, by kernel_rfl⟩

/-- (*chantry/num.Cursor).Num -/
noncomputable def ic_num_Cursor_Num : IC :=
  (.seq (.ops [
    ⟨(some 2), none, false, .mov (.const (.int .i64 0))⟩]) (.seq (.seq (.ops [
    ⟨(some 6), none, false, .mov (.tmp 0)⟩,
    ⟨(some 7), none, false, .call num_Cursor_Bad [(.tmp 6)]⟩]) (.cond (.tmp 7) (.seq (.ops [
    ⟨(some 2), none, false, .mov (.const (.int .i64 0))⟩]) .ret) .skip)) (.seq (.ops [
    ⟨(some 9), none, false, .mov (.tmp 0)⟩,
    ⟨(some 10), none, false, .nilc (.tmp 9)⟩,
    ⟨(some 11), none, false, .faddr (.tmp 10) 0⟩,
    ⟨(some 12), none, false, .load1 (.tmp 11)⟩,
    ⟨(some 13), none, false, .call num_Get [(.tmp 12)]⟩,
    ⟨(some 8), none, false, .mov (.tmp 13)⟩,
    ⟨(some 14), none, false, .ext (.tmp 8) 0⟩,
    ⟨(some 15), none, false, .ext (.tmp 8) 1⟩,
    ⟨(some 16), none, false, .ext (.tmp 8) 2⟩,
    ⟨(some 3), none, false, .mov (.tmp 14)⟩,
    ⟨(some 4), none, false, .mov (.tmp 15)⟩,
    ⟨(some 5), none, false, .mov (.tmp 16)⟩]) (.seq (.seq (.ops [
    ⟨(some 17), none, false, .mov (.tmp 5)⟩,
    ⟨(some 18), none, false, .bin .neq (.tmp 17) (.const (.int .i64 0))⟩]) (.cond (.tmp 18) (.seq (.ops [
    ⟨(some 19), none, false, .mov (.tmp 0)⟩,
    ⟨(some 20), none, false, .call num_Cursor_fail [(.tmp 19)]⟩]) (.seq (.ops [
    ⟨(some 2), none, false, .mov (.const (.int .i64 0))⟩]) .ret)) .skip)) (.seq (.ops [
    ⟨(some 21), none, false, .mov (.tmp 0)⟩,
    ⟨(some 22), none, false, .mov (.tmp 0)⟩,
    ⟨(some 23), none, false, .nilc (.tmp 22)⟩,
    ⟨(some 24), none, false, .faddr (.tmp 23) 0⟩,
    ⟨(some 25), none, false, .load1 (.tmp 24)⟩,
    ⟨(some 26), none, false, .mov (.tmp 4)⟩,
    ⟨(some 27), none, false, .sll (.tmp 25) (some (.tmp 26)) none none 1⟩,
    ⟨(some 28), none, false, .nilc (.tmp 21)⟩,
    ⟨(some 29), none, false, .faddr (.tmp 28) 0⟩,
    ⟨none, none, false, .store (.tmp 29) (.tmp 27) 1⟩]) (.seq (.ops [
    ⟨(some 30), none, false, .mov (.tmp 3)⟩,
    ⟨(some 2), none, false, .mov (.tmp 30)⟩]) .ret))))))
theorem fits_num_Cursor_Num : Fits Tryd.prog 1 num_Cursor_Num ic_num_Cursor_Num [.tmp 2] 1 :=
  ⟨Tryd.f55, Tryd.func55, by decide, by kernel_rfl, by kernel_rfl⟩

/-- chantry/num.Unfix -/
noncomputable def ic_num_Unfix : IC :=
  (.seq (.ops [
    ⟨(some 2), none, false, .mov (.const (.int .i64 0))⟩,
    ⟨(some 3), none, false, .mov (.const (.int .i64 0))⟩]) (.seq (.seq (.ops [
    ⟨(some 7), none, false, .mov (.tmp 0)⟩,
    ⟨(some 8), none, false, .lens false (.tmp 7)⟩,
    ⟨(some 9), none, false, .bin .lss (.tmp 8) (.const (.int .i64 1))⟩,
    ⟨(some 10), none, false, .mov (.tmp 9)⟩,
    ⟨(some 11), (some (10, false)), false, .mov (.tmp 0)⟩,
    ⟨(some 12), (some (10, false)), false, .lens false (.tmp 11)⟩,
    ⟨(some 13), (some (10, false)), false, .bin .gtr (.tmp 12) (.const (.int .i64 4))⟩,
    ⟨(some 14), none, false, .pick (.tmp 10) (.const (.bool true)) (.tmp 13)⟩]) (.cond (.tmp 14) (.seq (.ops [
    ⟨(some 2), none, false, .mov (.const (.int .i64 0))⟩,
    ⟨(some 3), none, false, .mov (.const (.int .i64 1))⟩]) .ret) .skip)) (.seq (.ops [
    ⟨(some 4), none, false, .mov (.const (.int .i64 0))⟩]) (.seq (.seq (.ops [
    ⟨(some 15), none, false, .mov (.tmp 0)⟩,
    ⟨(some 16), none, false, .lens false (.tmp 15)⟩,
    ⟨(some 17), none, false, .mov (.const (.int .i64 0))⟩]) (.block 0 (.loop (.seq (.ops [
    ⟨(some 18), none, false, .bin .lss (.tmp 17) (.tmp 16)⟩]) (.seq (.cond (.tmp 18) .skip (.exit 0)) (.seq (.block 1 (.seq (.ops [
    ⟨(some 19), none, false, .mov (.tmp 17)⟩,
    ⟨(some 20), none, false, .iaddr (.tmp 15) (.tmp 17) 1⟩,
    ⟨(some 21), none, false, .load1 (.tmp 20)⟩,
    ⟨(some 5), none, false, .mov (.tmp 19)⟩,
    ⟨(some 6), none, false, .mov (.tmp 21)⟩]) (.ops [
    ⟨(some 22), none, false, .mov (.tmp 4)⟩,
    ⟨(some 23), none, false, .mov (.tmp 6)⟩,
    ⟨(some 24), none, false, .conv .i64 (.tmp 23)⟩,
    ⟨(some 25), none, false, .mov (.tmp 5)⟩,
    ⟨(some 26), none, false, .bin .mul (.const (.int .i64 8)) (.tmp 25)⟩,
    ⟨(some 27), none, false, .bin .shl (.tmp 24) (.tmp 26)⟩,
    ⟨(some 28), none, false, .bin .or (.tmp 22) (.tmp 27)⟩,
    ⟨(some 4), none, false, .mov (.tmp 28)⟩]))) (.ops [
    ⟨(some 29), none, false, .bin .add (.tmp 17) (.const (.int .i64 1))⟩,
    ⟨(some 17), none, false, .mov (.tmp 29)⟩]))))))) (.seq (.seq (.ops [
    ⟨(some 30), none, false, .mov (.tmp 4)⟩,
    ⟨(some 31), none, false, .call num_is [(.tmp 30)]⟩,
    ⟨(some 32), none, false, .un .not (.tmp 31)⟩]) (.cond (.tmp 32) (.seq (.ops [
    ⟨(some 2), none, false, .mov (.const (.int .i64 0))⟩,
    ⟨(some 3), none, false, .mov (.const (.int .i64 5))⟩]) .ret) .skip)) (.seq (.ops [
    ⟨(some 33), none, false, .mov (.tmp 4)⟩,
    ⟨(some 2), none, false, .mov (.tmp 33)⟩,
    ⟨(some 3), none, false, .mov (.const (.int .i64 0))⟩]) .ret))))))
theorem fits_num_Unfix : Fits Tryd.prog 1 num_Unfix ic_num_Unfix [.tmp 2, .tmp 3] 1 :=
  ⟨Tryd.f56, Tryd.func56, by decide, by kernel_rfl, by kernel_rfl⟩

-- NOT SERVED 63 strings.indexFunc: operation Op.range

/-- slices.Grow[[]byte,byte] -/
noncomputable def ic_slices_Grow_byte_byte : IC :=
  (.seq (.ops [
    ⟨(some 4), none, false, .mov (.const (.slice none 0 0))⟩]) (.seq (.seq (.ops [
    ⟨(some 5), none, false, .mov (.tmp 1)⟩,
    ⟨(some 6), none, false, .bin .lss (.tmp 5) (.const (.int .i64 0))⟩]) (.cond (.tmp 6) (.ops [
    ⟨(some 7), none, false, .ifc 9 (.const (.string ⟨#[99, 97, 110, 110, 111, 116, 32, 98, 101, 32, 110, 101, 103, 97, 116, 105, 118, 101]⟩))⟩,
    ⟨none, none, false, .fail⟩]) .skip)) (.seq (.seq (.ops [
    ⟨(some 8), none, false, .mov (.tmp 1)⟩,
    ⟨(some 9), none, false, .mov (.tmp 0)⟩,
    ⟨(some 10), none, false, .capn (.tmp 9)⟩,
    ⟨(some 11), none, false, .mov (.tmp 0)⟩,
    ⟨(some 12), none, false, .lens false (.tmp 11)⟩,
    ⟨(some 13), none, false, .bin .sub (.tmp 10) (.tmp 12)⟩,
    ⟨(some 14), none, false, .bin .sub (.tmp 8) (.tmp 13)⟩,
    ⟨(some 1), none, false, .mov (.tmp 14)⟩]) (.seq (.ops [
    ⟨(some 15), none, false, .mov (.tmp 1)⟩,
    ⟨(some 16), none, false, .bin .gtr (.tmp 15) (.const (.int .i64 0))⟩]) (.cond (.tmp 16) (.ops [
    ⟨(some 17), none, false, .mov (.tmp 0)⟩,
    ⟨(some 18), none, false, .mov (.tmp 0)⟩,
    ⟨(some 19), none, false, .capn (.tmp 18)⟩,
    ⟨(some 20), none, false, .sll (.tmp 17) none (some (.tmp 19)) none 1⟩,
    ⟨(some 21), none, false, .mov (.tmp 1)⟩,
    ⟨(some 22), none, false, .appz (.tmp 20) (.tmp 21) [.int .u8 0] 1⟩,
    ⟨(some 23), none, false, .mov (.tmp 0)⟩,
    ⟨(some 24), none, false, .lens false (.tmp 23)⟩,
    ⟨(some 25), none, false, .sll (.tmp 22) none (some (.tmp 24)) none 1⟩,
    ⟨(some 0), none, false, .mov (.tmp 25)⟩]) .skip))) (.seq (.ops [
    ⟨(some 26), none, false, .mov (.tmp 0)⟩,
    ⟨(some 4), none, false, .mov (.tmp 26)⟩]) .ret))))
theorem fits_slices_Grow_byte_byte : Fits Tryd.prog 1 slices_Grow_byte_byte ic_slices_Grow_byte_byte [.tmp 4] 2 :=
  ⟨Tryd.f64, Tryd.func64, by decide, by kernel_rfl, by kernel_rfl⟩

/-- (*chantry/num.Cursor).fail -/
noncomputable def ic_num_Cursor_fail : IC :=
  (.seq (.ops [
    ⟨(some 2), none, false, .mov (.tmp 0)⟩,
    ⟨(some 3), none, false, .isnil (.pointer 77) (.tmp 2) true⟩]) (.cond (.tmp 3) (.ops [
    ⟨(some 4), none, false, .mov (.tmp 0)⟩,
    ⟨(some 5), none, false, .mov (.tmp 0)⟩,
    ⟨(some 6), none, false, .nilc (.tmp 4)⟩,
    ⟨(some 7), none, false, .faddr (.tmp 6) 0⟩,
    ⟨none, none, false, .store (.tmp 7) (.const (.slice none 0 0)) 1⟩,
    ⟨(some 8), none, false, .nilc (.tmp 5)⟩,
    ⟨(some 9), none, false, .faddr (.tmp 8) 1⟩,
    ⟨none, none, false, .store (.tmp 9) (.const (.bool true)) 1⟩]) .skip))
theorem fits_num_Cursor_fail : Fits Tryd.prog 1 num_Cursor_fail ic_num_Cursor_fail [] 1 :=
  ⟨Tryd.f65, Tryd.func65, by decide, by kernel_rfl, by kernel_rfl⟩

/-- chantry/num.Get -/
noncomputable def ic_num_Get : IC :=
  (.seq (.ops [
    ⟨(some 2), none, false, .mov (.const (.int .i64 0))⟩,
    ⟨(some 3), none, false, .mov (.const (.int .i64 0))⟩,
    ⟨(some 4), none, false, .mov (.const (.int .i64 0))⟩]) (.seq (.ops [
    ⟨(some 5), none, false, .mov (.const (.int .i64 0))⟩]) (.seq (.seq (.ops [
    ⟨(some 8), none, false, .mov (.tmp 0)⟩,
    ⟨(some 9), none, false, .mov (.tmp 0)⟩,
    ⟨(some 10), none, false, .lens false (.tmp 9)⟩,
    ⟨(some 11), none, false, .mn (.tmp 10) (.const (.int .i64 5))⟩,
    ⟨(some 12), none, false, .sll (.tmp 8) none (some (.tmp 11)) none 1⟩,
    ⟨(some 13), none, false, .lens false (.tmp 12)⟩,
    ⟨(some 14), none, false, .mov (.const (.int .i64 0))⟩]) (.block 0 (.loop (.seq (.ops [
    ⟨(some 15), none, false, .bin .lss (.tmp 14) (.tmp 13)⟩]) (.seq (.cond (.tmp 15) .skip (.exit 0)) (.seq (.block 1 (.seq (.ops [
    ⟨(some 16), none, false, .mov (.tmp 14)⟩,
    ⟨(some 17), none, false, .iaddr (.tmp 12) (.tmp 14) 1⟩,
    ⟨(some 18), none, false, .load1 (.tmp 17)⟩,
    ⟨(some 6), none, false, .mov (.tmp 16)⟩,
    ⟨(some 7), none, false, .mov (.tmp 18)⟩]) (.seq (.ops [
    ⟨(some 19), none, false, .mov (.tmp 5)⟩,
    ⟨(some 20), none, false, .mov (.tmp 7)⟩,
    ⟨(some 21), none, false, .bin .and (.tmp 20) (.const (.int .u8 127))⟩,
    ⟨(some 22), none, false, .conv .i64 (.tmp 21)⟩,
    ⟨(some 23), none, false, .mov (.tmp 6)⟩,
    ⟨(some 24), none, false, .bin .mul (.const (.int .i64 7)) (.tmp 23)⟩,
    ⟨(some 25), none, false, .bin .shl (.tmp 22) (.tmp 24)⟩,
    ⟨(some 26), none, false, .bin .or (.tmp 19) (.tmp 25)⟩,
    ⟨(some 5), none, false, .mov (.tmp 26)⟩]) (.seq (.block 2 (.seq (.ops [
    ⟨(some 28), none, false, .mov (.tmp 7)⟩,
    ⟨(some 29), none, false, .bin .geq (.tmp 28) (.const (.int .u8 128))⟩,
    ⟨(some 27), none, false, .mov (.tmp 29)⟩]) (.cond (.tmp 27) (.exit 1) (.seq (.ops [
    ⟨(some 31), none, false, .mov (.tmp 5)⟩,
    ⟨(some 32), none, false, .call num_is [(.tmp 31)]⟩,
    ⟨(some 33), none, false, .un .not (.tmp 32)⟩,
    ⟨(some 34), none, false, .mov (.tmp 33)⟩,
    ⟨(some 35), (some (34, false)), false, .mov (.tmp 6)⟩,
    ⟨(some 36), (some (34, false)), false, .bin .gtr (.tmp 35) (.const (.int .i64 0))⟩,
    ⟨(some 37), (some (34, false)), false, .mov (.tmp 36)⟩,
    ⟨(some 38), (some (37, true)), false, .mov (.tmp 7)⟩,
    ⟨(some 39), (some (37, true)), false, .bin .eql (.tmp 38) (.const (.int .u8 0))⟩,
    ⟨(some 40), (some (34, false)), false, .pick (.tmp 37) (.tmp 39) (.const (.bool false))⟩,
    ⟨(some 41), none, false, .pick (.tmp 34) (.const (.bool true)) (.tmp 40)⟩,
    ⟨(some 30), none, false, .mov (.tmp 41)⟩]) (.cond (.tmp 30) (.seq (.ops [
    ⟨(some 2), none, false, .mov (.const (.int .i64 0))⟩,
    ⟨(some 3), none, false, .mov (.const (.int .i64 0))⟩,
    ⟨(some 4), none, false, .mov (.const (.int .i64 5))⟩]) .ret) .skip))))) (.seq (.ops [
    ⟨(some 42), none, false, .mov (.tmp 5)⟩,
    ⟨(some 43), none, false, .mov (.tmp 6)⟩,
    ⟨(some 44), none, false, .bin .add (.tmp 43) (.const (.int .i64 1))⟩,
    ⟨(some 2), none, false, .mov (.tmp 42)⟩,
    ⟨(some 3), none, false, .mov (.tmp 44)⟩,
    ⟨(some 4), none, false, .mov (.const (.int .i64 0))⟩]) .ret))))) (.ops [
    ⟨(some 45), none, false, .bin .add (.tmp 14) (.const (.int .i64 1))⟩,
    ⟨(some 14), none, false, .mov (.tmp 45)⟩]))))))) (.seq (.ops [
    ⟨(some 2), none, false, .mov (.const (.int .i64 0))⟩,
    ⟨(some 3), none, false, .mov (.const (.int .i64 0))⟩,
    ⟨(some 4), none, false, .mov (.const (.int .i64 5))⟩]) .ret))))
theorem fits_num_Get : Fits Tryd.prog 1 num_Get ic_num_Get [.tmp 2, .tmp 3, .tmp 4] 1 :=
  ⟨Tryd.f66, Tryd.func66, by decide, by kernel_rfl, by kernel_rfl⟩

-- NOT SERVED 75 internal/abi.NoEscape: no body

-- NOT SERVED 76 internal/bytealg.MakeNoZero: no body

-- NOT SERVED 84 (runtime.boundsError).Error: no body

-- NOT SERVED 85 (runtime.boundsError).RuntimeError: no body

-- NOT SERVED 86 (runtime.errorString).Error: no body

-- NOT SERVED 87 (runtime.errorString).RuntimeError: no body

-- NOT SERVED 88 (runtime.plainError).Error: no body

-- NOT SERVED 89 (runtime.plainError).RuntimeError: no body

-- NOT SERVED 90 (runtime.errorAddressString).Error: no body

-- NOT SERVED 91 (runtime.errorAddressString).RuntimeError: no body

-- NOT SERVED 92 (*runtime.TypeAssertionError).Error: no body

-- NOT SERVED 93 (*runtime.TypeAssertionError).RuntimeError: no body

-- NOT SERVED 94 (*runtime.PanicNilError).Error: no body

-- NOT SERVED 95 (*runtime.PanicNilError).RuntimeError: no body

-- NOT SERVED 96 (*internal/abi.Type).Align: no body

-- NOT SERVED 97 (internal/runtime/maps.unhashableTypeError).Error: no body

-- NOT SERVED 98 (internal/runtime/maps.unhashableTypeError).RuntimeError: no body

-- NOT SERVED 99 (*strings.Builder).Reset: no body

-- NOT SERVED 100 (internal/abi.Kind).String: no body

-- NOT SERVED 101 var's door: gosem.cut.vars holds initialisers alone; see the manifest's row cutvarsword (look 11, test files too): no body

-- NOT SERVED 102 var's door: internal/strconv.uint64pow10 is laid by its own initialiser, plain data (look 11): no body

-- NOT SERVED 103 var's door: math/bits.deBruijn32tab is laid by its own initialiser, plain data (look 11): no body

-- NOT SERVED 104 var's door: math/bits.deBruijn64tab is laid by its own initialiser, plain data (look 11): no body

-- NOT SERVED 105 var's door: the look of gosem.cut.vars went over the folder that the caller named as the repository's root (look 11): no body

end Go.AS.C


namespace Go.AS.C
open Go Go.Proofs
set_option linter.unusedVariables false
set_option linter.unusedSimpArgs false
set_option maxRecDepth 10000

theorem mixed : Tryd.prog.follows .mixedOrders = true := by kernel_rfl

end Go.AS.C


namespace Go.AS.C
open Go Go.Proofs
set_option linter.unusedVariables false
set_option linter.unusedSimpArgs false
set_option maxRecDepth 10000

theorem num_is_spec {A : AH} {n : Int} {Q : Value → AH → Prop} (hq : Q (.bool (decide (0 ≤ n ∧ n ≤ 2147483647))) A) : ACalls 1 Tryd.prog num_is [ii n] Q A := by
  refine ACalls.of_fits mixed fits_num_is rfl ?_
  unfold ic_num_is
  have i0 : initA [ii n] 0 = ii n := rfl
  generalize initA [ii n] = a at i0
  by_cases h : (0 : Int) ≤ n
  · have h1 : (n ≥ 0) = True := by simp [h]
    simp only [stepS, reduceIte, Nat.reduceBEq, Nat.reduceEqDiff, tupleOf, i0, binA_geq, binA_leq, h1]
    simpa [h] using hq
  · have h1 : (n ≥ 0) = False := by simp; omega
    simp only [stepS, reduceIte, Nat.reduceBEq, Nat.reduceEqDiff, tupleOf, i0, binA_geq, binA_leq, h1]
    simpa [h] using hq

end Go.AS.C


namespace Go.AS.C
open Go Go.Proofs
set_option linter.unusedVariables false
set_option linter.unusedSimpArgs false
set_option maxRecDepth 10000

/-- What Get gives, as a value. -/
def getV (bs : List UInt8) : Value := .tuple #[ii ((getT bs).1 : Nat), ii ((getT bs).2.1 : Nat), ii ((getT bs).2.2 : Nat)]
theorem getV_none {bs : List UInt8} (h : getN bs = none) : getV bs = .tuple #[ii 0, ii 0, ii 5] := by unfold getV getT; rw [h]; rfl
theorem getV_some {bs : List UInt8} {n k : Nat} (h : getN bs = some (n, k)) : getV bs = .tuple #[ii n, ii k, ii 0] := by unfold getV getT; rw [h]; rfl
theorem drop_at {α : Type} {l : List α} {i : Nat} {x : α} (h : l[i]? = some x) : l.drop i = x :: l.drop (i + 1) := by
  rw [List.getElem?_eq_some_iff] at h
  obtain ⟨h1, rfl⟩ := h
  exact List.drop_eq_getElem_cons h1

theorem num_Get_spec {A : AH} {v : Value} {bs : List UInt8} {Q : Value → AH → Prop} (hv : Byt A v bs) (hq : Q (getV bs) A) : ACalls 1 Tryd.prog num_Get [v] Q A := by
  refine ACalls.of_fits mixed fits_num_Get rfl ?_
  unfold ic_num_Get
  have i0 : initA [v] 0 = v := rfl
  generalize initA [v] = a at i0
  obtain ⟨u, u1, u2⟩ := hv.upto (k := min bs.length 5) (by omega)
  have um : min ((bs.length : Nat) : Int) 5 = ((min bs.length 5 : Nat) : Int) := by omega
  have ul := u2.len
  rw [List.length_take, Nat.min_eq_left (Nat.min_le_left _ _)] at ul
  simp (maxSteps := 1000000) (disch := omega) only [stepS, reduceIte, Nat.reduceBEq, Nat.reduceEqDiff, tupleOf, stepT, i0, hv.len, mnI, um, u1, ul]
  refine W_loop (fun a' B => B = A ∧ ∃ i n : Nat, i ≤ min bs.length 5 ∧ n < 128 ^ i ∧ a' 12 = u ∧ a' 13 = ii (min bs.length 5 : Nat) ∧ a' 14 = ii i ∧ a' 5 = ii n ∧ getGo i n (bs.drop i) = getN bs) (fun a' _ => 5 - (iv (a' 14)).toNat) ?_ ?_
  · refine ⟨rfl, 0, 0, by omega, by simp, ?_⟩
    simp (maxSteps := 1000000) (disch := omega) only [stepS, reduceIte, Nat.reduceBEq, Nat.reduceEqDiff, tupleOf, stepT, i0]
    exact ⟨rfl, rfl, rfl⟩
  · rintro a2 B ⟨rfl, i, n, hi, hn, g12, g13, g14, g5, hg⟩
    rcases Nat.lt_or_ge i (min bs.length 5) with hlt | hge
    · obtain ⟨c, hc⟩ : ∃ c, bs[i]? = some c := ⟨_, List.getElem?_eq_getElem (by omega)⟩
      obtain ⟨p, p1, p2⟩ := u2.at1 (j := i) (b := c) (by rw [List.getElem?_take_of_lt (by omega)]; exact hc)
      have hc8 := c.toNat_lt
      have hpow : 128 ^ i ≤ 128 ^ 4 := Nat.pow_le_pow_right (by omega) (by omega)
      have hp2 : 2 ^ (7 * i) = 128 ^ i := by rw [Nat.pow_mul]
      have hmul : c.toNat % 128 * 128 ^ i ≤ 127 * 128 ^ i := Nat.mul_le_mul_right _ (by omega)
      have d1 : binA .shl (.int .i64 ((c.toNat % 128 : Nat) : Int)) (.int .i64 (7 * (i : Int))) = some (ii ((c.toNat % 128 * 128 ^ i : Nat) : Int)) := by
        have := shl_ii (c.toNat % 128) .i64 (7 * i) (by omega) (by rw [hp2]; omega)
        rw [hp2] at this
        exact this
      have d2 : binA .or (ii n) (ii ((c.toNat % 128 * 128 ^ i : Nat) : Int)) = some (ii ((n + c.toNat % 128 * 128 ^ i : Nat) : Int)) := by
        have := or_ii n (c.toNat % 128 * 128 ^ i) (by omega) (by omega)
        rw [← hp2, or_low _ _ _ (by rw [hp2]; exact hn), hp2] at this
        exact this
      rw [drop_at hc] at hg
      by_cases h128 : 128 ≤ c.toNat
      · simp (maxSteps := 1000000) (disch := omega) only [stepS, reduceIte, Nat.reduceBEq, Nat.reduceEqDiff, tupleOf, stepT, g12, g13, g14, g5, p1, p2, b8_127, binA_and8, conv_i64_by8, and127, d1, d2, binA_geq8]
        refine ⟨⟨i + 1, n + c.toNat % 128 * 128 ^ i, by omega, by rw [Nat.pow_succ]; omega, rfl, rfl, ?_⟩, by omega⟩
        rw [← hg]
        conv => rhs; unfold getGo
        rw [if_neg (by omega), if_pos h128]
      · simp (maxSteps := 1000000) (disch := omega) only [stepS, reduceIte, Nat.reduceBEq, Nat.reduceEqDiff, tupleOf, stepT, g12, g13, g14, g5, p1, p2, b8_127, binA_and8, conv_i64_by8, and127, d1, d2, binA_geq8]
        refine num_is_spec ?_
        unfold getGo at hg
        rw [if_neg (by omega), if_neg h128] at hg
        by_cases hbig : 2147483647 < n + c.toNat % 128 * 128 ^ i
        · rw [if_pos (.inl hbig)] at hg
          simp (maxSteps := 1000000) (disch := omega) only [stepS, reduceIte, Nat.reduceBEq, Nat.reduceEqDiff, tupleOf, stepT, g12, g13, g14, g5]
          rw [getV_none hg.symm] at hq
          exact hq
        · by_cases hz : 0 < i ∧ c.toNat = 0
          · rw [if_pos (.inr hz)] at hg
            simp (maxSteps := 1000000) (disch := omega) only [stepS, reduceIte, Nat.reduceBEq, Nat.reduceEqDiff, tupleOf, stepT, g12, g13, g14, g5, binA_eql8]
            rw [getV_none hg.symm] at hq
            exact hq
          · rw [if_neg (by omega)] at hg
            rw [getV_some hg.symm] at hq
            by_cases h0 : 0 < i
            · simp (maxSteps := 1000000) (disch := omega) only [stepS, reduceIte, Nat.reduceBEq, Nat.reduceEqDiff, tupleOf, stepT, g12, g13, g14, g5, binA_eql8]
              exact hq
            · simp (maxSteps := 1000000) (disch := omega) only [stepS, reduceIte, Nat.reduceBEq, Nat.reduceEqDiff, tupleOf, stepT, g12, g13, g14, g5, binA_eql8]
              exact hq
    · simp (maxSteps := 1000000) (disch := omega) only [stepS, reduceIte, Nat.reduceBEq, Nat.reduceEqDiff, tupleOf, stepT, g12, g13, g14, g5]
      have hnone : getN bs = none := by
        rw [← hg]
        by_cases h5 : i < bs.length
        · rw [List.drop_eq_getElem_cons h5]
          unfold getGo
          rw [if_pos (by omega)]
        · rw [List.drop_of_length_le (by omega)]
          rfl
      rw [getV_none hnone] at hq
      exact hq

end Go.AS.C


namespace Go.AS.C
open Go Go.Proofs
set_option linter.unusedVariables false
set_option linter.unusedSimpArgs false
set_option maxRecDepth 10000

theorem slices_Clone_spec {A : AH} {v : Value} {xs : List UInt8} {Q : Value → AH → Prop} (hv : Byt A v xs) (hl : xs.length ≤ 2 ^ 40) (hq : ∀ u A', Le A A' → OwnB A.length A' u xs → Q u A') :
    ACalls 1 Tryd.prog slices_Clone_byte_byte [v] Q A := by
  refine ACalls.of_fits mixed fits_slices_Clone_byte_byte rfl ?_
  unfold ic_slices_Clone_byte_byte
  have i0 : initA [v] 0 = v := rfl
  generalize initA [v] = a at i0
  obtain ⟨p, c, hs, hp⟩ := hv.shape
  cases p with
  | none =>
    have c1 : (if kindOf (.slice 5) v = true then sIsnil A v false else none) = some (.bool true, A) := by subst hs; rfl
    simp only [stepS, reduceIte, Nat.reduceBEq, Nat.reduceEqDiff, tupleOf, i0, c1]
    rw [hp rfl] at hq
    exact hq _ _ (.refl _) (OwnB.nil _ _)
  | some b =>
    have c1 : (if kindOf (.slice 5) v = true then sIsnil A v false else none) = some (.bool false, A) := by subst hs; rfl
    obtain ⟨v', A', q1, q2, q3, _⟩ := app_bytes (A0 := A) (A := A ++ [.row [] .own 1 true]) (v := .slice (some ⟨A.length, 0, none⟩) 0 0) (bs := []) (.push _ _) (own_lit_none (.refl _)) (hv.le (.push _ _)) (by simp; omega)
    simp only [stepS, reduceIte, Nat.reduceBEq, Nat.reduceEqDiff, tupleOf, i0, c1, lit_none, q1]
    exact hq _ _ q2 q3

end Go.AS.C


namespace Go.AS.C
open Go Go.Proofs
set_option linter.unusedVariables false
set_option linter.unusedSimpArgs false
set_option maxRecDepth 10000

/-- A cursor: none: it is bad; else what is left. -/
abbrev CurS := Option (List UInt8)
/-- A cursor behind a pointer. -/
def CurA (a0 : Nat) (A : AH) (i : Nat) (st : CurS) : Prop :=
  ∃ v : Value, (a0 ≤ i ∧ ∀ k ∈ blkOf v, k < i) ∧ A[i]? = some (.row [v, .bool st.isNone] .own 0 true) ∧ (match st with | none => v = .slice none 0 0 | some bs => Byt A v bs ∧ bs.length ≤ 2 ^ 40)
abbrev ptr (i : Nat) : Value := .pointer (some ⟨i, 0, none⟩)
def takeC (st : CurS) (n : Int) : CurS × List UInt8 := match st with
  | none => (none, [])
  | some bs => if 0 ≤ n ∧ n ≤ bs.length then (some (bs.drop n.toNat), bs.take n.toNat) else (none, [])
def numC (st : CurS) : CurS × Nat := match st with
  | none => (none, 0)
  | some bs => match getN bs with | some (n, k) => (some (bs.drop k), n) | none => (none, 0)
def byteC (st : CurS) : CurS × Nat := match st with
  | none => (none, 0)
  | some [] => (none, 0)
  | some (b :: r) => (some r, b.toNat)
def textC (st : CurS) : CurS × List UInt8 := match st with
  | none => (none, [])
  | some bs => match getN bs with | some (n, k) => if n ≤ 262144 then takeC (some (bs.drop k)) n else (none, []) | none => (none, [])
def leftC (st : CurS) : Nat := match st with | none => 0 | some bs => bs.length

theorem CurA.keep {a0 i j : Nat} {A B : AH} {st : CurS} (h : CurA a0 A i st) (hk : Keep A j B) (hij : i ≠ j) (hj : ∀ c, A[j]? = some c → ∃ cs t sz ex, c = .row cs t sz ex ∧ sz ≠ 1) : CurA a0 B i st := by
  obtain ⟨v, h1, h2, h3⟩ := h
  refine ⟨v, h1, hk.2 i _ hij h2, ?_⟩
  cases st with
  | none => exact h3
  | some bs =>
    refine ⟨?_, h3.2⟩
    cases hc : A[j]? with
    | some c =>
      obtain ⟨cs, t, sz, ex, rfl, hsz⟩ := hj c hc
      exact Sl.kp h3.1 hk hc hsz
    | none =>
      refine Sl.keep h3.1 (fun k b hb _ => hk.2 k b ?_ hb)
      rintro rfl
      rw [hc] at hb; cases hb
theorem CurA.le {a0 i : Nat} {A B : AH} {st : CurS} (h : CurA a0 A i st) (hl : Le A B) : CurA a0 B i st := by
  obtain ⟨v, h1, h2, h3⟩ := h
  refine ⟨v, h1, hl.get h2, ?_⟩
  cases st with
  | none => exact h3
  | some bs => exact ⟨h3.1.le hl, h3.2⟩

/-- What a cursor leads to stands ahead of it. -/
theorem CurA.keepB {a0 i : Nat} {A B : AH} {st : CurS} (h : CurA a0 A i st) (hk : ∀ j b, A[j]? = some b → j ≤ i → B[j]? = some b) : CurA a0 B i st := by
  obtain ⟨v, h1, h2, h3⟩ := h
  refine ⟨v, h1, hk i _ h2 (Nat.le_refl _), ?_⟩
  cases st with
  | none => exact h3
  | some bs => exact ⟨h3.1.keepB fun j b hb hj => hk j b hb (Nat.le_of_lt (h1.2 j hj)), h3.2⟩
theorem CurA.lt {a0 i : Nat} {A : AH} {st : CurS} (h : CurA a0 A i st) : i < A.length := by
  obtain ⟨v, _, h2, _⟩ := h
  exact lt_of_get h2

theorem num_From_spec {A : AH} {v : Value} {bs : List UInt8} {Q : Value → AH → Prop} (hv : Byt A v bs) (hl : bs.length ≤ 2 ^ 40) (hq : ∀ A' i, Le A A' → CurA A.length A' i (some bs) → Q (ptr i) A') : ACalls 1 Tryd.prog num_From [v] Q A := by
  refine ACalls.of_fits mixed fits_num_From rfl ?_
  unfold ic_num_From
  have i0 : initA [v] 0 = v := rfl
  generalize initA [v] = a at i0
  simp (maxSteps := 1000000) (disch := omega) only [stepS, reduceIte, Nat.reduceBEq, Nat.reduceEqDiff, tupleOf, stepT, i0]
  refine slices_Clone_spec hv hl fun u A1 h1 o1 => ?_
  have hb : sBuild A1 [.slice none 0 0, .bool false] [(0, 1, u)] = some (.agg #[u, .bool false], A1) := by
    obtain ⟨p, c, hs, _⟩ := o1.byt.shape
    rw [hs]; rfl
  have hx : sBox A1 (.agg #[u, .bool false]) = some (.pointer (some ⟨A1.length, 0, none⟩), A1 ++ [.row [u, .bool false] .own 0 true]) := by
    obtain ⟨p, c, hs, _⟩ := o1.byt.shape
    rw [hs]; rfl
  simp (maxSteps := 1000000) (disch := omega) only [stepS, reduceIte, Nat.reduceBEq, Nat.reduceEqDiff, tupleOf, stepT, i0, hb, hx]
  have k1 : Le A1 (A1 ++ [.row [u, .bool false] .own 0 true]) := .push _ _
  exact hq _ _ (h1.trans k1) ⟨u, ⟨h1.len, fun k hk => (OwnS.ge o1 k hk).2⟩, get_last _ _, o1.byt.le k1, hl⟩

section
variable {A A0 : AH} {i : Nat} {st : CurS} {Q : Value → AH → Prop}
theorem cur_Bad_spec (hc : CurA A0.length A i st) (hq : Q (.bool st.isNone) A) : ACalls 1 Tryd.prog num_Cursor_Bad [ptr i] Q A := by
  refine ACalls.of_fits mixed fits_num_Cursor_Bad rfl ?_
  unfold ic_num_Cursor_Bad
  have i0 : initA [ptr i] 0 = ptr i := rfl
  generalize initA [ptr i] = a at i0
  obtain ⟨v, h1, h2, h3⟩ := hc
  have d1 := row_load h2 (by simp) (o := 0 + 1) (v := .bool st.isNone) rfl
  simp (maxSteps := 1000000) (disch := omega) only [stepS, reduceIte, Nat.reduceBEq, Nat.reduceEqDiff, tupleOf, stepT, i0, isnil_ptr, nilc_ptr, faddr_ptr, d1]
  exact hq

theorem cur_fail_spec (hl : Le A0 A) (hc : CurA A0.length A i st) (hq : ∀ A', Le A0 A' → Keep A i A' → CurA A0.length A' i none → Q (.tuple #[]) A') : ACalls 1 Tryd.prog num_Cursor_fail [ptr i] Q A := by
  refine ACalls.of_fits mixed fits_num_Cursor_fail rfl ?_
  unfold ic_num_Cursor_fail
  have i0 : initA [ptr i] 0 = ptr i := rfl
  generalize initA [ptr i] = a at i0
  obtain ⟨v, h1, h2, h3⟩ := hc
  have d1 := row_store h2 (o := 0 + 0) (v := .slice none 0 0) (by simp) (one1_sl _ _ _)
  have h4 := set_get (b' := .row ([v, .bool st.isNone].set (0 + 0) (.slice none 0 0)) .own 0 true) h2
  have d2 := row_store h4 (o := 0 + 1) (v := .bool true) (by simp) ⟨rfl, rfl⟩
  simp (maxSteps := 1000000) (disch := omega) only [stepS, reduceIte, Nat.reduceBEq, Nat.reduceEqDiff, tupleOf, stepT, i0, isnil_ptr, nilc_ptr, faddr_ptr, d1, d2]
  refine hq _ ((hl.set h1.1).set h1.1) ((Keep.set _ _ _).trans (Keep.set _ _ _)) ⟨.slice none 0 0, ⟨h1.1, fun k hk => by cases hk⟩, ?_, rfl⟩
  rw [set_get h4]
  rfl

theorem cur_Left_spec (hc : CurA A0.length A i st) (hq : Q (ii (leftC st : Nat)) A) : ACalls 1 Tryd.prog num_Cursor_Left [ptr i] Q A := by
  refine ACalls.of_fits mixed fits_num_Cursor_Left rfl ?_
  unfold ic_num_Cursor_Left
  have i0 : initA [ptr i] 0 = ptr i := rfl
  generalize initA [ptr i] = a at i0
  simp (maxSteps := 1000000) (disch := omega) only [stepS, reduceIte, Nat.reduceBEq, Nat.reduceEqDiff, tupleOf, stepT, i0]
  refine cur_Bad_spec hc ?_
  obtain ⟨v, h1, h2, h3⟩ := hc
  cases st with
  | none =>
    have e : (none : CurS).isNone = true := rfl
    rw [e]
    simp (maxSteps := 1000000) (disch := omega) only [stepS, reduceIte, Nat.reduceBEq, Nat.reduceEqDiff, tupleOf, stepT, i0]
    exact hq
  | some bs =>
    have e : (some bs).isNone = false := rfl
    have d1 := row_load h2 (by simp) (o := 0 + 0) (v := v) rfl
    rw [e]
    simp (maxSteps := 1000000) (disch := omega) only [stepS, reduceIte, Nat.reduceBEq, Nat.reduceEqDiff, tupleOf, stepT, i0, nilc_ptr, faddr_ptr, d1, h3.1.len]
    exact hq

theorem cur_Take_spec {n : Int} (hl : Le A0 A) (hc : CurA A0.length A i st) (hq : ∀ A' v, Le A0 A' → Keep A i A' → CurA A0.length A' i (takeC st n).1 → OwnB A.length A' v (takeC st n).2 → Q v A') : ACalls 1 Tryd.prog num_Cursor_Take [ptr i, ii n] Q A := by
  refine ACalls.of_fits mixed fits_num_Cursor_Take rfl ?_
  unfold ic_num_Cursor_Take
  have i0 : initA [ptr i, ii n] 0 = ptr i := rfl
  have i1 : initA [ptr i, ii n] 1 = ii n := rfl
  generalize initA [ptr i, ii n] = a at i0 i1
  simp (maxSteps := 1000000) (disch := omega) only [stepS, reduceIte, Nat.reduceBEq, Nat.reduceEqDiff, tupleOf, stepT, i0, i1]
  refine cur_Bad_spec hc ?_
  cases st with
  | none =>
    have e : (none : CurS).isNone = true := rfl
    rw [e]
    simp (maxSteps := 1000000) (disch := omega) only [stepS, reduceIte, Nat.reduceBEq, Nat.reduceEqDiff, tupleOf, stepT, i0, i1]
    refine cur_fail_spec hl hc fun A' k1 k2 k3 => ?_
    simp (maxSteps := 1000000) (disch := omega) only [stepS, reduceIte, Nat.reduceBEq, Nat.reduceEqDiff, tupleOf, stepT]
    exact hq _ _ k1 k2 k3 (OwnB.nil _ _)
  | some bs =>
    obtain ⟨v, h1, h2, h3, h40⟩ := hc
    have hc : CurA A0.length A i (some bs) := ⟨v, h1, h2, h3, h40⟩
    have e : (some bs).isNone = false := rfl
    have d1 := row_load h2 (by simp) (o := 0 + 0) (v := v) rfl
    rw [e] at h2 ⊢
    by_cases hn : n < 0
    · simp (maxSteps := 1000000) (disch := omega) only [stepS, reduceIte, Nat.reduceBEq, Nat.reduceEqDiff, tupleOf, stepT, i0, i1]
      refine cur_fail_spec hl hc fun A' k1 k2 k3 => ?_
      have et : takeC (some bs) n = (none, []) := by unfold takeC; simp only; rw [if_neg (by omega)]
      rw [et] at hq
      simp (maxSteps := 1000000) (disch := omega) only [stepS, reduceIte, Nat.reduceBEq, Nat.reduceEqDiff, tupleOf, stepT]
      exact hq _ _ k1 k2 k3 (OwnB.nil _ _)
    · by_cases hbig : n ≤ bs.length
      · obtain ⟨m, rfl⟩ : ∃ m : Nat, n = m := ⟨n.toNat, by omega⟩
        have et : takeC (some bs) m = (some (bs.drop m), bs.take m) := by unfold takeC; simp only; rw [if_pos ⟨by omega, hbig⟩, Int.toNat_natCast]
        rw [et] at hq
        have k0 : Le A (A ++ [.row ((List.replicate m (0 : UInt8)).map by8) .own 1 true]) := .push _ _
        have h2' := k0.get h2
        have h3' := h3.le k0
        have d1' := row_load h2' (by simp) (o := 0 + 0) (v := v) rfl
        -- the copy
        have hcp : ∃ A2, sCopy (A ++ [.row ((List.replicate m (0 : UInt8)).map by8) .own 1 true]) (.slice (some ⟨A.length, 0, none⟩) m m) v 1 = some (.int .i64 m, A2) ∧ A2 = A ++ [.row ((bs.take m).map by8) .own 1 true] := by
          obtain ⟨p, c, hs, _⟩ := h3'.shape
          have hr := h3'.rd
          subst hs
          unfold sCopy
          simp only [hr, Option.bind_some]
          have em : min bs.length m = m := by omega
          rw [em]
          unfold copyTo
          by_cases hm0 : m = 0
          · subst hm0
            exact ⟨_, rfl, by simp⟩
          · rw [if_neg hm0]
            simp only
            unfold wr
            simp only [get_last]
            rw [if_pos ⟨by simp; omega, by rw [Nat.mul_one, ← List.map_take]; exact Byt.ones8 _⟩]
            refine ⟨_, rfl, ?_⟩
            rw [set_last]
            congr 3
            unfold setAll
            rw [Nat.mul_one, ← List.map_take]
            simp
            omega
        obtain ⟨A2, hcp, rfl⟩ := hcp
        have k1 : Le A (A ++ [.row ((bs.take m).map by8) .own 1 true]) := .push _ _
        have h2'' := k1.get h2
        have h3'' := h3.le k1
        have d1'' := row_load h2'' (by simp) (o := 0 + 0) (v := v) rfl
        obtain ⟨u, u1, u2⟩ := h3''.from (l := m) (by omega)
        obtain ⟨p, c, hs, _⟩ := u2.shape
        have d2 := row_store h2'' (o := 0 + 0) (v := u) (by simp) (by rw [hs]; exact one1_sl _ _ _)
        have lm : sMk A [.int .u8 0] 1 (ii m) (ii m) = _ := mk_bytes A m (by omega)
        simp (maxSteps := 1000000) (disch := omega) only [stepS, reduceIte, Nat.reduceBEq, Nat.reduceEqDiff, tupleOf, stepT, i0, i1, nilc_ptr, faddr_ptr, d1, h3.len, lm, d1', hcp, d1'', u1, d2]
        have hset : Keep (A ++ [Blk.row ((bs.take m).map by8) .own 1 true]) i ((A ++ [Blk.row ((bs.take m).map by8) .own 1 true]).set i (Blk.row ([v, .bool false].set (0 + 0) u) .own 0 true)) := Keep.set _ _ _
        refine hq _ _ ((hl.trans k1).set h1.1) ((k1.kp i).trans hset) ⟨u, ⟨h1.1, fun k hk => h1.2 k (sll_blk u1 k hk)⟩, set_get h2'', ?_⟩ ?_
        · exact ⟨u2.kp hset h2'', by simp; omega⟩
        · exact OwnB.kp (own_row (get_last _ _) (by simp; omega) (Nat.le_refl _) (Nat.le_refl _)) hset h2''
      · simp (maxSteps := 1000000) (disch := omega) only [stepS, reduceIte, Nat.reduceBEq, Nat.reduceEqDiff, tupleOf, stepT, i0, i1, nilc_ptr, faddr_ptr, d1, h3.len]
        refine cur_fail_spec hl hc fun A' k1 k2 k3 => ?_
        have et : takeC (some bs) n = (none, []) := by unfold takeC; simp only; rw [if_neg (by omega)]
        rw [et] at hq
        simp (maxSteps := 1000000) (disch := omega) only [stepS, reduceIte, Nat.reduceBEq, Nat.reduceEqDiff, tupleOf, stepT]
        exact hq _ _ k1 k2 k3 (OwnB.nil _ _)

theorem byteC_take (st : CurS) : byteC st = ((takeC st 1).1, match (takeC st 1).2 with | [] => 0 | b :: _ => b.toNat) := by
  cases st with
  | none => rfl
  | some bs =>
    cases bs with
    | nil => rfl
    | cons b r =>
      unfold byteC takeC
      simp only
      rw [if_pos ⟨by omega, by simp; omega⟩]
      rfl
theorem cur_Num_spec (hl : Le A0 A) (hc : CurA A0.length A i st) (hq : ∀ A', Le A0 A' → Keep A i A' → CurA A0.length A' i (numC st).1 → Q (ii ((numC st).2 : Nat)) A') : ACalls 1 Tryd.prog num_Cursor_Num [ptr i] Q A := by
  refine ACalls.of_fits mixed fits_num_Cursor_Num rfl ?_
  unfold ic_num_Cursor_Num
  have i0 : initA [ptr i] 0 = ptr i := rfl
  generalize initA [ptr i] = a at i0
  simp (maxSteps := 1000000) (disch := omega) only [stepS, reduceIte, Nat.reduceBEq, Nat.reduceEqDiff, tupleOf, stepT, i0]
  refine cur_Bad_spec hc ?_
  cases st with
  | none =>
    have e : (none : CurS).isNone = true := rfl
    rw [e]
    simp (maxSteps := 1000000) (disch := omega) only [stepS, reduceIte, Nat.reduceBEq, Nat.reduceEqDiff, tupleOf, stepT, i0]
    exact hq _ hl (Keep.refl _ _) hc
  | some bs =>
    obtain ⟨v, h1, h2, h3, h40⟩ := hc
    have hc : CurA A0.length A i (some bs) := ⟨v, h1, h2, h3, h40⟩
    have e : (some bs).isNone = false := rfl
    have d1 := row_load h2 (by simp) (o := 0 + 0) (v := v) rfl
    rw [e] at h2 ⊢
    simp (maxSteps := 1000000) (disch := omega) only [stepS, reduceIte, Nat.reduceBEq, Nat.reduceEqDiff, tupleOf, stepT, i0, nilc_ptr, faddr_ptr, d1]
    refine num_Get_spec h3 ?_
    cases hg : getN bs with
    | none =>
      rw [getV_none hg]
      have et : numC (some bs) = (none, 0) := by unfold numC; simp only [hg]
      rw [et] at hq
      simp (maxSteps := 1000000) (disch := omega) only [stepS, reduceIte, Nat.reduceBEq, Nat.reduceEqDiff, tupleOf, stepT, i0]
      refine cur_fail_spec hl hc fun A' k1 k2 k3 => ?_
      simp (maxSteps := 1000000) (disch := omega) only [stepS, reduceIte, Nat.reduceBEq, Nat.reduceEqDiff, tupleOf, stepT]
      exact hq _ k1 k2 k3
    | some r =>
      obtain ⟨n, k⟩ := r
      rw [getV_some hg]
      obtain ⟨g1, g2, g3, g4, g5⟩ := getN_ok hg
      have et : numC (some bs) = (some (bs.drop k), n) := by unfold numC; simp only [hg]
      rw [et] at hq
      obtain ⟨u, u1, u2⟩ := h3.from (l := k) g2
      obtain ⟨p, c, hs, _⟩ := u2.shape
      have d2 := row_store h2 (o := 0 + 0) (v := u) (by simp) (by rw [hs]; exact one1_sl _ _ _)
      simp (maxSteps := 1000000) (disch := omega) only [stepS, reduceIte, Nat.reduceBEq, Nat.reduceEqDiff, tupleOf, stepT, i0, nilc_ptr, faddr_ptr, d1, u1, d2]
      have hset : Keep A i (A.set i (.row ([v, .bool false].set (0 + 0) u) .own 0 true)) := Keep.set _ _ _
      exact hq _ (hl.set h1.1) hset ⟨u, ⟨h1.1, fun k hk => h1.2 k (sll_blk u1 k hk)⟩, set_get h2, u2.kp hset h2, by simp; omega⟩

theorem textC_num (st : CurS) : textC st = match (numC st).1 with | none => (none, []) | some r => if (numC st).2 ≤ 262144 then takeC (some r) (numC st).2 else (none, []) := by
  cases st with
  | none => rfl
  | some bs =>
    unfold textC numC
    simp only
    cases getN bs with
    | none => rfl
    | some r => rfl
theorem cur_Text_spec (hl : Le A0 A) (hc : CurA A0.length A i st) (hq : ∀ A' v, Le A0 A' → Keep A i A' → CurA A0.length A' i (textC st).1 → OwnB A.length A' v (textC st).2 → Q v A') : ACalls 1 Tryd.prog num_Cursor_Text [ptr i] Q A := by
  refine ACalls.of_fits mixed fits_num_Cursor_Text rfl ?_
  unfold ic_num_Cursor_Text
  have i0 : initA [ptr i] 0 = ptr i := rfl
  generalize initA [ptr i] = a at i0
  simp (maxSteps := 1000000) (disch := omega) only [stepS, reduceIte, Nat.reduceBEq, Nat.reduceEqDiff, tupleOf, stepT, i0]
  refine cur_Num_spec hl hc fun A1 k1 k2 k3 => ?_
  rw [textC_num] at hq
  generalize numC st = r at k3 hq ⊢
  obtain ⟨st1, n⟩ := r
  simp only at k3 hq ⊢
  cases st1 with
  | none =>
    have e : (none : CurS).isNone = true := rfl
    by_cases hb : n ≤ 262144
    · simp (maxSteps := 1000000) (disch := omega) only [stepS, reduceIte, Nat.reduceBEq, Nat.reduceEqDiff, tupleOf, stepT, i0]
      refine cur_Bad_spec k3 ?_
      rw [e]
      simp (maxSteps := 1000000) (disch := omega) only [stepS, reduceIte, Nat.reduceBEq, Nat.reduceEqDiff, tupleOf, stepT, i0]
      exact hq _ _ k1 k2 k3 (OwnB.nil _ _)
    · simp (maxSteps := 1000000) (disch := omega) only [stepS, reduceIte, Nat.reduceBEq, Nat.reduceEqDiff, tupleOf, stepT, i0]
      refine cur_Bad_spec k3 ?_
      rw [e]
      simp (maxSteps := 1000000) (disch := omega) only [stepS, reduceIte, Nat.reduceBEq, Nat.reduceEqDiff, tupleOf, stepT, i0]
      exact hq _ _ k1 k2 k3 (OwnB.nil _ _)
  | some bs =>
    have e : (some bs).isNone = false := rfl
    by_cases hb : n ≤ 262144
    · simp (maxSteps := 1000000) (disch := omega) only [stepS, reduceIte, Nat.reduceBEq, Nat.reduceEqDiff, tupleOf, stepT, i0]
      refine cur_Bad_spec k3 ?_
      rw [e]
      simp (maxSteps := 1000000) (disch := omega) only [stepS, reduceIte, Nat.reduceBEq, Nat.reduceEqDiff, tupleOf, stepT, i0]
      refine cur_Take_spec (n := n) k1 k3 fun A2 v m1 m2 m3 m4 => ?_
      simp (maxSteps := 1000000) (disch := omega) only [stepS, reduceIte, Nat.reduceBEq, Nat.reduceEqDiff, tupleOf, stepT]
      simp only [if_pos hb] at hq
      exact hq _ _ m1 (k2.trans m2) m3 (OwnS.mono m4 k2.1)
    · simp (maxSteps := 1000000) (disch := omega) only [stepS, reduceIte, Nat.reduceBEq, Nat.reduceEqDiff, tupleOf, stepT, i0]
      refine cur_Bad_spec k3 ?_
      rw [e]
      simp (maxSteps := 1000000) (disch := omega) only [stepS, reduceIte, Nat.reduceBEq, Nat.reduceEqDiff, tupleOf, stepT, i0]
      refine cur_Take_spec (n := -1) k1 k3 fun A2 v m1 m2 m3 m4 => ?_
      simp (maxSteps := 1000000) (disch := omega) only [stepS, reduceIte, Nat.reduceBEq, Nat.reduceEqDiff, tupleOf, stepT]
      simp only [if_neg hb] at hq
      have et : takeC (some bs) (-1) = (none, []) := by unfold takeC; simp only; rw [if_neg (by omega)]
      rw [et] at m3 m4
      exact hq _ _ m1 (k2.trans m2) m3 (OwnS.mono m4 k2.1)
end
end Go.AS.C


namespace Go.AS
open Go
set_option linter.unusedVariables false
set_option linter.unusedSimpArgs false

/-! Slices of elements of some cells each, of the call's own: read, written, swapped. -/

/-- All but the row at which v leads is as it was. -/
def KeepV (A : AH) (v : Value) (A' : AH) : Prop := A.length ≤ A'.length ∧ ∀ k b, A[k]? = some b → k ∉ blkOf v → A'[k]? = some b
def OwnE (a0 : Nat) (A : AH) (sz : Nat) (v : Value) (es : List (List Value)) : Prop := (∀ e ∈ es, e.length = sz ∧ ones e = true) ∧ OwnS a0 A sz v es.length es.flatten

section
variable {A B C A0 : AH} {v w : Value} {sz n a0 : Nat} {cs : List Value} {es fs : List (List Value)}
theorem KeepV.refl (A : AH) (v : Value) : KeepV A v A := ⟨Nat.le_refl _, fun _ _ h _ => h⟩
theorem KeepV.trans (h : KeepV A v B) (k : KeepV B v C) : KeepV A v C := ⟨Nat.le_trans h.1 k.1, fun j b hb hj => k.2 j b (h.2 j b hb hj) hj⟩
theorem KeepV.le (h : KeepV A v B) (hl : Le A0 A) (hi : ∀ k ∈ blkOf v, A0.length ≤ k) : Le A0 B := by
  refine Le.of_get (fun k hk => ?_) (Nat.le_trans hl.len h.1)
  have hb : A0[k]? = some A0[k] := List.getElem?_eq_getElem hk
  rw [hb, h.2 k _ (hl.get hb) (fun hm => by have := hi k hm; omega)]
theorem iaddr_any {x i p : Value} {A' : AH} (h : sIaddr A x i sz = some (p, A')) (B : AH) : sIaddr B x i sz = some (p, B) := by
  unfold sIaddr at h ⊢
  split at h
  · rw [Option.bind_eq_some_iff] at h
    obtain ⟨j, h1, h⟩ := h
    split at h
    · rename_i hc
      injection h with h; injection h with h2 h3; subst h2
      simp only [h1, Option.bind_some]
      rw [if_pos hc]
    · cases h
  · cases h
theorem ones_flatten (h : ∀ e ∈ es, e.length = sz ∧ ones e = true) : ones es.flatten = true := by
  unfold ones
  rw [List.all_eq_true]
  intro x hx
  obtain ⟨e, he, hx⟩ := List.mem_flatten.1 hx
  have := (h e he).2
  unfold ones at this
  rw [List.all_eq_true] at this
  exact this x hx
theorem flat_len' (h : ∀ e ∈ es, e.length = sz ∧ ones e = true) : es.flatten.length = es.length * sz := flat_len es sz (fun j c hc => (h c (List.mem_of_getElem? hc)).1)
theorem flat_cut (h : ∀ e ∈ es, e.length = sz ∧ ones e = true) {j : Nat} {e : List Value} (hj : es[j]? = some e) : (es.flatten.drop (j * sz)).take sz = e := by
  have h1 := flat_part es j e hj
  have h2 := flat_len_take es sz (fun j c hc => (h c (List.mem_of_getElem? hc)).1) j (Nat.le_of_lt (lt_of_get hj))
  rw [h2, (h e (List.mem_of_getElem? hj)).1] at h1
  exact h1
theorem flat_at (h : ∀ e ∈ es, e.length = sz ∧ ones e = true) {j o : Nat} {e : List Value} (hj : es[j]? = some e) (ho : o < sz) : es.flatten[j * sz + o]? = e[o]? := by
  have := flat_cut h hj
  rw [← this, List.getElem?_take_of_lt ho, List.getElem?_drop]
/-- An element is read. -/
theorem Sl.el (h : Sl A sz v es.length es.flatten) (he : ∀ e ∈ es, e.length = sz ∧ ones e = true) {j : Nat} {e : List Value} (hj : es[j]? = some e) :
    ∃ p, blkOf p = blkOf v ∧ (∀ (B : AH) (n : Int), n = (j : Int) → sIaddr B v (.int .i64 n) sz = some (p, B)) ∧ sLoadn A p sz = some (.agg e.toArray, A) ∧ ∀ B, (∀ k b, A[k]? = some b → k ∈ blkOf v → B[k]? = some b) → sLoadn B p sz = some (.agg e.toArray, B) := by
  obtain ⟨p, p1, p2⟩ := h.atn (lt_of_get hj)
  rw [flat_cut he hj] at p2
  refine ⟨p, iaddr_blk p1, ?_, p2, fun B hB => ?_⟩
  · rintro B n rfl; exact iaddr_any p1 B
  · have hb := iaddr_blk p1
    unfold sLoadn at p2 ⊢
    split at p2
    · rename_i i o
      rw [Option.bind_eq_some_iff] at p2
      obtain ⟨r, q1, q2⟩ := p2
      rw [Option.map_eq_some_iff] at q2
      obtain ⟨l, q2, q3⟩ := q2
      injection q3 with q3 q4
      obtain ⟨r1, r2, r3, r4⟩ := r
      obtain ⟨g1, g2⟩ := getRow_some q1
      have g3 := hB i _ g1 (by rw [← hb]; simp [blkOf])
      have : getRow B i = some (r1, r2, r3, r4) := by unfold getRow; simp only [g3, if_neg g2]
      simp only [this, Option.bind_some, q2, Option.map_some, q3]
    · cases p2
theorem OwnE.el (h : OwnE a0 A sz v es) {j : Nat} {e : List Value} (hj : es[j]? = some e) :
    ∃ p, blkOf p = blkOf v ∧ (∀ (B : AH) (n : Int), n = (j : Int) → sIaddr B v (.int .i64 n) sz = some (p, B)) ∧ sLoadn A p sz = some (.agg e.toArray, A) ∧ ∀ B, (∀ k b, A[k]? = some b → k ∈ blkOf v → B[k]? = some b) → sLoadn B p sz = some (.agg e.toArray, B) := Sl.el h.2.sl h.1 hj
/-- An element is written. -/
theorem OwnE.put (h : OwnE a0 A sz v es) {j : Nat} {e : List Value} (hj : j < es.length) (h1 : e.length = sz) (h2 : ones e = true) {p : Value} (hp : sIaddr A v (.int .i64 (j : Int)) sz = some (p, A)) :
    ∃ A', sStore A p (.agg e.toArray) sz = some (undef, A') ∧ OwnE a0 A' sz v (es.set j e) ∧ KeepV A v A' := by
  obtain ⟨he, hs⟩ := h
  have hfl := flat_len' he
  have hm : j * sz + sz ≤ es.length * sz := by
    have := Nat.mul_le_mul_right sz (show j + 1 ≤ es.length by omega)
    rw [Nat.add_mul, Nat.one_mul] at this
    exact this
  obtain ⟨h0, hs⟩ := hs
  rcases hs with ⟨rfl, hz⟩ | ⟨rfl, hz⟩ | ⟨i, o, c, rc, ex, rfl, k2, k3, k4, k5, k6⟩
  · omega
  · omega
  · have e1 : sIaddr A (.slice (some ⟨i, o, none⟩) es.length c) (.int .i64 (j : Int)) sz = some (.pointer (some ⟨i, o + j * sz, none⟩), A) := by
      unfold sIaddr
      simp only [asI, Option.bind_some]
      rw [if_pos ⟨by omega, by omega⟩]
      simp
    rw [e1] at hp
    injection hp with hp; injection hp with hp _; subst hp
    have ec : (Value.agg e.toArray).cells = e.toArray := rfl
    refine ⟨A.set i (.row (setAll rc (o + j * sz) e) .own sz ex), ?_, ⟨?_, ?_⟩, ?_⟩
    · unfold sStore
      rw [ec]
      simp only [List.size_toArray]
      rw [if_pos h1]
      unfold wr
      simp only [k4]
      rw [if_pos ⟨by omega, h2⟩]
      rfl
    · intro x hx
      rcases List.mem_or_eq_of_mem_set hx with hx | rfl
      · exact he x hx
      · exact ⟨h1, h2⟩
    · have he' : ∀ x ∈ es.set j e, x.length = sz ∧ ones x = true := by
        intro x hx
        rcases List.mem_or_eq_of_mem_set hx with hx | rfl
        · exact he x hx
        · exact ⟨h1, h2⟩
      have hl2 : (es.set j e).length = es.length := List.length_set ..
      refine ⟨by rw [flat_len' he'], .inr (.inr ⟨i, o, c, setAll rc (o + j * sz) e, ex, by rw [hl2], by rw [hl2]; exact k2, k3, by rw [List.getElem?_set_self (lt_of_get k4)], ?_, ?_⟩)⟩
      · rw [setAll_length _ _ _ (by omega), hl2]; exact k5
      · intro m hm2
        rw [hl2] at hm2
        have hsz : 0 < sz := by
          rcases Nat.eq_zero_or_pos sz with h | h
          · subst h; omega
          · exact h
        rw [setAll_get _ _ _ (by omega)]
        obtain ⟨q, r, rfl, hr⟩ : ∃ q r, m = q * sz + r ∧ r < sz := ⟨m / sz, m % sz, by rw [Nat.mul_comm]; exact (Nat.div_add_mod m sz).symm, Nat.mod_lt _ hsz⟩
        have hq : q < es.length := by
          rcases Nat.lt_or_ge q es.length with h | h
          · exact h
          · have := Nat.mul_le_mul_right sz h; omega
        by_cases hqj : q = j
        · subst hqj
          rw [if_pos ⟨by omega, by omega⟩, flat_at he' (j := q) (o := r) (e := e) (List.getElem?_set_self hq) hr]
          congr 1; omega
        · obtain ⟨x, hx⟩ : ∃ x, es[q]? = some x := ⟨_, List.getElem?_eq_getElem hq⟩
          have hne : ¬ (o + j * sz ≤ o + (q * sz + r) ∧ o + (q * sz + r) < o + j * sz + e.length) := by
            rintro ⟨u1, u2⟩
            rcases Nat.lt_or_gt_of_ne hqj with hlt | hgt
            · have := Nat.mul_le_mul_right sz (show q + 1 ≤ j by omega)
              rw [Nat.add_mul, Nat.one_mul] at this; omega
            · have := Nat.mul_le_mul_right sz (show j + 1 ≤ q by omega)
              rw [Nat.add_mul, Nat.one_mul] at this; omega
          rw [if_neg hne, k6 _ hm2, flat_at he hx hr, flat_at he' (e := x) (by rw [List.getElem?_set_ne (by omega)]; exact hx) hr]
    · refine ⟨by rw [List.length_set]; exact Nat.le_refl _, fun k b hb hk => ?_⟩
      rw [List.getElem?_set_ne (fun h => hk (by subst h; simp [blkOf]))]
      exact hb
theorem OwnE.le (h : OwnE a0 A sz v es) (hl : Le A B) : OwnE a0 B sz v es := ⟨h.1, h.2.le hl⟩
theorem OwnE.ge (h : OwnE a0 A sz v es) : ∀ k ∈ blkOf v, a0 ≤ k ∧ k < A.length := h.2.ge
theorem OwnE.len (h : OwnE a0 A sz v es) : sLens A false v = some (.int .i64 es.length, A) := h.2.sl.len
end
end Go.AS


namespace Go.AS
open Go
set_option linter.unusedVariables false
set_option linter.unusedSimpArgs false

/-! Lists in order by a key; rearrangements that keep what has one key in its order. -/

theorem kl_irr (a : List UInt8) : ¬ a < a := List.lt_irrefl a
section
variable {α : Type} {key : α → List UInt8}
/-- A stable rearrangement. -/
def Rk (key : α → List UInt8) (l l' : List α) : Prop := l'.length = l.length ∧ ∀ k, l'.filter (fun e => decide (key e = k)) = l.filter (fun e => decide (key e = k))
/-- In order. -/
def Srt (key : α → List UInt8) (l : List α) : Prop := l.Pairwise fun a b => ¬ key b < key a

theorem Rk.refl (l : List α) : Rk key l l := ⟨rfl, fun _ => rfl⟩
theorem Rk.trans {a b c : List α} (h : Rk key a b) (k : Rk key b c) : Rk key a c := ⟨k.1.trans h.1, fun x => (k.2 x).trans (h.2 x)⟩
theorem Rk.app {a b c d : List α} (h : Rk key a b) (k : Rk key c d) : Rk key (a ++ c) (b ++ d) :=
  ⟨by simp [h.1, k.1], fun x => by simp [List.filter_append, h.2 x, k.2 x]⟩
theorem Rk.mem {a b : List α} (h : Rk key a b) {x : α} : x ∈ b ↔ x ∈ a := by
  have := h.2 (key x)
  have e : ∀ l : List α, x ∈ l.filter (fun e => decide (key e = key x)) ↔ x ∈ l := fun l => by simp
  rw [← e b, this, e a]
theorem Srt.app {a b : List α} (ha : Srt key a) (hb : Srt key b) (h : ∀ x ∈ a, ∀ y ∈ b, ¬ key y < key x) : Srt key (a ++ b) :=
  List.pairwise_append.2 ⟨ha, hb, h⟩
theorem Srt.left {a b : List α} (h : Srt key (a ++ b)) : Srt key a := (List.pairwise_append.1 h).1
theorem Srt.right {a b : List α} (h : Srt key (a ++ b)) : Srt key b := (List.pairwise_append.1 h).2.1
theorem Srt.get {l : List α} (h : Srt key l) {i j : Nat} {x y : α} (hi : l[i]? = some x) (hj : l[j]? = some y) (hij : i ≤ j) : ¬ key y < key x := by
  rcases Nat.lt_or_ge i j with hlt | hge
  · obtain ⟨h1, h2⟩ := List.getElem?_eq_some_iff.1 hi
    obtain ⟨h3, h4⟩ := List.getElem?_eq_some_iff.1 hj
    have := List.pairwise_iff_getElem.1 h i j h1 h3 hlt
    rw [h2, h4] at this
    exact this
  · have : i = j := by omega
    subst this
    rw [hi] at hj
    obtain rfl := Option.some.inj hj
    exact kl_irr _
theorem Srt.one (x : α) : Srt key [x] := by simp [Srt]
theorem Srt.nil : Srt key ([] : List α) := by simp [Srt]
end
end Go.AS


namespace Go.AS
open Go
set_option maxRecDepth 100000
/-! Codes of library functions that are alike in many chapters (printed by geni.py). -/
end Go.AS


namespace Go.AS
open Go
set_option linter.unusedVariables false
set_option linter.unusedSimpArgs false
set_option maxRecDepth 10000

section
variable {G : Nat} {P : Program} (hm : P.follows .mixedOrders = true) {sz a0 : Nat} {A : AH} {v fv : Value} {Q : Value → AH → Prop}
include hm
end
end Go.AS


namespace Go.AS
open Go
set_option linter.unusedVariables false
set_option linter.unusedSimpArgs false
set_option maxRecDepth 10000

section
variable {G : Nat} {P : Program} (hm : P.follows .mixedOrders = true) {sz a0 : Nat} {A : AH} {v fv : Value} {Q : Value → AH → Prop} {dom : List Value → Prop} {key : List Value → List UInt8}
include hm
end
end Go.AS


namespace Go.AS
open Go
set_option linter.unusedVariables false
set_option linter.unusedSimpArgs false

section
variable {α : Type} {key : α → List UInt8}
theorem get_some {l : List α} {k : Nat} (h : k < l.length) : ∃ x, l[k]? = some x := ⟨_, List.getElem?_eq_getElem h⟩
end
end Go.AS


namespace Go.AS
open Go
set_option linter.unusedVariables false
set_option linter.unusedSimpArgs false
set_option maxRecDepth 10000

section
variable {G : Nat} {P : Program} (hm : P.follows .mixedOrders = true) {sz : Nat} {fv : Value} {dom : List Value → Prop} {key : List Value → List UInt8}

section
variable {A : AH} {v : Value} {a0 : Nat} {X Y : List (List Value)} {r : AT} {R : Exit → AT → AH → Prop}
include hm in
end
end
end Go.AS


namespace Go.AS
open Go
set_option linter.unusedVariables false
set_option linter.unusedSimpArgs false
set_option maxRecDepth 10000

section
variable {G : Nat} {P : Program} (hm : P.follows .mixedOrders = true) {sz : Nat} {fv : Value} {dom : List Value → Prop} {key : List Value → List UInt8}
include hm in
end
end Go.AS


namespace Go.AS
open Go
set_option linter.unusedVariables false
set_option linter.unusedSimpArgs false
set_option maxRecDepth 10000

section
variable {α : Type} {key : α → List UInt8}
/-- In order in parts of so many. -/
def ChS (key : α → List UInt8) (bs : Nat) (l : List α) : Prop := ∀ i, Srt key ((l.drop (i * bs)).take bs)
theorem ChS.nil {bs : Nat} : ChS key bs ([] : List α) := fun i => by simp [Srt]
theorem ChS.push {bs i : Nat} {D S : List α} (h : ChS key bs D) (hD : D.length = i * bs) (hS : S.length ≤ bs) (hs : Srt key S) : ChS key bs (D ++ S) := by
  intro j
  rcases Nat.lt_trichotomy j i with hj | hj | hj
  · have : j * bs + bs ≤ D.length := by
      rw [hD]
      have := Nat.mul_le_mul_right bs (show j + 1 ≤ i by omega)
      rw [Nat.add_mul, Nat.one_mul] at this; exact this
    rw [List.drop_append_of_le_length (by omega), List.take_append_of_le_length (by rw [List.length_drop]; omega)]
    exact h j
  · subst hj
    rw [← hD, List.drop_left, List.take_of_length_le hS]
    exact hs
  · have : (D ++ S).length ≤ j * bs := by
      rw [List.length_append, hD]
      have := Nat.mul_le_mul_right bs (show i + 1 ≤ j by omega)
      rw [Nat.add_mul, Nat.one_mul] at this; omega
    rw [List.drop_of_length_le this]
    simp [Srt]
theorem ChS.all {bs : Nat} {l : List α} (h : ChS key bs l) (hl : l.length ≤ bs) : Srt key l := by
  have := h 0
  rw [Nat.zero_mul, List.drop_zero, List.take_of_length_le hl] at this
  exact this
end

section
variable {G : Nat} {P : Program} (hm : P.follows .mixedOrders = true) {sz a0 : Nat} {A : AH} {v fv : Value} {Q : Value → AH → Prop} {dom : List Value → Prop} {key : List Value → List UInt8}
include hm
end
end Go.AS


namespace Go.AS
open Go
set_option linter.unusedVariables false
set_option linter.unusedSimpArgs false

/-! Slices of elements: cut, cleared, appended to. -/
section
variable {A B C A0 : AH} {v w u : Value} {sz n a0 l k : Nat} {cs e z : List Value} {es fs : List (List Value)} {lo hi : Option Value}

theorem flatten_cut (h : ∀ e ∈ es, e.length = sz ∧ ones e = true) (hlk : l ≤ k) (hk : k ≤ es.length) : ((es.take k).drop l).flatten = (es.flatten.drop (l * sz)).take ((k - l) * sz) := by
  have ht : ∀ j, j ≤ es.length → (es.take j).flatten.length = j * sz := fun j hj => flat_len_take es sz (fun j c hc => (h c (List.mem_of_getElem? hc)).1) j hj
  have e1 : es.flatten = ((es.take k).take l).flatten ++ (((es.take k).drop l).flatten ++ (es.drop k).flatten) := by
    rw [← List.append_assoc, ← List.flatten_append, List.take_append_drop, ← List.flatten_append, List.take_append_drop]
  have l1 : ((es.take k).take l).flatten.length = l * sz := by
    rw [List.take_take, Nat.min_eq_left hlk]; exact ht l (by omega)
  have l2 : ((es.take k).drop l).flatten.length = (k - l) * sz := by
    have := ht k hk
    rw [← List.take_append_drop l (es.take k), List.flatten_append, List.length_append, l1] at this
    rw [Nat.sub_mul]; omega
  rw [e1, ← l1, List.drop_left, ← l2, List.take_left]
/-- A part of a slice. -/
theorem OwnE.cut (h : OwnE a0 A sz v es) (hlk : l ≤ k) (hk : k ≤ es.length) (hb : ∀ c, es.length ≤ c → boundsA es.length c lo hi none = some (l, k, c)) :
    ∃ u, (∀ j ∈ blkOf u, j ∈ blkOf v) ∧ (∃ p c, u = .slice p (k - l) c) ∧ ∀ B fs, OwnE a0 B sz v fs → fs.length = es.length → sSll B v lo hi none sz = some (u, B) ∧ OwnE a0 B sz u ((fs.take k).drop l) := by
  obtain ⟨he, h0, h⟩ := h
  have mem : ∀ fs : List (List Value), (∀ e ∈ fs, e.length = sz ∧ ones e = true) → ∀ e ∈ (fs.take k).drop l, e.length = sz ∧ ones e = true := fun fs hf e hx => hf e (List.mem_of_mem_take (List.mem_of_mem_drop hx))
  rcases h with ⟨rfl, hz⟩ | ⟨rfl, hz⟩ | ⟨i, o, c, rc, ex, rfl, h2, h3, h4, h5, h6⟩
  · have : l = 0 := by omega
    have : k = 0 := by omega
    subst l k
    refine ⟨.slice none 0 0, fun j hj => hj, ⟨_, _, rfl⟩, fun B fs hf hl => ⟨?_, ?_⟩⟩
    · rw [hz] at hb
      unfold sSll
      simp only [hb 0 (Nat.le_refl _)]
      rfl
    · exact ⟨fun e hx => by simp at hx, OwnS.nil _ _ _⟩
  · have : l = 0 := by omega
    have : k = 0 := by omega
    subst l k
    refine ⟨.slice (some zmk) 0 0, fun j hj => hj, ⟨_, _, rfl⟩, fun B fs hf hl => ⟨?_, ?_⟩⟩
    · rw [hz] at hb
      unfold sSll zmk
      simp only [hb 0 (Nat.le_refl _)]
      rfl
    · exact ⟨fun e hx => by simp at hx, by simp, .inr (.inl ⟨rfl, rfl⟩)⟩
  · refine ⟨.slice (some ⟨i, o + l * sz, none⟩) (k - l) (c - l), fun j hj => hj, ⟨_, _, rfl⟩, fun B fs hf hl => ?_⟩
    obtain ⟨hf1, hf0, hf⟩ := hf
    have hlen : ((fs.take k).drop l).length = k - l := by rw [List.length_drop, List.length_take]; omega
    have hmul : l * sz + (k - l) * sz ≤ es.length * sz := by rw [← Nat.add_mul]; exact Nat.mul_le_mul_right _ (by omega)
    rcases hf with ⟨q, _⟩ | ⟨q, _⟩ | ⟨i', o', c', rc', ex', q, q2, q3, q4, q5, q6⟩
    · cases q
    · cases q
    · injection q with q q7 q8
      injection q with q
      injection q with q9 q10
      subst q9 q10 q8
      constructor
      · unfold sSll
        simp only [hb c h2, Option.bind_some]
        unfold rowSz
        rw [q4]
        simp
      · refine ⟨mem fs hf1, by rw [flat_len' (mem fs hf1)], .inr (.inr ⟨i, o + l * sz, c - l, rc', ex', by rw [hlen], by rw [hlen]; omega, q3, q4, by rw [hlen]; rw [hl] at q5; omega, ?_⟩)⟩
        intro j hj
        rw [hlen] at hj
        rw [flatten_cut hf1 hlk (by omega), List.getElem?_take_of_lt hj, List.getElem?_drop, Nat.add_assoc, q6 _ (by rw [hl]; omega)]
theorem ones_rep (hz : ones z = true) (m : Nat) : ones ((List.replicate m z).flatten) = true := by
  unfold ones at *
  rw [List.all_eq_true] at *
  intro x hx
  obtain ⟨l, h1, h2⟩ := List.mem_flatten.1 hx
  rw [List.mem_replicate] at h1
  rw [h1.2] at h2
  exact hz x h2
/-- What stands from l on is cleared. -/
theorem OwnE.clr (h : OwnE a0 A sz v es) (hl : l ≤ es.length) (hz : z.length = sz) (hz1 : ones z = true) (hu : sSll A v (some (.int .i64 (l : Int))) none none sz = some (u, A)) :
    ∃ A', sClr A u z = some (undef, A') ∧ OwnE a0 A' sz v (es.take l ++ List.replicate (es.length - l) z) ∧ KeepV A v A' := by
  have hE := h
  obtain ⟨he, h0, h⟩ := h
  have hb : ∀ c, es.length ≤ c → boundsA es.length c (some (ii l)) none none = some (l, es.length, c) := fun c hc => bnd_lo hl hc
  rcases h with ⟨rfl, hzz⟩ | ⟨rfl, hzz⟩ | ⟨i, o, c, rc, ex, rfl, h2, h3, h4, h5, h6⟩
  · have : l = 0 := by omega
    subst l
    have hes : es = [] := List.length_eq_zero_iff.1 hzz
    subst hes
    have : sSll A (.slice none 0 0) (some (ii (0 : Nat))) none none sz = some (.slice none 0 0, A) := rfl
    rw [show (Value.int .i64 ((0 : Nat) : Int)) = ii (0 : Nat) from rfl, this] at hu
    injection hu with hu; injection hu with hu; subst hu
    exact ⟨A, rfl, hE, .refl _ _⟩
  · have : l = 0 := by omega
    subst l
    have hes : es = [] := List.length_eq_zero_iff.1 hzz
    subst hes
    have : sSll A (.slice (some zmk) 0 0) (some (ii (0 : Nat))) none none sz = some (.slice (some zmk) 0 0, A) := rfl
    rw [show (Value.int .i64 ((0 : Nat) : Int)) = ii (0 : Nat) from rfl, this] at hu
    injection hu with hu; injection hu with hu; subst hu
    exact ⟨A, rfl, hE, .refl _ _⟩
  · have e : sSll A (.slice (some ⟨i, o, none⟩) es.length c) (some (.int .i64 (l : Int))) none none sz = some (.slice (some ⟨i, o + l * sz, none⟩) (es.length - l) (c - l), A) := by
      unfold sSll
      have := hb c h2
      unfold ii at this
      simp only [this, Option.bind_some]
      unfold rowSz
      rw [h4]
      simp
    rw [e] at hu
    injection hu with hu; injection hu with hu _; subst hu
    by_cases hm : es.length - l = 0
    · rw [hm]
      have : l = es.length := by omega
      subst this
      refine ⟨A, rfl, ?_, .refl _ _⟩
      rw [List.take_length]
      simpa using hE
    · obtain ⟨m, hm'⟩ : ∃ m, es.length - l = m + 1 := ⟨es.length - l - 1, by omega⟩
      have hmul : l * sz + (es.length - l) * sz = es.length * sz := by rw [← Nat.add_mul]; congr 1; omega
      have hrl : ((List.replicate (m + 1) z).flatten).length = (m + 1) * sz := by rw [rep_length, hz]
      rw [hm'] at hmul ⊢
      refine ⟨A.set i (.row (setAll rc (o + l * sz) ((List.replicate (m + 1) z).flatten)) .own sz ex), ?_, ⟨?_, ?_⟩, ?_⟩
      · show (wr A i (o + l * sz) _).map _ = _
        unfold wr
        simp only [h4]
        rw [if_pos ⟨by rw [hrl]; omega, ones_rep hz1 _⟩]
        rfl
      · intro x hx
        rcases List.mem_append.1 hx with hx | hx
        · exact he x (List.mem_of_mem_take hx)
        · rw [(List.mem_replicate.1 hx).2]; exact ⟨hz, hz1⟩
      · have hll : (es.take l ++ List.replicate (m + 1) z).length = es.length := by simp; omega
        have hfl : (es.take l).flatten.length = l * sz := flat_len_take es sz (fun j c hc => (he c (List.mem_of_getElem? hc)).1) l hl
        refine ⟨by rw [hll, List.flatten_append, List.length_append, hfl, hrl]; omega, .inr (.inr ⟨i, o, c, _, ex, by rw [hll], by rw [hll]; exact h2, h3, by rw [List.getElem?_set_self (lt_of_get h4)], ?_, ?_⟩)⟩
        · rw [setAll_length _ _ _ (by rw [hrl]; omega), hll]; exact h5
        · intro j hj
          rw [hll] at hj
          rw [setAll_get _ _ _ (by rw [hrl]; omega), List.flatten_append, hrl]
          rcases Nat.lt_or_ge j (l * sz) with hlt | hge
          · rw [if_neg (by omega), h6 _ hj, List.getElem?_append_left (by omega)]
            conv => lhs; rw [← List.take_append_drop l es, List.flatten_append]
            rw [List.getElem?_append_left (by omega)]
          · rw [if_pos (by omega), List.getElem?_append_right (by omega), hfl]
            congr 1; omega
      · refine ⟨by rw [List.length_set]; exact Nat.le_refl _, fun k b hb' hk => ?_⟩
        rw [List.getElem?_set_ne (fun h => hk (by subst h; simp [blkOf]))]
        exact hb'
theorem OwnE.nil (a0 : Nat) (A : AH) (sz : Nat) : OwnE a0 A sz (.slice none 0 0) [] := ⟨(fun e h => by cases h), OwnS.nil _ _ _⟩
/-- One more element. -/
theorem OwnE.push {bytes : Nat} (hl : Le A0 A) (h : OwnE A0.length A sz v es) (hsz : 0 < sz) (he : e.length = sz) (ho : ones e = true) (hb : 2 * ((es.length + 1) * bytes) ≤ 2 ^ 48) (hb0 : 0 < bytes) :
    ∃ v' A', sApp (A ++ [.row e .own sz true]) v (.slice (some ⟨A.length, 0, none⟩) 1 1) sz bytes = some (v', A') ∧ Le A0 A' ∧ OwnE A0.length A' sz v' (es ++ [e]) ∧ KeepV A v A' ∧ (blkOf v' = [A.length + 1] ∨ blkOf v' = blkOf v) := by
  have k1 : Le A (A ++ [.row e .own sz true]) := .push _ _
  have hs : Sl (A ++ [.row e .own sz true]) sz (.slice (some ⟨A.length, 0, none⟩) 1 1) 1 e :=
    ⟨by simp [he], .inr (.inr ⟨A.length, 0, 1, e, .own, true, rfl, by omega, by simp, by simp, by simp [he], fun j _ => by rw [Nat.zero_add]⟩)⟩
  obtain ⟨v', A', e1, e2, e3, e4⟩ := app_cells (bytes := bytes) (hl.trans k1) (h.2.le k1) hs ho hsz hb hb0
  have hf := app_fresh rfl (by simp) e1
  have hle := k1.len
  refine ⟨v', A', e1, e2, ⟨?_, ?_⟩, ⟨?_, fun i b hb hi => e4 i b (k1.get hb) (fun o c q => hi (by rw [q]; simp [blkOf]))⟩, by simpa using hf⟩
  · intro x hx
    rcases List.mem_append.1 hx with hx | hx
    · exact h.1 x hx
    · rw [List.mem_singleton.1 hx]; exact ⟨he, ho⟩
  · simpa using e3
  · refine Nat.le_trans hle ?_
    have : ∀ i, i < (A ++ [Blk.row e .own sz true]).length → i ∉ blkOf v → i < A'.length := by
      intro i hi hv
      exact lt_of_get (e4 i _ (List.getElem?_eq_getElem hi) (fun o c q => hv (by rw [q]; simp [blkOf])))
    have hlast := this A.length (by simp) (fun hv => by have := (h.2.ge A.length hv).2; omega)
    simp
    omega
end
end Go.AS


namespace Go.AS
open Go
set_option maxRecDepth 100000
/-! Codes of library functions that are alike in many chapters (printed by geni.py). -/
end Go.AS


namespace Go.AS
open Go
set_option linter.unusedVariables false
set_option linter.unusedSimpArgs false
set_option maxRecDepth 10000

section
variable {α : Type} {key : α → List UInt8}
/-- What keeps the order of what has one key keeps the first with each. -/
theorem Rk.find {a b : List α} (h : Rk key a b) (k : List UInt8) : b.find? (fun e => decide (key e = k)) = a.find? (fun e => decide (key e = k)) := by
  rw [← List.head?_filter, ← List.head?_filter, h.2 k]
end

section
variable {G : Nat} {P : Program} (hm : P.follows .mixedOrders = true) {sz a0 : Nat} {A : AH} {v fv : Value} {Q : Value → AH → Prop} {dom : List Value → Prop} {key : List Value → List UInt8}
include hm
end
end Go.AS


namespace Go.AS
open Go
set_option linter.unusedVariables false
set_option linter.unusedSimpArgs false

/-! One by one into a list that rises; what has the key of one that is there goes. -/
section
variable {α β : Type} {key : α → List UInt8}
theorem Rk.map {f : β → α} {kb : β → List UInt8} {a b : List β} (h : Rk kb a b) (hk : ∀ x ∈ a, kb x = key (f x)) : Rk key (a.map f) (b.map f) := by
  refine ⟨by simp [h.1], fun k => ?_⟩
  have aux : ∀ l : List β, (∀ x ∈ l, kb x = key (f x)) → (l.map f).filter (fun e => decide (key e = k)) = (l.filter (fun e => decide (kb e = k))).map f := by
    intro l hl
    rw [List.filter_map]
    congr 1
    apply List.filter_congr
    intro x hx
    simp [hl x hx]
  rw [aux b (fun x hx => hk x (h.mem.1 hx)), aux a hk, h.2 k]
theorem Srt.map {f : β → α} {kb : β → List UInt8} {a : List β} (h : Srt kb a) (hk : ∀ x ∈ a, kb x = key (f x)) : Srt key (a.map f) := by
  unfold Srt at *
  rw [List.pairwise_map]
  exact h.imp_of_mem (fun {x y} hx hy hxy => by rw [← hk x hx, ← hk y hy]; exact hxy)
end
end Go.AS


namespace Go.AS
open Go
set_option linter.unusedVariables false
set_option linter.unusedSimpArgs false

/-! Texts: their order. -/
abbrev bl (s : ByteArray) : List UInt8 := s.data.toList
section
variable {A B : AH} {sz n : Nat} {v x : Value} {cs : List Value}
end
end Go.AS


namespace Go.AS.C
open Go Go.Proofs
set_option linter.unusedVariables false
set_option linter.unusedSimpArgs false
set_option maxRecDepth 10000

/-! Operations, as plain data. -/
theorem textC_text {t : List UInt8} (h : t.length ≤ 262144) (r : List UInt8) : textC (some (textN t ++ r)) = (some r, t) := by
  unfold textC textN
  rw [List.append_assoc]
  simp only [getN_put (n := t.length) (by omega), List.drop_left]
  rw [if_pos h]
  unfold takeC
  simp only [Int.toNat_natCast]
  rw [if_pos ⟨by omega, by rw [List.length_append]; omega⟩, List.drop_left, List.take_left]
theorem textC_ok {l l1 t : List UInt8} (h : textC (some l) = (some l1, t)) : l = textN t ++ l1 := by
  unfold textC at h
  simp only at h
  split at h
  · rename_i n k hg
    obtain ⟨_, _, _, _, h5⟩ := getN_ok hg
    split at h
    · unfold takeC at h
      simp only [Int.toNat_natCast] at h
      split at h
      · rename_i hn
        injection h with h1 h2
        injection h1 with h1
        subst h1 h2
        have ht : ((l.drop k).take n).length = n := by rw [List.length_take]; omega
        unfold textN
        rw [ht, h5, List.append_assoc, List.take_append_drop, List.take_append_drop]
      · injection h with h1 _
        cases h1
    · injection h with h1 _
      cases h1
  · injection h with h1 _
    cases h1
theorem takeC_all {l r : List UInt8} {n : Nat} (h : l.length = n) : takeC (some (l ++ r)) n = (some r, l) := by
  subst h
  unfold takeC
  simp only [Int.toNat_natCast]
  rw [if_pos ⟨by omega, by rw [List.length_append]; omega⟩, List.drop_left, List.take_left]
theorem takeC_ok {l r t : List UInt8} {n : Nat} (h : takeC (some l) n = (some r, t)) : l = t ++ r ∧ t.length = n := by
  unfold takeC at h
  simp only [Int.toNat_natCast] at h
  split at h
  · injection h with h1 h2
    injection h1 with h1
    subst h1 h2
    exact ⟨(List.take_append_drop ..).symm, by rw [List.length_take]; omega⟩
  · injection h with h1 _; cases h1
theorem leB_leN : ∀ l : List UInt8, leB (leN l) l.length = l
  | [] => rfl
  | b :: r => by
    have e : leB (leN (b :: r)) (r.length + 1) = UInt8.ofNat (leN (b :: r)) :: leB (leN (b :: r) / 256) r.length := by
      unfold leB
      rw [List.range_succ_eq_map, List.map_cons, List.map_map]
      congr 1
      · simp
      apply List.map_congr_left
      intro k _
      show UInt8.ofNat (_ / 2 ^ (8 * (k + 1))) = UInt8.ofNat (_ / 256 / 2 ^ (8 * k))
      rw [Nat.div_div_eq_div_mul, show 2 ^ (8 * (k + 1)) = 256 * 2 ^ (8 * k) by rw [Nat.mul_add, Nat.pow_add, Nat.mul_comm]]
    have hb := b.toNat_lt
    rw [List.length_cons, e]
    simp only [leN]
    rw [show (b.toNat + 256 * leN r) / 256 = leN r by omega, leB_leN r]
    congr 1
    apply UInt8.toNat_inj.1
    rw [UInt8.toNat_ofNat']
    omega

structure OpV where
  k : Int
  name : ByteArray
  text : ByteArray
  n : Int
  place : ByteArray
  deriving DecidableEq
abbrev bA (l : List UInt8) : ByteArray := ⟨l.toArray⟩
abbrev e0 : ByteArray := ⟨#[]⟩
theorem bA_bl (s : ByteArray) : bA (bl s) = s := by cases s; rfl
theorem bl_bA (l : List UInt8) : bl (bA l) = l := rfl
theorem bl_size (s : ByteArray) : (bl s).length = s.size := byt_str
def OpV.cs (o : OpV) : List Value := [ii o.k, .string o.name, .string o.text, ii o.n, .string o.place]
abbrev OpV.v (o : OpV) : Value := .agg o.cs.toArray
def OpV.zero : OpV := ⟨0, e0, e0, 0, e0⟩

/-- An operation that a machine holds. -/
def OpV.Fin (o : OpV) : Prop := (-9223372036854775808 ≤ o.k ∧ o.k < 9223372036854775808) ∧ (-9223372036854775808 ≤ o.n ∧ o.n < 9223372036854775808) ∧ o.name.size < 2 ^ 50 ∧ o.text.size < 2 ^ 50 ∧ o.place.size < 2 ^ 50
def hK (k : Int) : Bool := decide (1 ≤ k ∧ k ≤ 7)
def hN (k : Int) : Bool := decide (1 ≤ k ∧ k ≤ 6)
def hT (k : Int) : Bool := decide (2 ≤ k ∧ k ≤ 5)
def hI (k : Int) : Bool := decide (k = 1)
def hA (k : Int) : Bool := decide (5 ≤ k ∧ k ≤ 6)
def hasO (k : Int) : Int := if k = 1 then 5 else if k = 2 ∨ k = 3 ∨ k = 4 then 3 else if k = 5 then 11 else if k = 6 then 9 else if k = 7 then 0 else -1
def nameB (b : UInt8) : Bool := decide (97 ≤ b.toNat ∧ b.toNat ≤ 122 ∨ 48 ≤ b.toNat ∧ b.toNat ≤ 57 ∨ b.toNat = 45)
def nameOk (s : ByteArray) : Bool := (bl s).all nameB && decide (1 ≤ s.size ∧ s.size ≤ 12)
def opOk (o : OpV) : Bool := hK o.k && (if hN o.k then nameOk o.name else decide (o.name = e0)) && decide (o.text.size ≤ 48) && (hT o.k || decide (o.text = e0)) && (hI o.k || decide (o.n = 0)) && (hA o.k || decide (o.place = e0)) &&
  decide (-2147483647 ≤ o.n ∧ o.n ≤ 2147483647) && (decide (o.place = e0) || decide (o.place.size = 32)) && !(decide (o.k = 5) && decide (o.text = e0)) && !(decide (o.k = 6) && decide (o.place = e0))
def bareO (o : OpV) : OpV := ⟨o.k, if hN o.k then o.name else e0, if hT o.k then o.text else e0, if hI o.k then o.n else 0, if hA o.k then o.place else e0⟩
def numO (n : Int) : List UInt8 := (if n < 0 then 1 else 0) :: leB n.natAbs 4
/-- An operation's bytes. -/
def putO (o : OpV) : List UInt8 := UInt8.ofNat o.k.toNat :: ((if hN o.k then textN (bl o.name) else []) ++ ((if hT o.k then textN (bl o.text) else []) ++ ((if hI o.k then numO o.n else []) ++ ((if o.k = 5 then [if o.place = e0 then 0 else 1] else []) ++ bl o.place))))

def tIf (b : Bool) (st : CurS) : CurS × List UInt8 := if b then textC st else (st, [])
def numS (st : CurS) : CurS × Int × Bool :=
  ((takeC (byteC st).1 4).1, if 1 < (byteC st).2 ∨ ((byteC st).2 = 1 ∧ (unfixN (takeC (byteC st).1 4).2).1 = 0) then (0, false) else (((unfixN (takeC (byteC st).1 4).2).1 : Int) * (1 - 2 * ((byteC st).2 : Int)), decide ((unfixN (takeC (byteC st).1 4).2).2 = 0)))
def nIf (b : Bool) (st : CurS) : CurS × Int × Bool := if b then numS st else (st, 0, true)
def plS (k : Int) (st : CurS) : CurS × List UInt8 × Bool :=
  if k = 5 then (if (byteC st).2 = 0 then ((byteC st).1, [], true) else if (byteC st).2 = 1 then ((takeC (byteC st).1 32).1, (takeC (byteC st).1 32).2, true) else ((byteC st).1, [], false)) else ((takeC st 32).1, (takeC st 32).2, true)
def pIf (b : Bool) (k : Int) (st : CurS) : CurS × List UInt8 × Bool := if b then plS k st else (st, [], true)
/-- What op.Get takes, whether numbers and places are right. -/
def parseP (st0 : CurS) : OpV × CurS × Bool :=
  let k : Int := (byteC st0).2
  let s1 := tIf (hN k) (byteC st0).1
  let s2 := tIf (hT k) s1.1
  let s3 := nIf (hI k) s2.1
  let s4 := pIf (hA k) k s3.1
  (⟨k, bA s1.2, bA s2.2, s3.2.1, bA s4.2.1⟩, s4.1, s3.2.2 && s4.2.2)
def getP (bs : List UInt8) : Option (OpV × Nat) :=
  if (parseP (some bs)).2.1.isSome && (parseP (some bs)).2.2 && opOk (parseP (some bs)).1 then some ((parseP (some bs)).1, bs.length - leftC (parseP (some bs)).2.1) else none
theorem opOk_iff {o : OpV} : opOk o = true ↔ hK o.k = true ∧ (if hN o.k then nameOk o.name = true else o.name = e0) ∧ o.text.size ≤ 48 ∧ (hT o.k = true ∨ o.text = e0) ∧ (hI o.k = true ∨ o.n = 0) ∧ (hA o.k = true ∨ o.place = e0) ∧
    (-2147483647 ≤ o.n ∧ o.n ≤ 2147483647) ∧ (o.place = e0 ∨ o.place.size = 32) ∧ ¬ (o.k = 5 ∧ o.text = e0) ∧ ¬ (o.k = 6 ∧ o.place = e0) := by
  unfold opOk
  simp only [Bool.and_eq_true, Bool.or_eq_true, decide_eq_true_eq, Bool.not_eq_true', Bool.and_eq_false_imp, decide_eq_false_iff_not, not_and, and_assoc]
  cases hN o.k <;> simp
theorem nameOk_size {s : ByteArray} (h : nameOk s = true) : 1 ≤ s.size ∧ s.size ≤ 12 := by
  unfold nameOk at h
  rw [Bool.and_eq_true, decide_eq_true_eq] at h
  exact h.2
theorem byteC_cons (b : UInt8) (r : List UInt8) : byteC (some (b :: r)) = (some r, b.toNat) := rfl
theorem numS_num {n : Int} (h : -2147483647 ≤ n ∧ n ≤ 2147483647) (r : List UInt8) : numS (some (numO n ++ r)) = (some r, n, true) := by
  have hu : unfixN (leB n.natAbs 4) = (n.natAbs, 0) := by
    unfold unfixN
    rw [leB_length, if_neg (by omega), leN_leB _ _ (by omega), if_pos (by omega)]
  unfold numS numO
  rw [List.cons_append, byteC_cons]
  have e : takeC (some (leB n.natAbs 4 ++ r)) (4 : Int) = (some r, leB n.natAbs 4) := takeC_all (n := 4) (leB_length _ _)
  simp only [e, hu]
  by_cases hn : n < 0
  · rw [if_pos hn]
    have e1 : (1 : UInt8).toNat = 1 := rfl
    rw [e1, if_neg (by omega)]
    simp
    omega
  · rw [if_neg hn]
    have e1 : (0 : UInt8).toNat = 0 := rfl
    rw [e1, if_neg (by omega)]
    simp
    omega
theorem numS_ok {l r : List UInt8} {n : Int} (h : numS (some l) = (some r, n, true)) : l = numO n ++ r := by
  unfold numS at h
  cases l with
  | nil => injection h with h1 _; cases h1
  | cons s l =>
    rw [byteC_cons] at h
    simp only at h
    cases ht : takeC (some l) 4 with
    | mk st t =>
      rw [ht] at h
      simp only at h
      cases st with
      | none => injection h with h1 _; cases h1
      | some r' =>
        obtain ⟨e1, e2⟩ := takeC_ok (n := 4) ht
        injection h with h1 h2
        injection h1 with h1
        subst h1
        split at h2
        · injection h2 with _ h2; cases h2
        · rename_i hc
          injection h2 with h2 h3
          rw [decide_eq_true_eq] at h3
          have hu : unfixN t = (leN t, 0) := by
            unfold unfixN at h3 ⊢
            rw [if_neg (by omega)] at h3 ⊢
            split at h3
            · rename_i h; rw [if_pos h]
            · cases h3
          rw [hu] at h2 hc
          simp only at h2 hc
          have hl := leB_leN t
          rw [e2] at hl
          unfold numO
          have hs := s.toNat_lt
          rw [List.cons_append, e1]
          rcases Nat.lt_or_ge s.toNat 1 with h0 | h0
          · have e3 : s.toNat = 0 := by omega
            have e4 : n = leN t := by rw [← h2, e3]; simp
            have e5 : s = 0 := UInt8.toNat_inj.1 e3
            rw [if_neg (by omega), e4, Int.natAbs_natCast, hl, e5]
          · have e3 : s.toNat = 1 := by omega
            have e4 : n = -(leN t : Int) := by rw [← h2, e3]; simp
            have e5 : s = 1 := UInt8.toNat_inj.1 e3
            rw [if_pos (by omega), e4, Int.natAbs_neg, Int.natAbs_natCast, hl, e5]
theorem plS_five {s : ByteArray} (h : s = e0 ∨ s.size = 32) (r : List UInt8) : plS 5 (some ((if s = e0 then (0 : UInt8) else 1) :: (bl s ++ r))) = (some r, bl s, true) := by
  unfold plS
  rw [if_pos rfl, byteC_cons]
  by_cases h0 : s = e0
  · rw [if_pos h0, h0]; rfl
  · rw [if_neg h0]
    have e : takeC (some (bl s ++ r)) (32 : Int) = (some r, bl s) := takeC_all (n := 32) (by rw [bl_size]; exact h.resolve_left h0)
    simp only [e]; rfl
theorem opKind {k : Int} (h : hK k = true) : k = 1 ∨ k = 2 ∨ k = 3 ∨ k = 4 ∨ k = 5 ∨ k = 6 ∨ k = 7 := by
  unfold hK at h
  rw [decide_eq_true_eq] at h
  omega
theorem parseP_put {o : OpV} (h : opOk o = true) (r : List UInt8) : parseP (some (putO o ++ r)) = (o, some r, true) := by
  obtain ⟨h1, h2, h3, h4, h5, h6, h7, h8, h9, h10⟩ := opOk_iff.1 h
  obtain ⟨k, name, text, n, place⟩ := o
  simp only at h1 h2 h3 h4 h5 h6 h7 h8 h9 h10
  have ht := fun r => textC_text (t := bl text) (by rw [bl_size]; omega) r
  have hp6 : k = 6 → ∀ r, takeC (some (bl place ++ r)) (32 : Int) = (some r, bl place) := fun hk r => takeC_all (n := 32) (by rw [bl_size]; exact h8.resolve_left (fun h => h10 ⟨hk, h⟩))
  have hp5 := fun r => plS_five h8 r
  have hnn := fun r => numS_num h7 r
  have hname : hN k = true → ∀ r, textC (some (textN (bl name) ++ r)) = (some r, bl name) := fun hk r => textC_text (by rw [hk, if_pos rfl] at h2; have := nameOk_size h2; rw [bl_size]; omega) r
  unfold parseP putO
  rcases opKind h1 with rfl | rfl | rfl | rfl | rfl | rfl | rfl
  all_goals (
    rw [List.cons_append, byteC_cons]
    simp only [hN, hT, hI, hA, tIf, nIf, pIf, decide_true, decide_false, if_true, if_false, Bool.false_eq_true, List.append_assoc, List.nil_append, Int.reduceToNat, Int.reduceEq, Int.reduceLE, and_true, true_and, false_and, and_false, List.cons_append] at hname h2 h4 h5 h6 h9 h10 ⊢)
  · obtain rfl := h4.resolve_left (by simp)
    obtain rfl := h6.resolve_left (by simp)
    simp [hname, hnn, bA_bl]
  · obtain rfl := h5.resolve_left (by simp)
    obtain rfl := h6.resolve_left (by simp)
    simp [hname, ht, bA_bl]
  · obtain rfl := h5.resolve_left (by simp)
    obtain rfl := h6.resolve_left (by simp)
    simp [hname, ht, bA_bl]
  · obtain rfl := h5.resolve_left (by simp)
    obtain rfl := h6.resolve_left (by simp)
    simp [hname, ht, bA_bl]
  · obtain rfl := h5.resolve_left (by simp)
    simp [hname, ht, hp5, bA_bl]
  · obtain rfl := h4.resolve_left (by simp)
    obtain rfl := h5.resolve_left (by simp)
    simp [hname, plS, hp6, bA_bl]
  · obtain rfl := h4.resolve_left (by simp)
    obtain rfl := h5.resolve_left (by simp)
    obtain rfl := h6.resolve_left (by simp)
    subst h2
    simp
theorem tIf_none {b : Bool} {r : List UInt8} {st : CurS} {t : List UInt8} (h : tIf b st = (some r, t)) : ∃ l, st = some l ∧ l = (if b = true then textN t else []) ++ r ∧ (b = false → t = []) := by
  cases st with
  | none => unfold tIf at h; cases b <;> simp [textC] at h
  | some l =>
    refine ⟨l, rfl, ?_⟩
    unfold tIf at h
    cases b with
    | true => exact ⟨by simpa using textC_ok h, fun h => by cases h⟩
    | false =>
      simp only [Bool.false_eq_true, if_false] at h
      injection h with h1 h2
      injection h1 with h1
      subst h1 h2
      exact ⟨by simp, fun _ => rfl⟩
theorem nIf_ok {b : Bool} {r : List UInt8} {st : CurS} {n : Int} (h : nIf b st = (some r, n, true)) : ∃ l, st = some l ∧ l = (if b = true then numO n else []) ++ r ∧ (b = false → n = 0) := by
  cases st with
  | none => unfold nIf at h; cases b <;> simp [numS, byteC, takeC] at h
  | some l =>
    refine ⟨l, rfl, ?_⟩
    unfold nIf at h
    cases b with
    | true => exact ⟨by simpa using numS_ok h, fun h => by cases h⟩
    | false =>
      simp only [Bool.false_eq_true, if_false] at h
      injection h with h1 h2
      injection h1 with h1
      injection h2 with h2 _
      subst h1 h2
      exact ⟨by simp, fun _ => rfl⟩
theorem plS_ok {k : Int} {r l t : List UInt8} (h : plS k (some l) = (some r, t, true)) : l = (if k = 5 then [if bA t = e0 then (0 : UInt8) else 1] else []) ++ t ++ r := by
  unfold plS at h
  split at h
  · rename_i hk
    rw [if_pos hk]
    cases l with
    | nil => simp [byteC] at h
    | cons s l =>
      rw [byteC_cons] at h
      simp only at h
      split at h
      · rename_i h0
        injection h with h1 h2
        injection h1 with h1
        injection h2 with h2 _
        subst h1 h2
        have : s = 0 := UInt8.toNat_inj.1 h0
        subst this
        rfl
      · split at h
        · rename_i h0 h1
          cases ht : takeC (some l) 32 with
          | mk st t' =>
            rw [ht] at h
            simp only at h
            injection h with h2 h3
            injection h3 with h3 _
            subst h2 h3
            obtain ⟨e1, e2⟩ := takeC_ok (n := 32) ht
            have : s = 1 := UInt8.toNat_inj.1 h1
            subst this
            have hne : bA t' ≠ e0 := fun e => by
              have := congrArg bl e
              rw [bl_bA] at this
              rw [this] at e2
              simp at e2
            rw [if_neg hne, e1]
            rfl
        · injection h with _ h; injection h with _ h; cases h
  · rename_i hk
    rw [if_neg hk]
    cases ht : takeC (some l) 32 with
    | mk st t' =>
      rw [ht] at h
      simp only at h
      injection h with h2 h3
      injection h3 with h3 _
      subst h2 h3
      obtain ⟨e1, e2⟩ := takeC_ok (n := 32) ht
      rw [e1]; rfl
theorem plS_none {k : Int} {r t : List UInt8} {b : Bool} : plS k none = (some r, t, b) → False := by
  unfold plS
  intro h
  split at h
  · simp [byteC] at h
  · simp [takeC] at h
theorem pIf_ok {b : Bool} {k : Int} {r : List UInt8} {st : CurS} {t : List UInt8} (hb : b = false → k ≠ 5) (h : pIf b k st = (some r, t, true)) : ∃ l, st = some l ∧ l = (if k = 5 then [if bA t = e0 then (0 : UInt8) else 1] else []) ++ t ++ r := by
  unfold pIf at h
  cases b with
  | true =>
    simp only [if_true] at h
    cases st with
    | none => exact (plS_none h).elim
    | some l => exact ⟨l, rfl, plS_ok h⟩
  | false =>
    simp only [Bool.false_eq_true, if_false] at h
    injection h with h1 h2
    injection h2 with h2 _
    subst h1 h2
    exact ⟨r, rfl, by rw [if_neg (hb rfl)]; rfl⟩
theorem parseP_ok {bs r : List UInt8} {o : OpV} (h : parseP (some bs) = (o, some r, true)) (ho : opOk o = true) : bs = putO o ++ r := by
  obtain ⟨h1, -⟩ := opOk_iff.1 ho
  unfold parseP at h
  simp only [Prod.mk.injEq, Bool.and_eq_true] at h
  obtain ⟨e1, e2, e3, e4⟩ := h
  cases bs with
  | nil =>
    subst e1
    simp [byteC, hK] at h1
  | cons b l =>
    rw [byteC_cons] at e1 e2 e3 e4
    simp only at e1 e2 e3 e4
    generalize hk : (b.toNat : Int) = k at e1 e2 e3 e4
    generalize hs1 : tIf (hN k) (some l) = s1 at e1 e2 e3 e4
    generalize hs2 : tIf (hT k) s1.1 = s2 at e1 e2 e3 e4
    generalize hs3 : nIf (hI k) s2.1 = s3 at e1 e2 e3 e4
    generalize hs4 : pIf (hA k) k s3.1 = s4 at e1 e2 e3 e4
    obtain ⟨c1, t1⟩ := s1
    obtain ⟨c2, t2⟩ := s2
    obtain ⟨c3, n3, b3⟩ := s3
    obtain ⟨c4, t4, b4⟩ := s4
    simp only at e1 e2 e3 e4 hs2 hs3 hs4
    subst e2 e3 e4
    obtain ⟨l3, rfl, q4⟩ := pIf_ok (fun hf h5 => by subst h5; simp [hA] at hf) hs4
    obtain ⟨l2, rfl, q3, z3⟩ := nIf_ok hs3
    obtain ⟨l1, rfl, q2, z2⟩ := tIf_none hs2
    obtain ⟨l0, e, q1, z1⟩ := tIf_none hs1
    injection e with e
    subst e1 e
    unfold putO
    simp only [bl_bA, List.cons_append]
    have hb : UInt8.ofNat k.toNat = b := by
      rw [← hk, Int.toNat_natCast, UInt8.ofNat_toNat]
    rw [hb, q1, q2, q3, q4]
    simp only [List.append_assoc]
theorem getP_iff {bs : List UInt8} {o : OpV} {n : Nat} : getP bs = some (o, n) ↔ opOk o = true ∧ n = (putO o).length ∧ ∃ r, bs = putO o ++ r := by
  constructor
  · intro h
    unfold getP at h
    split at h
    · rename_i hc
      rw [Bool.and_eq_true, Bool.and_eq_true] at hc
      obtain ⟨⟨c1, c2⟩, c3⟩ := hc
      generalize hp : parseP (some bs) = p at h c1 c2 c3
      obtain ⟨o', st, b⟩ := p
      cases st with
      | none => cases c1
      | some r =>
        simp only at c2 c3 h
        subst c2
        have hb := parseP_ok hp c3
        injection h with h
        injection h with h2 h3
        subst h2
        refine ⟨c3, ?_, r, hb⟩
        have : leftC (some r) = r.length := rfl
        rw [this, hb, List.length_append] at h3
        omega
    · cases h
  · rintro ⟨h1, rfl, r, rfl⟩
    unfold getP
    rw [parseP_put h1]
    simp only [Option.isSome_some, h1, Bool.and_self, if_true]
    have : leftC (some r) = r.length := rfl
    rw [this, List.length_append]
    congr 2
    omega
/-- What Get gives. -/
def getOV (bs : List UInt8) : Value := match getP bs with | some (o, n) => .tuple #[o.v, ii n, ii 0] | none => .tuple #[OpV.zero.v, ii 0, ii 5]
theorem getOV_flat (bs : List UInt8) : flatU (getOV bs) = true := by
  unfold getOV
  split <;> rfl
theorem putO_len {o : OpV} (h : opOk o = true) : (putO o).length ≤ 200 := by
  obtain ⟨h1, h2, h3, h4, h5, h6, h7, h8, h9, h10⟩ := opOk_iff.1 h
  have tl : ∀ s : ByteArray, s.size ≤ 48 → (textN (bl s)).length ≤ 53 := fun s hs => by
    unfold textN
    have := putN_len5 (n := (bl s).length) (by rw [bl_size]; omega)
    rw [List.length_append, bl_size]
    rw [bl_size] at this
    omega
  have a1 : (if hN o.k then textN (bl o.name) else []).length ≤ 53 := by
    split
    · rename_i hk; rw [if_pos hk] at h2; have := nameOk_size h2; exact tl _ (by omega)
    · simp
  have a2 : (if hT o.k then textN (bl o.text) else []).length ≤ 53 := by
    split
    · exact tl _ h3
    · simp
  have a3 : (if hI o.k then numO o.n else []).length ≤ 5 := by
    split
    · simp [numO, leB_length]
    · simp
  have a4 : (if o.k = 5 then [if o.place = e0 then (0 : UInt8) else 1] else []).length ≤ 1 := by split <;> simp
  have a5 : (bl o.place).length ≤ 32 := by
    rw [bl_size]
    rcases h8 with h | h
    · rw [h]; decide
    · omega
  unfold putO
  simp only [List.length_cons, List.length_append]
  omega
theorem takeC_len (st : CurS) (n : Int) : (takeC st n).2.length ≤ leftC st ∧ leftC (takeC st n).1 ≤ leftC st := by
  unfold takeC
  cases st with
  | none => simp [leftC]
  | some l =>
    simp only
    split
    · simp [leftC]; omega
    · simp [leftC]
theorem byteC_left (st : CurS) : leftC (byteC st).1 ≤ leftC st := by rw [byteC_take]; exact (takeC_len st 1).2
theorem textC_len (st : CurS) : (textC st).2.length ≤ leftC st ∧ leftC (textC st).1 ≤ leftC st := by
  cases st with
  | none => simp [textC, leftC]
  | some l =>
    unfold textC
    simp only
    split
    · rename_i n k hg
      split
      · have := takeC_len (some (l.drop k)) n
        have e : leftC (some (l.drop k)) ≤ leftC (some l) := by simp [leftC]
        exact ⟨Nat.le_trans this.1 e, Nat.le_trans this.2 e⟩
      · simp [leftC]
    · simp [leftC]
theorem bA_size (l : List UInt8) : (bA l).size = l.length := by simp [ByteArray.size]
theorem unfixN_lt (bs : List UInt8) : (unfixN bs).1 ≤ 2147483647 := by
  unfold unfixN
  split
  · simp
  · split
    · assumption
    · simp
theorem numS_range (st : CurS) : -2147483647 ≤ (numS st).2.1 ∧ (numS st).2.1 ≤ 2147483647 := by
  unfold numS
  have := unfixN_lt (takeC (byteC st).1 4).2
  simp only
  split
  · simp
  · rename_i h
    have h1 : (byteC st).2 = 0 ∨ (byteC st).2 = 1 := by omega
    rcases h1 with h1 | h1 <;> rw [h1] <;> simp only <;> omega
theorem numS_left (st : CurS) : leftC (numS st).1 ≤ leftC st := Nat.le_trans (takeC_len _ _).2 (byteC_left st)
theorem plS_len (k : Int) (st : CurS) : (plS k st).2.1.length ≤ leftC st := by
  unfold plS
  split
  · split
    · simp
    · split
      · exact Nat.le_trans (takeC_len _ _).1 (byteC_left st)
      · simp
  · exact (takeC_len _ _).1
theorem byteC_255 (st : CurS) : (byteC st).2 ≤ 255 := by
  unfold byteC
  split
  · simp
  · simp
  · rename_i b r; have := b.toNat_lt; simp only; omega
theorem parseP_fin {bs : List UInt8} (h : bs.length ≤ 2 ^ 40) : (parseP (some bs)).1.Fin := by
  have e0 : leftC (some bs) = bs.length := rfl
  have h0 := byteC_left (some bs)
  have hk := byteC_255 (some bs)
  have t1 : ∀ b st, (tIf b st).2.length ≤ leftC st ∧ leftC (tIf b st).1 ≤ leftC st := fun b st => by
    unfold tIf; cases b
    · simp
    · exact textC_len st
  have t3 : ∀ b st, (-2147483647 ≤ (nIf b st).2.1 ∧ (nIf b st).2.1 ≤ 2147483647) ∧ leftC (nIf b st).1 ≤ leftC st := fun b st => by
    unfold nIf; cases b
    · simp
    · exact ⟨numS_range st, numS_left st⟩
  have t4 : ∀ b k st, (pIf b k st).2.1.length ≤ leftC st := fun b k st => by
    unfold pIf; cases b
    · simp
    · exact plS_len k st
  unfold parseP OpV.Fin
  simp only [bA_size]
  generalize hs0 : (byteC (some bs)).1 = s0 at h0
  generalize (byteC (some bs)).2 = k at hk
  have a1 := t1 (hN (k : Int)) s0
  generalize tIf (hN (k : Int)) s0 = s1 at a1
  have a2 := t1 (hT (k : Int)) s1.1
  generalize tIf (hT (k : Int)) s1.1 = s2 at a2
  have a3 := t3 (hI (k : Int)) s2.1
  generalize nIf (hI (k : Int)) s2.1 = s3 at a3
  have a4 := t4 (hA (k : Int)) (k : Int) s3.1
  omega
end Go.AS.C


namespace Go.AS
open Go
set_option linter.unusedVariables false
set_option linter.unusedSimpArgs false

/-! Slices of one's own that stand apart; structs that are copied. -/
section
variable {A B C A0 : AH} {v w u x : Value} {sz s2 n m a0 b0 i : Nat} {cs ds e z : List Value} {es fs : List (List Value)}
theorem OwnS.apart (h : OwnS a0 A sz v n cs) (k : OwnS b0 A s2 w m ds) (hs : sz ≠ s2) : ∀ j ∈ blkOf w, j ∉ blkOf v := by
  obtain ⟨_, h⟩ := h
  obtain ⟨_, k⟩ := k
  intro j hj hv
  rcases k with ⟨rfl, _⟩ | ⟨rfl, _⟩ | ⟨i, o, c, rc, ex, rfl, k2, k3, k4, _⟩
  · cases hj
  · cases hj
  · simp only [blkOf, List.mem_singleton] at hj
    subst hj
    rcases h with ⟨rfl, _⟩ | ⟨rfl, _⟩ | ⟨i', o', c', rc', ex', rfl, h2, h3, h4, _⟩
    · cases hv
    · cases hv
    · simp only [blkOf, List.mem_singleton] at hv
      subst hv
      rw [h4] at k4
      injection k4 with k4
      injection k4 with _ _ k4 _
      exact hs k4
theorem OwnE.mono (h : OwnE a0 A sz v es) (hb : b0 ≤ a0) : OwnE b0 A sz v es := ⟨h.1, h.2.mono hb⟩
theorem OwnB.le {bs : List UInt8} (h : OwnB a0 A v bs) (hl : Le A B) : OwnB a0 B v bs := OwnS.le h hl
theorem OwnB.mono {bs : List UInt8} (h : OwnB a0 A v bs) (hb : b0 ≤ a0) : OwnB b0 A v bs := OwnS.mono h hb
theorem Sl.lenB (h : Sl A sz v n cs) (B : AH) : sLens B false v = some (.int .i64 n, B) := by
  obtain ⟨_, h⟩ := h
  rcases h with ⟨rfl, rfl⟩ | ⟨rfl, rfl⟩ | ⟨_, _, _, _, _, _, rfl, _⟩ <;> rfl
theorem KeepV.of_own (h : OwnS a0 A sz v n cs) (hl : A.length ≤ B.length) (hk : ∀ i b, A[i]? = some b → (∀ o c, v ≠ .slice (some ⟨i, o, none⟩) n c) → B[i]? = some b) : KeepV A v B :=
  ⟨hl, fun i b hb hi => hk i b hb (fun o c q => hi (by rw [q]; simp [blkOf]))⟩
theorem appI_len {s : Value} {new : List Value} {k bytes : Nat} {r : Value × AH} (h : appA A s new k sz bytes = some r) : A.length ≤ r.2.length := by
  unfold appA at h
  cases hi : appI A s new k sz bytes with
  | some q =>
    rw [hi] at h
    obtain rfl := Option.some.inj h
    unfold appI at hi
    split at hi
    · split at hi
      · split at hi
        · injection hi with hi; subst hi; simp
        · cases hi
      · cases hi
    · cases hi
  | none =>
  rw [hi, Option.none_or] at h
  unfold appA1 at h
  cases hf : appF A s new k sz bytes with
  | some q =>
    rw [hf] at h
    obtain rfl := Option.some.inj h
    unfold appF at hf
    split at hf
    · split at hf
      · split at hf
        · injection hf with hf; subst hf; simp
        · cases hf
      · cases hf
    · cases hf
  | none =>
  rw [hf, Option.none_or] at h
  unfold appA0 at h
  split at h
  · split at h
    · injection h with h; subst h; exact Nat.le_refl _
    · injection h with h; subst h; exact Nat.le_refl _
    · cases h
  · rw [Option.bind_eq_some_iff] at h
    obtain ⟨q, h1, h⟩ := h
    split at h
    · injection h with h; subst h
      simp only [List.length_append]
      rw [appBase_len h1]; omega
    · cases h
theorem sApp_len {s x : Value} {bytes : Nat} {v' : Value} {A' : AH} (h : sApp A s x sz bytes = some (v', A')) : A.length ≤ A'.length := by
  unfold sApp at h
  split at h
  · rw [Option.bind_eq_some_iff] at h
    obtain ⟨new, _, h⟩ := h
    exact appI_len h
  · cases h
/-- append(v, x...): bytes. -/
theorem OwnB.app {bs xs : List UInt8} (hl : Le A0 A) (h : OwnB A0.length A v bs) (hx : Byt A x xs) (hb : bs.length + xs.length ≤ 2 ^ 47) :
    ∃ v' A', sApp A v x 1 1 = some (v', A') ∧ Le A0 A' ∧ OwnB A0.length A' v' (bs ++ xs) ∧ KeepV A v A' := by
  obtain ⟨v', A', h1, h2, h3, h4⟩ := app_bytes hl h hx hb
  exact ⟨v', A', h1, h2, h3, KeepV.of_own h (sApp_len h1) h4⟩
/-- append(v, s...): a text's bytes. -/
theorem OwnB.apps {bs : List UInt8} {s : ByteArray} (hl : Le A0 A) (h : OwnB A0.length A v bs) (hb : bs.length + s.size ≤ 2 ^ 47) :
    ∃ v' A', sApps A v (.string s) 1 = some (v', A') ∧ Le A0 A' ∧ OwnB A0.length A' v' (bs ++ bl s) ∧ KeepV A v A' := by
  have he : u8s s = (bl s).map by8 := rfl
  have hls : (bl s).length = s.size := by simp
  obtain ⟨v', A', h1, h2, h3, h4⟩ := app_own (new := u8s s) (k := s.size) (bytes := 1) hl h (by omega) (by omega) (by omega) (by rw [he, List.length_map, hls, Nat.mul_one]) (by rw [he]; exact Byt.ones8 _)
  refine ⟨v', A', h1, h2, ?_, KeepV.of_own h (appI_len h1) h4⟩
  unfold OwnB
  rw [List.length_append, List.map_append, hls, ← he]
  exact h3
/-- One more text. -/
theorem app_str {l : List ByteArray} (s : ByteArray) (hl : Le A0 A) (h : OwnS A0.length A 1 w l.length (l.map .string)) (hb : l.length ≤ 2 ^ 40) :
    sLit A [.string ⟨#[]⟩] 1 1 [(0, 1, .string s)] = some (.slice (some ⟨A.length, 0, none⟩) 1 1, A ++ [.row [.string s] .own 1 true]) ∧
    ∃ w' A', sApp (A ++ [.row [.string s] .own 1 true]) w (.slice (some ⟨A.length, 0, none⟩) 1 1) 1 16 = some (w', A') ∧ Le A0 A' ∧ OwnS A0.length A' 1 w' (l ++ [s]).length ((l ++ [s]).map .string) ∧ KeepV A w A' := by
  have l1 := lit1 (A := A) (z := .string ⟨#[]⟩) (len := 1) (ps := [(0, 1, .string s)]) [.string s] rfl rfl (by
    intro y hy
    rw [List.mem_singleton] at hy
    subst hy; exact one1_str _)
  have k1 : Le A (A ++ [.row [.string s] .own 1 true]) := .push _ _
  obtain ⟨v2, A2, p1, p2, p3, p4⟩ := app_cells (bytes := 16) (hl.trans k1) (OwnS.le h k1) (sl_last A (cs := [.string s]) (st := .own) (ex := true) (c := 1) (by simp) (by simp)) rfl (by omega) (by simp; omega) (by omega)
  rw [List.length_singleton] at l1 p1
  refine ⟨l1, v2, A2, p1, p2, by simpa using p3, ⟨Nat.le_trans k1.len (sApp_len p1), fun i b hb hi => p4 i b (k1.get hb) (fun o c q => hi (by rw [q]; simp [blkOf]))⟩⟩
theorem KeepV.get (h : KeepV A v B) {j : Nat} {b : Blk} (hb : A[j]? = some b) (hj : j ∉ blkOf v) : B[j]? = some b := h.2 j b hb hj
theorem KeepV.rd (h : KeepV A v B) {R : List Nat} (hR : ∀ k ∈ R, k ∉ blkOf v) : RdOk R A B := fun k hk b hb => h.2 k b hb (hR k hk)
theorem Byt.one1 {bs : List UInt8} (h : Byt A v bs) : AS.one1 v := by
  obtain ⟨p, c, hs, _⟩ := h.shape
  rw [hs]; exact one1_sl _ _ _
theorem Sl.one1 (h : Sl A sz v n cs) : AS.one1 v := by
  obtain ⟨_, h⟩ := h
  rcases h with ⟨rfl, _⟩ | ⟨rfl, _⟩ | ⟨_, _, _, _, _, _, rfl, _⟩ <;> exact one1_sl _ _ _
end
end Go.AS


namespace Go.AS
open Go
set_option linter.unusedVariables false
set_option linter.unusedSimpArgs false

section
variable {A B C A0 : AH} {v w u x : Value} {sz s2 n m a0 b0 i k : Nat} {cs ds e z : List Value} {es fs : List (List Value)}
theorem load1_keep {p x : Value} (h : sLoad1 A p = some (x, A)) (hB : ∀ k b, A[k]? = some b → k ∈ blkOf p → B[k]? = some b) : sLoad1 B p = some (x, B) := by
  unfold sLoad1 at h ⊢
  split at h
  · rename_i i o
    rw [Option.bind_eq_some_iff] at h
    obtain ⟨r, q1, q2⟩ := h
    rw [Option.map_eq_some_iff] at q2
    obtain ⟨l, q2, q3⟩ := q2
    injection q3 with q3 q4
    obtain ⟨r1, r2, r3, r4⟩ := r
    obtain ⟨g1, g2⟩ := getRow_some q1
    have g3 := hB i _ g1 (by simp [blkOf])
    have : getRow B i = some (r1, r2, r3, r4) := by unfold getRow; simp only [g3, if_neg g2]
    simp only [this, Option.bind_some, q2, Option.map_some, q3]
  · cases h
/-- An element of one cell is read. -/
theorem Sl.at1L (h : Sl A 1 v n cs) {j : Nat} {x : Value} (hj : cs[j]? = some x) : ∃ p, (∀ (B : AH) (n : Int), n = (j : Int) → sIaddr B v (.int .i64 n) 1 = some (p, B)) ∧ ∀ B, Le A B → sLoad1 B p = some (x, B) := by
  obtain ⟨p, p1, p2⟩ := h.at1 hj
  exact ⟨p, by rintro B n rfl; exact iaddr_any p1 B, fun B hB => load1_keep p2 (fun k b hb _ => hB.get hb)⟩
/-- Two values lead to blocks apart. -/
def Ap (v w : Value) : Prop := ∀ j ∈ blkOf v, j ∉ blkOf w
theorem Ap.symm (h : Ap v w) : Ap w v := fun j hj hk => h j hk hj
theorem Ap.grow {v' : Value} {n : Nat} (h : Ap v w) (hb : ∀ j ∈ blkOf v', j ∈ blkOf v ∨ n ≤ j) (hw : ∀ j ∈ blkOf w, j < n) : Ap v' w := fun j hj hk => by
  rcases hb j hj with h1 | h1
  · exact h j h1 hk
  · have := hw j hk; omega
theorem Ap.nil {n c : Nat} : Ap (.slice none n c) w := fun j hj => by cases hj
theorem OwnS.lt {sz n : Nat} {cs : List Value} (h : OwnS a0 A sz v n cs) : ∀ j ∈ blkOf v, j < A.length := fun j hj => (h.ge j hj).2
theorem sApp_blk {s x : Value} {bytes : Nat} {v' : Value} {A' : AH} (h : sApp A s x sz bytes = some (v', A')) : ∀ j ∈ blkOf v', j ∈ blkOf s ∨ A.length ≤ j := by
  intro j hj
  have hx : ∃ p k c, x = .slice p k c := by
    unfold sApp at h
    split at h
    · exact ⟨_, _, _, rfl⟩
    · cases h
  obtain ⟨p, k, c, rfl⟩ := hx
  by_cases hk : k = 0
  · subst hk
    unfold sApp at h
    simp only [Option.bind_eq_some_iff] at h
    obtain ⟨new, _, h⟩ := h
    unfold appA at h
    rw [appI_zero, Option.none_or] at h
    unfold appA1 at h
    rw [appF_zero, Option.none_or] at h
    unfold appA0 at h
    rw [if_pos rfl] at h
    split at h
    · injection h with h; injection h with h _; subst h; exact .inl hj
    · injection h with h; injection h with h _; subst h; exact .inl hj
    · cases h
  · rcases app_fresh rfl hk h with e | e
    · rw [e, List.mem_singleton] at hj; exact .inr (by omega)
    · rw [e] at hj; exact .inl hj
/-- Elements of another slice are appended. -/
theorem OwnE.app {bytes : Nat} (hl : Le A0 A) (h : OwnE A0.length A sz v es) (hx : Sl A sz x fs.length fs.flatten) (hf : ∀ e ∈ fs, e.length = sz ∧ ones e = true) (hsz : 0 < sz) (hb : 2 * ((es.length + fs.length) * bytes) ≤ 2 ^ 48) (hb0 : 0 < bytes) :
    ∃ v' A', sApp A v x sz bytes = some (v', A') ∧ Le A0 A' ∧ OwnE A0.length A' sz v' (es ++ fs) ∧ KeepV A v A' := by
  obtain ⟨v', A', e1, e2, e3, e4⟩ := app_cells (bytes := bytes) hl h.2 hx (ones_flatten hf) hsz hb hb0
  refine ⟨v', A', e1, e2, ⟨?_, by simpa using e3⟩, KeepV.of_own h.2 (sApp_len e1) e4⟩
  intro y hy
  rcases List.mem_append.1 hy with hy | hy
  · exact h.1 y hy
  · exact hf y hy
end
section
variable {α : Type} {key : α → List UInt8}
end
end Go.AS


namespace Go.AS.C
open Go Go.Proofs
set_option linter.unusedVariables false
set_option linter.unusedSimpArgs false
set_option maxRecDepth 10000

theorem wrap8 (a : Int) (h0 : 0 ≤ a) (h : a < 256) : IntKind.u8.wrap a = a := by
  obtain ⟨n, rfl⟩ := Int.eq_ofNat_of_zero_le h0
  exact wrap_u8 n (by omega)
theorem quo8 (a : Nat) (h : a < 256) : binA .quo (.int .u8 (a : Int)) (.int .u8 16) = some (.int .u8 ((a / 16 : Nat) : Int)) := by
  show (if IntKind.u8 = IntKind.u8 ∧ (16 : Int) ≠ 0 then some (Value.int .u8 (IntKind.u8.wrap ((a : Int).tdiv 16))) else none) = _
  rw [if_pos ⟨rfl, by decide⟩, Int.tdiv_eq_ediv_of_nonneg (by omega), wrap8 _ (by omega) (by omega)]
  rfl
theorem rem8 (a : Nat) (h : a < 256) : binA .rem (.int .u8 (a : Int)) (.int .u8 16) = some (.int .u8 ((a % 16 : Nat) : Int)) := by
  show (if IntKind.u8 = IntKind.u8 ∧ (16 : Int) ≠ 0 then some (Value.int .u8 ((a : Int).tmod 16)) else none) = _
  rw [if_pos ⟨rfl, by decide⟩, Int.tmod_eq_emod_of_nonneg (by omega)]
  rfl
theorem shr8 (c : UInt8) : binA .shr (.int .u8 (c.toNat : Int)) (.int .u64 4) = some (.int .u8 ((c.toNat / 16 : Nat) : Int)) := by
  have h := binA_shr8 c .u64 4 (by omega)
  unfold by8 at h
  have hc := c.toNat_lt
  rw [UInt8.toNat_ofNat', Nat.mod_eq_of_lt (by omega)] at h
  exact h
theorem and8 (c : UInt8) : binA .and (.int .u8 (c.toNat : Int)) (.int .u8 15) = some (.int .u8 ((c.toNat % 16 : Nat) : Int)) := by
  have h := binA_and8 c 15
  unfold by8 at h
  rw [UInt8.toNat_and] at h
  have e : c.toNat &&& (15 : UInt8).toNat = c.toNat % 16 := Nat.and_two_pow_sub_one_eq_mod c.toNat 4
  rw [e] at h
  exact h
def hexL : List UInt8 := [48, 49, 50, 51, 52, 53, 54, 55, 56, 57, 97, 98, 99, 100, 101, 102]
def hexC (n : Nat) : UInt8 := hexL.getD n 0
def hexD (c : UInt8) : List UInt8 := [hexC (c.toNat / 16), hexC (c.toNat % 16)]
/-- A text's digits. -/
def hexP (bs : List UInt8) : List UInt8 := bs.flatMap hexD
theorem hexP_snoc (bs : List UInt8) (c : UInt8) : hexP (bs ++ [c]) = hexP bs ++ hexD c := by simp [hexP]
theorem hexP_len (bs : List UInt8) : (hexP bs).length = 2 * bs.length := by
  unfold hexP
  induction bs with
  | nil => rfl
  | cons c bs ih => rw [List.flatMap_cons, List.length_append, ih, List.length_cons]; show 2 + _ = _; omega
theorem idx_str {A : AH} {s : ByteArray} {k : IntKind} {j : Nat} {b : UInt8} (h : s.data.toList[j]? = some b) : sIdxs A (.string s) (.int k (j : Int)) = some (.int .u8 (b.toNat : Int), A) := by
  unfold sIdxs asI
  have e : s[j]? = some b := by
    rw [← h]
    have h1 : j < s.data.toList.length := lt_of_get h
    have h2 : j < s.size := by rw [size_bytes]; exact h1
    rw [getElem?_pos s j h2, List.getElem?_eq_getElem h1]
    rfl
  simp [e]
theorem idx_hex (A : AH) (n : Nat) (h : n < 16) : sIdxs A (.string ⟨#[48, 49, 50, 51, 52, 53, 54, 55, 56, 57, 97, 98, 99, 100, 101, 102]⟩) (.int .u8 (n : Int)) = some (.int .u8 ((hexC n).toNat : Int), A) := by
  refine idx_str ?_
  show hexL[n]? = _
  unfold hexC
  rw [List.getD_eq_getElem?_getD]
  obtain ⟨x, hx⟩ := get_some (l := hexL) (k := n) h
  rw [hx]; rfl

theorem ids_Hex_spec {A : AH} {s : ByteArray} {Q : Value → AH → Prop} (hl : s.size < 2 ^ 20) (hq : ∀ A', Le A A' → Q (.string ⟨(hexP s.data.toList).toArray⟩) A') : ACalls 1 Tryd.prog ids_Hex [.string s] Q A := by
  refine ACalls.of_fits mixed fits_ids_Hex rfl ?_
  unfold ic_ids_Hex
  have i0 : initA [.string s] 0 = .string s := rfl
  generalize initA [.string s] = a at i0
  have hb := s2b_row A s
  have ho := (s2b_byt A s).byt
  generalize eA : A ++ [.row (s.data.toList.map by8) .own 1 false] = A1 at hb ho
  have k1 : Le A A1 := by rw [← eA]; exact .push _ _
  generalize ev : Value.slice (some ⟨A.length, 0, none⟩) s.size s.size = v at hb ho
  have hvl := fun B => Sl.lenB ho B
  have hsz := size_bytes s
  simp (maxSteps := 1000000) (disch := omega) only [stepS, reduceIte, Nat.reduceBEq, Nat.reduceEqDiff, tupleOf, stepT, i0, hb, hvl]
  refine W_loop (fun a' B => ∃ k : Nat, k ≤ s.size ∧ Le A1 B ∧ a' 7 = v ∧ a' 8 = ii s.size ∧ a' 9 = ii k ∧ OwnB A1.length B (a' 3) (hexP (s.data.toList.take k))) (fun a' _ => s.size - (iv (a' 9)).toNat) ?_ ?_
  · refine ⟨0, by omega, .refl _, ?_⟩
    simp (maxSteps := 1000000) (disch := omega) only [stepS, reduceIte, Nat.reduceBEq, Nat.reduceEqDiff, tupleOf, stepT, i0, hsz]
    exact ⟨rfl, OwnB.nil _ _⟩
  · rintro a2 B ⟨k, hk, hle, g7, g8, g9, g3⟩
    generalize ex : a2 3 = w at g3
    rcases Nat.lt_or_ge k s.size with hlt | hge
    · obtain ⟨c, hc⟩ := get_some (l := s.data.toList) (k := k) (by omega)
      obtain ⟨p, p1, p2⟩ := Sl.at1L ho (j := k) (x := by8 c) (by rw [List.getElem?_map, hc]; rfl)
      have p3 := p2 B hle
      unfold by8 at p3
      have hcl := c.toNat_lt
      have x1 := idx_hex B (c.toNat / 16) (by omega)
      have x2 := idx_hex B (c.toNat % 16) (by omega)
      have l1 := litB B (hexD c) (len := 2) (ps := [(0, 1, .int .u8 ((hexC (c.toNat / 16)).toNat : Int)), (1, 1, .int .u8 ((hexC (c.toNat % 16)).toNat : Int))]) rfl rfl
      have k2 : Le B (B ++ [.row (List.map by8 (hexD c)) .own 1 true]) := .push _ _
      have hpl := hexP_len (s.data.toList.take k)
      rw [List.length_take] at hpl
      obtain ⟨v2, A2, q1, q2, q3, _⟩ := app_bytes (hle.trans k2) (OwnS.le g3 k2) (byt_last B (hexD c)) (by rw [hpl]; simp [hexD]; omega)
      have hd : (hexD c).length = 2 := rfl
      rw [hd] at q1 l1
      simp (maxSteps := 1000000) (disch := omega) only [stepS, reduceIte, Nat.reduceBEq, Nat.reduceEqDiff, tupleOf, stepT, g7, g8, g9, ex, p1, p3, shr8, and8, x1, x2, l1, q1]
      refine ⟨⟨k + 1, by omega, q2, rfl, ?_⟩, by omega⟩
      rw [List.take_add_one, hc, Option.toList_some, hexP_snoc]
      exact q3
    · rw [List.take_of_length_le (by omega)] at g3
      simp (maxSteps := 1000000) (disch := omega) only [stepS, reduceIte, Nat.reduceBEq, Nat.reduceEqDiff, tupleOf, stepT, g7, g8, g9, ex, g3.byt.str]
      exact hq _ (k1.trans hle)
theorem ref04_Hex_spec {A : AH} {s : ByteArray} {Q : Value → AH → Prop} (hl : s.size < 2 ^ 20) (hq : ∀ A', Le A A' → Q (.string ⟨(hexP s.data.toList).toArray⟩) A') : ACalls 1 Tryd.prog chantryref04_Hex [.string s] Q A := by
  refine ACalls.of_fits mixed fits_chantryref04_Hex rfl ?_
  unfold ic_chantryref04_Hex
  have i0 : initA [.string s] 0 = .string s := rfl
  generalize initA [.string s] = a at i0
  have hsz := size_bytes s
  simp (maxSteps := 1000000) (disch := omega) only [stepS, reduceIte, Nat.reduceBEq, Nat.reduceEqDiff, tupleOf, stepT, i0]
  refine W_loop (fun a' B => ∃ k : Nat, k ≤ s.size ∧ Le A B ∧ a' 0 = .string s ∧ a' 3 = .string ⟨#[48, 49, 50, 51, 52, 53, 54, 55, 56, 57, 97, 98, 99, 100, 101, 102]⟩ ∧ a' 5 = ii k ∧ OwnB A.length B (a' 4) (hexP (s.data.toList.take k))) (fun a' _ => s.size - (iv (a' 5)).toNat) ?_ ?_
  · refine ⟨0, by omega, .refl _, ?_⟩
    simp (maxSteps := 1000000) (disch := omega) only [stepS, reduceIte, Nat.reduceBEq, Nat.reduceEqDiff, tupleOf, stepT, i0, hsz]
    exact ⟨rfl, OwnB.nil _ _⟩
  · rintro a2 B ⟨k, hk, hle, g0, g3, g5, g4⟩
    generalize ex : a2 4 = w at g4
    rcases Nat.lt_or_ge k s.size with hlt | hge
    · obtain ⟨c, hc⟩ := get_some (l := s.data.toList) (k := k) (by omega)
      have p1 := idx_str (A := B) (k := .i64) hc
      have hcl := c.toNat_lt
      have x1 := idx_hex B (c.toNat / 16) (by omega)
      have x2 := idx_hex B (c.toNat % 16) (by omega)
      have y1 := quo8 c.toNat hcl
      have y2 := rem8 c.toNat hcl
      have l1 := litB B (hexD c) (len := 2) (ps := [(0, 1, .int .u8 ((hexC (c.toNat / 16)).toNat : Int)), (1, 1, .int .u8 ((hexC (c.toNat % 16)).toNat : Int))]) rfl rfl
      have k2 : Le B (B ++ [.row (List.map by8 (hexD c)) .own 1 true]) := .push _ _
      have hpl := hexP_len (s.data.toList.take k)
      rw [List.length_take] at hpl
      obtain ⟨v2, A2, q1, q2, q3, _⟩ := app_bytes (hle.trans k2) (OwnS.le g4 k2) (byt_last B (hexD c)) (by rw [hpl]; simp [hexD]; omega)
      have hd : (hexD c).length = 2 := rfl
      rw [hd] at q1 l1
      simp (maxSteps := 1000000) (disch := omega) only [stepS, reduceIte, Nat.reduceBEq, Nat.reduceEqDiff, tupleOf, stepT, g0, g3, g5, ex, p1, y1, y2, x1, x2, l1, q1]
      refine ⟨⟨k + 1, by omega, q2, rfl, ?_⟩, by omega⟩
      rw [List.take_add_one, hc, Option.toList_some, hexP_snoc]
      exact q3
    · rw [List.take_of_length_le (by omega)] at g4
      simp (maxSteps := 1000000) (disch := omega) only [stepS, reduceIte, Nat.reduceBEq, Nat.reduceEqDiff, tupleOf, stepT, g0, g3, g5, ex, g4.byt.str]
      exact hq _ hle
end Go.AS.C


namespace Go.AS.C
open Go Go.Proofs
set_option linter.unusedVariables false
set_option linter.unusedSimpArgs false
set_option maxRecDepth 10000

/-! Numbers as texts. -/
def strSz : Value → Nat
  | .string s => s.size
  | _ => 0
abbrev digs : ByteArray := ⟨#[48, 49, 50, 51, 52, 53, 54, 55, 56, 57]⟩
theorem digs_cut (A : AH) (m : Nat) : sSls A (.string digs) (some (ii (m % 10 : Nat))) (some (ii ((m % 10 + 1 : Nat) : Int))) = some (.string ⟨[UInt8.ofNat (48 + m % 10)].toArray⟩, A) := by
  have h : m % 10 < 10 := Nat.mod_lt _ (by omega)
  generalize m % 10 = i at h
  rw [sls_both (by omega) (by show i + 1 ≤ 10; omega)]
  match i, h with
  | 0, _ => rfl
  | 1, _ => rfl
  | 2, _ => rfl
  | 3, _ => rfl
  | 4, _ => rfl
  | 5, _ => rfl
  | 6, _ => rfl
  | 7, _ => rfl
  | 8, _ => rfl
  | 9, _ => rfl
theorem rem10 (m : Nat) : binA .rem (ii m) (ii 10) = some (ii (m % 10 : Nat)) := by
  simp only [binA]
  rw [if_pos (by decide)]
  rfl
theorem wrap64 (a : Int) (h0 : -9223372036854775808 ≤ a) (h : a < 9223372036854775808) : IntKind.i64.wrap a = a := by
  simp [IntKind.wrap, IntKind.bits, IntKind.signed]
  omega
theorem quo10 (m : Nat) (h : m < 2 ^ 63) : binA .quo (ii m) (ii 10) = some (ii (m / 10 : Nat)) := by
  simp only [binA]
  rw [if_pos (by decide)]
  have e : (m : Int).tdiv 10 = ((m / 10 : Nat) : Int) := rfl
  rw [e, wrap64 _ (by omega) (by omega)]
theorem cat_str (x y : ByteArray) (h : x.size + y.size < 2 ^ 60) : binA .add (.string x) (.string y) = some (.string (x ++ y)) := by
  simp only [binA]
  rw [if_neg]
  have e : IntKind.i64.max = 9223372036854775807 := by decide
  rw [e]
  omega
theorem ba_cat (s t : List UInt8) : (⟨s.toArray⟩ : ByteArray) ++ ⟨t.toArray⟩ = ⟨(s ++ t).toArray⟩ := by
  apply ByteArray.ext
  simp
/-- The digits of a number that is not negative. -/
theorem digits_nat {A : AH} {n : Nat} {Q : Value → AH → Prop} (h : n < 2 ^ 63) (hq : Q (.string ⟨(Lib.decDigits n).toArray⟩) A) : ACalls 1 Tryd.prog chantryref14_Digits [ii n] Q A := by
  refine ACalls.of_fits mixed fits_chantryref14_Digits rfl ?_
  unfold ic_chantryref14_Digits
  have i0 : initA [ii n] 0 = ii n := rfl
  generalize initA [ii n] = a at i0
  have hn20 := Lib.nDigits_le20 n (by omega)
  simp (maxSteps := 1000000) (disch := omega) only [stepS, reduceIte, Nat.reduceBEq, Nat.reduceEqDiff, tupleOf, stepT, i0]
  refine W_loop (fun a' B => ∃ (m : Nat) (s : List UInt8), m ≤ n ∧ B = A ∧ a' 0 = ii m ∧ a' 3 = .string ⟨s.toArray⟩ ∧ ((s = [] ∧ m = n) ∨ (s ≠ [] ∧ Lib.decDigits n = (if m = 0 then [] else Lib.decDigits m) ++ s))) (fun a' _ => (iv (a' 0)).toNat + (1 - strSz (a' 3))) ?_ ?_
  · refine ⟨n, [], Nat.le_refl _, rfl, ?_⟩
    simp (maxSteps := 1000000) (disch := omega) only [stepS, reduceIte, Nat.reduceBEq, Nat.reduceEqDiff, tupleOf, stepT, i0]
    exact .inl trivial
  · rintro a2 B ⟨m, s, hm, rfl, g0, g3, hs⟩
    have hsl : s.length ≤ 20 := by
      rcases hs with ⟨rfl, _⟩ | ⟨_, he⟩
      · simp
      · have := congrArg List.length he
        rw [Lib.decDigits_length, List.length_append] at this
        omega
    have r1 := rem10 m
    have q1 := quo10 m (by omega)
    have d1 := digs_cut B m
    have c1 := cat_str ⟨[UInt8.ofNat (48 + m % 10)].toArray⟩ ⟨s.toArray⟩ (by show 1 + s.length < _; omega)
    rw [ba_cat] at c1
    have e1 : ((m % 10 : Nat) : Int) + 1 = ((m % 10 + 1 : Nat) : Int) := by omega
    have dec1 : Lib.decDigits m = (if m / 10 = 0 then [] else Lib.decDigits (m / 10)) ++ [UInt8.ofNat (48 + m % 10)] := by
      rw [Lib.decDigits]
      split
      · rename_i hlt
        rw [if_pos (by omega), Nat.mod_eq_of_lt hlt]; rfl
      · rw [if_neg (by omega)]
    have z1 : ∀ (t : List UInt8) (x : UInt8), 1 - (⟨(x :: t).toArray⟩ : ByteArray).size = 0 := fun t x => by show 1 - (t.length + 1) = 0; omega
    have next : (0 < m ∨ s = []) → (∃ (m_1 : Nat) (s_1 : List UInt8), m_1 ≤ n ∧ ii ((m / 10 : Nat) : Int) = ii (m_1 : Int) ∧ Value.string ⟨(UInt8.ofNat (48 + m % 10) :: s).toArray⟩ = Value.string ⟨s_1.toArray⟩ ∧ (s_1 = [] ∧ m_1 = n ∨ s_1 ≠ [] ∧ Lib.decDigits n = (if m_1 = 0 then [] else Lib.decDigits m_1) ++ s_1)) ∧
        m / 10 + (1 - (⟨(UInt8.ofNat (48 + m % 10) :: s).toArray⟩ : ByteArray).size) < m + (1 - (⟨s.toArray⟩ : ByteArray).size) := fun hc => by
      refine ⟨⟨m / 10, UInt8.ofNat (48 + m % 10) :: s, by omega, rfl, rfl, .inr ⟨by simp, ?_⟩⟩, ?_⟩
      · rcases hs with ⟨rfl, rfl⟩ | ⟨h1, he⟩
        · exact dec1
        · have h2 : m ≠ 0 := by
            rcases hc with h | h
            · omega
            · exact absurd h h1
          rw [he, if_neg h2, dec1]; simp
      · rw [z1]
        rcases hc with h | rfl
        · omega
        · show m / 10 + 0 < m + 1; omega
    by_cases h0 : 0 < m
    · simp (maxSteps := 1000000) (disch := omega) only [stepS, reduceIte, Nat.reduceBEq, Nat.reduceEqDiff, tupleOf, stepT, g0, g3, r1, q1, d1, c1, e1, strSz]
      exact next (.inl h0)
    · by_cases h1 : s = []
      · subst h1
        simp (maxSteps := 1000000) (disch := omega) only [stepS, reduceIte, Nat.reduceBEq, Nat.reduceEqDiff, tupleOf, stepT, g0, g3, r1, q1, d1, c1, e1, strSz]
        exact next (.inr rfl)
      · have hm0 : m = 0 := by omega
        have hd : Lib.decDigits n = s := by
          rcases hs with ⟨h, _⟩ | ⟨_, he⟩
          · exact absurd h h1
          · rw [he, if_pos hm0]; rfl
        have ne : ((⟨s.toArray⟩ : ByteArray) = ⟨#[]⟩) = False := by
          rw [eq_iff_iff, iff_false]
          intro h
          apply h1
          have := congrArg (fun b => b.data.toList) h
          simpa using this
        subst hm0
        rw [hd] at hq
        simp (maxSteps := 1000000) (disch := omega) only [stepS, reduceIte, Nat.reduceBEq, Nat.reduceEqDiff, tupleOf, stepT, g0, g3, ne]
        exact hq
/-- The digits of a number. -/
theorem ref14_Digits_spec {A : AH} {n : Int} {Q : Value → AH → Prop} (h0 : -9223372036854775807 ≤ n) (h1 : n ≤ 9223372036854775807) (hq : Q (.string ⟨(Lib.itoa n).toArray⟩) A) : ACalls 1 Tryd.prog chantryref14_Digits [ii n] Q A := by
  by_cases hn : n < 0
  · obtain ⟨u, rfl⟩ : ∃ u : Nat, n = -(u : Int) := ⟨n.natAbs, by omega⟩
    rw [Lib.itoa_neg u (by omega)] at hq
    refine ACalls.of_fits mixed fits_chantryref14_Digits rfl ?_
    unfold ic_chantryref14_Digits
    have i0 : initA [ii (-(u : Int))] 0 = ii (-(u : Int)) := rfl
    generalize initA [ii (-(u : Int))] = a at i0
    have hn20 := Lib.nDigits_le20 u (by omega)
    have c1 := cat_str ⟨[45].toArray⟩ ⟨(Lib.decDigits u).toArray⟩ (by show 1 + (Lib.decDigits u).length < _; rw [Lib.decDigits_length]; omega)
    rw [ba_cat] at c1
    have e : unA .neg (ii (-(u : Int))) = some (ii (u : Int)) := by
      simp only [unA]
      rw [Int.zero_sub, Int.neg_neg, wrap64 _ (by omega) (by omega)]
    simp (maxSteps := 1000000) (disch := omega) only [stepS, reduceIte, Nat.reduceBEq, Nat.reduceEqDiff, tupleOf, stepT, i0, e]
    refine digits_nat (by omega) ?_
    simp (maxSteps := 1000000) (disch := omega) only [stepS, reduceIte, Nat.reduceBEq, Nat.reduceEqDiff, tupleOf, stepT, c1]
    exact hq
  · obtain ⟨u, rfl⟩ : ∃ u : Nat, n = u := ⟨n.toNat, by omega⟩
    rw [Lib.itoa_nonneg u] at hq
    exact digits_nat (by omega) hq
end Go.AS.C
