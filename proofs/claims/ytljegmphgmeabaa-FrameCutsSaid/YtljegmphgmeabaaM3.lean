/- Lemmas for the proof of a given statement; no conditions. -/
import Derived.Test.YtljegmphgmeabaaM2
import Derived.Test.YtljegmphgmeabaaRows
namespace Go.AS.C
open Go
set_option linter.unusedVariables false
set_option linter.unusedSimpArgs false
set_option maxRecDepth 10000

/-- One bit's turn. -/
def bit1 (c : BitVec 32) : BitVec 32 := (c >>> 1) ^^^ (2197175160#32 &&& -(c &&& 1#32))

def bitsN : Nat → BitVec 32 → BitVec 32
  | 0, c => c
  | n + 1, c => bit1 (bitsN n c)

def byte1 (c : BitVec 32) (b : UInt8) : BitVec 32 := bitsN 8 (c ^^^ BitVec.ofNat 32 b.toNat)

def more (s : BitVec 32) (bs : List UInt8) : BitVec 32 := ~~~ (bs.foldl byte1 (~~~ s))

theorem hpoly : (Value.int .u32 2197175160) = u32 2197175160#32 := rfl

theorem shr1 (a : BitVec 32) : binA .shr (u32 a) (.int .u64 1) = some (u32 (a >>> 1)) := binA_shr32 a .u64 1 (by omega)

theorem hone32 : (Value.int .u32 1) = u32 1#32 := rfl

theorem and1 (c : BitVec 32) : c &&& 1#32 = if c.toNat % 2 = 1 then 1#32 else 0#32 := by
  apply BitVec.eq_of_toNat_eq
  rw [BitVec.toNat_and]
  simp only [BitVec.toNat_ofNat, Nat.reducePow, Nat.reduceMod, Nat.and_one_is_mod]
  split <;> simp <;> omega

theorem rem2 (c : BitVec 32) : c % 2#32 = if c.toNat % 2 = 1 then 1#32 else 0#32 := by
  apply BitVec.eq_of_toNat_eq
  rw [BitVec.toNat_umod]
  simp only [BitVec.toNat_ofNat, Nat.reducePow, Nat.reduceMod]
  split <;> simp <;> omega

theorem quo2 (c : BitVec 32) : c / 2#32 = c >>> 1 := by
  apply BitVec.eq_of_toNat_eq
  rw [BitVec.toNat_udiv, BitVec.toNat_ushiftRight, Nat.shiftRight_eq_div_pow]
  rfl

theorem bit1_eq (c : BitVec 32) : bit1 c = if c % 2#32 = 1#32 then (c / 2#32) ^^^ 2197175160#32 else c / 2#32 := by
  unfold bit1
  rw [and1, rem2, quo2]
  split
  · rename_i h
    have e : -(1#32) = BitVec.allOnes 32 := by decide
    simp [e]
  · simp

theorem htwo32 : (Value.int .u32 2) = u32 2#32 := rfl

theorem hones32 : (Value.int .u32 4294967295) = u32 4294967295#32 := rfl

theorem xor_ones (c : BitVec 32) : c ^^^ 4294967295#32 = ~~~ c := by
  have : (4294967295#32) = BitVec.allOnes 32 := by decide
  rw [this, BitVec.xor_allOnes]

theorem hzero32 : (Value.int .u32 0) = u32 0#32 := rfl

/-- n as w bytes, the lowest first. -/
def leB (n w : Nat) : List UInt8 := (List.range w).map fun j => UInt8.ofNat (n / 2 ^ (8 * j))

theorem leB_length (n w : Nat) : (leB n w).length = w := by simp [leB]

theorem flat_take_le {α : Type} (l : List (List α)) (k : Nat) : (l.take k).flatten.length ≤ l.flatten.length := by
  conv => rhs; rw [← List.take_append_drop k l, List.flatten_append, List.length_append]
  omega

theorem flat_take_succ {α : Type} (l : List (List α)) {k : Nat} {x : List α} (h : l[k]? = some x) : (l.take (k + 1)).flatten = (l.take k).flatten ++ x := by
  rw [List.take_add_one, h]
  simp

theorem leB4 (s : BitVec 32) : leB (s &&& 65535#32).toNat 2 ++ leB (s >>> 16).toNat 2 = leB s.toNat 4 := by
  have h := s.isLt
  have e1 : (s &&& 65535#32).toNat = s.toNat % 65536 := by
    rw [BitVec.toNat_and]
    exact Nat.and_two_pow_sub_one_eq_mod s.toNat 16
  have e2 : (s >>> 16).toNat = s.toNat / 65536 := by
    rw [BitVec.toNat_ushiftRight, Nat.shiftRight_eq_div_pow]
  rw [e1, e2]
  have r2 : List.range 2 = [0, 1] := by decide
  have r4 : List.range 4 = [0, 1, 2, 3] := by decide
  unfold leB
  rw [r2, r4]
  simp only [List.map_cons, List.map_nil, List.cons_append, List.nil_append]
  simp only [List.cons.injEq, and_true]
  exact ⟨u8eq (by omega), u8eq (by omega), u8eq (by omega), u8eq (by omega)⟩

theorem h65535 : (Value.int .u32 65535) = u32 65535#32 := rfl

theorem shr16 (a : BitVec 32) : binA .shr (u32 a) (.int .u64 16) = some (u32 (a >>> 16)) := binA_shr32 a .u64 16 (by omega)

/-- What seals bytes. -/
def sealB (bs : List UInt8) : List UInt8 := bs ++ leB (more 0#32 bs).toNat 4

theorem sealB_length (bs : List UInt8) : (sealB bs).length = bs.length + 4 := by simp [sealB, leB_length]

/-- What was sealed is these bytes. -/
def openB (bs : List UInt8) : Option (List UInt8) :=
  if 4 ≤ bs.length ∧ bs.drop (bs.length - 4) = leB (more 0#32 (bs.take (bs.length - 4))).toNat 4 then some (bs.take (bs.length - 4)) else none

theorem openB_sealB (bs : List UInt8) : openB (sealB bs) = some bs := by
  unfold openB
  have e : (sealB bs).length - 4 = bs.length := by rw [sealB_length]; omega
  have h1 : (sealB bs).take bs.length = bs := by unfold sealB; simp
  have h2 : (sealB bs).drop bs.length = leB (more 0#32 bs).toNat 4 := by unfold sealB; simp
  rw [e, h1, h2, if_pos ⟨by rw [sealB_length]; omega, rfl⟩]

theorem openB_iff {bs x : List UInt8} : openB bs = some x ↔ bs = sealB x := by
  constructor
  · intro h
    unfold openB at h
    split at h
    · rename_i hc
      injection h with h
      rw [h] at hc
      unfold sealB
      rw [← hc.2, ← h]
      simp
    · cases h
  · rintro rfl
    exact openB_sealB x

theorem h256 : (Value.int .u32 256) = u32 256#32 := rfl

theorem h65536 : (Value.int .u32 65536) = u32 65536#32 := rfl

theorem h16m : (Value.int .u32 16777216) = u32 16777216#32 := rfl

theorem leB4' (s : BitVec 32) : [UInt8.ofNat (s % 256#32).toNat, UInt8.ofNat (s / 256#32 % 256#32).toNat, UInt8.ofNat (s / 65536#32 % 256#32).toNat, UInt8.ofNat (s / 16777216#32).toNat] = leB s.toNat 4 := by
  have r4 : List.range 4 = [0, 1, 2, 3] := by decide
  unfold leB
  rw [r4]
  simp only [List.map_cons, List.map_nil, BitVec.toNat_umod, BitVec.toNat_udiv, BitVec.toNat_ofNat, Nat.reducePow, Nat.reduceMod]
  simp only [List.cons.injEq, and_true]
  have hs := s.isLt
  refine ⟨u8eq ?_, u8eq ?_, u8eq ?_⟩ <;> omega

theorem openB_seal {bs : List UInt8} (h : 4 ≤ bs.length) : (sealB (bs.take (bs.length - 4)) != bs) = (openB bs).isNone := by
  cases ho : openB bs with
  | none =>
    simp only [Option.isNone_none, bne_iff_ne, ne_eq]
    intro he
    have := openB_sealB (bs.take (bs.length - 4))
    rw [he, ho] at this
    cases this
  | some x =>
    have := openB_iff.1 ho
    subst this
    have e : (sealB x).length - 4 = x.length := by rw [sealB_length]; omega
    have h1 : (sealB x).take x.length = x := by unfold sealB; simp
    rw [e, h1]
    simp

theorem more_append (s : BitVec 32) (a b : List UInt8) : more (more s a) b = more s (a ++ b) := by
  unfold more
  rw [BitVec.not_not, List.foldl_append]

end Go.AS.C

namespace Go.AS.C
open Go
set_option linter.unusedVariables false
set_option linter.unusedSimpArgs false

/-- Bytes as a number, the lowest first. -/
def leN : List UInt8 → Nat
  | [] => 0
  | b :: r => b.toNat + 256 * leN r
theorem leN_append : ∀ (a b : List UInt8), leN (a ++ b) = leN a + 256 ^ a.length * leN b
  | [], b => by simp [leN]
  | x :: a, b => by
    simp only [List.cons_append, leN, leN_append a b, List.length_cons, Nat.pow_succ, Nat.mul_add, ← Nat.mul_assoc]
    rw [Nat.mul_comm 256 (256 ^ a.length)]
    omega
theorem leN_lt : ∀ a : List UInt8, leN a < 256 ^ a.length
  | [] => by simp [leN]
  | x :: a => by
    have h1 := leN_lt a
    have h2 := x.toNat_lt
    simp only [leN, List.length_cons, Nat.pow_succ]
    omega
theorem pow256 (k : Nat) : 2 ^ (8 * k) = 256 ^ k := by rw [Nat.pow_mul]

/-- What num.Unfix gives: the number, and the error. -/
def unfixN (bs : List UInt8) : Nat × Nat := if bs.length < 1 ∨ 4 < bs.length then (0, 1) else if leN bs ≤ 2147483647 then (leN bs, 0) else (0, 5)

theorem wrap_i64_nat (n : Nat) (h : n < 2 ^ 62) : IntKind.i64.wrap (n : Int) = n := wrap_i64 _ (by omega) (by omega)
theorem toNat_i64 (n : Nat) (h : n < 2 ^ 62) : (BitVec.ofInt 64 (n : Int)).toNat = n := by
  rw [BitVec.ofInt_natCast, BitVec.toNat_ofNat, Nat.mod_eq_of_lt (by omega)]
theorem or_ii (a b : Nat) (ha : a < 2 ^ 62) (hb : b < 2 ^ 62) : binA .or (ii a) (ii b) = some (ii ((a ||| b : Nat) : Int)) := by
  show (if IntKind.i64 = IntKind.i64 then some (Value.int .i64 (IntKind.i64.wrap ((BitVec.ofInt 64 (a : Int) ||| BitVec.ofInt 64 (b : Int)).toNat : Int))) else none) = _
  rw [if_pos rfl, BitVec.toNat_or, toNat_i64 a ha, toNat_i64 b hb, wrap_i64_nat _ (Nat.or_lt_two_pow ha hb)]
theorem and_ii (a b : Nat) (ha : a < 2 ^ 62) (hb : b < 2 ^ 62) : binA .and (ii a) (ii b) = some (ii ((a &&& b : Nat) : Int)) := by
  show (if IntKind.i64 = IntKind.i64 then some (Value.int .i64 (IntKind.i64.wrap ((BitVec.ofInt 64 (a : Int) &&& BitVec.ofInt 64 (b : Int)).toNat : Int))) else none) = _
  rw [if_pos rfl, BitVec.toNat_and, toNat_i64 a ha, toNat_i64 b hb, wrap_i64_nat _ (Nat.and_lt_two_pow _ hb)]
theorem shl_ii (a : Nat) (k : IntKind) (m : Nat) (hm : m ≤ 64) (h : a * 2 ^ m < 2 ^ 62) : binA .shl (ii a) (.int k m) = some (ii ((a * 2 ^ m : Nat) : Int)) := by
  simp only [binA]
  have hn : ¬ ((m : Int) < 0) := by omega
  rw [if_neg hn]
  have : min ((m : Int).toNat) IntKind.i64.bits = m := by
    show min ((m : Int).toNat) 64 = m
    simp; omega
  rw [this, show ((2 : Int) ^ m) = ((2 ^ m : Nat) : Int) by simp, ← Int.natCast_mul, wrap_i64_nat _ h]
theorem add_ii (a b : Nat) (h : a + b < 2 ^ 62) : binA .add (ii a) (ii b) = some (ii ((a + b : Nat) : Int)) := by
  rw [binA_addi _ _ (by omega) (by omega)]; rfl
theorem sub_ii (a b : Nat) (h : b ≤ a) (h2 : a < 2 ^ 62) : binA .sub (ii a) (ii b) = some (ii ((a - b : Nat) : Int)) := by
  rw [binA_subi _ _ (by omega) (by omega)]
  congr 2; omega
theorem or_low (a b k : Nat) (h : a < 2 ^ k) : a ||| (b * 2 ^ k) = a + b * 2 ^ k := by
  rw [Nat.mul_comm, Nat.or_comm, ← Nat.two_pow_add_eq_or_of_lt h, Nat.add_comm]
theorem div_ii (a b : Nat) (hb : b ≠ 0) (ha : a < 2 ^ 62) : binA .quo (ii a) (ii b) = some (ii ((a / b : Nat) : Int)) := by
  simp only [binA, ii]
  have hb2 : True ∧ (b : Int) ≠ 0 := ⟨trivial, by omega⟩
  rw [if_pos hb2, Int.tdiv_eq_ediv_of_nonneg (by omega), ← Int.natCast_ediv, wrap_i64_nat _ (Nat.lt_of_le_of_lt (Nat.div_le_self _ _) ha)]
theorem rem_ii (a b : Nat) (hb : b ≠ 0) : binA .rem (ii a) (ii b) = some (ii ((a % b : Nat) : Int)) := by
  simp only [binA, ii]
  have hb2 : True ∧ (b : Int) ≠ 0 := ⟨trivial, by omega⟩
  rw [if_pos hb2, Int.tmod_eq_emod_of_nonneg (by omega), ← Int.natCast_emod]
end Go.AS.C

namespace Go.AS.C
open Go
set_option linter.unusedVariables false
set_option linter.unusedSimpArgs false

theorem binA_or8 (a b : UInt8) : binA .or (by8 a) (by8 b) = some (by8 (a ||| b)) := by
  show (if IntKind.u8 = IntKind.u8 then some (Value.int .u8 (IntKind.u8.wrap ((BitVec.ofInt 8 (a.toNat : Int) ||| BitVec.ofInt 8 (b.toNat : Int)).toNat : Int))) else none) = _
  rw [if_pos rfl, ofInt_u8, ofInt_u8]
  have h1 : (a.toBitVec ||| b.toBitVec).toNat = (a ||| b).toNat := by simp
  rw [h1, wrap_u8 _ (a ||| b).toNat_lt]
  rfl
theorem binA_and8 (a b : UInt8) : binA .and (by8 a) (by8 b) = some (by8 (a &&& b)) := by
  show (if IntKind.u8 = IntKind.u8 then some (Value.int .u8 (IntKind.u8.wrap ((BitVec.ofInt 8 (a.toNat : Int) &&& BitVec.ofInt 8 (b.toNat : Int)).toNat : Int))) else none) = _
  rw [if_pos rfl, ofInt_u8, ofInt_u8]
  have h1 : (a.toBitVec &&& b.toBitVec).toNat = (a &&& b).toNat := by simp
  rw [h1, wrap_u8 _ (a &&& b).toNat_lt]
  rfl
theorem binA_shr8 (a : UInt8) (k : IntKind) (n : Nat) (h : n ≤ 8) : binA .shr (by8 a) (.int k n) = some (by8 (UInt8.ofNat (a.toNat / 2 ^ n))) := by
  simp only [binA, by8]
  have hn : ¬ ((n : Int) < 0) := by omega
  rw [if_neg hn]
  have : min ((n : Int).toNat) IntKind.u8.bits = n := by
    show min ((n : Int).toNat) 8 = n
    simp; omega
  rw [this, show ((2 : Int) ^ n) = ((2 ^ n : Nat) : Int) by simp, Int.fdiv_eq_ediv_of_nonneg _ (Int.natCast_nonneg _)]
  congr 2
  have hlt : a.toNat / 2 ^ n < 256 := Nat.lt_of_le_of_lt (Nat.div_le_self _ _) a.toNat_lt
  rw [UInt8.toNat_ofNat', Nat.mod_eq_of_lt hlt, Int.natCast_ediv]
theorem binA_sub8 (a b : UInt8) (h : b.toNat ≤ a.toNat) : binA .sub (by8 a) (by8 b) = some (by8 (UInt8.ofNat (a.toNat - b.toNat))) := by
  simp only [binA, by8, if_true]
  congr 2
  have ha := a.toNat_lt
  have e : (a.toNat : Int) - (b.toNat : Int) = ((a.toNat - b.toNat : Nat) : Int) := by omega
  rw [e, wrap_u8 _ (by omega), UInt8.toNat_ofNat', Nat.mod_eq_of_lt (by omega)]
theorem binA_gtr8 (a b : UInt8) : binA .gtr (by8 a) (by8 b) = some (.bool (decide (b.toNat < a.toNat))) := by
  simp only [binA, by8, if_true]
  congr 2
  rw [decide_eq_decide]
  omega
theorem b8_0 : (Value.int .u8 0) = by8 0 := rfl
theorem b8_1 : (Value.int .u8 1) = by8 1 := rfl

/-- How many bits of a byte are 1. -/
def popN (n : Nat) : Nat := (n % 2) + (n / 2 % 2) + (n / 4 % 2) + (n / 8 % 2) + (n / 16 % 2) + (n / 32 % 2) + (n / 64 % 2) + (n / 128 % 2)
def popB (b : UInt8) : Nat := popN b.toNat
def popL (l : List UInt8) : Nat := (l.map popB).sum
theorem pop_step : ∀ n : Fin 256, n.val ≠ 0 → popN (n.val &&& (n.val - 1)) + 1 = popN n.val := by decide +kernel
theorem popB_step (x : UInt8) (h : 0 < x.toNat) : popB (x &&& UInt8.ofNat (x.toNat - 1)) + 1 = popB x := by
  have := pop_step ⟨x.toNat, x.toNat_lt⟩ (by simp; omega)
  unfold popB
  have hx := x.toNat_lt
  rw [UInt8.toNat_and, UInt8.toNat_ofNat', Nat.mod_eq_of_lt (by omega)]
  exact this
theorem and_less (x : UInt8) (h : 0 < x.toNat) : (x &&& UInt8.ofNat (x.toNat - 1)).toNat < x.toNat := by
  have hx := x.toNat_lt
  rw [UInt8.toNat_and, UInt8.toNat_ofNat', Nat.mod_eq_of_lt (by omega)]
  have : x.toNat &&& (x.toNat - 1) ≤ x.toNat - 1 := Nat.and_le_right
  omega
theorem popB_le (x : UInt8) : popB x ≤ 8 := by unfold popB popN; omega
theorem popL_take_succ {l : List UInt8} {k : Nat} {x : UInt8} (h : l[k]? = some x) : popL (l.take (k + 1)) = popL (l.take k) + popB x := by
  unfold popL
  rw [List.take_add_one, h]
  simp
theorem popL_le (l : List UInt8) : popL l ≤ 8 * l.length := by
  unfold popL
  induction l with
  | nil => simp
  | cons a l ih => simp only [List.map_cons, List.sum_cons, List.length_cons]; have := popB_le a; omega
theorem popL_take_le (l : List UInt8) (k : Nat) : popL (l.take k) ≤ popL l := by
  conv => rhs; rw [← List.take_append_drop k l]
  unfold popL
  rw [List.map_append, List.sum_append]
  omega
/-- The first k bits. -/
def popK (n : Nat) : Nat → Nat
  | 0 => 0
  | k + 1 => popK n k + n / 2 ^ k % 2
theorem popK_8 (n : Nat) : popK n 8 = popN n := by simp [popK, popN]
end Go.AS.C

namespace Go.AS.C
open Go
set_option linter.unusedVariables false
set_option linter.unusedSimpArgs false

theorem ext_bytes (s : ByteArray) (l h : Nat) : (s.extract l h).data.toList = (s.data.toList.drop l).take (h - l) := by
  rw [ByteArray.data_extract, Array.toList_extract, List.extract_eq_take_drop]
theorem size_bytes (s : ByteArray) : s.size = s.data.toList.length := by rw [Array.length_toList]; rfl
theorem sls_both {A : AH} {s : ByteArray} {l h : Nat} (h1 : l ≤ h) (h2 : h ≤ s.size) : sSls A (.string s) (some (ii l)) (some (ii h)) = some (.string (s.extract l h), A) := by
  unfold sSls
  simp only [bnd_both h1 h2]
  rfl
theorem s2b_row (A : AH) (s : ByteArray) : sS2b A (.string s) = some (.slice (some ⟨A.length, 0, none⟩) s.size s.size, A ++ [.row (s.data.toList.map by8) .own 1 false]) := id rfl
theorem s2b_byt (A : AH) (s : ByteArray) : OwnB A.length (A ++ [.row (s.data.toList.map by8) .own 1 false]) (.slice (some ⟨A.length, 0, none⟩) s.size s.size) s.data.toList :=
  own_row (get_last _ _) (size_bytes s) (Nat.le_refl _) (Nat.le_refl _)
theorem lens_str {A : AH} {s : ByteArray} : sLens A true (.string s) = some (ii s.size, A) := id rfl
end Go.AS.C

namespace Go.AS.C
open Go
set_option linter.unusedVariables false
set_option linter.unusedSimpArgs false
set_option maxRecDepth 10000

theorem b8_128 : (Value.int .u8 128) = by8 128 := rfl
theorem b8_127 : (Value.int .u8 127) = by8 127 := rfl
theorem or128 (m : Nat) : UInt8.ofNat m ||| 128 = UInt8.ofNat (m % 128 + 128) := by
  have h : ∀ x : Fin 256, (x.val ||| 128) = x.val % 128 + 128 := by decide +kernel
  apply UInt8.toNat_inj.1
  have := h ⟨m % 256, Nat.mod_lt _ (by omega)⟩
  simp only at this
  rw [UInt8.toNat_or, UInt8.toNat_ofNat', UInt8.toNat_ofNat', show (128 : UInt8).toNat = 128 from rfl, this]
  omega
theorem and127 (x : UInt8) : (x &&& 127).toNat = x.toNat % 128 := by
  rw [UInt8.toNat_and, show (127 : UInt8).toNat = 2 ^ 7 - 1 from rfl, Nat.and_two_pow_sub_one_eq_mod]
theorem binA_rem8 (x : UInt8) : binA .rem (by8 x) (.int .u8 128) = some (by8 (x &&& 127)) := by
  simp only [binA, by8]
  rw [if_pos ⟨trivial, by decide⟩, Int.tmod_eq_emod_of_nonneg (by omega), and127]
  rfl
theorem binA_geq8 (x : UInt8) (n : Int) : binA .geq (by8 x) (.int .u8 n) = some (.bool (decide (n ≤ (x.toNat : Int)))) := by
  simp [binA, by8]
theorem binA_eql8 (x : UInt8) (n : Int) : binA .eql (by8 x) (.int .u8 n) = some (.bool (decide ((x.toNat : Int) = n))) := by
  simp only [by8, eqlI]

/-- A number's bytes: seven bits in each, the lowest first. -/
def putN (n : Nat) : List UInt8 := if n < 128 then [UInt8.ofNat n] else UInt8.ofNat (n % 128 + 128) :: putN (n / 128)
theorem putN_small {n : Nat} (h : n < 128) : putN n = [UInt8.ofNat n] := by rw [putN, if_pos h]
theorem putN_big {n : Nat} (h : 128 ≤ n) : putN n = UInt8.ofNat (n % 128 + 128) :: putN (n / 128) := by rw [putN, if_neg (by omega)]
theorem putN_len {n : Nat} : ∀ k, n < 128 ^ (k + 1) → (putN n).length ≤ k + 1
  | 0, h => by rw [putN_small (by simpa using h)]; simp
  | k + 1, h => by
    rcases Nat.lt_or_ge n 128 with h1 | h1
    · rw [putN_small h1]; simp
    · rw [putN_big h1, List.length_cons]
      have : n / 128 < 128 ^ (k + 1) := by
        rw [Nat.div_lt_iff_lt_mul (by omega)]
        rw [Nat.pow_succ] at h; exact h
      have := putN_len k this
      omega
theorem putN_pos (n : Nat) : 1 ≤ (putN n).length := by
  rw [putN]; split <;> simp
theorem putN_len5 {n : Nat} (h : n ≤ 2147483647) : (putN n).length ≤ 5 := putN_len 4 (by omega)

/-- The number with which bytes begin: from place i on, n being told so far. -/
def getGo : Nat → Nat → List UInt8 → Option (Nat × Nat)
  | _, _, [] => none
  | i, n, b :: r => if 5 ≤ i then none else if 128 ≤ b.toNat then getGo (i + 1) (n + b.toNat % 128 * 128 ^ i) r
    else if 2147483647 < n + b.toNat % 128 * 128 ^ i ∨ (0 < i ∧ b.toNat = 0) then none else some (n + b.toNat % 128 * 128 ^ i, i + 1)
def getN (bs : List UInt8) : Option (Nat × Nat) := getGo 0 0 bs
/-- What Get gives. -/
def getT (bs : List UInt8) : Nat × Nat × Nat := match getN bs with | some (n, k) => (n, k, 0) | none => (0, 0, 5)

theorem getGo_put (r : List UInt8) : ∀ (k i m n : Nat), m < 128 ^ (k + 1) → i + k < 5 → n + m * 128 ^ i ≤ 2147483647 → (0 < i → 0 < m) → getGo i n (putN m ++ r) = some (n + m * 128 ^ i, i + (putN m).length)
  | k, i, m, n, hm, hi, hn, h0 => by
    rcases Nat.lt_or_ge m 128 with h | h
    · rw [putN_small h]
      have e : (UInt8.ofNat m).toNat = m := by rw [UInt8.toNat_ofNat', Nat.mod_eq_of_lt (by omega)]
      show getGo i n (UInt8.ofNat m :: r) = _
      unfold getGo
      rw [e, Nat.mod_eq_of_lt h, if_neg (by omega), if_neg (by omega), if_neg (by omega)]
      rfl
    · rw [putN_big h, List.cons_append]
      have e : (UInt8.ofNat (m % 128 + 128)).toNat = m % 128 + 128 := by rw [UInt8.toNat_ofNat', Nat.mod_eq_of_lt (by omega)]
      unfold getGo
      have e2 : (m % 128 + 128) % 128 = m % 128 := by omega
      rw [e, e2, if_neg (by omega), if_pos (by omega)]
      have e3 : n + m % 128 * 128 ^ i + m / 128 * 128 ^ (i + 1) = n + m * 128 ^ i := by
        have := Nat.div_add_mod m 128
        rw [Nat.pow_succ, show m / 128 * (128 ^ i * 128) = (128 * (m / 128)) * 128 ^ i by rw [Nat.mul_comm (128 ^ i) 128, ← Nat.mul_assoc, Nat.mul_comm (m / 128) 128], Nat.add_assoc, ← Nat.add_mul]
        rw [Nat.add_comm (m % 128), this]
      cases k with
      | zero => simp at hm; omega
      | succ k =>
        have hlt : m / 128 < 128 ^ (k + 1) := by
          rw [Nat.div_lt_iff_lt_mul (by omega)]
          rw [Nat.pow_succ] at hm; exact hm
        rw [getGo_put r k (i + 1) (m / 128) _ hlt (by omega) (by rw [e3]; exact hn) (fun _ => Nat.div_pos h (by omega)), e3, List.length_cons]
        congr 2
        omega
theorem getN_put {n : Nat} (h : n ≤ 2147483647) (r : List UInt8) : getN (putN n ++ r) = some (n, (putN n).length) := by
  have := getGo_put r 4 0 n 0 (by omega) (by omega) (by simpa using h) (fun h => by omega)
  simpa [getN] using this

theorem getGo_ok : ∀ (bs : List UInt8) (i n m k : Nat), n < 128 ^ i → getGo i n bs = some (m, k) → i < k ∧ k ≤ i + bs.length ∧ k ≤ 5 ∧ m ≤ 2147483647 ∧ n ≤ m ∧ (m - n) % 128 ^ i = 0 ∧ putN ((m - n) / 128 ^ i) = bs.take (k - i) ∧ (0 < i → 0 < (m - n) / 128 ^ i)
  | [], i, n, m, k, _, h => by cases h
  | b :: r, i, n, m, k, hn, h => by
    unfold getGo at h
    split at h
    · cases h
    · rename_i hi
      have hp : 0 < 128 ^ i := Nat.pow_pos (by omega)
      split at h
      · rename_i hb
        have hb8 := b.toNat_lt
        have hn2 : n + b.toNat % 128 * 128 ^ i < 128 ^ (i + 1) := by
          have : b.toNat % 128 * 128 ^ i ≤ 127 * 128 ^ i := Nat.mul_le_mul_right _ (by omega)
          rw [Nat.pow_succ]; omega
        obtain ⟨h1, h2, h3, h4, h5, h6, h7, h8⟩ := getGo_ok r (i + 1) _ m k hn2 h
        have hx := h8 (by omega)
        generalize hq : (m - (n + b.toNat % 128 * 128 ^ i)) / 128 ^ (i + 1) = q at h7 hx
        have hm : m - (n + b.toNat % 128 * 128 ^ i) = q * 128 ^ (i + 1) := by
          have := Nat.div_add_mod (m - (n + b.toNat % 128 * 128 ^ i)) (128 ^ (i + 1))
          rw [hq, h6, Nat.mul_comm] at this
          omega
        have hm2 : m - n = (b.toNat % 128 + 128 * q) * 128 ^ i := by
          have e : 128 * q * 128 ^ i = q * 128 ^ (i + 1) := by rw [Nat.pow_succ]; ac_rfl
          rw [Nat.add_mul, e]
          omega
        have hd : (m - n) / 128 ^ i = b.toNat % 128 + 128 * q := by rw [hm2, Nat.mul_div_cancel _ hp]
        refine ⟨by omega, by simp; omega, h3, h4, by omega, by rw [hm2]; exact Nat.mul_mod_left _ _, ?_, by omega⟩
        rw [hd, putN_big (by omega)]
        have e1 : (b.toNat % 128 + 128 * q) % 128 + 128 = b.toNat := by omega
        have e2 : (b.toNat % 128 + 128 * q) / 128 = q := by omega
        have e3 : k - i = (k - (i + 1)) + 1 := by omega
        rw [e1, e2, e3, List.take_succ_cons, h7]
        congr 1
        exact UInt8.toNat_inj.1 (by rw [UInt8.toNat_ofNat', Nat.mod_eq_of_lt hb8])
      · rename_i hb
        split at h
        · cases h
        · rename_i hc
          simp only [Option.some.injEq, Prod.mk.injEq] at h
          obtain ⟨rfl, rfl⟩ := h
          have hb8 := b.toNat_lt
          have e1 : b.toNat % 128 = b.toNat := by omega
          have e2 : n + b.toNat % 128 * 128 ^ i - n = b.toNat * 128 ^ i := by rw [e1]; omega
          refine ⟨by omega, by simp only [List.length_cons]; omega, by omega, by omega, by omega, by rw [e2]; exact Nat.mul_mod_left _ _, ?_, ?_⟩
          · rw [e2, Nat.mul_div_cancel _ hp, putN_small (by omega), show i + 1 - i = 1 by omega]
            show [UInt8.ofNat b.toNat] = [b]
            rw [UInt8.ofNat_toNat]
          · intro h0
            rw [e2, Nat.mul_div_cancel _ hp]
            omega
theorem getN_ok {bs : List UInt8} {n k : Nat} (h : getN bs = some (n, k)) : 1 ≤ k ∧ k ≤ bs.length ∧ k ≤ 5 ∧ n ≤ 2147483647 ∧ putN n = bs.take k := by
  obtain ⟨h1, h2, h3, h4, _, _, h7, _⟩ := getGo_ok bs 0 0 n k (by simp) h
  simp at h7 h2
  exact ⟨by omega, h2, h3, h4, h7⟩

/-- A text's bytes. -/
def textN (bs : List UInt8) : List UInt8 := putN bs.length ++ bs
/-- What Fix gives. -/
def fixF (n w : Int) : Option (List UInt8) := if (1 ≤ w ∧ w ≤ 4) ∧ (0 ≤ n ∧ n ≤ 2147483647) ∧ n.toNat / 256 ^ w.toNat = 0 then some (leB n.toNat w.toNat) else none
theorem leN_leB (w : Nat) : ∀ n, n < 256 ^ w → leN (leB n w) = n := by
  induction w with
  | zero => intro n h; simp at h; subst h; rfl
  | succ w ih =>
    intro n h
    have e : leB n (w + 1) = UInt8.ofNat n :: leB (n / 256) w := by
      unfold leB
      rw [List.range_succ_eq_map, List.map_cons, List.map_map]
      congr 1
      · simp
      apply List.map_congr_left
      intro k _
      show UInt8.ofNat (n / 2 ^ (8 * (k + 1))) = UInt8.ofNat (n / 256 / 2 ^ (8 * k))
      rw [Nat.div_div_eq_div_mul, show 2 ^ (8 * (k + 1)) = 256 * 2 ^ (8 * k) by rw [Nat.mul_add, Nat.pow_add, Nat.mul_comm]]
    rw [e]
    unfold leN
    rw [ih (n / 256) (by rw [Nat.div_lt_iff_lt_mul (by omega)]; rw [Nat.pow_succ] at h; exact h), UInt8.toNat_ofNat']
    omega
theorem fixF_unfix {n w : Int} {z : List UInt8} (h : fixF n w = some z) : unfixN z = (n.toNat, 0) := by
  unfold fixF at h
  split at h
  · rename_i hc
    obtain ⟨h1, h2, h3⟩ := hc
    obtain rfl := Option.some.inj h
    have h4 : n.toNat < 256 ^ w.toNat := by
      rcases Nat.lt_or_ge n.toNat (256 ^ w.toNat) with h | h
      · exact h
      · have := Nat.div_pos h (Nat.pow_pos (by omega)); omega
    unfold unfixN
    rw [leB_length, if_neg (by omega), leN_leB _ _ h4, if_pos (by omega)]
  · cases h
end Go.AS.C

namespace Go.AS.C
open Go
set_option linter.unusedVariables false
set_option linter.unusedSimpArgs false
set_option maxRecDepth 10000

/-- A frame. -/
def frameB (bs : List UInt8) : List UInt8 := sealB (leB bs.length 2 ++ bs)
theorem frameB_length (bs : List UInt8) : (frameB bs).length = bs.length + 6 := by unfold frameB; rw [sealB_length, List.length_append, leB_length]; omega
/-- What is wrong with a frame's text. -/
def frE (bs : List UInt8) : Nat := if bs.length = 0 then 1 else if 65535 < bs.length then 3 else 0
def sizeF (n : Int) : Int := if n < 1 ∨ n > 65535 then 0 else n + 6
/-- The frame with which bytes begin: its text, and how many bytes it has. -/
def nextF (bs : List UInt8) : Option (List UInt8 × Nat) :=
  if 7 ≤ bs.length ∧ leN (bs.take 2) ≠ 0 ∧ leN (bs.take 2) + 6 ≤ bs.length then (openB (bs.take (leN (bs.take 2) + 6))).map fun x => (x.drop 2, leN (bs.take 2) + 6) else none
def nextE (bs : List UInt8) : Nat := if bs.length = 0 then 6 else 5
theorem leN2 {bs : List UInt8} (h : 2 ≤ bs.length) : leN (bs.take 2) < 65536 ∧ unfixN (bs.take 2) = (leN (bs.take 2), 0) := by
  have hl : (bs.take 2).length = 2 := by simp; omega
  have := leN_lt (bs.take 2)
  rw [hl] at this
  refine ⟨by omega, ?_⟩
  unfold unfixN
  rw [hl, if_neg (by omega), if_pos (by omega)]
theorem openB_len {bs x : List UInt8} (h : openB bs = some x) : bs.length = x.length + 4 := by
  unfold openB at h
  split at h
  · rename_i hc
    injection h with h
    subst h
    simp; omega
  · cases h
theorem nextF_ok {bs x : List UInt8} {n : Nat} (h : nextF bs = some (x, n)) : 7 ≤ n ∧ n ≤ bs.length ∧ x.length + 6 = n ∧ n ≤ 65541 := by
  unfold nextF at h
  split at h
  · rename_i hc
    rw [Option.map_eq_some_iff] at h
    obtain ⟨y, h1, h2⟩ := h
    injection h2 with h2 h3
    subst h2 h3
    have := openB_len h1
    rw [List.length_take] at this
    have := (leN2 (bs := bs) (by omega)).1
    refine ⟨by omega, by omega, by simp; omega, by omega⟩
  · cases h
theorem nextF_frame {bs r : List UInt8} (h1 : 1 ≤ bs.length) (h2 : bs.length ≤ 65535) : nextF (frameB bs ++ r) = some (bs, bs.length + 6) := by
  have hl := frameB_length bs
  have e2 : (frameB bs ++ r).take 2 = leB bs.length 2 := by
    unfold frameB sealB
    rw [List.append_assoc, List.append_assoc, List.take_append_of_le_length (by rw [leB_length]; omega), List.take_of_length_le (by rw [leB_length]; omega)]
  have e3 : leN (leB bs.length 2) = bs.length := leN_leB 2 _ (by omega)
  unfold nextF
  rw [e2, e3, if_pos ⟨by simp; omega, by omega, by simp; omega⟩]
  have e4 : (frameB bs ++ r).take (bs.length + 6) = frameB bs := by
    rw [← hl, List.take_left]
  rw [e4]
  unfold frameB
  rw [openB_sealB]
  simp only [Option.map_some]
  rw [← leB_length bs.length 2]
  have := List.drop_left (l₁ := leB bs.length 2) (l₂ := bs)
  rw [leB_length] at this ⊢
  simp [this]
/-- All frames with which bytes begin, and where they end. -/
def scanGo : Nat → List UInt8 → List (List UInt8) × Nat
  | 0, _ => ([], 0)
  | f + 1, bs => match nextF bs with
    | some (x, n) => (x :: (scanGo f (bs.drop n)).1, n + (scanGo f (bs.drop n)).2)
    | none => ([], 0)
def scanF (bs : List UInt8) : List (List UInt8) × Nat := scanGo bs.length bs
theorem nextF_nil : nextF [] = none := by unfold nextF; rw [if_neg (by simp)]
theorem scanGo_more : ∀ (f : Nat) (bs : List UInt8), bs.length ≤ f → scanGo f bs = scanF bs
  | 0, bs, h => by
    have : bs = [] := by simpa using h
    subst this; rfl
  | f + 1, bs, h => by
    unfold scanF
    cases hn : nextF bs with
    | none =>
      cases hl : bs.length with
      | zero => simp [scanGo, hn]
      | succ k => simp [scanGo, hn]
    | some r =>
      obtain ⟨x, n⟩ := r
      obtain ⟨h1, h2, _, _⟩ := nextF_ok hn
      obtain ⟨k, hk⟩ : ∃ k, bs.length = k + 1 := ⟨bs.length - 1, by omega⟩
      rw [hk]
      have a := scanGo_more f (bs.drop n) (by simp; omega)
      have b := scanGo_more k (bs.drop n) (by simp; omega)
      simp only [scanGo, hn, a, b]
  termination_by f => f
theorem scanF_none {bs : List UInt8} (h : nextF bs = none) : scanF bs = ([], 0) := by
  unfold scanF
  cases hl : bs.length with
  | zero => rfl
  | succ k => simp [scanGo, h]
theorem scanF_some {bs x : List UInt8} {n : Nat} (h : nextF bs = some (x, n)) : scanF bs = (x :: (scanF (bs.drop n)).1, n + (scanF (bs.drop n)).2) := by
  obtain ⟨h1, h2, _, _⟩ := nextF_ok h
  have := scanGo_more (bs.length + 1) bs (by omega)
  rw [← this]
  have e := scanGo_more bs.length (bs.drop n) (by simp)
  simp only [scanGo, h, e]
theorem scanF_le (bs : List UInt8) : (scanF bs).2 ≤ bs.length ∧ (scanF bs).1.length ≤ bs.length := by
  unfold scanF
  suffices ∀ (f : Nat) (bs : List UInt8), (scanGo f bs).2 ≤ bs.length ∧ (scanGo f bs).1.length ≤ f from this _ _
  intro f
  induction f with
  | zero => intro bs; simp [scanGo]
  | succ f ih =>
    intro bs
    unfold scanGo
    cases hn : nextF bs with
    | none => simp
    | some r =>
      obtain ⟨x, n⟩ := r
      obtain ⟨h1, h2, _, _⟩ := nextF_ok hn
      have := ih (bs.drop n)
      rw [List.length_drop] at this
      simp only [List.length_cons]
      omega
end Go.AS.C

-- Printed by gen.py (wip/tools): the abstract code of each function, and that it fits the program.
namespace Go.AS.C
open Go Go.Proofs
set_option maxRecDepth 100000
abbrev chantrylaw26_FramePuts : FuncId := 3
abbrev chantrylaw26_FrameLong : FuncId := 4
abbrev chantrylaw26_FrameScans : FuncId := 5
abbrev chantrylaw26_FrameCuts : FuncId := 6
abbrev chantrylaw26_awake : FuncId := 7
abbrev frame_Put : FuncId := 8
abbrev chantryref26_Put : FuncId := 9
abbrev frame_Next : FuncId := 10
abbrev frame_Size : FuncId := 11
abbrev chantryref26_Size : FuncId := 12
abbrev chantryref26_Next : FuncId := 13
abbrev frame_Scan : FuncId := 14
abbrev chantryref26_Scan : FuncId := 15
abbrev chantryref01_Bytes : FuncId := 16
abbrev num_Fix : FuncId := 17
abbrev crc_Seal : FuncId := 18
abbrev chantryref01_Fix : FuncId := 19
abbrev chantryref02_Seal : FuncId := 20
abbrev num_Unfix : FuncId := 21
abbrev crc_Open : FuncId := 22
abbrev chantryref01_Unfix : FuncId := 23
abbrev chantryref02_Open : FuncId := 24
abbrev num_is : FuncId := 25
abbrev slices_Concat_byte_byte : FuncId := 26
abbrev crc_tail : FuncId := 27
abbrev crc_Sum : FuncId := 28
abbrev chantryref02_Sum : FuncId := 29
abbrev slices_Equal_byte_byte : FuncId := 30
abbrev slices_Clone_byte_byte : FuncId := 31
abbrev slices_Grow_byte_byte : FuncId := 32
abbrev crc_More : FuncId := 33
abbrev chantryref02_More : FuncId := 34
abbrev runtime_boundsError_Error : FuncId := 35
abbrev runtime_boundsError_RuntimeError : FuncId := 36
abbrev runtime_errorString_Error : FuncId := 37
abbrev runtime_errorString_RuntimeError : FuncId := 38
abbrev runtime_plainError_Error : FuncId := 39
abbrev runtime_plainError_RuntimeError : FuncId := 40
abbrev runtime_errorAddressString_Error : FuncId := 41
abbrev runtime_errorAddressString_RuntimeError : FuncId := 42
abbrev runtime_TypeAssertionError_Error : FuncId := 43
abbrev runtime_TypeAssertionError_RuntimeError : FuncId := 44
abbrev runtime_PanicNilError_Error : FuncId := 45
abbrev runtime_PanicNilError_RuntimeError : FuncId := 46
abbrev internal_abi_Type_Align : FuncId := 47
abbrev internal_runtime_maps_unhashableTypeError_Error : FuncId := 48
abbrev internal_runtime_maps_unhashableTypeError_RuntimeError : FuncId := 49
abbrev internal_abi_Kind_String : FuncId := 50

/-- chantry/chantrylaw26.FramePuts -/
noncomputable def ic_chantrylaw26_FramePuts : IC :=
  (.seq (.ops [
    ⟨(some 4), none, false, .mov (.const (.bool false))⟩]) (.seq (.seq (.ops [
    ⟨(some 12), none, false, .mov (.tmp 0)⟩,
    ⟨(some 13), none, false, .lens false (.tmp 12)⟩,
    ⟨(some 14), none, false, .bin .gtr (.tmp 13) (.const (.int .i64 3000))⟩,
    ⟨(some 15), none, false, .mov (.tmp 14)⟩,
    ⟨(some 16), (some (15, false)), false, .mov (.tmp 1)⟩,
    ⟨(some 17), (some (15, false)), false, .lens false (.tmp 16)⟩,
    ⟨(some 18), (some (15, false)), false, .bin .gtr (.tmp 17) (.const (.int .i64 300))⟩,
    ⟨(some 19), none, false, .pick (.tmp 15) (.const (.bool true)) (.tmp 18)⟩]) (.cond (.tmp 19) (.seq (.ops [
    ⟨(some 20), none, false, .call chantrylaw26_awake []⟩,
    ⟨(some 4), none, false, .mov (.tmp 20)⟩]) .ret) .skip)) (.seq (.ops [
    ⟨(some 22), none, false, .mov (.tmp 0)⟩,
    ⟨(some 23), none, false, .call frame_Put [(.tmp 22)]⟩,
    ⟨(some 21), none, false, .mov (.tmp 23)⟩,
    ⟨(some 24), none, false, .ext (.tmp 21) 0⟩,
    ⟨(some 25), none, false, .ext (.tmp 21) 1⟩,
    ⟨(some 5), none, false, .mov (.tmp 24)⟩,
    ⟨(some 6), none, false, .mov (.tmp 25)⟩]) (.seq (.ops [
    ⟨(some 27), none, false, .mov (.tmp 0)⟩,
    ⟨(some 28), none, false, .call chantryref26_Put [(.tmp 27)]⟩,
    ⟨(some 26), none, false, .mov (.tmp 28)⟩,
    ⟨(some 29), none, false, .ext (.tmp 26) 0⟩,
    ⟨(some 30), none, false, .ext (.tmp 26) 1⟩,
    ⟨(some 7), none, false, .mov (.tmp 29)⟩,
    ⟨(some 8), none, false, .mov (.tmp 30)⟩]) (.seq (.ops [
    ⟨(some 32), none, false, .lit [.int .u8 0] 1 0 []⟩,
    ⟨(some 33), none, false, .mov (.tmp 5)⟩,
    ⟨(some 34), none, false, .app (.tmp 32) (.tmp 33) 1 1⟩,
    ⟨(some 35), none, false, .mov (.tmp 1)⟩,
    ⟨(some 36), none, false, .app (.tmp 34) (.tmp 35) 1 1⟩,
    ⟨(some 37), none, false, .call frame_Next [(.tmp 36)]⟩,
    ⟨(some 31), none, false, .mov (.tmp 37)⟩,
    ⟨(some 38), none, false, .ext (.tmp 31) 0⟩,
    ⟨(some 39), none, false, .ext (.tmp 31) 1⟩,
    ⟨(some 40), none, false, .ext (.tmp 31) 2⟩,
    ⟨(some 9), none, false, .mov (.tmp 38)⟩,
    ⟨(some 10), none, false, .mov (.tmp 39)⟩,
    ⟨(some 11), none, false, .mov (.tmp 40)⟩]) (.seq (.ops [
    ⟨(some 41), none, false, .mov (.tmp 5)⟩,
    ⟨(some 42), none, false, .b2s (.tmp 41)⟩,
    ⟨(some 43), none, false, .mov (.tmp 7)⟩,
    ⟨(some 44), none, false, .b2s (.tmp 43)⟩,
    ⟨(some 45), none, false, .bin .eql (.tmp 42) (.tmp 44)⟩,
    ⟨(some 46), none, false, .mov (.tmp 45)⟩,
    ⟨(some 47), (some (46, true)), false, .mov (.tmp 6)⟩,
    ⟨(some 48), (some (46, true)), false, .mov (.tmp 8)⟩,
    ⟨(some 49), (some (46, true)), false, .bin .eql (.tmp 47) (.tmp 48)⟩,
    ⟨(some 50), none, false, .pick (.tmp 46) (.tmp 49) (.const (.bool false))⟩,
    ⟨(some 51), none, false, .mov (.tmp 50)⟩,
    ⟨(some 52), (some (51, true)), false, .mov (.tmp 0)⟩,
    ⟨(some 53), (some (51, true)), false, .lens false (.tmp 52)⟩,
    ⟨(some 54), (some (51, true)), false, .call frame_Size [(.tmp 53)]⟩,
    ⟨(some 55), (some (51, true)), false, .mov (.tmp 5)⟩,
    ⟨(some 56), (some (51, true)), false, .lens false (.tmp 55)⟩,
    ⟨(some 57), (some (51, true)), false, .bin .eql (.tmp 54) (.tmp 56)⟩,
    ⟨(some 58), none, false, .pick (.tmp 51) (.tmp 57) (.const (.bool false))⟩,
    ⟨(some 59), none, false, .mov (.tmp 58)⟩,
    ⟨(some 60), (some (59, true)), false, .mov (.tmp 6)⟩,
    ⟨(some 61), (some (59, true)), false, .bin .neq (.tmp 60) (.const (.int .i64 0))⟩,
    ⟨(some 62), (some (59, true)), false, .mov (.tmp 61)⟩,
    ⟨(some 63), (some (62, false)), false, .mov (.tmp 11)⟩,
    ⟨(some 64), (some (62, false)), false, .bin .eql (.tmp 63) (.const (.int .i64 0))⟩,
    ⟨(some 65), (some (62, false)), false, .mov (.tmp 64)⟩,
    ⟨(some 66), (some (65, true)), false, .mov (.tmp 10)⟩,
    ⟨(some 67), (some (65, true)), false, .mov (.tmp 5)⟩,
    ⟨(some 68), (some (65, true)), false, .lens false (.tmp 67)⟩,
    ⟨(some 69), (some (65, true)), false, .bin .eql (.tmp 66) (.tmp 68)⟩,
    ⟨(some 70), (some (62, false)), false, .pick (.tmp 65) (.tmp 69) (.const (.bool false))⟩,
    ⟨(some 71), (some (62, false)), false, .mov (.tmp 70)⟩,
    ⟨(some 72), (some (71, true)), false, .mov (.tmp 9)⟩,
    ⟨(some 73), (some (71, true)), false, .b2s (.tmp 72)⟩,
    ⟨(some 74), (some (71, true)), false, .mov (.tmp 0)⟩,
    ⟨(some 75), (some (71, true)), false, .b2s (.tmp 74)⟩,
    ⟨(some 76), (some (71, true)), false, .bin .eql (.tmp 73) (.tmp 75)⟩,
    ⟨(some 77), (some (62, false)), false, .pick (.tmp 71) (.tmp 76) (.const (.bool false))⟩,
    ⟨(some 78), (some (59, true)), false, .pick (.tmp 62) (.const (.bool true)) (.tmp 77)⟩,
    ⟨(some 79), none, false, .pick (.tmp 59) (.tmp 78) (.const (.bool false))⟩,
    ⟨(some 80), none, false, .mov (.tmp 79)⟩,
    ⟨(some 81), (some (80, true)), false, .call chantrylaw26_awake []⟩,
    ⟨(some 82), none, false, .pick (.tmp 80) (.tmp 81) (.const (.bool false))⟩,
    ⟨(some 4), none, false, .mov (.tmp 82)⟩]) .ret))))))
theorem fits_chantrylaw26_FramePuts : Fits Try.prog 0 chantrylaw26_FramePuts ic_chantrylaw26_FramePuts [.tmp 4] 2 :=
  ⟨Try.f3, Try.func3, by decide, by kernel_rfl, by kernel_rfl⟩

/-- chantry/chantrylaw26.FrameLong -/
noncomputable def ic_chantrylaw26_FrameLong : IC :=
  (.seq (.ops [
    ⟨(some 2), none, false, .mov (.const (.bool false))⟩]) (.seq (.seq (.ops [
    ⟨(some 6), none, false, .mov (.tmp 0)⟩,
    ⟨(some 7), none, false, .bin .lss (.tmp 6) (.const (.int .i64 0))⟩,
    ⟨(some 8), none, false, .mov (.tmp 7)⟩,
    ⟨(some 9), (some (8, false)), false, .mov (.tmp 0)⟩,
    ⟨(some 10), (some (8, false)), false, .bin .gtr (.tmp 9) (.const (.int .i64 70000))⟩,
    ⟨(some 11), none, false, .pick (.tmp 8) (.const (.bool true)) (.tmp 10)⟩]) (.cond (.tmp 11) (.seq (.ops [
    ⟨(some 12), none, false, .mov (.tmp 0)⟩,
    ⟨(some 13), none, false, .call frame_Size [(.tmp 12)]⟩,
    ⟨(some 14), none, false, .mov (.tmp 0)⟩,
    ⟨(some 15), none, false, .call chantryref26_Size [(.tmp 14)]⟩,
    ⟨(some 16), none, false, .bin .eql (.tmp 13) (.tmp 15)⟩,
    ⟨(some 17), none, false, .mov (.tmp 16)⟩,
    ⟨(some 18), (some (17, true)), false, .call chantrylaw26_awake []⟩,
    ⟨(some 19), none, false, .pick (.tmp 17) (.tmp 18) (.const (.bool false))⟩,
    ⟨(some 2), none, false, .mov (.tmp 19)⟩]) .ret) .skip)) (.seq (.ops [
    ⟨(some 21), none, false, .mov (.tmp 0)⟩,
    ⟨(some 22), none, false, .mk [.int .u8 0] 1 (.tmp 21) (.tmp 21)⟩,
    ⟨(some 23), none, false, .call frame_Put [(.tmp 22)]⟩,
    ⟨(some 20), none, false, .mov (.tmp 23)⟩,
    ⟨(some 24), none, false, .ext (.tmp 20) 0⟩,
    ⟨(some 25), none, false, .ext (.tmp 20) 1⟩,
    ⟨(some 3), none, false, .mov (.tmp 24)⟩,
    ⟨(some 4), none, false, .mov (.tmp 25)⟩]) (.seq (.ops [
    ⟨(some 5), none, false, .mov (.const (.int .i64 0))⟩]) (.seq (.block 0 (.seq (.ops [
    ⟨(some 27), none, false, .mov (.tmp 0)⟩,
    ⟨(some 28), none, false, .bin .eql (.tmp 27) (.const (.int .i64 0))⟩,
    ⟨(some 26), none, false, .mov (.tmp 28)⟩]) (.cond (.tmp 26) (.ops [
    ⟨(some 5), none, false, .mov (.const (.int .i64 1))⟩]) (.seq (.ops [
    ⟨(some 30), none, false, .mov (.tmp 0)⟩,
    ⟨(some 31), none, false, .bin .gtr (.tmp 30) (.const (.int .i64 65535))⟩,
    ⟨(some 29), none, false, .mov (.tmp 31)⟩]) (.cond (.tmp 29) (.ops [
    ⟨(some 5), none, false, .mov (.const (.int .i64 3))⟩]) .skip))))) (.seq (.ops [
    ⟨(some 32), none, false, .mov (.tmp 4)⟩,
    ⟨(some 33), none, false, .mov (.tmp 5)⟩,
    ⟨(some 34), none, false, .bin .eql (.tmp 32) (.tmp 33)⟩,
    ⟨(some 35), none, false, .mov (.tmp 34)⟩,
    ⟨(some 36), (some (35, true)), false, .mov (.tmp 3)⟩,
    ⟨(some 37), (some (35, true)), false, .lens false (.tmp 36)⟩,
    ⟨(some 38), (some (35, true)), false, .mov (.tmp 0)⟩,
    ⟨(some 39), (some (35, true)), false, .call frame_Size [(.tmp 38)]⟩,
    ⟨(some 40), (some (35, true)), false, .bin .eql (.tmp 37) (.tmp 39)⟩,
    ⟨(some 41), none, false, .pick (.tmp 35) (.tmp 40) (.const (.bool false))⟩,
    ⟨(some 42), none, false, .mov (.tmp 41)⟩,
    ⟨(some 43), (some (42, true)), false, .mov (.tmp 0)⟩,
    ⟨(some 44), (some (42, true)), false, .call frame_Size [(.tmp 43)]⟩,
    ⟨(some 45), (some (42, true)), false, .mov (.tmp 0)⟩,
    ⟨(some 46), (some (42, true)), false, .call chantryref26_Size [(.tmp 45)]⟩,
    ⟨(some 47), (some (42, true)), false, .bin .eql (.tmp 44) (.tmp 46)⟩,
    ⟨(some 48), none, false, .pick (.tmp 42) (.tmp 47) (.const (.bool false))⟩,
    ⟨(some 49), none, false, .mov (.tmp 48)⟩,
    ⟨(some 50), (some (49, true)), false, .call chantrylaw26_awake []⟩,
    ⟨(some 51), none, false, .pick (.tmp 49) (.tmp 50) (.const (.bool false))⟩,
    ⟨(some 2), none, false, .mov (.tmp 51)⟩]) .ret))))))
theorem fits_chantrylaw26_FrameLong : Fits Try.prog 0 chantrylaw26_FrameLong ic_chantrylaw26_FrameLong [.tmp 2] 1 :=
  ⟨Try.f4, Try.func4, by decide, by kernel_rfl, by kernel_rfl⟩

/-- chantry/chantrylaw26.FrameScans -/
noncomputable def ic_chantrylaw26_FrameScans : IC :=
  (.seq (.ops [
    ⟨(some 2), none, false, .mov (.const (.bool false))⟩]) (.seq (.seq (.ops [
    ⟨(some 13), none, false, .mov (.tmp 0)⟩,
    ⟨(some 14), none, false, .lens false (.tmp 13)⟩,
    ⟨(some 15), none, false, .bin .gtr (.tmp 14) (.const (.int .i64 3000))⟩]) (.cond (.tmp 15) (.seq (.ops [
    ⟨(some 16), none, false, .call chantrylaw26_awake []⟩,
    ⟨(some 2), none, false, .mov (.tmp 16)⟩]) .ret) .skip)) (.seq (.ops [
    ⟨(some 18), none, false, .mov (.tmp 0)⟩,
    ⟨(some 19), none, false, .call frame_Next [(.tmp 18)]⟩,
    ⟨(some 17), none, false, .mov (.tmp 19)⟩,
    ⟨(some 20), none, false, .ext (.tmp 17) 0⟩,
    ⟨(some 21), none, false, .ext (.tmp 17) 1⟩,
    ⟨(some 22), none, false, .ext (.tmp 17) 2⟩,
    ⟨(some 3), none, false, .mov (.tmp 20)⟩,
    ⟨(some 4), none, false, .mov (.tmp 21)⟩,
    ⟨(some 5), none, false, .mov (.tmp 22)⟩]) (.seq (.ops [
    ⟨(some 24), none, false, .mov (.tmp 0)⟩,
    ⟨(some 25), none, false, .call chantryref26_Next [(.tmp 24)]⟩,
    ⟨(some 23), none, false, .mov (.tmp 25)⟩,
    ⟨(some 26), none, false, .ext (.tmp 23) 0⟩,
    ⟨(some 27), none, false, .ext (.tmp 23) 1⟩,
    ⟨(some 28), none, false, .ext (.tmp 23) 2⟩,
    ⟨(some 6), none, false, .mov (.tmp 26)⟩,
    ⟨(some 7), none, false, .mov (.tmp 27)⟩,
    ⟨(some 8), none, false, .mov (.tmp 28)⟩]) (.seq (.ops [
    ⟨(some 30), none, false, .mov (.tmp 0)⟩,
    ⟨(some 31), none, false, .call frame_Scan [(.tmp 30)]⟩,
    ⟨(some 29), none, false, .mov (.tmp 31)⟩,
    ⟨(some 32), none, false, .ext (.tmp 29) 0⟩,
    ⟨(some 33), none, false, .ext (.tmp 29) 1⟩,
    ⟨(some 9), none, false, .mov (.tmp 32)⟩,
    ⟨(some 10), none, false, .mov (.tmp 33)⟩]) (.seq (.ops [
    ⟨(some 35), none, false, .mov (.tmp 0)⟩,
    ⟨(some 36), none, false, .call chantryref26_Scan [(.tmp 35)]⟩,
    ⟨(some 34), none, false, .mov (.tmp 36)⟩,
    ⟨(some 37), none, false, .ext (.tmp 34) 0⟩,
    ⟨(some 38), none, false, .ext (.tmp 34) 1⟩,
    ⟨(some 11), none, false, .mov (.tmp 37)⟩,
    ⟨(some 12), none, false, .mov (.tmp 38)⟩]) (.seq (.ops [
    ⟨(some 39), none, false, .mov (.tmp 3)⟩,
    ⟨(some 40), none, false, .b2s (.tmp 39)⟩,
    ⟨(some 41), none, false, .mov (.tmp 6)⟩,
    ⟨(some 42), none, false, .b2s (.tmp 41)⟩,
    ⟨(some 43), none, false, .bin .eql (.tmp 40) (.tmp 42)⟩,
    ⟨(some 44), none, false, .mov (.tmp 43)⟩,
    ⟨(some 45), (some (44, true)), false, .mov (.tmp 4)⟩,
    ⟨(some 46), (some (44, true)), false, .mov (.tmp 7)⟩,
    ⟨(some 47), (some (44, true)), false, .bin .eql (.tmp 45) (.tmp 46)⟩,
    ⟨(some 48), none, false, .pick (.tmp 44) (.tmp 47) (.const (.bool false))⟩,
    ⟨(some 49), none, false, .mov (.tmp 48)⟩,
    ⟨(some 50), (some (49, true)), false, .mov (.tmp 5)⟩,
    ⟨(some 51), (some (49, true)), false, .mov (.tmp 8)⟩,
    ⟨(some 52), (some (49, true)), false, .bin .eql (.tmp 50) (.tmp 51)⟩,
    ⟨(some 53), none, false, .pick (.tmp 49) (.tmp 52) (.const (.bool false))⟩,
    ⟨(some 54), none, false, .mov (.tmp 53)⟩,
    ⟨(some 55), (some (54, true)), false, .mov (.tmp 9)⟩,
    ⟨(some 56), (some (54, true)), false, .mov (.tmp 11)⟩,
    ⟨(some 57), (some (54, true)), false, .call chantryref01_Bytes [(.tmp 55), (.tmp 56)]⟩,
    ⟨(some 58), none, false, .pick (.tmp 54) (.tmp 57) (.const (.bool false))⟩,
    ⟨(some 59), none, false, .mov (.tmp 58)⟩,
    ⟨(some 60), (some (59, true)), false, .mov (.tmp 10)⟩,
    ⟨(some 61), (some (59, true)), false, .mov (.tmp 12)⟩,
    ⟨(some 62), (some (59, true)), false, .bin .eql (.tmp 60) (.tmp 61)⟩,
    ⟨(some 63), none, false, .pick (.tmp 59) (.tmp 62) (.const (.bool false))⟩,
    ⟨(some 64), none, false, .mov (.tmp 63)⟩,
    ⟨(some 65), (some (64, true)), false, .call chantrylaw26_awake []⟩,
    ⟨(some 66), none, false, .pick (.tmp 64) (.tmp 65) (.const (.bool false))⟩,
    ⟨(some 2), none, false, .mov (.tmp 66)⟩]) .ret)))))))
theorem fits_chantrylaw26_FrameScans : Fits Try.prog 0 chantrylaw26_FrameScans ic_chantrylaw26_FrameScans [.tmp 2] 1 :=
  ⟨Try.f5, Try.func5, by decide, by kernel_rfl, by kernel_rfl⟩

/-- chantry/chantrylaw26.FrameCuts -/
noncomputable def ic_chantrylaw26_FrameCuts : IC :=
  (.seq (.ops [
    ⟨(some 4), none, false, .mov (.const (.bool false))⟩]) (.seq (.seq (.ops [
    ⟨(some 14), none, false, .mov (.tmp 0)⟩,
    ⟨(some 15), none, false, .lens false (.tmp 14)⟩,
    ⟨(some 16), none, false, .bin .gtr (.tmp 15) (.const (.int .i64 20))⟩]) (.cond (.tmp 16) (.seq (.ops [
    ⟨(some 17), none, false, .call chantrylaw26_awake []⟩,
    ⟨(some 4), none, false, .mov (.tmp 17)⟩]) .ret) .skip)) (.seq (.ops [
    ⟨(some 5), none, false, .mov (.const (.slice none 0 0))⟩]) (.seq (.ops [
    ⟨(some 6), none, false, .mov (.const (.slice none 0 0))⟩]) (.seq (.seq (.ops [
    ⟨(some 7), none, false, .mov (.const (.int .i64 0))⟩]) (.block 0 (.loop (.seq (.seq (.ops [
    ⟨(some 18), none, false, .mov (.tmp 7)⟩,
    ⟨(some 19), none, false, .mov (.tmp 0)⟩,
    ⟨(some 20), none, false, .lens false (.tmp 19)⟩,
    ⟨(some 21), none, false, .bin .lss (.tmp 18) (.tmp 20)⟩]) (.cond (.tmp 21) .skip (.exit 0))) (.seq (.block 1 (.seq (.seq (.ops [
    ⟨(some 24), none, false, .mov (.tmp 0)⟩,
    ⟨(some 25), none, false, .mov (.tmp 7)⟩,
    ⟨(some 26), none, false, .iaddr (.tmp 24) (.tmp 25) 1⟩,
    ⟨(some 27), none, false, .load1 (.tmp 26)⟩,
    ⟨(some 28), none, false, .lens false (.tmp 27)⟩,
    ⟨(some 29), none, false, .bin .lss (.tmp 28) (.const (.int .i64 1))⟩,
    ⟨(some 30), none, false, .mov (.tmp 29)⟩,
    ⟨(some 31), (some (30, false)), false, .mov (.tmp 0)⟩,
    ⟨(some 32), (some (30, false)), false, .mov (.tmp 7)⟩,
    ⟨(some 33), (some (30, false)), false, .iaddr (.tmp 31) (.tmp 32) 1⟩,
    ⟨(some 34), (some (30, false)), false, .load1 (.tmp 33)⟩,
    ⟨(some 35), (some (30, false)), false, .lens false (.tmp 34)⟩,
    ⟨(some 36), (some (30, false)), false, .bin .gtr (.tmp 35) (.const (.int .i64 300))⟩,
    ⟨(some 37), none, false, .pick (.tmp 30) (.const (.bool true)) (.tmp 36)⟩]) (.cond (.tmp 37) (.seq (.ops [
    ⟨(some 38), none, false, .call chantrylaw26_awake []⟩,
    ⟨(some 4), none, false, .mov (.tmp 38)⟩]) .ret) .skip)) (.seq (.ops [
    ⟨(some 40), none, false, .mov (.tmp 0)⟩,
    ⟨(some 41), none, false, .mov (.tmp 7)⟩,
    ⟨(some 42), none, false, .iaddr (.tmp 40) (.tmp 41) 1⟩,
    ⟨(some 43), none, false, .load1 (.tmp 42)⟩,
    ⟨(some 44), none, false, .call chantryref26_Put [(.tmp 43)]⟩,
    ⟨(some 39), none, false, .mov (.tmp 44)⟩,
    ⟨(some 45), none, false, .ext (.tmp 39) 0⟩,
    ⟨(some 46), none, false, .ext (.tmp 39) 1⟩,
    ⟨(some 8), none, false, .mov (.tmp 45)⟩,
    ⟨(some 9), none, false, .mov (.tmp 46)⟩]) (.seq (.ops [
    ⟨(some 47), none, false, .mov (.tmp 5)⟩,
    ⟨(some 48), none, false, .mov (.tmp 8)⟩,
    ⟨(some 49), none, false, .app (.tmp 47) (.tmp 48) 1 1⟩,
    ⟨(some 5), none, false, .mov (.tmp 49)⟩]) (.ops [
    ⟨(some 50), none, false, .mov (.tmp 6)⟩,
    ⟨(some 51), none, false, .mov (.tmp 5)⟩,
    ⟨(some 52), none, false, .lens false (.tmp 51)⟩,
    ⟨(some 53), none, false, .lit [.int .i64 0] 1 1 [(0, 1, (.tmp 52))]⟩,
    ⟨(some 54), none, false, .app (.tmp 50) (.tmp 53) 1 8⟩,
    ⟨(some 6), none, false, .mov (.tmp 54)⟩]))))) (.ops [
    ⟨(some 22), none, false, .mov (.tmp 7)⟩,
    ⟨(some 23), none, false, .bin .add (.tmp 22) (.const (.int .i64 1))⟩,
    ⟨(some 7), none, false, .mov (.tmp 23)⟩])))))) (.seq (.seq (.ops [
    ⟨(some 55), none, false, .mov (.tmp 1)⟩,
    ⟨(some 56), none, false, .bin .lss (.tmp 55) (.const (.int .i64 0))⟩,
    ⟨(some 57), none, false, .mov (.tmp 56)⟩,
    ⟨(some 58), (some (57, false)), false, .mov (.tmp 1)⟩,
    ⟨(some 59), (some (57, false)), false, .mov (.tmp 5)⟩,
    ⟨(some 60), (some (57, false)), false, .lens false (.tmp 59)⟩,
    ⟨(some 61), (some (57, false)), false, .bin .gtr (.tmp 58) (.tmp 60)⟩,
    ⟨(some 62), none, false, .pick (.tmp 57) (.const (.bool true)) (.tmp 61)⟩]) (.cond (.tmp 62) (.seq (.ops [
    ⟨(some 63), none, false, .call chantrylaw26_awake []⟩,
    ⟨(some 4), none, false, .mov (.tmp 63)⟩]) .ret) .skip)) (.seq (.ops [
    ⟨(some 10), none, false, .mov (.const (.int .i64 0))⟩,
    ⟨(some 11), none, false, .mov (.const (.int .i64 0))⟩]) (.seq (.block 2 (.loop (.seq (.seq (.ops [
    ⟨(some 64), none, false, .mov (.tmp 10)⟩,
    ⟨(some 65), none, false, .mov (.tmp 6)⟩,
    ⟨(some 66), none, false, .lens false (.tmp 65)⟩,
    ⟨(some 67), none, false, .bin .lss (.tmp 64) (.tmp 66)⟩,
    ⟨(some 68), none, false, .mov (.tmp 67)⟩,
    ⟨(some 69), (some (68, true)), false, .mov (.tmp 6)⟩,
    ⟨(some 70), (some (68, true)), false, .mov (.tmp 10)⟩,
    ⟨(some 71), (some (68, true)), false, .iaddr (.tmp 69) (.tmp 70) 1⟩,
    ⟨(some 72), (some (68, true)), false, .load1 (.tmp 71)⟩,
    ⟨(some 73), (some (68, true)), false, .mov (.tmp 1)⟩,
    ⟨(some 74), (some (68, true)), false, .bin .leq (.tmp 72) (.tmp 73)⟩,
    ⟨(some 75), none, false, .pick (.tmp 68) (.tmp 74) (.const (.bool false))⟩]) (.cond (.tmp 75) .skip (.exit 2))) (.block 3 (.seq (.ops [
    ⟨(some 76), none, false, .mov (.tmp 6)⟩,
    ⟨(some 77), none, false, .mov (.tmp 10)⟩,
    ⟨(some 78), none, false, .iaddr (.tmp 76) (.tmp 77) 1⟩,
    ⟨(some 79), none, false, .load1 (.tmp 78)⟩,
    ⟨(some 11), none, false, .mov (.tmp 79)⟩]) (.ops [
    ⟨(some 80), none, false, .mov (.tmp 10)⟩,
    ⟨(some 81), none, false, .bin .add (.tmp 80) (.const (.int .i64 1))⟩,
    ⟨(some 10), none, false, .mov (.tmp 81)⟩])))))) (.seq (.ops [
    ⟨(some 83), none, false, .mov (.tmp 5)⟩,
    ⟨(some 84), none, false, .mov (.tmp 1)⟩,
    ⟨(some 85), none, false, .sll (.tmp 83) none (some (.tmp 84)) none 1⟩,
    ⟨(some 86), none, false, .call frame_Scan [(.tmp 85)]⟩,
    ⟨(some 82), none, false, .mov (.tmp 86)⟩,
    ⟨(some 87), none, false, .ext (.tmp 82) 0⟩,
    ⟨(some 88), none, false, .ext (.tmp 82) 1⟩,
    ⟨(some 12), none, false, .mov (.tmp 87)⟩,
    ⟨(some 13), none, false, .mov (.tmp 88)⟩]) (.seq (.ops [
    ⟨(some 89), none, false, .mov (.tmp 12)⟩,
    ⟨(some 90), none, false, .mov (.tmp 0)⟩,
    ⟨(some 91), none, false, .mov (.tmp 10)⟩,
    ⟨(some 92), none, false, .sll (.tmp 90) none (some (.tmp 91)) none 1⟩,
    ⟨(some 93), none, false, .call chantryref01_Bytes [(.tmp 89), (.tmp 92)]⟩,
    ⟨(some 94), none, false, .mov (.tmp 93)⟩,
    ⟨(some 95), (some (94, true)), false, .mov (.tmp 13)⟩,
    ⟨(some 96), (some (94, true)), false, .mov (.tmp 11)⟩,
    ⟨(some 97), (some (94, true)), false, .bin .eql (.tmp 95) (.tmp 96)⟩,
    ⟨(some 98), none, false, .pick (.tmp 94) (.tmp 97) (.const (.bool false))⟩,
    ⟨(some 99), none, false, .mov (.tmp 98)⟩,
    ⟨(some 100), (some (99, true)), false, .call chantrylaw26_awake []⟩,
    ⟨(some 101), none, false, .pick (.tmp 99) (.tmp 100) (.const (.bool false))⟩,
    ⟨(some 4), none, false, .mov (.tmp 101)⟩]) .ret))))))))))
theorem fits_chantrylaw26_FrameCuts : Fits Try.prog 0 chantrylaw26_FrameCuts ic_chantrylaw26_FrameCuts [.tmp 4] 2 :=
  ⟨Try.f6, Try.func6, by decide, by kernel_rfl, by kernel_rfl⟩

/-- chantry/chantrylaw26.awake -/
noncomputable def ic_chantrylaw26_awake : IC :=
  (.seq (.ops [
    ⟨(some 0), none, false, .mov (.const (.bool false))⟩]) (.seq (.ops [
    ⟨(some 17), none, false, .lit [.int .u8 0] 1 1 [(0, 1, (.const (.int .u8 7)))]⟩,
    ⟨(some 18), none, false, .call frame_Put [(.tmp 17)]⟩,
    ⟨(some 16), none, false, .mov (.tmp 18)⟩,
    ⟨(some 19), none, false, .ext (.tmp 16) 0⟩,
    ⟨(some 20), none, false, .ext (.tmp 16) 1⟩,
    ⟨(some 1), none, false, .mov (.tmp 19)⟩,
    ⟨(some 2), none, false, .mov (.tmp 20)⟩]) (.seq (.ops [
    ⟨(some 22), none, false, .lit [.int .u8 0] 1 0 []⟩,
    ⟨(some 23), none, false, .mov (.tmp 1)⟩,
    ⟨(some 24), none, false, .app (.tmp 22) (.tmp 23) 1 1⟩,
    ⟨(some 25), none, false, .lit [.int .u8 0] 1 1 [(0, 1, (.const (.int .u8 1)))]⟩,
    ⟨(some 26), none, false, .app (.tmp 24) (.tmp 25) 1 1⟩,
    ⟨(some 27), none, false, .call frame_Next [(.tmp 26)]⟩,
    ⟨(some 21), none, false, .mov (.tmp 27)⟩,
    ⟨(some 28), none, false, .ext (.tmp 21) 0⟩,
    ⟨(some 29), none, false, .ext (.tmp 21) 1⟩,
    ⟨(some 30), none, false, .ext (.tmp 21) 2⟩,
    ⟨(some 3), none, false, .mov (.tmp 28)⟩,
    ⟨(some 4), none, false, .mov (.tmp 29)⟩,
    ⟨(some 5), none, false, .mov (.tmp 30)⟩]) (.seq (.ops [
    ⟨(some 32), none, false, .call frame_Next [(.const (.slice none 0 0))]⟩,
    ⟨(some 31), none, false, .mov (.tmp 32)⟩,
    ⟨(some 33), none, false, .ext (.tmp 31) 0⟩,
    ⟨(some 34), none, false, .ext (.tmp 31) 1⟩,
    ⟨(some 35), none, false, .ext (.tmp 31) 2⟩,
    ⟨(some 6), none, false, .mov (.tmp 33)⟩,
    ⟨(some 7), none, false, .mov (.tmp 34)⟩,
    ⟨(some 8), none, false, .mov (.tmp 35)⟩]) (.seq (.ops [
    ⟨(some 37), none, false, .lit [.int .u8 0] 1 7 [(0, 1, (.const (.int .u8 0))), (1, 1, (.const (.int .u8 0))), (2, 1, (.const (.int .u8 1))), (3, 1, (.const (.int .u8 2))), (4, 1, (.const (.int .u8 3))), (5, 1, (.const (.int .u8 4))), (6, 1, (.const (.int .u8 5)))]⟩,
    ⟨(some 38), none, false, .call frame_Next [(.tmp 37)]⟩,
    ⟨(some 36), none, false, .mov (.tmp 38)⟩,
    ⟨(some 39), none, false, .ext (.tmp 36) 0⟩,
    ⟨(some 40), none, false, .ext (.tmp 36) 1⟩,
    ⟨(some 41), none, false, .ext (.tmp 36) 2⟩,
    ⟨(some 9), none, false, .mov (.tmp 39)⟩,
    ⟨(some 10), none, false, .mov (.tmp 40)⟩,
    ⟨(some 11), none, false, .mov (.tmp 41)⟩]) (.seq (.ops [
    ⟨(some 43), none, false, .call frame_Put [(.const (.slice none 0 0))]⟩,
    ⟨(some 42), none, false, .mov (.tmp 43)⟩,
    ⟨(some 44), none, false, .ext (.tmp 42) 0⟩,
    ⟨(some 45), none, false, .ext (.tmp 42) 1⟩,
    ⟨(some 12), none, false, .mov (.tmp 44)⟩,
    ⟨(some 13), none, false, .mov (.tmp 45)⟩]) (.seq (.ops [
    ⟨(some 47), none, false, .lit [.int .u8 0] 1 0 []⟩,
    ⟨(some 48), none, false, .mov (.tmp 1)⟩,
    ⟨(some 49), none, false, .app (.tmp 47) (.tmp 48) 1 1⟩,
    ⟨(some 50), none, false, .mov (.tmp 1)⟩,
    ⟨(some 51), none, false, .app (.tmp 49) (.tmp 50) 1 1⟩,
    ⟨(some 52), none, false, .lit [.int .u8 0] 1 1 [(0, 1, (.const (.int .u8 9)))]⟩,
    ⟨(some 53), none, false, .app (.tmp 51) (.tmp 52) 1 1⟩,
    ⟨(some 54), none, false, .call frame_Scan [(.tmp 53)]⟩,
    ⟨(some 46), none, false, .mov (.tmp 54)⟩,
    ⟨(some 55), none, false, .ext (.tmp 46) 0⟩,
    ⟨(some 56), none, false, .ext (.tmp 46) 1⟩,
    ⟨(some 14), none, false, .mov (.tmp 55)⟩,
    ⟨(some 15), none, false, .mov (.tmp 56)⟩]) (.seq (.ops [
    ⟨(some 57), none, false, .mov (.tmp 2)⟩,
    ⟨(some 58), none, false, .bin .eql (.tmp 57) (.const (.int .i64 0))⟩,
    ⟨(some 59), none, false, .mov (.tmp 58)⟩,
    ⟨(some 60), (some (59, true)), false, .mov (.tmp 1)⟩,
    ⟨(some 61), (some (59, true)), false, .lens false (.tmp 60)⟩,
    ⟨(some 62), (some (59, true)), false, .bin .eql (.tmp 61) (.const (.int .i64 7))⟩,
    ⟨(some 63), none, false, .pick (.tmp 59) (.tmp 62) (.const (.bool false))⟩,
    ⟨(some 64), none, false, .mov (.tmp 63)⟩,
    ⟨(some 65), (some (64, true)), false, .mov (.tmp 1)⟩,
    ⟨(some 66), (some (64, true)), false, .iaddr (.tmp 65) (.const (.int .i64 0)) 1⟩,
    ⟨(some 67), (some (64, true)), false, .load1 (.tmp 66)⟩,
    ⟨(some 68), (some (64, true)), false, .bin .eql (.tmp 67) (.const (.int .u8 1))⟩,
    ⟨(some 69), none, false, .pick (.tmp 64) (.tmp 68) (.const (.bool false))⟩,
    ⟨(some 70), none, false, .mov (.tmp 69)⟩,
    ⟨(some 71), (some (70, true)), false, .mov (.tmp 1)⟩,
    ⟨(some 72), (some (70, true)), false, .iaddr (.tmp 71) (.const (.int .i64 1)) 1⟩,
    ⟨(some 73), (some (70, true)), false, .load1 (.tmp 72)⟩,
    ⟨(some 74), (some (70, true)), false, .bin .eql (.tmp 73) (.const (.int .u8 0))⟩,
    ⟨(some 75), none, false, .pick (.tmp 70) (.tmp 74) (.const (.bool false))⟩,
    ⟨(some 76), none, false, .mov (.tmp 75)⟩,
    ⟨(some 77), (some (76, true)), false, .mov (.tmp 1)⟩,
    ⟨(some 78), (some (76, true)), false, .iaddr (.tmp 77) (.const (.int .i64 2)) 1⟩,
    ⟨(some 79), (some (76, true)), false, .load1 (.tmp 78)⟩,
    ⟨(some 80), (some (76, true)), false, .bin .eql (.tmp 79) (.const (.int .u8 7))⟩,
    ⟨(some 81), none, false, .pick (.tmp 76) (.tmp 80) (.const (.bool false))⟩,
    ⟨(some 82), none, false, .mov (.tmp 81)⟩,
    ⟨(some 83), (some (82, true)), false, .mov (.tmp 5)⟩,
    ⟨(some 84), (some (82, true)), false, .bin .eql (.tmp 83) (.const (.int .i64 0))⟩,
    ⟨(some 85), none, false, .pick (.tmp 82) (.tmp 84) (.const (.bool false))⟩,
    ⟨(some 86), none, false, .mov (.tmp 85)⟩,
    ⟨(some 87), (some (86, true)), false, .mov (.tmp 4)⟩,
    ⟨(some 88), (some (86, true)), false, .bin .eql (.tmp 87) (.const (.int .i64 7))⟩,
    ⟨(some 89), none, false, .pick (.tmp 86) (.tmp 88) (.const (.bool false))⟩,
    ⟨(some 90), none, false, .mov (.tmp 89)⟩,
    ⟨(some 91), (some (90, true)), false, .mov (.tmp 3)⟩,
    ⟨(some 92), (some (90, true)), false, .b2s (.tmp 91)⟩,
    ⟨(some 93), (some (90, true)), false, .bin .eql (.tmp 92) (.const (.string ⟨#[7]⟩))⟩,
    ⟨(some 94), none, false, .pick (.tmp 90) (.tmp 93) (.const (.bool false))⟩,
    ⟨(some 95), none, false, .mov (.tmp 94)⟩,
    ⟨(some 96), (some (95, true)), false, .mov (.tmp 8)⟩,
    ⟨(some 97), (some (95, true)), false, .bin .eql (.tmp 96) (.const (.int .i64 6))⟩,
    ⟨(some 98), none, false, .pick (.tmp 95) (.tmp 97) (.const (.bool false))⟩,
    ⟨(some 99), none, false, .mov (.tmp 98)⟩,
    ⟨(some 100), (some (99, true)), false, .mov (.tmp 11)⟩,
    ⟨(some 101), (some (99, true)), false, .bin .eql (.tmp 100) (.const (.int .i64 5))⟩,
    ⟨(some 102), none, false, .pick (.tmp 99) (.tmp 101) (.const (.bool false))⟩,
    ⟨(some 103), none, false, .mov (.tmp 102)⟩,
    ⟨(some 104), (some (103, true)), false, .mov (.tmp 13)⟩,
    ⟨(some 105), (some (103, true)), false, .bin .eql (.tmp 104) (.const (.int .i64 1))⟩,
    ⟨(some 106), none, false, .pick (.tmp 103) (.tmp 105) (.const (.bool false))⟩,
    ⟨(some 107), none, false, .mov (.tmp 106)⟩,
    ⟨(some 108), (some (107, true)), false, .mov (.tmp 14)⟩,
    ⟨(some 109), (some (107, true)), false, .lens false (.tmp 108)⟩,
    ⟨(some 110), (some (107, true)), false, .bin .eql (.tmp 109) (.const (.int .i64 2))⟩,
    ⟨(some 111), none, false, .pick (.tmp 107) (.tmp 110) (.const (.bool false))⟩,
    ⟨(some 112), none, false, .mov (.tmp 111)⟩,
    ⟨(some 113), (some (112, true)), false, .mov (.tmp 15)⟩,
    ⟨(some 114), (some (112, true)), false, .bin .eql (.tmp 113) (.const (.int .i64 14))⟩,
    ⟨(some 115), none, false, .pick (.tmp 112) (.tmp 114) (.const (.bool false))⟩,
    ⟨(some 116), none, false, .mov (.tmp 115)⟩,
    ⟨(some 117), (some (116, true)), false, .call frame_Size [(.const (.int .i64 1))]⟩,
    ⟨(some 118), (some (116, true)), false, .bin .eql (.tmp 117) (.const (.int .i64 7))⟩,
    ⟨(some 119), none, false, .pick (.tmp 116) (.tmp 118) (.const (.bool false))⟩,
    ⟨(some 120), none, false, .mov (.tmp 119)⟩,
    ⟨(some 121), (some (120, true)), false, .call frame_Size [(.const (.int .i64 0))]⟩,
    ⟨(some 122), (some (120, true)), false, .bin .eql (.tmp 121) (.const (.int .i64 0))⟩,
    ⟨(some 123), none, false, .pick (.tmp 120) (.tmp 122) (.const (.bool false))⟩,
    ⟨(some 124), none, false, .mov (.tmp 123)⟩,
    ⟨(some 125), (some (124, true)), false, .call frame_Size [(.const (.int .i64 65536))]⟩,
    ⟨(some 126), (some (124, true)), false, .bin .eql (.tmp 125) (.const (.int .i64 0))⟩,
    ⟨(some 127), none, false, .pick (.tmp 124) (.tmp 126) (.const (.bool false))⟩,
    ⟨(some 0), none, false, .mov (.tmp 127)⟩]) .ret))))))))
theorem fits_chantrylaw26_awake : Fits Try.prog 0 chantrylaw26_awake ic_chantrylaw26_awake [.tmp 0] 0 :=
  ⟨Try.f7, Try.func7, by decide, by kernel_rfl, by kernel_rfl⟩

/-- chantry/frame.Put -/
noncomputable def ic_frame_Put : IC :=
  (.seq (.ops [
    ⟨(some 2), none, false, .mov (.const (.slice none 0 0))⟩,
    ⟨(some 3), none, false, .mov (.const (.int .i64 0))⟩]) (.seq (.block 0 (.seq (.ops [
    ⟨(some 7), none, false, .mov (.tmp 0)⟩,
    ⟨(some 8), none, false, .lens false (.tmp 7)⟩,
    ⟨(some 9), none, false, .bin .eql (.tmp 8) (.const (.int .i64 0))⟩,
    ⟨(some 6), none, false, .mov (.tmp 9)⟩]) (.cond (.tmp 6) (.seq (.ops [
    ⟨(some 2), none, false, .mov (.const (.slice none 0 0))⟩,
    ⟨(some 3), none, false, .mov (.const (.int .i64 1))⟩]) .ret) (.seq (.ops [
    ⟨(some 11), none, false, .mov (.tmp 0)⟩,
    ⟨(some 12), none, false, .lens false (.tmp 11)⟩,
    ⟨(some 13), none, false, .bin .gtr (.tmp 12) (.const (.int .i64 65535))⟩,
    ⟨(some 10), none, false, .mov (.tmp 13)⟩]) (.cond (.tmp 10) (.seq (.ops [
    ⟨(some 2), none, false, .mov (.const (.slice none 0 0))⟩,
    ⟨(some 3), none, false, .mov (.const (.int .i64 3))⟩]) .ret) .skip))))) (.seq (.ops [
    ⟨(some 15), none, false, .mov (.tmp 0)⟩,
    ⟨(some 16), none, false, .lens false (.tmp 15)⟩,
    ⟨(some 17), none, false, .call num_Fix [(.tmp 16), (.const (.int .i64 2))]⟩,
    ⟨(some 14), none, false, .mov (.tmp 17)⟩,
    ⟨(some 18), none, false, .ext (.tmp 14) 0⟩,
    ⟨(some 19), none, false, .ext (.tmp 14) 1⟩,
    ⟨(some 4), none, false, .mov (.tmp 18)⟩,
    ⟨(some 5), none, false, .mov (.tmp 19)⟩]) (.seq (.seq (.ops [
    ⟨(some 20), none, false, .mov (.tmp 5)⟩,
    ⟨(some 21), none, false, .bin .neq (.tmp 20) (.const (.int .i64 0))⟩]) (.cond (.tmp 21) (.seq (.ops [
    ⟨(some 22), none, false, .mov (.tmp 5)⟩,
    ⟨(some 2), none, false, .mov (.const (.slice none 0 0))⟩,
    ⟨(some 3), none, false, .mov (.tmp 22)⟩]) .ret) .skip)) (.seq (.ops [
    ⟨(some 23), none, false, .mov (.tmp 4)⟩,
    ⟨(some 24), none, false, .mov (.tmp 0)⟩,
    ⟨(some 25), none, false, .app (.tmp 23) (.tmp 24) 1 1⟩,
    ⟨(some 26), none, false, .call crc_Seal [(.tmp 25)]⟩,
    ⟨(some 2), none, false, .mov (.tmp 26)⟩,
    ⟨(some 3), none, false, .mov (.const (.int .i64 0))⟩]) .ret)))))
theorem fits_frame_Put : Fits Try.prog 0 frame_Put ic_frame_Put [.tmp 2, .tmp 3] 1 :=
  ⟨Try.f8, Try.func8, by decide, by kernel_rfl, by kernel_rfl⟩

/-- chantry/chantryref26.Put -/
noncomputable def ic_chantryref26_Put : IC :=
  (.seq (.ops [
    ⟨(some 2), none, false, .mov (.const (.slice none 0 0))⟩,
    ⟨(some 3), none, false, .mov (.const (.int .i64 0))⟩]) (.seq (.block 0 (.seq (.ops [
    ⟨(some 7), none, false, .mov (.tmp 0)⟩,
    ⟨(some 8), none, false, .lens false (.tmp 7)⟩,
    ⟨(some 9), none, false, .bin .eql (.tmp 8) (.const (.int .i64 0))⟩,
    ⟨(some 6), none, false, .mov (.tmp 9)⟩]) (.cond (.tmp 6) (.seq (.ops [
    ⟨(some 2), none, false, .mov (.const (.slice none 0 0))⟩,
    ⟨(some 3), none, false, .mov (.const (.int .i64 1))⟩]) .ret) (.seq (.ops [
    ⟨(some 11), none, false, .mov (.tmp 0)⟩,
    ⟨(some 12), none, false, .lens false (.tmp 11)⟩,
    ⟨(some 13), none, false, .bin .gtr (.tmp 12) (.const (.int .i64 65535))⟩,
    ⟨(some 10), none, false, .mov (.tmp 13)⟩]) (.cond (.tmp 10) (.seq (.ops [
    ⟨(some 2), none, false, .mov (.const (.slice none 0 0))⟩,
    ⟨(some 3), none, false, .mov (.const (.int .i64 3))⟩]) .ret) .skip))))) (.seq (.ops [
    ⟨(some 15), none, false, .mov (.tmp 0)⟩,
    ⟨(some 16), none, false, .lens false (.tmp 15)⟩,
    ⟨(some 17), none, false, .call chantryref01_Fix [(.tmp 16), (.const (.int .i64 2))]⟩,
    ⟨(some 14), none, false, .mov (.tmp 17)⟩,
    ⟨(some 18), none, false, .ext (.tmp 14) 0⟩,
    ⟨(some 19), none, false, .ext (.tmp 14) 1⟩,
    ⟨(some 4), none, false, .mov (.tmp 18)⟩,
    ⟨(some 5), none, false, .mov (.tmp 19)⟩]) (.seq (.ops [
    ⟨(some 20), none, false, .mov (.tmp 4)⟩,
    ⟨(some 21), none, false, .mov (.tmp 0)⟩,
    ⟨(some 22), none, false, .app (.tmp 20) (.tmp 21) 1 1⟩,
    ⟨(some 23), none, false, .call chantryref02_Seal [(.tmp 22)]⟩,
    ⟨(some 2), none, false, .mov (.tmp 23)⟩,
    ⟨(some 3), none, false, .mov (.const (.int .i64 0))⟩]) .ret))))
theorem fits_chantryref26_Put : Fits Try.prog 0 chantryref26_Put ic_chantryref26_Put [.tmp 2, .tmp 3] 1 :=
  ⟨Try.f9, Try.func9, by decide, by kernel_rfl, by kernel_rfl⟩

/-- chantry/frame.Next -/
noncomputable def ic_frame_Next : IC :=
  (.seq (.ops [
    ⟨(some 2), none, false, .mov (.const (.slice none 0 0))⟩,
    ⟨(some 3), none, false, .mov (.const (.int .i64 0))⟩,
    ⟨(some 4), none, false, .mov (.const (.int .i64 0))⟩]) (.seq (.seq (.ops [
    ⟨(some 10), none, false, .mov (.tmp 0)⟩,
    ⟨(some 11), none, false, .lens false (.tmp 10)⟩,
    ⟨(some 12), none, false, .bin .eql (.tmp 11) (.const (.int .i64 0))⟩]) (.cond (.tmp 12) (.seq (.ops [
    ⟨(some 2), none, false, .mov (.const (.slice none 0 0))⟩,
    ⟨(some 3), none, false, .mov (.const (.int .i64 0))⟩,
    ⟨(some 4), none, false, .mov (.const (.int .i64 6))⟩]) .ret) .skip)) (.seq (.ops [
    ⟨(some 14), none, false, .mov (.tmp 0)⟩,
    ⟨(some 15), none, false, .mov (.tmp 0)⟩,
    ⟨(some 16), none, false, .lens false (.tmp 15)⟩,
    ⟨(some 17), none, false, .mn (.const (.int .i64 2)) (.tmp 16)⟩,
    ⟨(some 18), none, false, .sll (.tmp 14) none (some (.tmp 17)) none 1⟩,
    ⟨(some 19), none, false, .call num_Unfix [(.tmp 18)]⟩,
    ⟨(some 13), none, false, .mov (.tmp 19)⟩,
    ⟨(some 20), none, false, .ext (.tmp 13) 0⟩,
    ⟨(some 21), none, false, .ext (.tmp 13) 1⟩,
    ⟨(some 5), none, false, .mov (.tmp 20)⟩,
    ⟨(some 6), none, false, .mov (.tmp 21)⟩]) (.seq (.ops [
    ⟨(some 22), none, false, .mov (.tmp 5)⟩,
    ⟨(some 23), none, false, .call frame_Size [(.tmp 22)]⟩,
    ⟨(some 7), none, false, .mov (.tmp 23)⟩]) (.seq (.seq (.ops [
    ⟨(some 24), none, false, .mov (.tmp 7)⟩,
    ⟨(some 25), none, false, .bin .eql (.tmp 24) (.const (.int .i64 0))⟩,
    ⟨(some 26), none, false, .mov (.tmp 25)⟩,
    ⟨(some 27), (some (26, false)), false, .mov (.tmp 7)⟩,
    ⟨(some 28), (some (26, false)), false, .mov (.tmp 0)⟩,
    ⟨(some 29), (some (26, false)), false, .lens false (.tmp 28)⟩,
    ⟨(some 30), (some (26, false)), false, .bin .gtr (.tmp 27) (.tmp 29)⟩,
    ⟨(some 31), none, false, .pick (.tmp 26) (.const (.bool true)) (.tmp 30)⟩]) (.cond (.tmp 31) (.seq (.ops [
    ⟨(some 2), none, false, .mov (.const (.slice none 0 0))⟩,
    ⟨(some 3), none, false, .mov (.const (.int .i64 0))⟩,
    ⟨(some 4), none, false, .mov (.const (.int .i64 5))⟩]) .ret) .skip)) (.seq (.ops [
    ⟨(some 33), none, false, .mov (.tmp 0)⟩,
    ⟨(some 34), none, false, .mov (.tmp 7)⟩,
    ⟨(some 35), none, false, .sll (.tmp 33) none (some (.tmp 34)) none 1⟩,
    ⟨(some 36), none, false, .call crc_Open [(.tmp 35)]⟩,
    ⟨(some 32), none, false, .mov (.tmp 36)⟩,
    ⟨(some 37), none, false, .ext (.tmp 32) 0⟩,
    ⟨(some 38), none, false, .ext (.tmp 32) 1⟩,
    ⟨(some 8), none, false, .mov (.tmp 37)⟩,
    ⟨(some 9), none, false, .mov (.tmp 38)⟩]) (.seq (.seq (.ops [
    ⟨(some 39), none, false, .mov (.tmp 9)⟩,
    ⟨(some 40), none, false, .bin .neq (.tmp 39) (.const (.int .i64 0))⟩]) (.cond (.tmp 40) (.seq (.ops [
    ⟨(some 2), none, false, .mov (.const (.slice none 0 0))⟩,
    ⟨(some 3), none, false, .mov (.const (.int .i64 0))⟩,
    ⟨(some 4), none, false, .mov (.const (.int .i64 5))⟩]) .ret) .skip)) (.seq (.ops [
    ⟨(some 41), none, false, .mov (.tmp 8)⟩,
    ⟨(some 42), none, false, .sll (.tmp 41) (some (.const (.int .i64 2))) none none 1⟩,
    ⟨(some 43), none, false, .mov (.tmp 7)⟩,
    ⟨(some 2), none, false, .mov (.tmp 42)⟩,
    ⟨(some 3), none, false, .mov (.tmp 43)⟩,
    ⟨(some 4), none, false, .mov (.const (.int .i64 0))⟩]) .ret))))))))
theorem fits_frame_Next : Fits Try.prog 0 frame_Next ic_frame_Next [.tmp 2, .tmp 3, .tmp 4] 1 :=
  ⟨Try.f10, Try.func10, by decide, by kernel_rfl, by kernel_rfl⟩

/-- chantry/frame.Size -/
noncomputable def ic_frame_Size : IC :=
  (.seq (.ops [
    ⟨(some 2), none, false, .mov (.const (.int .i64 0))⟩]) (.seq (.seq (.ops [
    ⟨(some 3), none, false, .mov (.tmp 0)⟩,
    ⟨(some 4), none, false, .bin .lss (.tmp 3) (.const (.int .i64 1))⟩,
    ⟨(some 5), none, false, .mov (.tmp 4)⟩,
    ⟨(some 6), (some (5, false)), false, .mov (.tmp 0)⟩,
    ⟨(some 7), (some (5, false)), false, .bin .gtr (.tmp 6) (.const (.int .i64 65535))⟩,
    ⟨(some 8), none, false, .pick (.tmp 5) (.const (.bool true)) (.tmp 7)⟩]) (.cond (.tmp 8) (.seq (.ops [
    ⟨(some 2), none, false, .mov (.const (.int .i64 0))⟩]) .ret) .skip)) (.seq (.ops [
    ⟨(some 9), none, false, .mov (.tmp 0)⟩,
    ⟨(some 10), none, false, .bin .add (.const (.int .i64 2)) (.tmp 9)⟩,
    ⟨(some 11), none, false, .bin .add (.tmp 10) (.const (.int .i64 4))⟩,
    ⟨(some 2), none, false, .mov (.tmp 11)⟩]) .ret)))
theorem fits_frame_Size : Fits Try.prog 0 frame_Size ic_frame_Size [.tmp 2] 1 :=
  ⟨Try.f11, Try.func11, by decide, by kernel_rfl, by kernel_rfl⟩

/-- chantry/chantryref26.Size -/
noncomputable def ic_chantryref26_Size : IC :=
  (.seq (.ops [
    ⟨(some 2), none, false, .mov (.const (.int .i64 0))⟩]) (.seq (.seq (.ops [
    ⟨(some 3), none, false, .mov (.tmp 0)⟩,
    ⟨(some 4), none, false, .bin .lss (.tmp 3) (.const (.int .i64 1))⟩,
    ⟨(some 5), none, false, .mov (.tmp 4)⟩,
    ⟨(some 6), (some (5, false)), false, .mov (.tmp 0)⟩,
    ⟨(some 7), (some (5, false)), false, .bin .gtr (.tmp 6) (.const (.int .i64 65535))⟩,
    ⟨(some 8), none, false, .pick (.tmp 5) (.const (.bool true)) (.tmp 7)⟩]) (.cond (.tmp 8) (.seq (.ops [
    ⟨(some 2), none, false, .mov (.const (.int .i64 0))⟩]) .ret) .skip)) (.seq (.ops [
    ⟨(some 9), none, false, .mov (.tmp 0)⟩,
    ⟨(some 10), none, false, .bin .add (.tmp 9) (.const (.int .i64 6))⟩,
    ⟨(some 2), none, false, .mov (.tmp 10)⟩]) .ret)))
theorem fits_chantryref26_Size : Fits Try.prog 0 chantryref26_Size ic_chantryref26_Size [.tmp 2] 1 :=
  ⟨Try.f12, Try.func12, by decide, by kernel_rfl, by kernel_rfl⟩

/-- chantry/chantryref26.Next -/
noncomputable def ic_chantryref26_Next : IC :=
  (.seq (.ops [
    ⟨(some 2), none, false, .mov (.const (.slice none 0 0))⟩,
    ⟨(some 3), none, false, .mov (.const (.int .i64 0))⟩,
    ⟨(some 4), none, false, .mov (.const (.int .i64 0))⟩]) (.seq (.seq (.ops [
    ⟨(some 9), none, false, .mov (.tmp 0)⟩,
    ⟨(some 10), none, false, .lens false (.tmp 9)⟩,
    ⟨(some 11), none, false, .bin .eql (.tmp 10) (.const (.int .i64 0))⟩]) (.cond (.tmp 11) (.seq (.ops [
    ⟨(some 2), none, false, .mov (.const (.slice none 0 0))⟩,
    ⟨(some 3), none, false, .mov (.const (.int .i64 0))⟩,
    ⟨(some 4), none, false, .mov (.const (.int .i64 6))⟩]) .ret) .skip)) (.seq (.seq (.ops [
    ⟨(some 12), none, false, .mov (.tmp 0)⟩,
    ⟨(some 13), none, false, .lens false (.tmp 12)⟩,
    ⟨(some 14), none, false, .bin .lss (.tmp 13) (.const (.int .i64 7))⟩]) (.cond (.tmp 14) (.seq (.ops [
    ⟨(some 2), none, false, .mov (.const (.slice none 0 0))⟩,
    ⟨(some 3), none, false, .mov (.const (.int .i64 0))⟩,
    ⟨(some 4), none, false, .mov (.const (.int .i64 5))⟩]) .ret) .skip)) (.seq (.ops [
    ⟨(some 16), none, false, .mov (.tmp 0)⟩,
    ⟨(some 17), none, false, .sll (.tmp 16) none (some (.const (.int .i64 2))) none 1⟩,
    ⟨(some 18), none, false, .call chantryref01_Unfix [(.tmp 17)]⟩,
    ⟨(some 15), none, false, .mov (.tmp 18)⟩,
    ⟨(some 19), none, false, .ext (.tmp 15) 0⟩,
    ⟨(some 20), none, false, .ext (.tmp 15) 1⟩,
    ⟨(some 5), none, false, .mov (.tmp 19)⟩,
    ⟨(some 6), none, false, .mov (.tmp 20)⟩]) (.seq (.seq (.ops [
    ⟨(some 21), none, false, .mov (.tmp 5)⟩,
    ⟨(some 22), none, false, .bin .eql (.tmp 21) (.const (.int .i64 0))⟩,
    ⟨(some 23), none, false, .mov (.tmp 22)⟩,
    ⟨(some 24), (some (23, false)), false, .mov (.tmp 5)⟩,
    ⟨(some 25), (some (23, false)), false, .bin .add (.tmp 24) (.const (.int .i64 6))⟩,
    ⟨(some 26), (some (23, false)), false, .mov (.tmp 0)⟩,
    ⟨(some 27), (some (23, false)), false, .lens false (.tmp 26)⟩,
    ⟨(some 28), (some (23, false)), false, .bin .gtr (.tmp 25) (.tmp 27)⟩,
    ⟨(some 29), none, false, .pick (.tmp 23) (.const (.bool true)) (.tmp 28)⟩]) (.cond (.tmp 29) (.seq (.ops [
    ⟨(some 2), none, false, .mov (.const (.slice none 0 0))⟩,
    ⟨(some 3), none, false, .mov (.const (.int .i64 0))⟩,
    ⟨(some 4), none, false, .mov (.const (.int .i64 5))⟩]) .ret) .skip)) (.seq (.ops [
    ⟨(some 31), none, false, .mov (.tmp 0)⟩,
    ⟨(some 32), none, false, .mov (.tmp 5)⟩,
    ⟨(some 33), none, false, .bin .add (.tmp 32) (.const (.int .i64 6))⟩,
    ⟨(some 34), none, false, .sll (.tmp 31) none (some (.tmp 33)) none 1⟩,
    ⟨(some 35), none, false, .call chantryref02_Open [(.tmp 34)]⟩,
    ⟨(some 30), none, false, .mov (.tmp 35)⟩,
    ⟨(some 36), none, false, .ext (.tmp 30) 0⟩,
    ⟨(some 37), none, false, .ext (.tmp 30) 1⟩,
    ⟨(some 7), none, false, .mov (.tmp 36)⟩,
    ⟨(some 8), none, false, .mov (.tmp 37)⟩]) (.seq (.seq (.ops [
    ⟨(some 38), none, false, .mov (.tmp 8)⟩,
    ⟨(some 39), none, false, .bin .neq (.tmp 38) (.const (.int .i64 0))⟩]) (.cond (.tmp 39) (.seq (.ops [
    ⟨(some 2), none, false, .mov (.const (.slice none 0 0))⟩,
    ⟨(some 3), none, false, .mov (.const (.int .i64 0))⟩,
    ⟨(some 4), none, false, .mov (.const (.int .i64 5))⟩]) .ret) .skip)) (.seq (.ops [
    ⟨(some 40), none, false, .mov (.tmp 7)⟩,
    ⟨(some 41), none, false, .sll (.tmp 40) (some (.const (.int .i64 2))) none none 1⟩,
    ⟨(some 42), none, false, .mov (.tmp 5)⟩,
    ⟨(some 43), none, false, .bin .add (.tmp 42) (.const (.int .i64 6))⟩,
    ⟨(some 2), none, false, .mov (.tmp 41)⟩,
    ⟨(some 3), none, false, .mov (.tmp 43)⟩,
    ⟨(some 4), none, false, .mov (.const (.int .i64 0))⟩]) .ret))))))))
theorem fits_chantryref26_Next : Fits Try.prog 0 chantryref26_Next ic_chantryref26_Next [.tmp 2, .tmp 3, .tmp 4] 1 :=
  ⟨Try.f13, Try.func13, by decide, by kernel_rfl, by kernel_rfl⟩

/-- chantry/frame.Scan -/
noncomputable def ic_frame_Scan : IC :=
  (.seq (.ops [
    ⟨(some 2), none, false, .mov (.const (.slice none 0 0))⟩,
    ⟨(some 3), none, false, .mov (.const (.int .i64 0))⟩]) (.scope (.seq (.ops [
    ⟨(some 4), none, false, .mov (.const (.slice none 0 0))⟩]) (.seq (.ops [
    ⟨(some 5), none, false, .mov (.const (.int .i64 0))⟩]) (.seq .skip (.seq (.block 0 (.loop (.seq (.seq (.ops [
    ⟨(some 9), none, false, .mov (.tmp 5)⟩,
    ⟨(some 10), none, false, .mov (.tmp 0)⟩,
    ⟨(some 11), none, false, .lens false (.tmp 10)⟩,
    ⟨(some 12), none, false, .bin .lss (.tmp 9) (.tmp 11)⟩]) (.cond (.tmp 12) .skip (.exit 0))) (.block 1 (.seq (.ops [
    ⟨(some 14), none, false, .mov (.tmp 0)⟩,
    ⟨(some 15), none, false, .mov (.tmp 5)⟩,
    ⟨(some 16), none, false, .sll (.tmp 14) (some (.tmp 15)) none none 1⟩,
    ⟨(some 17), none, false, .call frame_Next [(.tmp 16)]⟩,
    ⟨(some 13), none, false, .mov (.tmp 17)⟩,
    ⟨(some 18), none, false, .ext (.tmp 13) 0⟩,
    ⟨(some 19), none, false, .ext (.tmp 13) 1⟩,
    ⟨(some 20), none, false, .ext (.tmp 13) 2⟩,
    ⟨(some 6), none, false, .mov (.tmp 18)⟩,
    ⟨(some 7), none, false, .mov (.tmp 19)⟩,
    ⟨(some 8), none, false, .mov (.tmp 20)⟩]) (.seq (.seq (.ops [
    ⟨(some 21), none, false, .mov (.tmp 8)⟩]) (.block 2 (.seq (.ops [
    ⟨(some 23), none, false, .bin .eql (.tmp 21) (.const (.int .i64 0))⟩,
    ⟨(some 22), none, false, .mov (.tmp 23)⟩]) (.cond (.tmp 22) (.seq (.ops [
    ⟨(some 24), none, false, .mov (.tmp 4)⟩,
    ⟨(some 25), none, false, .mov (.tmp 6)⟩,
    ⟨(some 26), none, false, .lit [.slice none 0 0] 1 1 [(0, 1, (.tmp 25))]⟩,
    ⟨(some 27), none, false, .app (.tmp 24) (.tmp 26) 1 24⟩,
    ⟨(some 4), none, false, .mov (.tmp 27)⟩]) (.seq (.ops [
    ⟨(some 28), none, false, .mov (.tmp 5)⟩,
    ⟨(some 29), none, false, .mov (.tmp 7)⟩,
    ⟨(some 30), none, false, .bin .add (.tmp 28) (.tmp 29)⟩,
    ⟨(some 5), none, false, .mov (.tmp 30)⟩]) (.exit 1))) .skip)))) (.exit 0))))))) (.seq (.ops [
    ⟨(some 31), none, false, .mov (.tmp 4)⟩,
    ⟨(some 32), none, false, .mov (.tmp 5)⟩,
    ⟨(some 2), none, false, .mov (.tmp 31)⟩,
    ⟨(some 3), none, false, .mov (.tmp 32)⟩]) .ret)))))))
theorem fits_frame_Scan : Fits Try.prog 0 frame_Scan ic_frame_Scan [.tmp 2, .tmp 3] 1 :=
  ⟨Try.f14, Try.func14, by decide, by kernel_rfl, by kernel_rfl⟩

/-- chantry/chantryref26.Scan -/
noncomputable def ic_chantryref26_Scan : IC :=
  (.seq (.ops [
    ⟨(some 2), none, false, .mov (.const (.slice none 0 0))⟩,
    ⟨(some 3), none, false, .mov (.const (.int .i64 0))⟩]) (.seq (.ops [
    ⟨(some 4), none, false, .mov (.const (.slice none 0 0))⟩]) (.seq (.ops [
    ⟨(some 5), none, false, .mov (.const (.int .i64 0))⟩]) (.block 0 (.loop (.block 1 (.seq (.ops [
    ⟨(some 10), none, false, .mov (.tmp 0)⟩,
    ⟨(some 11), none, false, .mov (.tmp 5)⟩,
    ⟨(some 12), none, false, .sll (.tmp 10) (some (.tmp 11)) none none 1⟩,
    ⟨(some 13), none, false, .call chantryref26_Next [(.tmp 12)]⟩,
    ⟨(some 9), none, false, .mov (.tmp 13)⟩,
    ⟨(some 14), none, false, .ext (.tmp 9) 0⟩,
    ⟨(some 15), none, false, .ext (.tmp 9) 1⟩,
    ⟨(some 16), none, false, .ext (.tmp 9) 2⟩,
    ⟨(some 6), none, false, .mov (.tmp 14)⟩,
    ⟨(some 7), none, false, .mov (.tmp 15)⟩,
    ⟨(some 8), none, false, .mov (.tmp 16)⟩]) (.seq (.seq (.ops [
    ⟨(some 17), none, false, .mov (.tmp 8)⟩,
    ⟨(some 18), none, false, .bin .neq (.tmp 17) (.const (.int .i64 0))⟩]) (.cond (.tmp 18) (.seq (.ops [
    ⟨(some 19), none, false, .mov (.tmp 4)⟩,
    ⟨(some 20), none, false, .mov (.tmp 5)⟩,
    ⟨(some 2), none, false, .mov (.tmp 19)⟩,
    ⟨(some 3), none, false, .mov (.tmp 20)⟩]) .ret) .skip)) (.seq (.ops [
    ⟨(some 21), none, false, .mov (.tmp 4)⟩,
    ⟨(some 22), none, false, .mov (.tmp 6)⟩,
    ⟨(some 23), none, false, .lit [.slice none 0 0] 1 1 [(0, 1, (.tmp 22))]⟩,
    ⟨(some 24), none, false, .app (.tmp 21) (.tmp 23) 1 24⟩,
    ⟨(some 4), none, false, .mov (.tmp 24)⟩]) (.ops [
    ⟨(some 25), none, false, .mov (.tmp 5)⟩,
    ⟨(some 26), none, false, .mov (.tmp 7)⟩,
    ⟨(some 27), none, false, .bin .add (.tmp 25) (.tmp 26)⟩,
    ⟨(some 5), none, false, .mov (.tmp 27)⟩]))))))))))
theorem fits_chantryref26_Scan : Fits Try.prog 0 chantryref26_Scan ic_chantryref26_Scan [.tmp 2, .tmp 3] 1 :=
  ⟨Try.f15, Try.func15, by decide, by kernel_rfl, by kernel_rfl⟩

/-- chantry/chantryref01.Bytes -/
noncomputable def ic_chantryref01_Bytes : IC :=
  (.seq (.ops [
    ⟨(some 4), none, false, .mov (.const (.bool false))⟩]) (.seq (.seq (.ops [
    ⟨(some 6), none, false, .mov (.tmp 0)⟩,
    ⟨(some 7), none, false, .lens false (.tmp 6)⟩,
    ⟨(some 8), none, false, .mov (.tmp 1)⟩,
    ⟨(some 9), none, false, .lens false (.tmp 8)⟩,
    ⟨(some 10), none, false, .bin .neq (.tmp 7) (.tmp 9)⟩]) (.cond (.tmp 10) (.seq (.ops [
    ⟨(some 4), none, false, .mov (.const (.bool false))⟩]) .ret) .skip)) (.seq (.seq (.ops [
    ⟨(some 5), none, false, .mov (.const (.int .i64 0))⟩]) (.block 0 (.loop (.seq (.seq (.ops [
    ⟨(some 11), none, false, .mov (.tmp 5)⟩,
    ⟨(some 12), none, false, .mov (.tmp 0)⟩,
    ⟨(some 13), none, false, .lens false (.tmp 12)⟩,
    ⟨(some 14), none, false, .bin .lss (.tmp 11) (.tmp 13)⟩]) (.cond (.tmp 14) .skip (.exit 0))) (.seq (.block 1 (.seq (.draw [
    ⟨(some 17), none, false, .mov (.tmp 0)⟩,
    ⟨(some 18), none, false, .mov (.tmp 5)⟩,
    ⟨(some 19), none, false, .iaddr (.tmp 17) (.tmp 18) 1⟩,
    ⟨(some 20), none, false, .load1 (.tmp 19)⟩,
    ⟨(some 21), none, false, .b2s (.tmp 20)⟩,
    ⟨(some 22), none, false, .mov (.tmp 1)⟩,
    ⟨(some 23), none, false, .mov (.tmp 5)⟩,
    ⟨(some 24), none, false, .iaddr (.tmp 22) (.tmp 23) 1⟩,
    ⟨(some 25), none, false, .load1 (.tmp 24)⟩,
    ⟨(some 26), none, false, .b2s (.tmp 25)⟩,
    ⟨(some 27), none, false, .bin .neq (.tmp 21) (.tmp 26)⟩]) (.cond (.tmp 27) (.seq (.ops [
    ⟨(some 4), none, false, .mov (.const (.bool false))⟩]) .ret) .skip))) (.ops [
    ⟨(some 15), none, false, .mov (.tmp 5)⟩,
    ⟨(some 16), none, false, .bin .add (.tmp 15) (.const (.int .i64 1))⟩,
    ⟨(some 5), none, false, .mov (.tmp 16)⟩])))))) (.seq (.ops [
    ⟨(some 4), none, false, .mov (.const (.bool true))⟩]) .ret))))
theorem fits_chantryref01_Bytes : Fits Try.prog 0 chantryref01_Bytes ic_chantryref01_Bytes [.tmp 4] 2 :=
  ⟨Try.f16, Try.func16, by decide, by kernel_rfl, by kernel_rfl⟩

/-- chantry/num.Fix -/
noncomputable def ic_num_Fix : IC :=
  (.seq (.ops [
    ⟨(some 4), none, false, .mov (.const (.slice none 0 0))⟩,
    ⟨(some 5), none, false, .mov (.const (.int .i64 0))⟩]) (.seq (.seq (.ops [
    ⟨(some 8), none, false, .mov (.tmp 1)⟩,
    ⟨(some 9), none, false, .bin .lss (.tmp 8) (.const (.int .i64 1))⟩,
    ⟨(some 10), none, false, .mov (.tmp 9)⟩,
    ⟨(some 11), (some (10, false)), false, .mov (.tmp 1)⟩,
    ⟨(some 12), (some (10, false)), false, .bin .gtr (.tmp 11) (.const (.int .i64 4))⟩,
    ⟨(some 13), none, false, .pick (.tmp 10) (.const (.bool true)) (.tmp 12)⟩,
    ⟨(some 14), none, false, .mov (.tmp 13)⟩,
    ⟨(some 15), (some (14, false)), false, .mov (.tmp 0)⟩,
    ⟨(some 16), (some (14, false)), false, .call num_is [(.tmp 15)]⟩,
    ⟨(some 17), (some (14, false)), false, .un .not (.tmp 16)⟩,
    ⟨(some 18), none, false, .pick (.tmp 14) (.const (.bool true)) (.tmp 17)⟩,
    ⟨(some 19), none, false, .mov (.tmp 18)⟩,
    ⟨(some 20), (some (19, false)), false, .mov (.tmp 0)⟩,
    ⟨(some 21), (some (19, false)), false, .mov (.tmp 1)⟩,
    ⟨(some 22), (some (19, false)), false, .bin .mul (.const (.int .i64 8)) (.tmp 21)⟩,
    ⟨(some 23), (some (19, false)), false, .bin .shr (.tmp 20) (.tmp 22)⟩,
    ⟨(some 24), (some (19, false)), false, .bin .gtr (.tmp 23) (.const (.int .i64 0))⟩,
    ⟨(some 25), none, false, .pick (.tmp 19) (.const (.bool true)) (.tmp 24)⟩]) (.cond (.tmp 25) (.seq (.ops [
    ⟨(some 4), none, false, .mov (.const (.slice none 0 0))⟩,
    ⟨(some 5), none, false, .mov (.const (.int .i64 1))⟩]) .ret) .skip)) (.seq (.ops [
    ⟨(some 26), none, false, .mov (.tmp 1)⟩,
    ⟨(some 27), none, false, .mk [.int .u8 0] 1 (.tmp 26) (.tmp 26)⟩,
    ⟨(some 6), none, false, .mov (.tmp 27)⟩]) (.seq (.seq (.ops [
    ⟨(some 28), none, false, .mov (.tmp 6)⟩,
    ⟨(some 29), none, false, .lens false (.tmp 28)⟩,
    ⟨(some 30), none, false, .mov (.const (.int .i64 0))⟩]) (.block 0 (.loop (.seq (.ops [
    ⟨(some 31), none, false, .bin .lss (.tmp 30) (.tmp 29)⟩]) (.seq (.cond (.tmp 31) .skip (.exit 0)) (.seq (.block 1 (.seq (.ops [
    ⟨(some 32), none, false, .mov (.tmp 30)⟩,
    ⟨(some 7), none, false, .mov (.tmp 32)⟩]) (.ops [
    ⟨(some 33), none, false, .mov (.tmp 6)⟩,
    ⟨(some 34), none, false, .mov (.tmp 7)⟩,
    ⟨(some 35), none, false, .mov (.tmp 0)⟩,
    ⟨(some 36), none, false, .mov (.tmp 7)⟩,
    ⟨(some 37), none, false, .bin .mul (.const (.int .i64 8)) (.tmp 36)⟩,
    ⟨(some 38), none, false, .bin .shr (.tmp 35) (.tmp 37)⟩,
    ⟨(some 39), none, false, .conv .u8 (.tmp 38)⟩,
    ⟨(some 40), none, false, .iaddr (.tmp 33) (.tmp 34) 1⟩,
    ⟨none, none, false, .store (.tmp 40) (.tmp 39) 1⟩]))) (.ops [
    ⟨(some 41), none, false, .bin .add (.tmp 30) (.const (.int .i64 1))⟩,
    ⟨(some 30), none, false, .mov (.tmp 41)⟩]))))))) (.seq (.ops [
    ⟨(some 42), none, false, .mov (.tmp 6)⟩,
    ⟨(some 4), none, false, .mov (.tmp 42)⟩,
    ⟨(some 5), none, false, .mov (.const (.int .i64 0))⟩]) .ret)))))
theorem fits_num_Fix : Fits Try.prog 0 num_Fix ic_num_Fix [.tmp 4, .tmp 5] 2 :=
  ⟨Try.f17, Try.func17, by decide, by kernel_rfl, by kernel_rfl⟩

/-- chantry/crc.Seal -/
noncomputable def ic_crc_Seal : IC :=
  (.seq (.ops [
    ⟨(some 2), none, false, .mov (.const (.slice none 0 0))⟩]) (.seq (.ops [
    ⟨(some 3), none, false, .mov (.tmp 0)⟩,
    ⟨(some 4), none, false, .mov (.tmp 0)⟩,
    ⟨(some 5), none, false, .call crc_Sum [(.tmp 4)]⟩,
    ⟨(some 6), none, false, .call crc_tail [(.tmp 5)]⟩,
    ⟨(some 7), none, false, .lit [.slice none 0 0] 1 2 [(0, 1, (.tmp 3)), (1, 1, (.tmp 6))]⟩,
    ⟨(some 8), none, false, .call slices_Concat_byte_byte [(.tmp 7)]⟩,
    ⟨(some 2), none, false, .mov (.tmp 8)⟩]) .ret))
theorem fits_crc_Seal : Fits Try.prog 0 crc_Seal ic_crc_Seal [.tmp 2] 1 :=
  ⟨Try.f18, Try.func18, by decide, by kernel_rfl, by kernel_rfl⟩

/-- chantry/chantryref01.Fix -/
noncomputable def ic_chantryref01_Fix : IC :=
  (.seq (.ops [
    ⟨(some 4), none, false, .mov (.const (.slice none 0 0))⟩,
    ⟨(some 5), none, false, .mov (.const (.int .i64 0))⟩]) (.seq (.seq (.ops [
    ⟨(some 8), none, false, .mov (.tmp 1)⟩,
    ⟨(some 9), none, false, .bin .lss (.tmp 8) (.const (.int .i64 1))⟩,
    ⟨(some 10), none, false, .mov (.tmp 9)⟩,
    ⟨(some 11), (some (10, false)), false, .mov (.tmp 1)⟩,
    ⟨(some 12), (some (10, false)), false, .bin .gtr (.tmp 11) (.const (.int .i64 4))⟩,
    ⟨(some 13), none, false, .pick (.tmp 10) (.const (.bool true)) (.tmp 12)⟩,
    ⟨(some 14), none, false, .mov (.tmp 13)⟩,
    ⟨(some 15), (some (14, false)), false, .mov (.tmp 0)⟩,
    ⟨(some 16), (some (14, false)), false, .bin .lss (.tmp 15) (.const (.int .i64 0))⟩,
    ⟨(some 17), none, false, .pick (.tmp 14) (.const (.bool true)) (.tmp 16)⟩,
    ⟨(some 18), none, false, .mov (.tmp 17)⟩,
    ⟨(some 19), (some (18, false)), false, .mov (.tmp 0)⟩,
    ⟨(some 20), (some (18, false)), false, .bin .gtr (.tmp 19) (.const (.int .i64 2147483647))⟩,
    ⟨(some 21), none, false, .pick (.tmp 18) (.const (.bool true)) (.tmp 20)⟩]) (.cond (.tmp 21) (.seq (.ops [
    ⟨(some 4), none, false, .mov (.const (.slice none 0 0))⟩,
    ⟨(some 5), none, false, .mov (.const (.int .i64 1))⟩]) .ret) .skip)) (.seq (.ops [
    ⟨(some 6), none, false, .mov (.const (.slice none 0 0))⟩]) (.seq (.seq (.ops [
    ⟨(some 7), none, false, .mov (.const (.int .i64 0))⟩]) (.block 0 (.loop (.seq (.seq (.ops [
    ⟨(some 22), none, false, .mov (.tmp 7)⟩,
    ⟨(some 23), none, false, .mov (.tmp 1)⟩,
    ⟨(some 24), none, false, .bin .lss (.tmp 22) (.tmp 23)⟩]) (.cond (.tmp 24) .skip (.exit 0))) (.seq (.block 1 (.seq (.ops [
    ⟨(some 27), none, false, .mov (.tmp 6)⟩,
    ⟨(some 28), none, false, .mov (.tmp 0)⟩,
    ⟨(some 29), none, false, .bin .rem (.tmp 28) (.const (.int .i64 256))⟩,
    ⟨(some 30), none, false, .conv .u8 (.tmp 29)⟩,
    ⟨(some 31), none, false, .lit [.int .u8 0] 1 1 [(0, 1, (.tmp 30))]⟩,
    ⟨(some 32), none, false, .app (.tmp 27) (.tmp 31) 1 1⟩,
    ⟨(some 6), none, false, .mov (.tmp 32)⟩]) (.ops [
    ⟨(some 33), none, false, .mov (.tmp 0)⟩,
    ⟨(some 34), none, false, .bin .quo (.tmp 33) (.const (.int .i64 256))⟩,
    ⟨(some 0), none, false, .mov (.tmp 34)⟩]))) (.ops [
    ⟨(some 25), none, false, .mov (.tmp 7)⟩,
    ⟨(some 26), none, false, .bin .add (.tmp 25) (.const (.int .i64 1))⟩,
    ⟨(some 7), none, false, .mov (.tmp 26)⟩])))))) (.seq (.seq (.ops [
    ⟨(some 35), none, false, .mov (.tmp 0)⟩,
    ⟨(some 36), none, false, .bin .gtr (.tmp 35) (.const (.int .i64 0))⟩]) (.cond (.tmp 36) (.seq (.ops [
    ⟨(some 4), none, false, .mov (.const (.slice none 0 0))⟩,
    ⟨(some 5), none, false, .mov (.const (.int .i64 1))⟩]) .ret) .skip)) (.seq (.ops [
    ⟨(some 37), none, false, .mov (.tmp 6)⟩,
    ⟨(some 4), none, false, .mov (.tmp 37)⟩,
    ⟨(some 5), none, false, .mov (.const (.int .i64 0))⟩]) .ret))))))
theorem fits_chantryref01_Fix : Fits Try.prog 0 chantryref01_Fix ic_chantryref01_Fix [.tmp 4, .tmp 5] 2 :=
  ⟨Try.f19, Try.func19, by decide, by kernel_rfl, by kernel_rfl⟩

/-- chantry/chantryref02.Seal -/
noncomputable def ic_chantryref02_Seal : IC :=
  (.seq (.ops [
    ⟨(some 2), none, false, .mov (.const (.slice none 0 0))⟩]) (.seq (.ops [
    ⟨(some 4), none, false, .mov (.tmp 0)⟩,
    ⟨(some 5), none, false, .call chantryref02_Sum [(.tmp 4)]⟩,
    ⟨(some 3), none, false, .mov (.tmp 5)⟩]) (.seq (.ops [
    ⟨(some 6), none, false, .lit [.int .u8 0] 1 0 []⟩,
    ⟨(some 7), none, false, .mov (.tmp 0)⟩,
    ⟨(some 8), none, false, .app (.tmp 6) (.tmp 7) 1 1⟩,
    ⟨(some 9), none, false, .mov (.tmp 3)⟩,
    ⟨(some 10), none, false, .bin .rem (.tmp 9) (.const (.int .u32 256))⟩,
    ⟨(some 11), none, false, .conv .u8 (.tmp 10)⟩,
    ⟨(some 12), none, false, .mov (.tmp 3)⟩,
    ⟨(some 13), none, false, .bin .quo (.tmp 12) (.const (.int .u32 256))⟩,
    ⟨(some 14), none, false, .bin .rem (.tmp 13) (.const (.int .u32 256))⟩,
    ⟨(some 15), none, false, .conv .u8 (.tmp 14)⟩,
    ⟨(some 16), none, false, .mov (.tmp 3)⟩,
    ⟨(some 17), none, false, .bin .quo (.tmp 16) (.const (.int .u32 65536))⟩,
    ⟨(some 18), none, false, .bin .rem (.tmp 17) (.const (.int .u32 256))⟩,
    ⟨(some 19), none, false, .conv .u8 (.tmp 18)⟩,
    ⟨(some 20), none, false, .mov (.tmp 3)⟩,
    ⟨(some 21), none, false, .bin .quo (.tmp 20) (.const (.int .u32 16777216))⟩,
    ⟨(some 22), none, false, .conv .u8 (.tmp 21)⟩,
    ⟨(some 23), none, false, .lit [.int .u8 0] 1 4 [(0, 1, (.tmp 11)), (1, 1, (.tmp 15)), (2, 1, (.tmp 19)), (3, 1, (.tmp 22))]⟩,
    ⟨(some 24), none, false, .app (.tmp 8) (.tmp 23) 1 1⟩,
    ⟨(some 2), none, false, .mov (.tmp 24)⟩]) .ret)))
theorem fits_chantryref02_Seal : Fits Try.prog 0 chantryref02_Seal ic_chantryref02_Seal [.tmp 2] 1 :=
  ⟨Try.f20, Try.func20, by decide, by kernel_rfl, by kernel_rfl⟩

/-- chantry/num.Unfix -/
noncomputable def ic_num_Unfix : IC :=
  (.seq (.ops [
    ⟨(some 2), none, false, .mov (.const (.int .i64 0))⟩,
    ⟨(some 3), none, false, .mov (.const (.int .i64 0))⟩]) (.seq (.seq (.ops [
    ⟨(some 7), none, false, .mov (.tmp 0)⟩,
    ⟨(some 8), none, false, .lens false (.tmp 7)⟩,
    ⟨(some 9), none, false, .bin .lss (.tmp 8) (.const (.int .i64 1))⟩,
    ⟨(some 10), none, false, .mov (.tmp 9)⟩,
    ⟨(some 11), (some (10, false)), false, .mov (.tmp 0)⟩,
    ⟨(some 12), (some (10, false)), false, .lens false (.tmp 11)⟩,
    ⟨(some 13), (some (10, false)), false, .bin .gtr (.tmp 12) (.const (.int .i64 4))⟩,
    ⟨(some 14), none, false, .pick (.tmp 10) (.const (.bool true)) (.tmp 13)⟩]) (.cond (.tmp 14) (.seq (.ops [
    ⟨(some 2), none, false, .mov (.const (.int .i64 0))⟩,
    ⟨(some 3), none, false, .mov (.const (.int .i64 1))⟩]) .ret) .skip)) (.seq (.ops [
    ⟨(some 4), none, false, .mov (.const (.int .i64 0))⟩]) (.seq (.seq (.ops [
    ⟨(some 15), none, false, .mov (.tmp 0)⟩,
    ⟨(some 16), none, false, .lens false (.tmp 15)⟩,
    ⟨(some 17), none, false, .mov (.const (.int .i64 0))⟩]) (.block 0 (.loop (.seq (.ops [
    ⟨(some 18), none, false, .bin .lss (.tmp 17) (.tmp 16)⟩]) (.seq (.cond (.tmp 18) .skip (.exit 0)) (.seq (.block 1 (.seq (.ops [
    ⟨(some 19), none, false, .mov (.tmp 17)⟩,
    ⟨(some 20), none, false, .iaddr (.tmp 15) (.tmp 17) 1⟩,
    ⟨(some 21), none, false, .load1 (.tmp 20)⟩,
    ⟨(some 5), none, false, .mov (.tmp 19)⟩,
    ⟨(some 6), none, false, .mov (.tmp 21)⟩]) (.ops [
    ⟨(some 22), none, false, .mov (.tmp 4)⟩,
    ⟨(some 23), none, false, .mov (.tmp 6)⟩,
    ⟨(some 24), none, false, .conv .i64 (.tmp 23)⟩,
    ⟨(some 25), none, false, .mov (.tmp 5)⟩,
    ⟨(some 26), none, false, .bin .mul (.const (.int .i64 8)) (.tmp 25)⟩,
    ⟨(some 27), none, false, .bin .shl (.tmp 24) (.tmp 26)⟩,
    ⟨(some 28), none, false, .bin .or (.tmp 22) (.tmp 27)⟩,
    ⟨(some 4), none, false, .mov (.tmp 28)⟩]))) (.ops [
    ⟨(some 29), none, false, .bin .add (.tmp 17) (.const (.int .i64 1))⟩,
    ⟨(some 17), none, false, .mov (.tmp 29)⟩]))))))) (.seq (.seq (.ops [
    ⟨(some 30), none, false, .mov (.tmp 4)⟩,
    ⟨(some 31), none, false, .call num_is [(.tmp 30)]⟩,
    ⟨(some 32), none, false, .un .not (.tmp 31)⟩]) (.cond (.tmp 32) (.seq (.ops [
    ⟨(some 2), none, false, .mov (.const (.int .i64 0))⟩,
    ⟨(some 3), none, false, .mov (.const (.int .i64 5))⟩]) .ret) .skip)) (.seq (.ops [
    ⟨(some 33), none, false, .mov (.tmp 4)⟩,
    ⟨(some 2), none, false, .mov (.tmp 33)⟩,
    ⟨(some 3), none, false, .mov (.const (.int .i64 0))⟩]) .ret))))))
theorem fits_num_Unfix : Fits Try.prog 0 num_Unfix ic_num_Unfix [.tmp 2, .tmp 3] 1 :=
  ⟨Try.f21, Try.func21, by decide, by kernel_rfl, by kernel_rfl⟩

/-- chantry/crc.Open -/
noncomputable def ic_crc_Open : IC :=
  (.seq (.ops [
    ⟨(some 2), none, false, .mov (.const (.slice none 0 0))⟩,
    ⟨(some 3), none, false, .mov (.const (.int .i64 0))⟩]) (.seq (.ops [
    ⟨(some 5), none, false, .mov (.tmp 0)⟩,
    ⟨(some 6), none, false, .lens false (.tmp 5)⟩,
    ⟨(some 7), none, false, .bin .sub (.tmp 6) (.const (.int .i64 4))⟩,
    ⟨(some 4), none, false, .mov (.tmp 7)⟩]) (.seq (.seq (.draw [
    ⟨(some 8), none, false, .mov (.tmp 4)⟩,
    ⟨(some 9), none, false, .bin .lss (.tmp 8) (.const (.int .i64 0))⟩,
    ⟨(some 10), none, false, .mov (.tmp 9)⟩,
    ⟨(some 11), (some (10, false)), false, .mov (.tmp 0)⟩,
    ⟨(some 12), (some (10, false)), false, .mov (.tmp 4)⟩,
    ⟨(some 13), (some (10, false)), true, .sll (.tmp 11) (some (.tmp 12)) none none 1⟩,
    ⟨(some 14), (some (10, false)), false, .mov (.tmp 0)⟩,
    ⟨(some 15), (some (10, false)), false, .mov (.tmp 4)⟩,
    ⟨(some 16), (some (10, false)), false, .sll (.tmp 14) none (some (.tmp 15)) none 1⟩,
    ⟨(some 17), (some (10, false)), true, .call crc_Sum [(.tmp 16)]⟩,
    ⟨(some 18), (some (10, false)), true, .call crc_tail [(.tmp 17)]⟩,
    ⟨(some 19), (some (10, false)), false, .call slices_Equal_byte_byte [(.tmp 13), (.tmp 18)]⟩,
    ⟨(some 20), (some (10, false)), false, .un .not (.tmp 19)⟩,
    ⟨(some 21), none, false, .pick (.tmp 10) (.const (.bool true)) (.tmp 20)⟩]) (.cond (.tmp 21) (.seq (.ops [
    ⟨(some 2), none, false, .mov (.const (.slice none 0 0))⟩,
    ⟨(some 3), none, false, .mov (.const (.int .i64 12))⟩]) .ret) .skip)) (.seq (.ops [
    ⟨(some 22), none, false, .mov (.tmp 0)⟩,
    ⟨(some 23), none, false, .mov (.tmp 4)⟩,
    ⟨(some 24), none, false, .sll (.tmp 22) none (some (.tmp 23)) none 1⟩,
    ⟨(some 25), none, false, .call slices_Clone_byte_byte [(.tmp 24)]⟩,
    ⟨(some 2), none, false, .mov (.tmp 25)⟩,
    ⟨(some 3), none, false, .mov (.const (.int .i64 0))⟩]) .ret))))
theorem fits_crc_Open : Fits Try.prog 0 crc_Open ic_crc_Open [.tmp 2, .tmp 3] 1 :=
  ⟨Try.f22, Try.func22, by decide, by kernel_rfl, by kernel_rfl⟩

/-- chantry/chantryref01.Unfix -/
noncomputable def ic_chantryref01_Unfix : IC :=
  (.seq (.ops [
    ⟨(some 2), none, false, .mov (.const (.int .i64 0))⟩,
    ⟨(some 3), none, false, .mov (.const (.int .i64 0))⟩]) (.seq (.seq (.ops [
    ⟨(some 6), none, false, .mov (.tmp 0)⟩,
    ⟨(some 7), none, false, .lens false (.tmp 6)⟩,
    ⟨(some 8), none, false, .bin .lss (.tmp 7) (.const (.int .i64 1))⟩,
    ⟨(some 9), none, false, .mov (.tmp 8)⟩,
    ⟨(some 10), (some (9, false)), false, .mov (.tmp 0)⟩,
    ⟨(some 11), (some (9, false)), false, .lens false (.tmp 10)⟩,
    ⟨(some 12), (some (9, false)), false, .bin .gtr (.tmp 11) (.const (.int .i64 4))⟩,
    ⟨(some 13), none, false, .pick (.tmp 9) (.const (.bool true)) (.tmp 12)⟩]) (.cond (.tmp 13) (.seq (.ops [
    ⟨(some 2), none, false, .mov (.const (.int .i64 0))⟩,
    ⟨(some 3), none, false, .mov (.const (.int .i64 1))⟩]) .ret) .skip)) (.seq (.ops [
    ⟨(some 4), none, false, .mov (.const (.int .i64 0))⟩]) (.seq (.seq (.ops [
    ⟨(some 14), none, false, .mov (.tmp 0)⟩,
    ⟨(some 15), none, false, .lens false (.tmp 14)⟩,
    ⟨(some 16), none, false, .bin .sub (.tmp 15) (.const (.int .i64 1))⟩,
    ⟨(some 5), none, false, .mov (.tmp 16)⟩]) (.block 0 (.loop (.seq (.seq (.ops [
    ⟨(some 17), none, false, .mov (.tmp 5)⟩,
    ⟨(some 18), none, false, .bin .geq (.tmp 17) (.const (.int .i64 0))⟩]) (.cond (.tmp 18) .skip (.exit 0))) (.seq (.block 1 (.ops [
    ⟨(some 21), none, false, .mov (.tmp 4)⟩,
    ⟨(some 22), none, false, .bin .mul (.const (.int .i64 256)) (.tmp 21)⟩,
    ⟨(some 23), none, false, .mov (.tmp 0)⟩,
    ⟨(some 24), none, false, .mov (.tmp 5)⟩,
    ⟨(some 25), none, false, .iaddr (.tmp 23) (.tmp 24) 1⟩,
    ⟨(some 26), none, false, .load1 (.tmp 25)⟩,
    ⟨(some 27), none, false, .conv .i64 (.tmp 26)⟩,
    ⟨(some 28), none, false, .bin .add (.tmp 22) (.tmp 27)⟩,
    ⟨(some 4), none, false, .mov (.tmp 28)⟩])) (.ops [
    ⟨(some 19), none, false, .mov (.tmp 5)⟩,
    ⟨(some 20), none, false, .bin .sub (.tmp 19) (.const (.int .i64 1))⟩,
    ⟨(some 5), none, false, .mov (.tmp 20)⟩])))))) (.seq (.seq (.ops [
    ⟨(some 29), none, false, .mov (.tmp 4)⟩,
    ⟨(some 30), none, false, .bin .gtr (.tmp 29) (.const (.int .i64 2147483647))⟩]) (.cond (.tmp 30) (.seq (.ops [
    ⟨(some 2), none, false, .mov (.const (.int .i64 0))⟩,
    ⟨(some 3), none, false, .mov (.const (.int .i64 5))⟩]) .ret) .skip)) (.seq (.ops [
    ⟨(some 31), none, false, .mov (.tmp 4)⟩,
    ⟨(some 2), none, false, .mov (.tmp 31)⟩,
    ⟨(some 3), none, false, .mov (.const (.int .i64 0))⟩]) .ret))))))
theorem fits_chantryref01_Unfix : Fits Try.prog 0 chantryref01_Unfix ic_chantryref01_Unfix [.tmp 2, .tmp 3] 1 :=
  ⟨Try.f23, Try.func23, by decide, by kernel_rfl, by kernel_rfl⟩

/-- chantry/chantryref02.Open -/
noncomputable def ic_chantryref02_Open : IC :=
  (.seq (.ops [
    ⟨(some 2), none, false, .mov (.const (.slice none 0 0))⟩,
    ⟨(some 3), none, false, .mov (.const (.int .i64 0))⟩]) (.seq (.ops [
    ⟨(some 5), none, false, .mov (.tmp 0)⟩,
    ⟨(some 6), none, false, .lens false (.tmp 5)⟩,
    ⟨(some 7), none, false, .bin .sub (.tmp 6) (.const (.int .i64 4))⟩,
    ⟨(some 4), none, false, .mov (.tmp 7)⟩]) (.seq (.seq (.draw [
    ⟨(some 8), none, false, .mov (.tmp 4)⟩,
    ⟨(some 9), none, false, .bin .lss (.tmp 8) (.const (.int .i64 0))⟩,
    ⟨(some 10), none, false, .mov (.tmp 9)⟩,
    ⟨(some 11), (some (10, false)), false, .mov (.tmp 0)⟩,
    ⟨(some 12), (some (10, false)), false, .mov (.tmp 4)⟩,
    ⟨(some 13), (some (10, false)), false, .sll (.tmp 11) none (some (.tmp 12)) none 1⟩,
    ⟨(some 16), (some (10, false)), false, .mov (.tmp 0)⟩,
    ⟨(some 17), (some (10, false)), true, .b2s (.tmp 16)⟩,
    ⟨(some 14), (some (10, false)), true, .call chantryref02_Seal [(.tmp 13)]⟩,
    ⟨(some 15), (some (10, false)), false, .b2s (.tmp 14)⟩,
    ⟨(some 18), (some (10, false)), false, .bin .neq (.tmp 15) (.tmp 17)⟩,
    ⟨(some 19), none, false, .pick (.tmp 10) (.const (.bool true)) (.tmp 18)⟩]) (.cond (.tmp 19) (.seq (.ops [
    ⟨(some 2), none, false, .mov (.const (.slice none 0 0))⟩,
    ⟨(some 3), none, false, .mov (.const (.int .i64 12))⟩]) .ret) .skip)) (.seq (.ops [
    ⟨(some 20), none, false, .mov (.tmp 0)⟩,
    ⟨(some 21), none, false, .mov (.tmp 4)⟩,
    ⟨(some 22), none, false, .sll (.tmp 20) none (some (.tmp 21)) none 1⟩,
    ⟨(some 2), none, false, .mov (.tmp 22)⟩,
    ⟨(some 3), none, false, .mov (.const (.int .i64 0))⟩]) .ret))))
theorem fits_chantryref02_Open : Fits Try.prog 0 chantryref02_Open ic_chantryref02_Open [.tmp 2, .tmp 3] 1 :=
  ⟨Try.f24, Try.func24, by decide, by kernel_rfl, by kernel_rfl⟩

/-- chantry/num.is -/
noncomputable def ic_num_is : IC :=
  (.seq (.ops [
    ⟨(some 2), none, false, .mov (.const (.bool false))⟩]) (.seq (.ops [
    ⟨(some 3), none, false, .mov (.tmp 0)⟩,
    ⟨(some 4), none, false, .bin .geq (.tmp 3) (.const (.int .i64 0))⟩,
    ⟨(some 5), none, false, .mov (.tmp 4)⟩,
    ⟨(some 6), (some (5, true)), false, .mov (.tmp 0)⟩,
    ⟨(some 7), (some (5, true)), false, .bin .leq (.tmp 6) (.const (.int .i64 2147483647))⟩,
    ⟨(some 8), none, false, .pick (.tmp 5) (.tmp 7) (.const (.bool false))⟩,
    ⟨(some 2), none, false, .mov (.tmp 8)⟩]) .ret))
theorem fits_num_is : Fits Try.prog 0 num_is ic_num_is [.tmp 2] 1 :=
  ⟨Try.f25, Try.func25, by decide, by kernel_rfl, by kernel_rfl⟩

/-- slices.Concat[[]byte,byte] -/
noncomputable def ic_slices_Concat_byte_byte : IC :=
  (.seq (.ops [
    ⟨(some 2), none, false, .mov (.const (.slice none 0 0))⟩]) (.seq (.ops [
    ⟨(some 3), none, false, .mov (.const (.int .i64 0))⟩]) (.seq (.seq (.ops [
    ⟨(some 9), none, false, .mov (.tmp 0)⟩,
    ⟨(some 10), none, false, .lens false (.tmp 9)⟩,
    ⟨(some 11), none, false, .mov (.const (.int .i64 0))⟩]) (.block 0 (.loop (.seq (.ops [
    ⟨(some 12), none, false, .bin .lss (.tmp 11) (.tmp 10)⟩]) (.seq (.cond (.tmp 12) .skip (.exit 0)) (.seq (.block 1 (.seq (.ops [
    ⟨(some 13), none, false, .iaddr (.tmp 9) (.tmp 11) 1⟩,
    ⟨(some 14), none, false, .load1 (.tmp 13)⟩,
    ⟨(some 5), none, false, .mov (.tmp 14)⟩]) (.seq (.ops [
    ⟨(some 15), none, false, .mov (.tmp 3)⟩,
    ⟨(some 16), none, false, .mov (.tmp 5)⟩,
    ⟨(some 17), none, false, .lens false (.tmp 16)⟩,
    ⟨(some 18), none, false, .bin .add (.tmp 15) (.tmp 17)⟩,
    ⟨(some 3), none, false, .mov (.tmp 18)⟩]) (.seq (.ops [
    ⟨(some 19), none, false, .mov (.tmp 3)⟩,
    ⟨(some 20), none, false, .bin .lss (.tmp 19) (.const (.int .i64 0))⟩]) (.cond (.tmp 20) (.ops [
    ⟨(some 21), none, false, .ifc 9 (.const (.string ⟨#[108, 101, 110, 32, 111, 117, 116, 32, 111, 102, 32, 114, 97, 110, 103, 101]⟩))⟩,
    ⟨none, none, false, .fail⟩]) .skip))))) (.ops [
    ⟨(some 22), none, false, .bin .add (.tmp 11) (.const (.int .i64 1))⟩,
    ⟨(some 11), none, false, .mov (.tmp 22)⟩]))))))) (.seq (.ops [
    ⟨(some 23), none, false, .mov (.tmp 3)⟩,
    ⟨(some 24), none, false, .call slices_Grow_byte_byte [(.const (.slice none 0 0)), (.tmp 23)]⟩,
    ⟨(some 6), none, false, .mov (.tmp 24)⟩]) (.seq (.seq (.ops [
    ⟨(some 25), none, false, .mov (.tmp 0)⟩,
    ⟨(some 26), none, false, .lens false (.tmp 25)⟩,
    ⟨(some 27), none, false, .mov (.const (.int .i64 0))⟩]) (.block 2 (.loop (.seq (.ops [
    ⟨(some 28), none, false, .bin .lss (.tmp 27) (.tmp 26)⟩]) (.seq (.cond (.tmp 28) .skip (.exit 2)) (.seq (.block 3 (.seq (.ops [
    ⟨(some 29), none, false, .iaddr (.tmp 25) (.tmp 27) 1⟩,
    ⟨(some 30), none, false, .load1 (.tmp 29)⟩,
    ⟨(some 8), none, false, .mov (.tmp 30)⟩]) (.ops [
    ⟨(some 31), none, false, .mov (.tmp 6)⟩,
    ⟨(some 32), none, false, .mov (.tmp 8)⟩,
    ⟨(some 33), none, false, .app (.tmp 31) (.tmp 32) 1 1⟩,
    ⟨(some 6), none, false, .mov (.tmp 33)⟩]))) (.ops [
    ⟨(some 34), none, false, .bin .add (.tmp 27) (.const (.int .i64 1))⟩,
    ⟨(some 27), none, false, .mov (.tmp 34)⟩]))))))) (.seq (.ops [
    ⟨(some 35), none, false, .mov (.tmp 6)⟩,
    ⟨(some 2), none, false, .mov (.tmp 35)⟩]) .ret))))))
theorem fits_slices_Concat_byte_byte : Fits Try.prog 0 slices_Concat_byte_byte ic_slices_Concat_byte_byte [.tmp 2] 1 :=
  ⟨Try.f26, Try.func26, by decide, by kernel_rfl, by kernel_rfl⟩

/-- chantry/crc.tail -/
noncomputable def ic_crc_tail : IC :=
  (.seq (.ops [
    ⟨(some 2), none, false, .mov (.const (.slice none 0 0))⟩]) (.seq (.ops [
    ⟨(some 8), none, false, .mov (.tmp 0)⟩,
    ⟨(some 9), none, false, .bin .and (.tmp 8) (.const (.int .u32 65535))⟩,
    ⟨(some 10), none, false, .conv .i64 (.tmp 9)⟩,
    ⟨(some 11), none, false, .call num_Fix [(.tmp 10), (.const (.int .i64 2))]⟩,
    ⟨(some 7), none, false, .mov (.tmp 11)⟩,
    ⟨(some 12), none, false, .ext (.tmp 7) 0⟩,
    ⟨(some 13), none, false, .ext (.tmp 7) 1⟩,
    ⟨(some 3), none, false, .mov (.tmp 12)⟩,
    ⟨(some 4), none, false, .mov (.tmp 13)⟩]) (.seq (.ops [
    ⟨(some 15), none, false, .mov (.tmp 0)⟩,
    ⟨(some 16), none, false, .bin .shr (.tmp 15) (.const (.int .u64 16))⟩,
    ⟨(some 17), none, false, .conv .i64 (.tmp 16)⟩,
    ⟨(some 18), none, false, .call num_Fix [(.tmp 17), (.const (.int .i64 2))]⟩,
    ⟨(some 14), none, false, .mov (.tmp 18)⟩,
    ⟨(some 19), none, false, .ext (.tmp 14) 0⟩,
    ⟨(some 20), none, false, .ext (.tmp 14) 1⟩,
    ⟨(some 5), none, false, .mov (.tmp 19)⟩,
    ⟨(some 6), none, false, .mov (.tmp 20)⟩]) (.seq (.ops [
    ⟨(some 21), none, false, .mov (.tmp 3)⟩,
    ⟨(some 22), none, false, .mov (.tmp 5)⟩,
    ⟨(some 23), none, false, .lit [.slice none 0 0] 1 2 [(0, 1, (.tmp 21)), (1, 1, (.tmp 22))]⟩,
    ⟨(some 24), none, false, .call slices_Concat_byte_byte [(.tmp 23)]⟩,
    ⟨(some 2), none, false, .mov (.tmp 24)⟩]) .ret))))
theorem fits_crc_tail : Fits Try.prog 0 crc_tail ic_crc_tail [.tmp 2] 1 :=
  ⟨Try.f27, Try.func27, by decide, by kernel_rfl, by kernel_rfl⟩

/-- chantry/crc.Sum -/
noncomputable def ic_crc_Sum : IC :=
  (.seq (.ops [
    ⟨(some 2), none, false, .mov (.const (.int .u32 0))⟩]) (.seq (.ops [
    ⟨(some 3), none, false, .mov (.tmp 0)⟩,
    ⟨(some 4), none, false, .call crc_More [(.const (.int .u32 0)), (.tmp 3)]⟩,
    ⟨(some 2), none, false, .mov (.tmp 4)⟩]) .ret))
theorem fits_crc_Sum : Fits Try.prog 0 crc_Sum ic_crc_Sum [.tmp 2] 1 :=
  ⟨Try.f28, Try.func28, by decide, by kernel_rfl, by kernel_rfl⟩

/-- chantry/chantryref02.Sum -/
noncomputable def ic_chantryref02_Sum : IC :=
  (.seq (.ops [
    ⟨(some 2), none, false, .mov (.const (.int .u32 0))⟩]) (.seq (.ops [
    ⟨(some 3), none, false, .mov (.tmp 0)⟩,
    ⟨(some 4), none, false, .call chantryref02_More [(.const (.int .u32 0)), (.tmp 3)]⟩,
    ⟨(some 2), none, false, .mov (.tmp 4)⟩]) .ret))
theorem fits_chantryref02_Sum : Fits Try.prog 0 chantryref02_Sum ic_chantryref02_Sum [.tmp 2] 1 :=
  ⟨Try.f29, Try.func29, by decide, by kernel_rfl, by kernel_rfl⟩

/-- slices.Equal[[]byte,byte] -/
noncomputable def ic_slices_Equal_byte_byte : IC :=
  (.seq (.ops [
    ⟨(some 4), none, false, .mov (.const (.bool false))⟩]) (.seq (.seq (.ops [
    ⟨(some 6), none, false, .mov (.tmp 0)⟩,
    ⟨(some 7), none, false, .lens false (.tmp 6)⟩,
    ⟨(some 8), none, false, .mov (.tmp 1)⟩,
    ⟨(some 9), none, false, .lens false (.tmp 8)⟩,
    ⟨(some 10), none, false, .bin .neq (.tmp 7) (.tmp 9)⟩]) (.cond (.tmp 10) (.seq (.ops [
    ⟨(some 4), none, false, .mov (.const (.bool false))⟩]) .ret) .skip)) (.seq (.seq (.ops [
    ⟨(some 11), none, false, .mov (.tmp 0)⟩,
    ⟨(some 12), none, false, .lens false (.tmp 11)⟩,
    ⟨(some 13), none, false, .mov (.const (.int .i64 0))⟩]) (.block 0 (.loop (.seq (.ops [
    ⟨(some 14), none, false, .bin .lss (.tmp 13) (.tmp 12)⟩]) (.seq (.cond (.tmp 14) .skip (.exit 0)) (.seq (.block 1 (.seq (.ops [
    ⟨(some 15), none, false, .mov (.tmp 13)⟩,
    ⟨(some 5), none, false, .mov (.tmp 15)⟩]) (.seq (.draw [
    ⟨(some 16), none, false, .mov (.tmp 0)⟩,
    ⟨(some 17), none, false, .mov (.tmp 5)⟩,
    ⟨(some 18), none, false, .iaddr (.tmp 16) (.tmp 17) 1⟩,
    ⟨(some 19), none, false, .load1 (.tmp 18)⟩,
    ⟨(some 20), none, false, .mov (.tmp 1)⟩,
    ⟨(some 21), none, false, .mov (.tmp 5)⟩,
    ⟨(some 22), none, false, .iaddr (.tmp 20) (.tmp 21) 1⟩,
    ⟨(some 23), none, false, .load1 (.tmp 22)⟩,
    ⟨(some 24), none, false, .bin .neq (.tmp 19) (.tmp 23)⟩]) (.cond (.tmp 24) (.seq (.ops [
    ⟨(some 4), none, false, .mov (.const (.bool false))⟩]) .ret) .skip)))) (.ops [
    ⟨(some 25), none, false, .bin .add (.tmp 13) (.const (.int .i64 1))⟩,
    ⟨(some 13), none, false, .mov (.tmp 25)⟩]))))))) (.seq (.ops [
    ⟨(some 4), none, false, .mov (.const (.bool true))⟩]) .ret))))
theorem fits_slices_Equal_byte_byte : Fits Try.prog 0 slices_Equal_byte_byte ic_slices_Equal_byte_byte [.tmp 4] 2 :=
  ⟨Try.f30, Try.func30, by decide, by kernel_rfl, by kernel_rfl⟩

/-- slices.Clone[[]byte,byte] -/
noncomputable def ic_slices_Clone_byte_byte : IC :=
  (.seq (.ops [
    ⟨(some 2), none, false, .mov (.const (.slice none 0 0))⟩]) (.seq (.seq (.ops [
    ⟨(some 3), none, false, .mov (.tmp 0)⟩,
    ⟨(some 4), none, false, .isnil (.slice 5) (.tmp 3) false⟩]) (.cond (.tmp 4) (.seq (.ops [
    ⟨(some 2), none, false, .mov (.const (.slice none 0 0))⟩]) .ret) .skip)) (.seq (.ops [
    ⟨(some 5), none, false, .lit [.int .u8 0] 1 0 []⟩,
    ⟨(some 6), none, false, .mov (.tmp 0)⟩,
    ⟨(some 7), none, false, .app (.tmp 5) (.tmp 6) 1 1⟩,
    ⟨(some 2), none, false, .mov (.tmp 7)⟩]) .ret)))
theorem fits_slices_Clone_byte_byte : Fits Try.prog 0 slices_Clone_byte_byte ic_slices_Clone_byte_byte [.tmp 2] 1 :=
  ⟨Try.f31, Try.func31, by decide, by kernel_rfl, by kernel_rfl⟩

/-- slices.Grow[[]byte,byte] -/
noncomputable def ic_slices_Grow_byte_byte : IC :=
  (.seq (.ops [
    ⟨(some 4), none, false, .mov (.const (.slice none 0 0))⟩]) (.seq (.seq (.ops [
    ⟨(some 5), none, false, .mov (.tmp 1)⟩,
    ⟨(some 6), none, false, .bin .lss (.tmp 5) (.const (.int .i64 0))⟩]) (.cond (.tmp 6) (.ops [
    ⟨(some 7), none, false, .ifc 9 (.const (.string ⟨#[99, 97, 110, 110, 111, 116, 32, 98, 101, 32, 110, 101, 103, 97, 116, 105, 118, 101]⟩))⟩,
    ⟨none, none, false, .fail⟩]) .skip)) (.seq (.seq (.ops [
    ⟨(some 8), none, false, .mov (.tmp 1)⟩,
    ⟨(some 9), none, false, .mov (.tmp 0)⟩,
    ⟨(some 10), none, false, .capn (.tmp 9)⟩,
    ⟨(some 11), none, false, .mov (.tmp 0)⟩,
    ⟨(some 12), none, false, .lens false (.tmp 11)⟩,
    ⟨(some 13), none, false, .bin .sub (.tmp 10) (.tmp 12)⟩,
    ⟨(some 14), none, false, .bin .sub (.tmp 8) (.tmp 13)⟩,
    ⟨(some 1), none, false, .mov (.tmp 14)⟩]) (.seq (.ops [
    ⟨(some 15), none, false, .mov (.tmp 1)⟩,
    ⟨(some 16), none, false, .bin .gtr (.tmp 15) (.const (.int .i64 0))⟩]) (.cond (.tmp 16) (.ops [
    ⟨(some 17), none, false, .mov (.tmp 0)⟩,
    ⟨(some 18), none, false, .mov (.tmp 0)⟩,
    ⟨(some 19), none, false, .capn (.tmp 18)⟩,
    ⟨(some 20), none, false, .sll (.tmp 17) none (some (.tmp 19)) none 1⟩,
    ⟨(some 21), none, false, .mov (.tmp 1)⟩,
    ⟨(some 22), none, false, .appz (.tmp 20) (.tmp 21) [.int .u8 0] 1⟩,
    ⟨(some 23), none, false, .mov (.tmp 0)⟩,
    ⟨(some 24), none, false, .lens false (.tmp 23)⟩,
    ⟨(some 25), none, false, .sll (.tmp 22) none (some (.tmp 24)) none 1⟩,
    ⟨(some 0), none, false, .mov (.tmp 25)⟩]) .skip))) (.seq (.ops [
    ⟨(some 26), none, false, .mov (.tmp 0)⟩,
    ⟨(some 4), none, false, .mov (.tmp 26)⟩]) .ret))))
theorem fits_slices_Grow_byte_byte : Fits Try.prog 0 slices_Grow_byte_byte ic_slices_Grow_byte_byte [.tmp 4] 2 :=
  ⟨Try.f32, Try.func32, by decide, by kernel_rfl, by kernel_rfl⟩

/-- chantry/crc.More -/
noncomputable def ic_crc_More : IC :=
  (.seq (.ops [
    ⟨(some 4), none, false, .mov (.const (.int .u32 0))⟩]) (.seq (.ops [
    ⟨(some 8), none, false, .mov (.tmp 0)⟩,
    ⟨(some 9), none, false, .un .xor (.tmp 8)⟩,
    ⟨(some 5), none, false, .mov (.tmp 9)⟩]) (.seq (.seq (.ops [
    ⟨(some 10), none, false, .mov (.tmp 1)⟩,
    ⟨(some 11), none, false, .lens false (.tmp 10)⟩,
    ⟨(some 12), none, false, .mov (.const (.int .i64 0))⟩]) (.block 0 (.loop (.seq (.ops [
    ⟨(some 13), none, false, .bin .lss (.tmp 12) (.tmp 11)⟩]) (.seq (.cond (.tmp 13) .skip (.exit 0)) (.seq (.block 1 (.seq (.ops [
    ⟨(some 14), none, false, .iaddr (.tmp 10) (.tmp 12) 1⟩,
    ⟨(some 15), none, false, .load1 (.tmp 14)⟩,
    ⟨(some 7), none, false, .mov (.tmp 15)⟩]) (.seq (.ops [
    ⟨(some 16), none, false, .mov (.tmp 5)⟩,
    ⟨(some 17), none, false, .mov (.tmp 7)⟩,
    ⟨(some 18), none, false, .conv .u32 (.tmp 17)⟩,
    ⟨(some 19), none, false, .bin .xor (.tmp 16) (.tmp 18)⟩,
    ⟨(some 5), none, false, .mov (.tmp 19)⟩]) (.seq (.ops [
    ⟨(some 20), none, false, .mov (.const (.int .i64 0))⟩]) (.block 2 (.loop (.seq (.ops [
    ⟨(some 21), none, false, .bin .lss (.tmp 20) (.const (.int .i64 8))⟩]) (.seq (.cond (.tmp 21) .skip (.exit 2)) (.seq (.block 3 (.ops [
    ⟨(some 22), none, false, .mov (.tmp 5)⟩,
    ⟨(some 23), none, false, .bin .shr (.tmp 22) (.const (.int .u64 1))⟩,
    ⟨(some 24), none, false, .mov (.tmp 5)⟩,
    ⟨(some 25), none, false, .bin .and (.tmp 24) (.const (.int .u32 1))⟩,
    ⟨(some 26), none, false, .un .neg (.tmp 25)⟩,
    ⟨(some 27), none, false, .bin .and (.const (.int .u32 2197175160)) (.tmp 26)⟩,
    ⟨(some 28), none, false, .bin .xor (.tmp 23) (.tmp 27)⟩,
    ⟨(some 5), none, false, .mov (.tmp 28)⟩])) (.ops [
    ⟨(some 29), none, false, .bin .add (.tmp 20) (.const (.int .i64 1))⟩,
    ⟨(some 20), none, false, .mov (.tmp 29)⟩])))))))))) (.ops [
    ⟨(some 30), none, false, .bin .add (.tmp 12) (.const (.int .i64 1))⟩,
    ⟨(some 12), none, false, .mov (.tmp 30)⟩]))))))) (.seq (.ops [
    ⟨(some 31), none, false, .mov (.tmp 5)⟩,
    ⟨(some 32), none, false, .un .xor (.tmp 31)⟩,
    ⟨(some 4), none, false, .mov (.tmp 32)⟩]) .ret))))
theorem fits_crc_More : Fits Try.prog 0 crc_More ic_crc_More [.tmp 4] 2 :=
  ⟨Try.f33, Try.func33, by decide, by kernel_rfl, by kernel_rfl⟩

/-- chantry/chantryref02.More -/
noncomputable def ic_chantryref02_More : IC :=
  (.seq (.ops [
    ⟨(some 4), none, false, .mov (.const (.int .u32 0))⟩]) (.seq (.ops [
    ⟨(some 9), none, false, .mov (.tmp 0)⟩,
    ⟨(some 10), none, false, .bin .xor (.tmp 9) (.const (.int .u32 4294967295))⟩,
    ⟨(some 5), none, false, .mov (.tmp 10)⟩]) (.seq (.seq (.ops [
    ⟨(some 6), none, false, .mov (.const (.int .i64 0))⟩]) (.block 0 (.loop (.seq (.seq (.ops [
    ⟨(some 11), none, false, .mov (.tmp 6)⟩,
    ⟨(some 12), none, false, .mov (.tmp 1)⟩,
    ⟨(some 13), none, false, .lens false (.tmp 12)⟩,
    ⟨(some 14), none, false, .bin .lss (.tmp 11) (.tmp 13)⟩]) (.cond (.tmp 14) .skip (.exit 0))) (.seq (.block 1 (.seq (.ops [
    ⟨(some 17), none, false, .mov (.tmp 5)⟩,
    ⟨(some 18), none, false, .mov (.tmp 1)⟩,
    ⟨(some 19), none, false, .mov (.tmp 6)⟩,
    ⟨(some 20), none, false, .iaddr (.tmp 18) (.tmp 19) 1⟩,
    ⟨(some 21), none, false, .load1 (.tmp 20)⟩,
    ⟨(some 22), none, false, .conv .u32 (.tmp 21)⟩,
    ⟨(some 23), none, false, .bin .xor (.tmp 17) (.tmp 22)⟩,
    ⟨(some 5), none, false, .mov (.tmp 23)⟩]) (.seq (.ops [
    ⟨(some 7), none, false, .mov (.const (.int .i64 0))⟩]) (.block 2 (.loop (.seq (.seq (.ops [
    ⟨(some 24), none, false, .mov (.tmp 7)⟩,
    ⟨(some 25), none, false, .bin .lss (.tmp 24) (.const (.int .i64 8))⟩]) (.cond (.tmp 25) .skip (.exit 2))) (.seq (.block 3 (.seq (.ops [
    ⟨(some 28), none, false, .mov (.tmp 5)⟩,
    ⟨(some 29), none, false, .bin .rem (.tmp 28) (.const (.int .u32 2))⟩,
    ⟨(some 8), none, false, .mov (.tmp 29)⟩]) (.seq (.ops [
    ⟨(some 30), none, false, .mov (.tmp 5)⟩,
    ⟨(some 31), none, false, .bin .quo (.tmp 30) (.const (.int .u32 2))⟩,
    ⟨(some 5), none, false, .mov (.tmp 31)⟩]) (.seq (.ops [
    ⟨(some 32), none, false, .mov (.tmp 8)⟩,
    ⟨(some 33), none, false, .bin .eql (.tmp 32) (.const (.int .u32 1))⟩]) (.cond (.tmp 33) (.ops [
    ⟨(some 34), none, false, .mov (.tmp 5)⟩,
    ⟨(some 35), none, false, .bin .xor (.tmp 34) (.const (.int .u32 2197175160))⟩,
    ⟨(some 5), none, false, .mov (.tmp 35)⟩]) .skip))))) (.ops [
    ⟨(some 26), none, false, .mov (.tmp 7)⟩,
    ⟨(some 27), none, false, .bin .add (.tmp 26) (.const (.int .i64 1))⟩,
    ⟨(some 7), none, false, .mov (.tmp 27)⟩])))))))) (.ops [
    ⟨(some 15), none, false, .mov (.tmp 6)⟩,
    ⟨(some 16), none, false, .bin .add (.tmp 15) (.const (.int .i64 1))⟩,
    ⟨(some 6), none, false, .mov (.tmp 16)⟩])))))) (.seq (.ops [
    ⟨(some 36), none, false, .mov (.tmp 5)⟩,
    ⟨(some 37), none, false, .bin .xor (.tmp 36) (.const (.int .u32 4294967295))⟩,
    ⟨(some 4), none, false, .mov (.tmp 37)⟩]) .ret))))
theorem fits_chantryref02_More : Fits Try.prog 0 chantryref02_More ic_chantryref02_More [.tmp 4] 2 :=
  ⟨Try.f34, Try.func34, by decide, by kernel_rfl, by kernel_rfl⟩

-- NOT SERVED 35 (runtime.boundsError).Error: no body

-- NOT SERVED 36 (runtime.boundsError).RuntimeError: no body

-- NOT SERVED 37 (runtime.errorString).Error: no body

-- NOT SERVED 38 (runtime.errorString).RuntimeError: no body

-- NOT SERVED 39 (runtime.plainError).Error: no body

-- NOT SERVED 40 (runtime.plainError).RuntimeError: no body

-- NOT SERVED 41 (runtime.errorAddressString).Error: no body

-- NOT SERVED 42 (runtime.errorAddressString).RuntimeError: no body

-- NOT SERVED 43 (*runtime.TypeAssertionError).Error: no body

-- NOT SERVED 44 (*runtime.TypeAssertionError).RuntimeError: no body

-- NOT SERVED 45 (*runtime.PanicNilError).Error: no body

-- NOT SERVED 46 (*runtime.PanicNilError).RuntimeError: no body

-- NOT SERVED 47 (*internal/abi.Type).Align: no body

-- NOT SERVED 48 (internal/runtime/maps.unhashableTypeError).Error: no body

-- NOT SERVED 49 (internal/runtime/maps.unhashableTypeError).RuntimeError: no body

-- NOT SERVED 50 (internal/abi.Kind).String: no body

end Go.AS.C

namespace Go.AS.C
open Go Go.Proofs
set_option linter.unusedVariables false
set_option linter.unusedSimpArgs false
set_option maxRecDepth 10000

theorem mixed : Try.prog.follows .mixedOrders = true := by kernel_rfl

end Go.AS.C

namespace Go.AS.C
open Go Go.Proofs
set_option linter.unusedVariables false
set_option linter.unusedSimpArgs false
set_option maxRecDepth 10000

theorem crc_More_spec {A : AH} {v : Value} {s : BitVec 32} {bs : List UInt8} {Q : Value → AH → Prop} (hv : Byt A v bs) (hl : bs.length < 2 ^ 62) (hq : Q (u32 (more s bs)) A) : ACalls 0 Try.prog crc_More [u32 s, v] Q A := by
  refine ACalls.of_fits mixed fits_crc_More rfl ?_
  unfold ic_crc_More
  have i0 : initA [u32 s, v] 0 = u32 s := rfl
  have i1 : initA [u32 s, v] 1 = v := rfl
  generalize initA [u32 s, v] = a at i0 i1
  simp only [W_seq, W_ops, W_draw, W_block, W_skip, W_exit, W_ret, sq_normal, sq_ret, sq_exit, W_condv, condW_true, condW_false, thenA_normal, thenA_ret, thenA_exit, if_true, if_false, Bool.false_eq_true, decide_eq_true_eq, inBlockA_normal, inBlockA_ret, inBlockA_same, inBlockA_other, noGotoA_normal, noGotoA_ret, noGotoA_exit, Wops_nil, Wops_cons, Wops_le, Wops_guard, Wops_guardle, ok1_some, okV_some, kont_at, kontL_at, gdB_true, gdB_false, decide_true, decide_false, ev_tmp, ev_const, ev_func, ev_global, put_some, put_none, upd_same, upd_at, gd_bt, gd_bf, Bool.not_true, Bool.not_false, pick_true, pick_false, pick_b, not_b, W1_mov, W1_pick, W1_new, W1_box, W1_build, W1_lit, W1_load1, W1_loadn, W1_store, W1_nilc, W1_bin, W1_un, W1_conv, W1_b2s, W1_s2b, W1_field1, W1_fieldn, W1_faddr, W1_iaddr, W1_iarr, W1_idxs, W1_idxa1, W1_idxan, W1_sls, W1_sll, W1_sla, W1_mk, W1_ext, W1_fn, W1_ifc, W1_lens, W1_lenc, W1_app, W1_apps, W1_copy, W1_mn, W1_mx, W1_isnil, W1_strc, W1_beq, W1_mks, W1_capn, W1_appz, W1_eqagg, W1_call, W1_calld, callD_func, List.nil_append, List.append_nil, List.map_cons, List.map_nil, Option.map_some, Option.map_none, reduceIte, Option.some.injEq, exists_eq_left', Nat.reduceBEq, iv_ii, postA_ret, postA_normal, resVs_nil, resVs_tmp, resVs_one, resVs_many, Option.bind_some, tupleOf, Int.toNat_natCast, true_and, and_true, Nat.reduceEqDiff, RdOk_nil, RdOk_refl, rd_load1, rd_loadn, rd_b2s, rd_sll, rd_sla, rd_call, rd_calld, rd_new, rd_box, rd_lit, rd_store, rd_s2b, rd_mk, rd_app, rd_apps, rd_appz, rd_mks, rd_copy, blk_ptr, blk_sl, blk_nil, List.cons_append, i0, i1, unA_xor32, hv.len]
  refine W_loop (fun a' A' => A' = A ∧ ∃ k : Nat, k ≤ bs.length ∧ a' 10 = v ∧ a' 11 = ii bs.length ∧ a' 12 = ii k ∧ a' 5 = u32 ((bs.take k).foldl byte1 (~~~ s))) (fun a' _ => (bs.length - (iv (a' 12)).toNat)) ?_ ?_
  · refine ⟨rfl, 0, by omega, ?_⟩
    simp only [W_seq, W_ops, W_draw, W_block, W_skip, W_exit, W_ret, sq_normal, sq_ret, sq_exit, W_condv, condW_true, condW_false, thenA_normal, thenA_ret, thenA_exit, if_true, if_false, Bool.false_eq_true, decide_eq_true_eq, inBlockA_normal, inBlockA_ret, inBlockA_same, inBlockA_other, noGotoA_normal, noGotoA_ret, noGotoA_exit, Wops_nil, Wops_cons, Wops_le, Wops_guard, Wops_guardle, ok1_some, okV_some, kont_at, kontL_at, gdB_true, gdB_false, decide_true, decide_false, ev_tmp, ev_const, ev_func, ev_global, put_some, put_none, upd_same, upd_at, gd_bt, gd_bf, Bool.not_true, Bool.not_false, pick_true, pick_false, pick_b, not_b, W1_mov, W1_pick, W1_new, W1_box, W1_build, W1_lit, W1_load1, W1_loadn, W1_store, W1_nilc, W1_bin, W1_un, W1_conv, W1_b2s, W1_s2b, W1_field1, W1_fieldn, W1_faddr, W1_iaddr, W1_iarr, W1_idxs, W1_idxa1, W1_idxan, W1_sls, W1_sll, W1_sla, W1_mk, W1_ext, W1_fn, W1_ifc, W1_lens, W1_lenc, W1_app, W1_apps, W1_copy, W1_mn, W1_mx, W1_isnil, W1_strc, W1_beq, W1_mks, W1_capn, W1_appz, W1_eqagg, W1_call, W1_calld, callD_func, List.nil_append, List.append_nil, List.map_cons, List.map_nil, Option.map_some, Option.map_none, reduceIte, Option.some.injEq, exists_eq_left', Nat.reduceBEq, iv_ii, postA_ret, postA_normal, resVs_nil, resVs_tmp, resVs_one, resVs_many, Option.bind_some, tupleOf, Int.toNat_natCast, true_and, and_true, Nat.reduceEqDiff, RdOk_nil, RdOk_refl, rd_load1, rd_loadn, rd_b2s, rd_sll, rd_sla, rd_call, rd_calld, rd_new, rd_box, rd_lit, rd_store, rd_s2b, rd_mk, rd_app, rd_apps, rd_appz, rd_mks, rd_copy, blk_ptr, blk_sl, blk_nil, List.cons_append]
    simp [ii, u32]
  · rintro a A' ⟨rfl, k, hk, h10, h11, h12, h5⟩
    simp only [ii] at h10 h11 h12
    rcases Nat.lt_or_ge k bs.length with hlt | hge
    · have hc : ((k : Int) < (bs.length : Int)) = True := by simp; omega
      obtain ⟨b, hb⟩ : ∃ b, bs[k]? = some b := ⟨_, List.getElem?_eq_getElem hlt⟩
      obtain ⟨p, hp1, hp2⟩ := hv.at1 hb
      simp only [ii] at hp1
      simp only [W_seq, W_ops, W_draw, W_block, W_skip, W_exit, W_ret, sq_normal, sq_ret, sq_exit, W_condv, condW_true, condW_false, thenA_normal, thenA_ret, thenA_exit, if_true, if_false, Bool.false_eq_true, decide_eq_true_eq, inBlockA_normal, inBlockA_ret, inBlockA_same, inBlockA_other, noGotoA_normal, noGotoA_ret, noGotoA_exit, Wops_nil, Wops_cons, Wops_le, Wops_guard, Wops_guardle, ok1_some, okV_some, kont_at, kontL_at, gdB_true, gdB_false, decide_true, decide_false, ev_tmp, ev_const, ev_func, ev_global, put_some, put_none, upd_same, upd_at, gd_bt, gd_bf, Bool.not_true, Bool.not_false, pick_true, pick_false, pick_b, not_b, W1_mov, W1_pick, W1_new, W1_box, W1_build, W1_lit, W1_load1, W1_loadn, W1_store, W1_nilc, W1_bin, W1_un, W1_conv, W1_b2s, W1_s2b, W1_field1, W1_fieldn, W1_faddr, W1_iaddr, W1_iarr, W1_idxs, W1_idxa1, W1_idxan, W1_sls, W1_sll, W1_sla, W1_mk, W1_ext, W1_fn, W1_ifc, W1_lens, W1_lenc, W1_app, W1_apps, W1_copy, W1_mn, W1_mx, W1_isnil, W1_strc, W1_beq, W1_mks, W1_capn, W1_appz, W1_eqagg, W1_call, W1_calld, callD_func, List.nil_append, List.append_nil, List.map_cons, List.map_nil, Option.map_some, Option.map_none, reduceIte, Option.some.injEq, exists_eq_left', Nat.reduceBEq, iv_ii, postA_ret, postA_normal, resVs_nil, resVs_tmp, resVs_one, resVs_many, Option.bind_some, tupleOf, Int.toNat_natCast, true_and, and_true, Nat.reduceEqDiff, RdOk_nil, RdOk_refl, rd_load1, rd_loadn, rd_b2s, rd_sll, rd_sla, rd_call, rd_calld, rd_new, rd_box, rd_lit, rd_store, rd_s2b, rd_mk, rd_app, rd_apps, rd_appz, rd_mks, rd_copy, blk_ptr, blk_sl, blk_nil, List.cons_append, h12, h11, binA_lss, hc, h10, hp1, hp2, h5, conv_u32_by8, binA_xor32]
      generalize hc0 : List.foldl byte1 (~~~s) (List.take k bs) ^^^ BitVec.ofNat 32 b.toNat = c0
      refine W_loop (fun a' B => B = A' ∧ ∃ j : Nat, j ≤ 8 ∧ a' 10 = v ∧ a' 11 = .int .i64 bs.length ∧ a' 12 = .int .i64 k ∧ a' 20 = .int .i64 j ∧ a' 5 = u32 (bitsN j c0)) (fun a' _ => 8 - (iv (a' 20)).toNat) ?_ ?_
      · refine ⟨rfl, 0, by omega, ?_⟩
        simp only [W_seq, W_ops, W_draw, W_block, W_skip, W_exit, W_ret, sq_normal, sq_ret, sq_exit, W_condv, condW_true, condW_false, thenA_normal, thenA_ret, thenA_exit, if_true, if_false, Bool.false_eq_true, decide_eq_true_eq, inBlockA_normal, inBlockA_ret, inBlockA_same, inBlockA_other, noGotoA_normal, noGotoA_ret, noGotoA_exit, Wops_nil, Wops_cons, Wops_le, Wops_guard, Wops_guardle, ok1_some, okV_some, kont_at, kontL_at, gdB_true, gdB_false, decide_true, decide_false, ev_tmp, ev_const, ev_func, ev_global, put_some, put_none, upd_same, upd_at, gd_bt, gd_bf, Bool.not_true, Bool.not_false, pick_true, pick_false, pick_b, not_b, W1_mov, W1_pick, W1_new, W1_box, W1_build, W1_lit, W1_load1, W1_loadn, W1_store, W1_nilc, W1_bin, W1_un, W1_conv, W1_b2s, W1_s2b, W1_field1, W1_fieldn, W1_faddr, W1_iaddr, W1_iarr, W1_idxs, W1_idxa1, W1_idxan, W1_sls, W1_sll, W1_sla, W1_mk, W1_ext, W1_fn, W1_ifc, W1_lens, W1_lenc, W1_app, W1_apps, W1_copy, W1_mn, W1_mx, W1_isnil, W1_strc, W1_beq, W1_mks, W1_capn, W1_appz, W1_eqagg, W1_call, W1_calld, callD_func, List.nil_append, List.append_nil, List.map_cons, List.map_nil, Option.map_some, Option.map_none, reduceIte, Option.some.injEq, exists_eq_left', Nat.reduceBEq, iv_ii, postA_ret, postA_normal, resVs_nil, resVs_tmp, resVs_one, resVs_many, Option.bind_some, tupleOf, Int.toNat_natCast, true_and, and_true, Nat.reduceEqDiff, RdOk_nil, RdOk_refl, rd_load1, rd_loadn, rd_b2s, rd_sll, rd_sla, rd_call, rd_calld, rd_new, rd_box, rd_lit, rd_store, rd_s2b, rd_mk, rd_app, rd_apps, rd_appz, rd_mks, rd_copy, blk_ptr, blk_sl, blk_nil, List.cons_append, h10, h11, h12]
        simp [bitsN]
      · rintro a2 B ⟨rfl, j, hj, g10, g11, g12, g20, g5⟩
        rcases Nat.lt_or_ge j 8 with hlt2 | hge2
        · have hc2 : ((j : Int) < 8) = True := by simp; omega
          simp only [W_seq, W_ops, W_draw, W_block, W_skip, W_exit, W_ret, sq_normal, sq_ret, sq_exit, W_condv, condW_true, condW_false, thenA_normal, thenA_ret, thenA_exit, if_true, if_false, Bool.false_eq_true, decide_eq_true_eq, inBlockA_normal, inBlockA_ret, inBlockA_same, inBlockA_other, noGotoA_normal, noGotoA_ret, noGotoA_exit, Wops_nil, Wops_cons, Wops_le, Wops_guard, Wops_guardle, ok1_some, okV_some, kont_at, kontL_at, gdB_true, gdB_false, decide_true, decide_false, ev_tmp, ev_const, ev_func, ev_global, put_some, put_none, upd_same, upd_at, gd_bt, gd_bf, Bool.not_true, Bool.not_false, pick_true, pick_false, pick_b, not_b, W1_mov, W1_pick, W1_new, W1_box, W1_build, W1_lit, W1_load1, W1_loadn, W1_store, W1_nilc, W1_bin, W1_un, W1_conv, W1_b2s, W1_s2b, W1_field1, W1_fieldn, W1_faddr, W1_iaddr, W1_iarr, W1_idxs, W1_idxa1, W1_idxan, W1_sls, W1_sll, W1_sla, W1_mk, W1_ext, W1_fn, W1_ifc, W1_lens, W1_lenc, W1_app, W1_apps, W1_copy, W1_mn, W1_mx, W1_isnil, W1_strc, W1_beq, W1_mks, W1_capn, W1_appz, W1_eqagg, W1_call, W1_calld, callD_func, List.nil_append, List.append_nil, List.map_cons, List.map_nil, Option.map_some, Option.map_none, reduceIte, Option.some.injEq, exists_eq_left', Nat.reduceBEq, iv_ii, postA_ret, postA_normal, resVs_nil, resVs_tmp, resVs_one, resVs_many, Option.bind_some, tupleOf, Int.toNat_natCast, true_and, and_true, Nat.reduceEqDiff, RdOk_nil, RdOk_refl, rd_load1, rd_loadn, rd_b2s, rd_sll, rd_sla, rd_call, rd_calld, rd_new, rd_box, rd_lit, rd_store, rd_s2b, rd_mk, rd_app, rd_apps, rd_appz, rd_mks, rd_copy, blk_ptr, blk_sl, blk_nil, List.cons_append, g20, binA_lss, hc2, g5, hone32, hpoly, binA_and32, binA_xor32, unA_neg32, g10, g11, g12, shr1, binA_add1 j (by omega)]
          exact ⟨⟨j + 1, by omega, rfl, rfl⟩, by omega⟩
        · have hc2 : ((j : Int) < 8) = False := by simp; omega
          simp only [W_seq, W_ops, W_draw, W_block, W_skip, W_exit, W_ret, sq_normal, sq_ret, sq_exit, W_condv, condW_true, condW_false, thenA_normal, thenA_ret, thenA_exit, if_true, if_false, Bool.false_eq_true, decide_eq_true_eq, inBlockA_normal, inBlockA_ret, inBlockA_same, inBlockA_other, noGotoA_normal, noGotoA_ret, noGotoA_exit, Wops_nil, Wops_cons, Wops_le, Wops_guard, Wops_guardle, ok1_some, okV_some, kont_at, kontL_at, gdB_true, gdB_false, decide_true, decide_false, ev_tmp, ev_const, ev_func, ev_global, put_some, put_none, upd_same, upd_at, gd_bt, gd_bf, Bool.not_true, Bool.not_false, pick_true, pick_false, pick_b, not_b, W1_mov, W1_pick, W1_new, W1_box, W1_build, W1_lit, W1_load1, W1_loadn, W1_store, W1_nilc, W1_bin, W1_un, W1_conv, W1_b2s, W1_s2b, W1_field1, W1_fieldn, W1_faddr, W1_iaddr, W1_iarr, W1_idxs, W1_idxa1, W1_idxan, W1_sls, W1_sll, W1_sla, W1_mk, W1_ext, W1_fn, W1_ifc, W1_lens, W1_lenc, W1_app, W1_apps, W1_copy, W1_mn, W1_mx, W1_isnil, W1_strc, W1_beq, W1_mks, W1_capn, W1_appz, W1_eqagg, W1_call, W1_calld, callD_func, List.nil_append, List.append_nil, List.map_cons, List.map_nil, Option.map_some, Option.map_none, reduceIte, Option.some.injEq, exists_eq_left', Nat.reduceBEq, iv_ii, postA_ret, postA_normal, resVs_nil, resVs_tmp, resVs_one, resVs_many, Option.bind_some, tupleOf, Int.toNat_natCast, true_and, and_true, Nat.reduceEqDiff, RdOk_nil, RdOk_refl, rd_load1, rd_loadn, rd_b2s, rd_sll, rd_sla, rd_call, rd_calld, rd_new, rd_box, rd_lit, rd_store, rd_s2b, rd_mk, rd_app, rd_apps, rd_appz, rd_mks, rd_copy, blk_ptr, blk_sl, blk_nil, List.cons_append, g20, g12, binA_lss, hc2, binA_add1 k (by omega)]
          refine ⟨⟨k + 1, by omega, g10, g11, rfl, ?_⟩, by omega⟩
          rw [g5, List.take_add_one, hb]
          have : j = 8 := by omega
          subst this
          simp only [Option.toList_some, List.foldl_append, List.foldl_cons, List.foldl_nil]
          rw [← hc0]
          rfl
    · have hc : ((k : Int) < (bs.length : Int)) = False := by simp; omega
      simp only [W_seq, W_ops, W_draw, W_block, W_skip, W_exit, W_ret, sq_normal, sq_ret, sq_exit, W_condv, condW_true, condW_false, thenA_normal, thenA_ret, thenA_exit, if_true, if_false, Bool.false_eq_true, decide_eq_true_eq, inBlockA_normal, inBlockA_ret, inBlockA_same, inBlockA_other, noGotoA_normal, noGotoA_ret, noGotoA_exit, Wops_nil, Wops_cons, Wops_le, Wops_guard, Wops_guardle, ok1_some, okV_some, kont_at, kontL_at, gdB_true, gdB_false, decide_true, decide_false, ev_tmp, ev_const, ev_func, ev_global, put_some, put_none, upd_same, upd_at, gd_bt, gd_bf, Bool.not_true, Bool.not_false, pick_true, pick_false, pick_b, not_b, W1_mov, W1_pick, W1_new, W1_box, W1_build, W1_lit, W1_load1, W1_loadn, W1_store, W1_nilc, W1_bin, W1_un, W1_conv, W1_b2s, W1_s2b, W1_field1, W1_fieldn, W1_faddr, W1_iaddr, W1_iarr, W1_idxs, W1_idxa1, W1_idxan, W1_sls, W1_sll, W1_sla, W1_mk, W1_ext, W1_fn, W1_ifc, W1_lens, W1_lenc, W1_app, W1_apps, W1_copy, W1_mn, W1_mx, W1_isnil, W1_strc, W1_beq, W1_mks, W1_capn, W1_appz, W1_eqagg, W1_call, W1_calld, callD_func, List.nil_append, List.append_nil, List.map_cons, List.map_nil, Option.map_some, Option.map_none, reduceIte, Option.some.injEq, exists_eq_left', Nat.reduceBEq, iv_ii, postA_ret, postA_normal, resVs_nil, resVs_tmp, resVs_one, resVs_many, Option.bind_some, tupleOf, Int.toNat_natCast, true_and, and_true, Nat.reduceEqDiff, RdOk_nil, RdOk_refl, rd_load1, rd_loadn, rd_b2s, rd_sll, rd_sla, rd_call, rd_calld, rd_new, rd_box, rd_lit, rd_store, rd_s2b, rd_mk, rd_app, rd_apps, rd_appz, rd_mks, rd_copy, blk_ptr, blk_sl, blk_nil, List.cons_append, h12, h11, binA_lss, hc, h5, unA_xor32]
      have : List.take k bs = bs := List.take_of_length_le hge
      rw [this]
      exact hq

theorem crc_Sum_spec {A : AH} {v : Value} {bs : List UInt8} {Q : Value → AH → Prop} (hv : Byt A v bs) (hl : bs.length < 2 ^ 62) (hq : Q (u32 (more 0#32 bs)) A) : ACalls 0 Try.prog crc_Sum [v] Q A := by
  refine ACalls.of_fits mixed fits_crc_Sum rfl ?_
  unfold ic_crc_Sum
  have i0 : initA [v] 0 = v := rfl
  generalize initA [v] = a at i0
  simp only [W_seq, W_ops, W_draw, W_block, W_skip, W_exit, W_ret, sq_normal, sq_ret, sq_exit, W_condv, condW_true, condW_false, thenA_normal, thenA_ret, thenA_exit, if_true, if_false, Bool.false_eq_true, decide_eq_true_eq, inBlockA_normal, inBlockA_ret, inBlockA_same, inBlockA_other, noGotoA_normal, noGotoA_ret, noGotoA_exit, Wops_nil, Wops_cons, Wops_le, Wops_guard, Wops_guardle, ok1_some, okV_some, kont_at, kontL_at, gdB_true, gdB_false, decide_true, decide_false, ev_tmp, ev_const, ev_func, ev_global, put_some, put_none, upd_same, upd_at, gd_bt, gd_bf, Bool.not_true, Bool.not_false, pick_true, pick_false, pick_b, not_b, W1_mov, W1_pick, W1_new, W1_box, W1_build, W1_lit, W1_load1, W1_loadn, W1_store, W1_nilc, W1_bin, W1_un, W1_conv, W1_b2s, W1_s2b, W1_field1, W1_fieldn, W1_faddr, W1_iaddr, W1_iarr, W1_idxs, W1_idxa1, W1_idxan, W1_sls, W1_sll, W1_sla, W1_mk, W1_ext, W1_fn, W1_ifc, W1_lens, W1_lenc, W1_app, W1_apps, W1_copy, W1_mn, W1_mx, W1_isnil, W1_strc, W1_beq, W1_mks, W1_capn, W1_appz, W1_eqagg, W1_call, W1_calld, callD_func, List.nil_append, List.append_nil, List.map_cons, List.map_nil, Option.map_some, Option.map_none, reduceIte, Option.some.injEq, exists_eq_left', Nat.reduceBEq, iv_ii, postA_ret, postA_normal, resVs_nil, resVs_tmp, resVs_one, resVs_many, Option.bind_some, tupleOf, Int.toNat_natCast, true_and, and_true, Nat.reduceEqDiff, RdOk_nil, RdOk_refl, rd_load1, rd_loadn, rd_b2s, rd_sll, rd_sla, rd_call, rd_calld, rd_new, rd_box, rd_lit, rd_store, rd_s2b, rd_mk, rd_app, rd_apps, rd_appz, rd_mks, rd_copy, blk_ptr, blk_sl, blk_nil, List.cons_append, i0, hzero32]
  refine crc_More_spec hv hl ?_
  simp only [W_seq, W_ops, W_draw, W_block, W_skip, W_exit, W_ret, sq_normal, sq_ret, sq_exit, W_condv, condW_true, condW_false, thenA_normal, thenA_ret, thenA_exit, if_true, if_false, Bool.false_eq_true, decide_eq_true_eq, inBlockA_normal, inBlockA_ret, inBlockA_same, inBlockA_other, noGotoA_normal, noGotoA_ret, noGotoA_exit, Wops_nil, Wops_cons, Wops_le, Wops_guard, Wops_guardle, ok1_some, okV_some, kont_at, kontL_at, gdB_true, gdB_false, decide_true, decide_false, ev_tmp, ev_const, ev_func, ev_global, put_some, put_none, upd_same, upd_at, gd_bt, gd_bf, Bool.not_true, Bool.not_false, pick_true, pick_false, pick_b, not_b, W1_mov, W1_pick, W1_new, W1_box, W1_build, W1_lit, W1_load1, W1_loadn, W1_store, W1_nilc, W1_bin, W1_un, W1_conv, W1_b2s, W1_s2b, W1_field1, W1_fieldn, W1_faddr, W1_iaddr, W1_iarr, W1_idxs, W1_idxa1, W1_idxan, W1_sls, W1_sll, W1_sla, W1_mk, W1_ext, W1_fn, W1_ifc, W1_lens, W1_lenc, W1_app, W1_apps, W1_copy, W1_mn, W1_mx, W1_isnil, W1_strc, W1_beq, W1_mks, W1_capn, W1_appz, W1_eqagg, W1_call, W1_calld, callD_func, List.nil_append, List.append_nil, List.map_cons, List.map_nil, Option.map_some, Option.map_none, reduceIte, Option.some.injEq, exists_eq_left', Nat.reduceBEq, iv_ii, postA_ret, postA_normal, resVs_nil, resVs_tmp, resVs_one, resVs_many, Option.bind_some, tupleOf, Int.toNat_natCast, true_and, and_true, Nat.reduceEqDiff, RdOk_nil, RdOk_refl, rd_load1, rd_loadn, rd_b2s, rd_sll, rd_sla, rd_call, rd_calld, rd_new, rd_box, rd_lit, rd_store, rd_s2b, rd_mk, rd_app, rd_apps, rd_appz, rd_mks, rd_copy, blk_ptr, blk_sl, blk_nil, List.cons_append]
  exact hq

end Go.AS.C

namespace Go.AS.C
open Go Go.Proofs
set_option linter.unusedVariables false
set_option linter.unusedSimpArgs false
set_option maxRecDepth 10000

theorem num_is_spec {A : AH} {n : Int} {Q : Value → AH → Prop} (hq : Q (.bool (decide (0 ≤ n ∧ n ≤ 2147483647))) A) : ACalls 0 Try.prog num_is [ii n] Q A := by
  refine ACalls.of_fits mixed fits_num_is rfl ?_
  unfold ic_num_is
  have i0 : initA [ii n] 0 = ii n := rfl
  generalize initA [ii n] = a at i0
  by_cases h : (0 : Int) ≤ n
  · have h1 : (n ≥ 0) = True := by simp [h]
    simp only [W_seq, W_ops, W_draw, W_block, W_skip, W_exit, W_ret, sq_normal, sq_ret, sq_exit, W_condv, condW_true, condW_false, thenA_normal, thenA_ret, thenA_exit, if_true, if_false, Bool.false_eq_true, decide_eq_true_eq, inBlockA_normal, inBlockA_ret, inBlockA_same, inBlockA_other, noGotoA_normal, noGotoA_ret, noGotoA_exit, Wops_nil, Wops_cons, Wops_le, Wops_guard, Wops_guardle, ok1_some, okV_some, kont_at, kontL_at, gdB_true, gdB_false, decide_true, decide_false, ev_tmp, ev_const, ev_func, ev_global, put_some, put_none, upd_same, upd_at, gd_bt, gd_bf, Bool.not_true, Bool.not_false, pick_true, pick_false, pick_b, not_b, W1_mov, W1_pick, W1_new, W1_box, W1_build, W1_lit, W1_load1, W1_loadn, W1_store, W1_nilc, W1_bin, W1_un, W1_conv, W1_b2s, W1_s2b, W1_field1, W1_fieldn, W1_faddr, W1_iaddr, W1_iarr, W1_idxs, W1_idxa1, W1_idxan, W1_sls, W1_sll, W1_sla, W1_mk, W1_ext, W1_fn, W1_ifc, W1_lens, W1_lenc, W1_app, W1_apps, W1_copy, W1_mn, W1_mx, W1_isnil, W1_strc, W1_beq, W1_mks, W1_capn, W1_appz, W1_eqagg, W1_call, W1_calld, callD_func, List.nil_append, List.append_nil, List.map_cons, List.map_nil, Option.map_some, Option.map_none, reduceIte, Option.some.injEq, exists_eq_left', Nat.reduceBEq, iv_ii, postA_ret, postA_normal, resVs_nil, resVs_tmp, resVs_one, resVs_many, Option.bind_some, tupleOf, Int.toNat_natCast, true_and, and_true, Nat.reduceEqDiff, RdOk_nil, RdOk_refl, rd_load1, rd_loadn, rd_b2s, rd_sll, rd_sla, rd_call, rd_calld, rd_new, rd_box, rd_lit, rd_store, rd_s2b, rd_mk, rd_app, rd_apps, rd_appz, rd_mks, rd_copy, blk_ptr, blk_sl, blk_nil, List.cons_append, i0, binA_geq, binA_leq, h1]
    simpa [h] using hq
  · have h1 : (n ≥ 0) = False := by simp; omega
    simp only [W_seq, W_ops, W_draw, W_block, W_skip, W_exit, W_ret, sq_normal, sq_ret, sq_exit, W_condv, condW_true, condW_false, thenA_normal, thenA_ret, thenA_exit, if_true, if_false, Bool.false_eq_true, decide_eq_true_eq, inBlockA_normal, inBlockA_ret, inBlockA_same, inBlockA_other, noGotoA_normal, noGotoA_ret, noGotoA_exit, Wops_nil, Wops_cons, Wops_le, Wops_guard, Wops_guardle, ok1_some, okV_some, kont_at, kontL_at, gdB_true, gdB_false, decide_true, decide_false, ev_tmp, ev_const, ev_func, ev_global, put_some, put_none, upd_same, upd_at, gd_bt, gd_bf, Bool.not_true, Bool.not_false, pick_true, pick_false, pick_b, not_b, W1_mov, W1_pick, W1_new, W1_box, W1_build, W1_lit, W1_load1, W1_loadn, W1_store, W1_nilc, W1_bin, W1_un, W1_conv, W1_b2s, W1_s2b, W1_field1, W1_fieldn, W1_faddr, W1_iaddr, W1_iarr, W1_idxs, W1_idxa1, W1_idxan, W1_sls, W1_sll, W1_sla, W1_mk, W1_ext, W1_fn, W1_ifc, W1_lens, W1_lenc, W1_app, W1_apps, W1_copy, W1_mn, W1_mx, W1_isnil, W1_strc, W1_beq, W1_mks, W1_capn, W1_appz, W1_eqagg, W1_call, W1_calld, callD_func, List.nil_append, List.append_nil, List.map_cons, List.map_nil, Option.map_some, Option.map_none, reduceIte, Option.some.injEq, exists_eq_left', Nat.reduceBEq, iv_ii, postA_ret, postA_normal, resVs_nil, resVs_tmp, resVs_one, resVs_many, Option.bind_some, tupleOf, Int.toNat_natCast, true_and, and_true, Nat.reduceEqDiff, RdOk_nil, RdOk_refl, rd_load1, rd_loadn, rd_b2s, rd_sll, rd_sla, rd_call, rd_calld, rd_new, rd_box, rd_lit, rd_store, rd_s2b, rd_mk, rd_app, rd_apps, rd_appz, rd_mks, rd_copy, blk_ptr, blk_sl, blk_nil, List.cons_append, i0, binA_geq, binA_leq, h1]
    simpa [h] using hq

end Go.AS.C

namespace Go.AS.C
open Go Go.Proofs
set_option linter.unusedVariables false
set_option linter.unusedSimpArgs false
set_option maxRecDepth 10000

/-- num.Fix, of a number that fits. -/
theorem num_Fix_ok {A : AH} {n w : Nat} {Q : Value → AH → Prop} (h1 : 1 ≤ w) (h4 : w ≤ 4) (hn : n ≤ 2147483647) (hw : n / 2 ^ (8 * w) = 0)
    (hq : Q (.tuple #[.slice (some ⟨A.length, 0, none⟩) w w, ii 0]) (A ++ [.row ((leB n w).map by8) .own 1 true])) : ACalls 0 Try.prog num_Fix [ii n, ii w] Q A := by
  refine ACalls.of_fits mixed fits_num_Fix rfl ?_
  unfold ic_num_Fix
  have i0 : initA [ii n, ii w] 0 = ii n := rfl
  have i1 : initA [ii n, ii w] 1 = ii w := rfl
  generalize initA [ii n, ii w] = a at i0 i1
  have c1 : ((w : Int) < 1) = False := by simp; omega
  have c2 : ((w : Int) > 4) = False := by simp; omega
  simp only [W_seq, W_ops, W_draw, W_block, W_skip, W_exit, W_ret, sq_normal, sq_ret, sq_exit, W_condv, condW_true, condW_false, thenA_normal, thenA_ret, thenA_exit, if_true, if_false, Bool.false_eq_true, decide_eq_true_eq, inBlockA_normal, inBlockA_ret, inBlockA_same, inBlockA_other, noGotoA_normal, noGotoA_ret, noGotoA_exit, Wops_nil, Wops_cons, Wops_le, Wops_guard, Wops_guardle, ok1_some, okV_some, kont_at, kontL_at, gdB_true, gdB_false, decide_true, decide_false, ev_tmp, ev_const, ev_func, ev_global, put_some, put_none, upd_same, upd_at, gd_bt, gd_bf, Bool.not_true, Bool.not_false, pick_true, pick_false, pick_b, not_b, W1_mov, W1_pick, W1_new, W1_box, W1_build, W1_lit, W1_load1, W1_loadn, W1_store, W1_nilc, W1_bin, W1_un, W1_conv, W1_b2s, W1_s2b, W1_field1, W1_fieldn, W1_faddr, W1_iaddr, W1_iarr, W1_idxs, W1_idxa1, W1_idxan, W1_sls, W1_sll, W1_sla, W1_mk, W1_ext, W1_fn, W1_ifc, W1_lens, W1_lenc, W1_app, W1_apps, W1_copy, W1_mn, W1_mx, W1_isnil, W1_strc, W1_beq, W1_mks, W1_capn, W1_appz, W1_eqagg, W1_call, W1_calld, callD_func, List.nil_append, List.append_nil, List.map_cons, List.map_nil, Option.map_some, Option.map_none, reduceIte, Option.some.injEq, exists_eq_left', Nat.reduceBEq, iv_ii, postA_ret, postA_normal, resVs_nil, resVs_tmp, resVs_one, resVs_many, Option.bind_some, tupleOf, Int.toNat_natCast, true_and, and_true, Nat.reduceEqDiff, RdOk_nil, RdOk_refl, rd_load1, rd_loadn, rd_b2s, rd_sll, rd_sla, rd_call, rd_calld, rd_new, rd_box, rd_lit, rd_store, rd_s2b, rd_mk, rd_app, rd_apps, rd_appz, rd_mks, rd_copy, blk_ptr, blk_sl, blk_nil, List.cons_append, i0, i1, binA_lss, binA_gtr, c1, c2]
  refine num_is_spec ?_
  have c3 : ((0 : Int) ≤ n ∧ (n : Int) ≤ 2147483647) = True := by simp; omega
  have c4 : binA .mul (ii 8) (ii w) = some (ii ((8 * w : Nat) : Int)) := mul_ii 8 w (by omega)
  have c5 := shr_ii n .i64 (8 * w) (by omega)
  have c6 : (((0 : Nat) : Int) > 0) = False := by simp
  simp only [W_seq, W_ops, W_draw, W_block, W_skip, W_exit, W_ret, sq_normal, sq_ret, sq_exit, W_condv, condW_true, condW_false, thenA_normal, thenA_ret, thenA_exit, if_true, if_false, Bool.false_eq_true, decide_eq_true_eq, inBlockA_normal, inBlockA_ret, inBlockA_same, inBlockA_other, noGotoA_normal, noGotoA_ret, noGotoA_exit, Wops_nil, Wops_cons, Wops_le, Wops_guard, Wops_guardle, ok1_some, okV_some, kont_at, kontL_at, gdB_true, gdB_false, decide_true, decide_false, ev_tmp, ev_const, ev_func, ev_global, put_some, put_none, upd_same, upd_at, gd_bt, gd_bf, Bool.not_true, Bool.not_false, pick_true, pick_false, pick_b, not_b, W1_mov, W1_pick, W1_new, W1_box, W1_build, W1_lit, W1_load1, W1_loadn, W1_store, W1_nilc, W1_bin, W1_un, W1_conv, W1_b2s, W1_s2b, W1_field1, W1_fieldn, W1_faddr, W1_iaddr, W1_iarr, W1_idxs, W1_idxa1, W1_idxan, W1_sls, W1_sll, W1_sla, W1_mk, W1_ext, W1_fn, W1_ifc, W1_lens, W1_lenc, W1_app, W1_apps, W1_copy, W1_mn, W1_mx, W1_isnil, W1_strc, W1_beq, W1_mks, W1_capn, W1_appz, W1_eqagg, W1_call, W1_calld, callD_func, List.nil_append, List.append_nil, List.map_cons, List.map_nil, Option.map_some, Option.map_none, reduceIte, Option.some.injEq, exists_eq_left', Nat.reduceBEq, iv_ii, postA_ret, postA_normal, resVs_nil, resVs_tmp, resVs_one, resVs_many, Option.bind_some, tupleOf, Int.toNat_natCast, true_and, and_true, Nat.reduceEqDiff, RdOk_nil, RdOk_refl, rd_load1, rd_loadn, rd_b2s, rd_sll, rd_sla, rd_call, rd_calld, rd_new, rd_box, rd_lit, rd_store, rd_s2b, rd_mk, rd_app, rd_apps, rd_appz, rd_mks, rd_copy, blk_ptr, blk_sl, blk_nil, List.cons_append, i1, i0, c3, c4, c5, hw, binA_gtr, c6]
  simp only [W_seq, W_ops, W_draw, W_block, W_skip, W_exit, W_ret, sq_normal, sq_ret, sq_exit, W_condv, condW_true, condW_false, thenA_normal, thenA_ret, thenA_exit, if_true, if_false, Bool.false_eq_true, decide_eq_true_eq, inBlockA_normal, inBlockA_ret, inBlockA_same, inBlockA_other, noGotoA_normal, noGotoA_ret, noGotoA_exit, Wops_nil, Wops_cons, Wops_le, Wops_guard, Wops_guardle, ok1_some, okV_some, kont_at, kontL_at, gdB_true, gdB_false, decide_true, decide_false, ev_tmp, ev_const, ev_func, ev_global, put_some, put_none, upd_same, upd_at, gd_bt, gd_bf, Bool.not_true, Bool.not_false, pick_true, pick_false, pick_b, not_b, W1_mov, W1_pick, W1_new, W1_box, W1_build, W1_lit, W1_load1, W1_loadn, W1_store, W1_nilc, W1_bin, W1_un, W1_conv, W1_b2s, W1_s2b, W1_field1, W1_fieldn, W1_faddr, W1_iaddr, W1_iarr, W1_idxs, W1_idxa1, W1_idxan, W1_sls, W1_sll, W1_sla, W1_mk, W1_ext, W1_fn, W1_ifc, W1_lens, W1_lenc, W1_app, W1_apps, W1_copy, W1_mn, W1_mx, W1_isnil, W1_strc, W1_beq, W1_mks, W1_capn, W1_appz, W1_eqagg, W1_call, W1_calld, callD_func, List.nil_append, List.append_nil, List.map_cons, List.map_nil, Option.map_some, Option.map_none, reduceIte, Option.some.injEq, exists_eq_left', Nat.reduceBEq, iv_ii, postA_ret, postA_normal, resVs_nil, resVs_tmp, resVs_one, resVs_many, Option.bind_some, tupleOf, Int.toNat_natCast, true_and, and_true, Nat.reduceEqDiff, RdOk_nil, RdOk_refl, rd_load1, rd_loadn, rd_b2s, rd_sll, rd_sla, rd_call, rd_calld, rd_new, rd_box, rd_lit, rd_store, rd_s2b, rd_mk, rd_app, rd_apps, rd_appz, rd_mks, rd_copy, blk_ptr, blk_sl, blk_nil, List.cons_append, i1, i0, mk_bytes A w (by omega), lens_sl]
  refine W_loop (fun a' A' => ∃ k : Nat, k ≤ w ∧ a' 0 = ii n ∧ a' 6 = .slice (some ⟨A.length, 0, none⟩) w w ∧ a' 29 = ii w ∧ a' 30 = ii k ∧
      A' = A ++ [.row (((leB n w).take k ++ List.replicate (w - k) (0 : UInt8)).map by8) .own 1 true]) (fun a' _ => w - (iv (a' 30)).toNat) ?_ ?_
  · refine ⟨0, by omega, ?_⟩
    simp only [W_seq, W_ops, W_draw, W_block, W_skip, W_exit, W_ret, sq_normal, sq_ret, sq_exit, W_condv, condW_true, condW_false, thenA_normal, thenA_ret, thenA_exit, if_true, if_false, Bool.false_eq_true, decide_eq_true_eq, inBlockA_normal, inBlockA_ret, inBlockA_same, inBlockA_other, noGotoA_normal, noGotoA_ret, noGotoA_exit, Wops_nil, Wops_cons, Wops_le, Wops_guard, Wops_guardle, ok1_some, okV_some, kont_at, kontL_at, gdB_true, gdB_false, decide_true, decide_false, ev_tmp, ev_const, ev_func, ev_global, put_some, put_none, upd_same, upd_at, gd_bt, gd_bf, Bool.not_true, Bool.not_false, pick_true, pick_false, pick_b, not_b, W1_mov, W1_pick, W1_new, W1_box, W1_build, W1_lit, W1_load1, W1_loadn, W1_store, W1_nilc, W1_bin, W1_un, W1_conv, W1_b2s, W1_s2b, W1_field1, W1_fieldn, W1_faddr, W1_iaddr, W1_iarr, W1_idxs, W1_idxa1, W1_idxan, W1_sls, W1_sll, W1_sla, W1_mk, W1_ext, W1_fn, W1_ifc, W1_lens, W1_lenc, W1_app, W1_apps, W1_copy, W1_mn, W1_mx, W1_isnil, W1_strc, W1_beq, W1_mks, W1_capn, W1_appz, W1_eqagg, W1_call, W1_calld, callD_func, List.nil_append, List.append_nil, List.map_cons, List.map_nil, Option.map_some, Option.map_none, reduceIte, Option.some.injEq, exists_eq_left', Nat.reduceBEq, iv_ii, postA_ret, postA_normal, resVs_nil, resVs_tmp, resVs_one, resVs_many, Option.bind_some, tupleOf, Int.toNat_natCast, true_and, and_true, Nat.reduceEqDiff, RdOk_nil, RdOk_refl, rd_load1, rd_loadn, rd_b2s, rd_sll, rd_sla, rd_call, rd_calld, rd_new, rd_box, rd_lit, rd_store, rd_s2b, rd_mk, rd_app, rd_apps, rd_appz, rd_mks, rd_copy, blk_ptr, blk_sl, blk_nil, List.cons_append, i0]
    simp
  · rintro a A' ⟨k, hk, g0, g6, g29, g30, rfl⟩
    rcases Nat.lt_or_ge k w with hlt | hge
    · have hc : ((k : Int) < (w : Int)) = True := by simp; omega
      have d1 : binA .mul (ii 8) (ii k) = some (ii ((8 * k : Nat) : Int)) := mul_ii 8 k (by omega)
      have d2 := shr_ii n .i64 (8 * k) (by omega)
      have d3 := iaddr1 (A := A ++ [.row (((leB n w).take k ++ List.replicate (w - k) (0 : UInt8)).map by8) .own 1 true]) (i := A.length) (o := 0) (c := w) hlt
      have d4 := store_by8 (o := 0 + k) (x := UInt8.ofNat (n / 2 ^ (8 * k))) (get_last A (.row (((leB n w).take k ++ List.replicate (w - k) (0 : UInt8)).map by8) .own 1 true)) (by simp [leB_length]; omega)
      simp only [W_seq, W_ops, W_draw, W_block, W_skip, W_exit, W_ret, sq_normal, sq_ret, sq_exit, W_condv, condW_true, condW_false, thenA_normal, thenA_ret, thenA_exit, if_true, if_false, Bool.false_eq_true, decide_eq_true_eq, inBlockA_normal, inBlockA_ret, inBlockA_same, inBlockA_other, noGotoA_normal, noGotoA_ret, noGotoA_exit, Wops_nil, Wops_cons, Wops_le, Wops_guard, Wops_guardle, ok1_some, okV_some, kont_at, kontL_at, gdB_true, gdB_false, decide_true, decide_false, ev_tmp, ev_const, ev_func, ev_global, put_some, put_none, upd_same, upd_at, gd_bt, gd_bf, Bool.not_true, Bool.not_false, pick_true, pick_false, pick_b, not_b, W1_mov, W1_pick, W1_new, W1_box, W1_build, W1_lit, W1_load1, W1_loadn, W1_store, W1_nilc, W1_bin, W1_un, W1_conv, W1_b2s, W1_s2b, W1_field1, W1_fieldn, W1_faddr, W1_iaddr, W1_iarr, W1_idxs, W1_idxa1, W1_idxan, W1_sls, W1_sll, W1_sla, W1_mk, W1_ext, W1_fn, W1_ifc, W1_lens, W1_lenc, W1_app, W1_apps, W1_copy, W1_mn, W1_mx, W1_isnil, W1_strc, W1_beq, W1_mks, W1_capn, W1_appz, W1_eqagg, W1_call, W1_calld, callD_func, List.nil_append, List.append_nil, List.map_cons, List.map_nil, Option.map_some, Option.map_none, reduceIte, Option.some.injEq, exists_eq_left', Nat.reduceBEq, iv_ii, postA_ret, postA_normal, resVs_nil, resVs_tmp, resVs_one, resVs_many, Option.bind_some, tupleOf, Int.toNat_natCast, true_and, and_true, Nat.reduceEqDiff, RdOk_nil, RdOk_refl, rd_load1, rd_loadn, rd_b2s, rd_sll, rd_sla, rd_call, rd_calld, rd_new, rd_box, rd_lit, rd_store, rd_s2b, rd_mk, rd_app, rd_apps, rd_appz, rd_mks, rd_copy, blk_ptr, blk_sl, blk_nil, List.cons_append, g0, g6, g29, g30, binA_lss, hc, d1, d2, conv_u8_ii, d3, d4, set_last, binA_add1 k (by omega)]
      refine ⟨⟨k + 1, by omega, rfl, ?_⟩, by omega⟩
      rw [Nat.zero_add, fill_step (leB n w) 0 _ (leB_length n w) hlt]
      simp [leB, hlt]
    · have hc : ((k : Int) < (w : Int)) = False := by simp; omega
      have hkw : k = w := by omega
      subst hkw
      simp only [W_seq, W_ops, W_draw, W_block, W_skip, W_exit, W_ret, sq_normal, sq_ret, sq_exit, W_condv, condW_true, condW_false, thenA_normal, thenA_ret, thenA_exit, if_true, if_false, Bool.false_eq_true, decide_eq_true_eq, inBlockA_normal, inBlockA_ret, inBlockA_same, inBlockA_other, noGotoA_normal, noGotoA_ret, noGotoA_exit, Wops_nil, Wops_cons, Wops_le, Wops_guard, Wops_guardle, ok1_some, okV_some, kont_at, kontL_at, gdB_true, gdB_false, decide_true, decide_false, ev_tmp, ev_const, ev_func, ev_global, put_some, put_none, upd_same, upd_at, gd_bt, gd_bf, Bool.not_true, Bool.not_false, pick_true, pick_false, pick_b, not_b, W1_mov, W1_pick, W1_new, W1_box, W1_build, W1_lit, W1_load1, W1_loadn, W1_store, W1_nilc, W1_bin, W1_un, W1_conv, W1_b2s, W1_s2b, W1_field1, W1_fieldn, W1_faddr, W1_iaddr, W1_iarr, W1_idxs, W1_idxa1, W1_idxan, W1_sls, W1_sll, W1_sla, W1_mk, W1_ext, W1_fn, W1_ifc, W1_lens, W1_lenc, W1_app, W1_apps, W1_copy, W1_mn, W1_mx, W1_isnil, W1_strc, W1_beq, W1_mks, W1_capn, W1_appz, W1_eqagg, W1_call, W1_calld, callD_func, List.nil_append, List.append_nil, List.map_cons, List.map_nil, Option.map_some, Option.map_none, reduceIte, Option.some.injEq, exists_eq_left', Nat.reduceBEq, iv_ii, postA_ret, postA_normal, resVs_nil, resVs_tmp, resVs_one, resVs_many, Option.bind_some, tupleOf, Int.toNat_natCast, true_and, and_true, Nat.reduceEqDiff, RdOk_nil, RdOk_refl, rd_load1, rd_loadn, rd_b2s, rd_sll, rd_sla, rd_call, rd_calld, rd_new, rd_box, rd_lit, rd_store, rd_s2b, rd_mk, rd_app, rd_apps, rd_appz, rd_mks, rd_copy, blk_ptr, blk_sl, blk_nil, List.cons_append, g0, g6, g29, g30, binA_lss, hc]
      have e : (leB n k).take k ++ List.replicate (k - k) (0 : UInt8) = leB n k := by
        rw [Nat.sub_self, List.replicate_zero, List.append_nil, List.take_of_length_le (by rw [leB_length]; exact Nat.le_refl _)]
      rw [e]
      simpa using hq

theorem num_Fix_own {A : AH} {n w : Nat} {Q : Value → AH → Prop} (h1 : 1 ≤ w) (h4 : w ≤ 4) (hn : n ≤ 2147483647) (hw : n / 2 ^ (8 * w) = 0)
    (hq : ∀ v A', Le A A' → OwnB A.length A' v (leB n w) → Q (.tuple #[v, ii 0]) A') : ACalls 0 Try.prog num_Fix [ii n, ii w] Q A :=
  num_Fix_ok h1 h4 hn hw (hq _ _ (.push _ _) (own_row (get_last _ _) (leB_length n w).symm (Nat.le_refl _) (Nat.le_refl _)))

end Go.AS.C

namespace Go.AS.C
open Go Go.Proofs
set_option linter.unusedVariables false
set_option linter.unusedSimpArgs false
set_option maxRecDepth 10000

theorem slices_Grow_nil {A : AH} {n : Nat} {Q : Value → AH → Prop} (hn : n ≤ 2 ^ 40) (hq : ∀ v A', Le A A' → OwnB A.length A' v [] → Q v A') : ACalls 0 Try.prog slices_Grow_byte_byte [.slice none 0 0, ii n] Q A := by
  refine ACalls.of_fits mixed fits_slices_Grow_byte_byte rfl ?_
  unfold ic_slices_Grow_byte_byte
  have i0 : initA [.slice none 0 0, ii n] 0 = .slice none 0 0 := rfl
  have i1 : initA [.slice none 0 0, ii n] 1 = ii n := rfl
  generalize initA [.slice none 0 0, ii n] = a at i0 i1
  have c1 : ((n : Int) < 0) = False := by simp
  have c2 : sCapn A (.slice none 0 0) = some (ii 0, A) := rfl
  have c3 : binA .sub (ii 0) (ii ((0 : Nat) : Int)) = some (ii 0) := by rw [binA_subi _ _ (by omega) (by omega)]; rfl
  have c4 : binA .sub (ii n) (ii 0) = some (ii n) := by rw [binA_subi _ _ (by omega) (by omega)]; simp
  by_cases h0 : n = 0
  · subst h0
    have c5 : (((0 : Nat) : Int) > 0) = False := by simp
    simp only [W_seq, W_ops, W_draw, W_block, W_skip, W_exit, W_ret, sq_normal, sq_ret, sq_exit, W_condv, condW_true, condW_false, thenA_normal, thenA_ret, thenA_exit, if_true, if_false, Bool.false_eq_true, decide_eq_true_eq, inBlockA_normal, inBlockA_ret, inBlockA_same, inBlockA_other, noGotoA_normal, noGotoA_ret, noGotoA_exit, Wops_nil, Wops_cons, Wops_le, Wops_guard, Wops_guardle, ok1_some, okV_some, kont_at, kontL_at, gdB_true, gdB_false, decide_true, decide_false, ev_tmp, ev_const, ev_func, ev_global, put_some, put_none, upd_same, upd_at, gd_bt, gd_bf, Bool.not_true, Bool.not_false, pick_true, pick_false, pick_b, not_b, W1_mov, W1_pick, W1_new, W1_box, W1_build, W1_lit, W1_load1, W1_loadn, W1_store, W1_nilc, W1_bin, W1_un, W1_conv, W1_b2s, W1_s2b, W1_field1, W1_fieldn, W1_faddr, W1_iaddr, W1_iarr, W1_idxs, W1_idxa1, W1_idxan, W1_sls, W1_sll, W1_sla, W1_mk, W1_ext, W1_fn, W1_ifc, W1_lens, W1_lenc, W1_app, W1_apps, W1_copy, W1_mn, W1_mx, W1_isnil, W1_strc, W1_beq, W1_mks, W1_capn, W1_appz, W1_eqagg, W1_call, W1_calld, callD_func, List.nil_append, List.append_nil, List.map_cons, List.map_nil, Option.map_some, Option.map_none, reduceIte, Option.some.injEq, exists_eq_left', Nat.reduceBEq, iv_ii, postA_ret, postA_normal, resVs_nil, resVs_tmp, resVs_one, resVs_many, Option.bind_some, tupleOf, Int.toNat_natCast, true_and, and_true, Nat.reduceEqDiff, RdOk_nil, RdOk_refl, rd_load1, rd_loadn, rd_b2s, rd_sll, rd_sla, rd_call, rd_calld, rd_new, rd_box, rd_lit, rd_store, rd_s2b, rd_mk, rd_app, rd_apps, rd_appz, rd_mks, rd_copy, blk_ptr, blk_sl, blk_nil, List.cons_append, i0, i1, binA_lss, c1, c2, lens_sl, c3, c4, binA_gtr, c5]
    exact hq _ _ (.refl _) (OwnB.nil _ _)
  · have c5 : ((n : Int) > 0) = True := by simp; omega
    have c6 : sSll A (.slice none 0 0) none (some (ii 0)) none 1 = some (.slice none 0 0, A) := rfl
    obtain ⟨v', A', e1, e2, e3, _⟩ := app_own (A0 := A) (A := A) (v := .slice none 0 0) (new := (List.replicate n [Value.int .u8 0]).flatten) (k := n) (bytes := 1) (.refl _) (OwnS.nil A.length A 1) (by omega) (by omega) (by omega) (by simp) (by
      unfold ones
      rw [List.all_eq_true]
      intro x hx
      rw [List.mem_flatten] at hx
      obtain ⟨l, hl, hx⟩ := hx
      obtain rfl := List.eq_of_mem_replicate hl
      rw [List.mem_singleton] at hx
      subst hx; rfl)
    have c7 : sAppz A (.slice none 0 0) (ii n) [.int .u8 0] 1 = some (v', A') := by
      rw [appz_eq (by omega), Int.toNat_natCast]
      exact e1
    have c8 : ∃ u, sSll A' v' none (some (ii ((0 : Nat) : Int))) none 1 = some (u, A') ∧ OwnB A.length A' u [] := by
      obtain ⟨f0, f⟩ := e3
      rcases f with ⟨rfl, f⟩ | ⟨rfl, f⟩ | ⟨i, o, c, rc, ex, rfl, f1, f2, f3, f4, f5⟩
      · omega
      · omega
      · refine ⟨.slice (some ⟨i, o, none⟩) 0 c, ?_, ⟨by simp, .inr (.inr ⟨i, o, c, rc, ex, rfl, by simp, f2, f3, by simp; omega, fun j hj => by simp at hj⟩)⟩⟩
        unfold sSll boundsA rowSz
        simp only [f3]
        simp [asI]
    obtain ⟨u, c8, c9⟩ := c8
    simp only [W_seq, W_ops, W_draw, W_block, W_skip, W_exit, W_ret, sq_normal, sq_ret, sq_exit, W_condv, condW_true, condW_false, thenA_normal, thenA_ret, thenA_exit, if_true, if_false, Bool.false_eq_true, decide_eq_true_eq, inBlockA_normal, inBlockA_ret, inBlockA_same, inBlockA_other, noGotoA_normal, noGotoA_ret, noGotoA_exit, Wops_nil, Wops_cons, Wops_le, Wops_guard, Wops_guardle, ok1_some, okV_some, kont_at, kontL_at, gdB_true, gdB_false, decide_true, decide_false, ev_tmp, ev_const, ev_func, ev_global, put_some, put_none, upd_same, upd_at, gd_bt, gd_bf, Bool.not_true, Bool.not_false, pick_true, pick_false, pick_b, not_b, W1_mov, W1_pick, W1_new, W1_box, W1_build, W1_lit, W1_load1, W1_loadn, W1_store, W1_nilc, W1_bin, W1_un, W1_conv, W1_b2s, W1_s2b, W1_field1, W1_fieldn, W1_faddr, W1_iaddr, W1_iarr, W1_idxs, W1_idxa1, W1_idxan, W1_sls, W1_sll, W1_sla, W1_mk, W1_ext, W1_fn, W1_ifc, W1_lens, W1_lenc, W1_app, W1_apps, W1_copy, W1_mn, W1_mx, W1_isnil, W1_strc, W1_beq, W1_mks, W1_capn, W1_appz, W1_eqagg, W1_call, W1_calld, callD_func, List.nil_append, List.append_nil, List.map_cons, List.map_nil, Option.map_some, Option.map_none, reduceIte, Option.some.injEq, exists_eq_left', Nat.reduceBEq, iv_ii, postA_ret, postA_normal, resVs_nil, resVs_tmp, resVs_one, resVs_many, Option.bind_some, tupleOf, Int.toNat_natCast, true_and, and_true, Nat.reduceEqDiff, RdOk_nil, RdOk_refl, rd_load1, rd_loadn, rd_b2s, rd_sll, rd_sla, rd_call, rd_calld, rd_new, rd_box, rd_lit, rd_store, rd_s2b, rd_mk, rd_app, rd_apps, rd_appz, rd_mks, rd_copy, blk_ptr, blk_sl, blk_nil, List.cons_append, i0, i1, binA_lss, c1, c2, lens_sl, c3, c4, binA_gtr, c5, c6, c7, c8]
    exact hq _ _ e2 c9

theorem slices_Concat_spec {A : AH} {v : Value} {vs : List Value} {bss : List (List UInt8)} {Q : Value → AH → Prop} (hv : Sl A 1 v vs.length vs) (hn : vs.length = bss.length)
    (hb : ∀ (j : Nat) x bs, vs[j]? = some x → bss[j]? = some bs → Byt A x bs) (hl : bss.flatten.length ≤ 2 ^ 40) (hc : bss.length ≤ 2 ^ 40) (hq : ∀ v A', Le A A' → OwnB A.length A' v bss.flatten → Q v A') :
    ACalls 0 Try.prog slices_Concat_byte_byte [v] Q A := by
  refine ACalls.of_fits mixed fits_slices_Concat_byte_byte rfl ?_
  unfold ic_slices_Concat_byte_byte
  have i0 : initA [v] 0 = v := rfl
  generalize initA [v] = a at i0
  simp only [W_seq, W_ops, W_draw, W_block, W_skip, W_exit, W_ret, sq_normal, sq_ret, sq_exit, W_condv, condW_true, condW_false, thenA_normal, thenA_ret, thenA_exit, if_true, if_false, Bool.false_eq_true, decide_eq_true_eq, inBlockA_normal, inBlockA_ret, inBlockA_same, inBlockA_other, noGotoA_normal, noGotoA_ret, noGotoA_exit, Wops_nil, Wops_cons, Wops_le, Wops_guard, Wops_guardle, ok1_some, okV_some, kont_at, kontL_at, gdB_true, gdB_false, decide_true, decide_false, ev_tmp, ev_const, ev_func, ev_global, put_some, put_none, upd_same, upd_at, gd_bt, gd_bf, Bool.not_true, Bool.not_false, pick_true, pick_false, pick_b, not_b, W1_mov, W1_pick, W1_new, W1_box, W1_build, W1_lit, W1_load1, W1_loadn, W1_store, W1_nilc, W1_bin, W1_un, W1_conv, W1_b2s, W1_s2b, W1_field1, W1_fieldn, W1_faddr, W1_iaddr, W1_iarr, W1_idxs, W1_idxa1, W1_idxan, W1_sls, W1_sll, W1_sla, W1_mk, W1_ext, W1_fn, W1_ifc, W1_lens, W1_lenc, W1_app, W1_apps, W1_copy, W1_mn, W1_mx, W1_isnil, W1_strc, W1_beq, W1_mks, W1_capn, W1_appz, W1_eqagg, W1_call, W1_calld, callD_func, List.nil_append, List.append_nil, List.map_cons, List.map_nil, Option.map_some, Option.map_none, reduceIte, Option.some.injEq, exists_eq_left', Nat.reduceBEq, iv_ii, postA_ret, postA_normal, resVs_nil, resVs_tmp, resVs_one, resVs_many, Option.bind_some, tupleOf, Int.toNat_natCast, true_and, and_true, Nat.reduceEqDiff, RdOk_nil, RdOk_refl, rd_load1, rd_loadn, rd_b2s, rd_sll, rd_sla, rd_call, rd_calld, rd_new, rd_box, rd_lit, rd_store, rd_s2b, rd_mk, rd_app, rd_apps, rd_appz, rd_mks, rd_copy, blk_ptr, blk_sl, blk_nil, List.cons_append, i0, hv.len]
  refine W_loop (fun a' A' => A' = A ∧ ∃ k : Nat, k ≤ bss.length ∧ a' 0 = v ∧ a' 9 = v ∧ a' 10 = ii vs.length ∧ a' 11 = ii k ∧ a' 3 = ii (((bss.take k).flatten.length : Nat) : Int)) (fun a' _ => (bss.length - (iv (a' 11)).toNat)) ?_ ?_
  · refine ⟨rfl, 0, by omega, ?_⟩
    simp only [W_seq, W_ops, W_draw, W_block, W_skip, W_exit, W_ret, sq_normal, sq_ret, sq_exit, W_condv, condW_true, condW_false, thenA_normal, thenA_ret, thenA_exit, if_true, if_false, Bool.false_eq_true, decide_eq_true_eq, inBlockA_normal, inBlockA_ret, inBlockA_same, inBlockA_other, noGotoA_normal, noGotoA_ret, noGotoA_exit, Wops_nil, Wops_cons, Wops_le, Wops_guard, Wops_guardle, ok1_some, okV_some, kont_at, kontL_at, gdB_true, gdB_false, decide_true, decide_false, ev_tmp, ev_const, ev_func, ev_global, put_some, put_none, upd_same, upd_at, gd_bt, gd_bf, Bool.not_true, Bool.not_false, pick_true, pick_false, pick_b, not_b, W1_mov, W1_pick, W1_new, W1_box, W1_build, W1_lit, W1_load1, W1_loadn, W1_store, W1_nilc, W1_bin, W1_un, W1_conv, W1_b2s, W1_s2b, W1_field1, W1_fieldn, W1_faddr, W1_iaddr, W1_iarr, W1_idxs, W1_idxa1, W1_idxan, W1_sls, W1_sll, W1_sla, W1_mk, W1_ext, W1_fn, W1_ifc, W1_lens, W1_lenc, W1_app, W1_apps, W1_copy, W1_mn, W1_mx, W1_isnil, W1_strc, W1_beq, W1_mks, W1_capn, W1_appz, W1_eqagg, W1_call, W1_calld, callD_func, List.nil_append, List.append_nil, List.map_cons, List.map_nil, Option.map_some, Option.map_none, reduceIte, Option.some.injEq, exists_eq_left', Nat.reduceBEq, iv_ii, postA_ret, postA_normal, resVs_nil, resVs_tmp, resVs_one, resVs_many, Option.bind_some, tupleOf, Int.toNat_natCast, true_and, and_true, Nat.reduceEqDiff, RdOk_nil, RdOk_refl, rd_load1, rd_loadn, rd_b2s, rd_sll, rd_sla, rd_call, rd_calld, rd_new, rd_box, rd_lit, rd_store, rd_s2b, rd_mk, rd_app, rd_apps, rd_appz, rd_mks, rd_copy, blk_ptr, blk_sl, blk_nil, List.cons_append, i0]
    simp
  · rintro a A' ⟨rfl, k, hk, g0, g9, g10, g11, g3⟩
    rcases Nat.lt_or_ge k bss.length with hlt | hge
    · have hc1 : ((k : Int) < (vs.length : Int)) = True := by simp; omega
      obtain ⟨x, hx⟩ : ∃ b, vs[k]? = some b := ⟨_, List.getElem?_eq_getElem (by omega)⟩
      obtain ⟨bs, hbs⟩ : ∃ b, bss[k]? = some b := ⟨_, List.getElem?_eq_getElem hlt⟩
      obtain ⟨p, hp1, hp2⟩ := hv.at1 hx
      have hle := flat_take_le bss (k + 1)
      have hsu := flat_take_succ bss hbs
      rw [hsu, List.length_append] at hle
      have hadd : binA .add (ii (((bss.take k).flatten.length : Nat) : Int)) (ii (bs.length : Nat)) = some (ii (((bss.take (k + 1)).flatten.length : Nat) : Int)) := by
        rw [binA_addi _ _ (by omega) (by omega), hsu, List.length_append]
        simp
      have hc2 : ((((bss.take (k + 1)).flatten.length : Nat) : Int) < 0) = False := by simp
      simp only [W_seq, W_ops, W_draw, W_block, W_skip, W_exit, W_ret, sq_normal, sq_ret, sq_exit, W_condv, condW_true, condW_false, thenA_normal, thenA_ret, thenA_exit, if_true, if_false, Bool.false_eq_true, decide_eq_true_eq, inBlockA_normal, inBlockA_ret, inBlockA_same, inBlockA_other, noGotoA_normal, noGotoA_ret, noGotoA_exit, Wops_nil, Wops_cons, Wops_le, Wops_guard, Wops_guardle, ok1_some, okV_some, kont_at, kontL_at, gdB_true, gdB_false, decide_true, decide_false, ev_tmp, ev_const, ev_func, ev_global, put_some, put_none, upd_same, upd_at, gd_bt, gd_bf, Bool.not_true, Bool.not_false, pick_true, pick_false, pick_b, not_b, W1_mov, W1_pick, W1_new, W1_box, W1_build, W1_lit, W1_load1, W1_loadn, W1_store, W1_nilc, W1_bin, W1_un, W1_conv, W1_b2s, W1_s2b, W1_field1, W1_fieldn, W1_faddr, W1_iaddr, W1_iarr, W1_idxs, W1_idxa1, W1_idxan, W1_sls, W1_sll, W1_sla, W1_mk, W1_ext, W1_fn, W1_ifc, W1_lens, W1_lenc, W1_app, W1_apps, W1_copy, W1_mn, W1_mx, W1_isnil, W1_strc, W1_beq, W1_mks, W1_capn, W1_appz, W1_eqagg, W1_call, W1_calld, callD_func, List.nil_append, List.append_nil, List.map_cons, List.map_nil, Option.map_some, Option.map_none, reduceIte, Option.some.injEq, exists_eq_left', Nat.reduceBEq, iv_ii, postA_ret, postA_normal, resVs_nil, resVs_tmp, resVs_one, resVs_many, Option.bind_some, tupleOf, Int.toNat_natCast, true_and, and_true, Nat.reduceEqDiff, RdOk_nil, RdOk_refl, rd_load1, rd_loadn, rd_b2s, rd_sll, rd_sla, rd_call, rd_calld, rd_new, rd_box, rd_lit, rd_store, rd_s2b, rd_mk, rd_app, rd_apps, rd_appz, rd_mks, rd_copy, blk_ptr, blk_sl, blk_nil, List.cons_append, g0, g9, g10, g11, g3, binA_lss, hc1, hp1, hp2, (hb k x bs hx hbs).len, hadd, hc2, binA_add1 k (by omega)]
      exact ⟨⟨k + 1, by omega, rfl, rfl⟩, by omega⟩
    · have hc1 : ((k : Int) < (vs.length : Int)) = False := by simp; omega
      have hk : k = bss.length := by omega
      subst hk
      simp only [W_seq, W_ops, W_draw, W_block, W_skip, W_exit, W_ret, sq_normal, sq_ret, sq_exit, W_condv, condW_true, condW_false, thenA_normal, thenA_ret, thenA_exit, if_true, if_false, Bool.false_eq_true, decide_eq_true_eq, inBlockA_normal, inBlockA_ret, inBlockA_same, inBlockA_other, noGotoA_normal, noGotoA_ret, noGotoA_exit, Wops_nil, Wops_cons, Wops_le, Wops_guard, Wops_guardle, ok1_some, okV_some, kont_at, kontL_at, gdB_true, gdB_false, decide_true, decide_false, ev_tmp, ev_const, ev_func, ev_global, put_some, put_none, upd_same, upd_at, gd_bt, gd_bf, Bool.not_true, Bool.not_false, pick_true, pick_false, pick_b, not_b, W1_mov, W1_pick, W1_new, W1_box, W1_build, W1_lit, W1_load1, W1_loadn, W1_store, W1_nilc, W1_bin, W1_un, W1_conv, W1_b2s, W1_s2b, W1_field1, W1_fieldn, W1_faddr, W1_iaddr, W1_iarr, W1_idxs, W1_idxa1, W1_idxan, W1_sls, W1_sll, W1_sla, W1_mk, W1_ext, W1_fn, W1_ifc, W1_lens, W1_lenc, W1_app, W1_apps, W1_copy, W1_mn, W1_mx, W1_isnil, W1_strc, W1_beq, W1_mks, W1_capn, W1_appz, W1_eqagg, W1_call, W1_calld, callD_func, List.nil_append, List.append_nil, List.map_cons, List.map_nil, Option.map_some, Option.map_none, reduceIte, Option.some.injEq, exists_eq_left', Nat.reduceBEq, iv_ii, postA_ret, postA_normal, resVs_nil, resVs_tmp, resVs_one, resVs_many, Option.bind_some, tupleOf, Int.toNat_natCast, true_and, and_true, Nat.reduceEqDiff, RdOk_nil, RdOk_refl, rd_load1, rd_loadn, rd_b2s, rd_sll, rd_sla, rd_call, rd_calld, rd_new, rd_box, rd_lit, rd_store, rd_s2b, rd_mk, rd_app, rd_apps, rd_appz, rd_mks, rd_copy, blk_ptr, blk_sl, blk_nil, List.cons_append, g0, g9, g10, g11, g3, binA_lss, hc1]
      rw [List.take_length]
      refine slices_Grow_nil hl fun u A1 hle1 hown => ?_
      simp only [W_seq, W_ops, W_draw, W_block, W_skip, W_exit, W_ret, sq_normal, sq_ret, sq_exit, W_condv, condW_true, condW_false, thenA_normal, thenA_ret, thenA_exit, if_true, if_false, Bool.false_eq_true, decide_eq_true_eq, inBlockA_normal, inBlockA_ret, inBlockA_same, inBlockA_other, noGotoA_normal, noGotoA_ret, noGotoA_exit, Wops_nil, Wops_cons, Wops_le, Wops_guard, Wops_guardle, ok1_some, okV_some, kont_at, kontL_at, gdB_true, gdB_false, decide_true, decide_false, ev_tmp, ev_const, ev_func, ev_global, put_some, put_none, upd_same, upd_at, gd_bt, gd_bf, Bool.not_true, Bool.not_false, pick_true, pick_false, pick_b, not_b, W1_mov, W1_pick, W1_new, W1_box, W1_build, W1_lit, W1_load1, W1_loadn, W1_store, W1_nilc, W1_bin, W1_un, W1_conv, W1_b2s, W1_s2b, W1_field1, W1_fieldn, W1_faddr, W1_iaddr, W1_iarr, W1_idxs, W1_idxa1, W1_idxan, W1_sls, W1_sll, W1_sla, W1_mk, W1_ext, W1_fn, W1_ifc, W1_lens, W1_lenc, W1_app, W1_apps, W1_copy, W1_mn, W1_mx, W1_isnil, W1_strc, W1_beq, W1_mks, W1_capn, W1_appz, W1_eqagg, W1_call, W1_calld, callD_func, List.nil_append, List.append_nil, List.map_cons, List.map_nil, Option.map_some, Option.map_none, reduceIte, Option.some.injEq, exists_eq_left', Nat.reduceBEq, iv_ii, postA_ret, postA_normal, resVs_nil, resVs_tmp, resVs_one, resVs_many, Option.bind_some, tupleOf, Int.toNat_natCast, true_and, and_true, Nat.reduceEqDiff, RdOk_nil, RdOk_refl, rd_load1, rd_loadn, rd_b2s, rd_sll, rd_sla, rd_call, rd_calld, rd_new, rd_box, rd_lit, rd_store, rd_s2b, rd_mk, rd_app, rd_apps, rd_appz, rd_mks, rd_copy, blk_ptr, blk_sl, blk_nil, List.cons_append, g0, (hv.le hle1).len]
      refine W_loop (fun a' B => ∃ k : Nat, k ≤ bss.length ∧ Le A' B ∧ a' 25 = v ∧ a' 26 = ii vs.length ∧ a' 27 = ii k ∧ OwnB A'.length B (a' 6) (bss.take k).flatten) (fun a' _ => (bss.length - (iv (a' 27)).toNat)) ?_ ?_
      · refine ⟨0, by omega, hle1, ?_⟩
        simp only [W_seq, W_ops, W_draw, W_block, W_skip, W_exit, W_ret, sq_normal, sq_ret, sq_exit, W_condv, condW_true, condW_false, thenA_normal, thenA_ret, thenA_exit, if_true, if_false, Bool.false_eq_true, decide_eq_true_eq, inBlockA_normal, inBlockA_ret, inBlockA_same, inBlockA_other, noGotoA_normal, noGotoA_ret, noGotoA_exit, Wops_nil, Wops_cons, Wops_le, Wops_guard, Wops_guardle, ok1_some, okV_some, kont_at, kontL_at, gdB_true, gdB_false, decide_true, decide_false, ev_tmp, ev_const, ev_func, ev_global, put_some, put_none, upd_same, upd_at, gd_bt, gd_bf, Bool.not_true, Bool.not_false, pick_true, pick_false, pick_b, not_b, W1_mov, W1_pick, W1_new, W1_box, W1_build, W1_lit, W1_load1, W1_loadn, W1_store, W1_nilc, W1_bin, W1_un, W1_conv, W1_b2s, W1_s2b, W1_field1, W1_fieldn, W1_faddr, W1_iaddr, W1_iarr, W1_idxs, W1_idxa1, W1_idxan, W1_sls, W1_sll, W1_sla, W1_mk, W1_ext, W1_fn, W1_ifc, W1_lens, W1_lenc, W1_app, W1_apps, W1_copy, W1_mn, W1_mx, W1_isnil, W1_strc, W1_beq, W1_mks, W1_capn, W1_appz, W1_eqagg, W1_call, W1_calld, callD_func, List.nil_append, List.append_nil, List.map_cons, List.map_nil, Option.map_some, Option.map_none, reduceIte, Option.some.injEq, exists_eq_left', Nat.reduceBEq, iv_ii, postA_ret, postA_normal, resVs_nil, resVs_tmp, resVs_one, resVs_many, Option.bind_some, tupleOf, Int.toNat_natCast, true_and, and_true, Nat.reduceEqDiff, RdOk_nil, RdOk_refl, rd_load1, rd_loadn, rd_b2s, rd_sll, rd_sla, rd_call, rd_calld, rd_new, rd_box, rd_lit, rd_store, rd_s2b, rd_mk, rd_app, rd_apps, rd_appz, rd_mks, rd_copy, blk_ptr, blk_sl, blk_nil, List.cons_append]
        simpa using hown
      · rintro a2 B ⟨k, hk, hle2, f25, f26, f27, f6⟩
        rcases Nat.lt_or_ge k bss.length with hlt | hge
        · have hc1 : ((k : Int) < (vs.length : Int)) = True := by simp; omega
          obtain ⟨x, hx⟩ : ∃ b, vs[k]? = some b := ⟨_, List.getElem?_eq_getElem (by omega)⟩
          obtain ⟨bs, hbs⟩ : ∃ b, bss[k]? = some b := ⟨_, List.getElem?_eq_getElem hlt⟩
          obtain ⟨p, hp1, hp2⟩ := (hv.le hle2).at1 hx
          have hle := flat_take_le bss (k + 1)
          have hsu := flat_take_succ bss hbs
          rw [hsu, List.length_append] at hle
          obtain ⟨v', B', q1, q2, q3, _⟩ := app_bytes hle2 f6 ((hb k x bs hx hbs).le hle2) (by omega)
          rw [← hsu] at q3
          simp only [W_seq, W_ops, W_draw, W_block, W_skip, W_exit, W_ret, sq_normal, sq_ret, sq_exit, W_condv, condW_true, condW_false, thenA_normal, thenA_ret, thenA_exit, if_true, if_false, Bool.false_eq_true, decide_eq_true_eq, inBlockA_normal, inBlockA_ret, inBlockA_same, inBlockA_other, noGotoA_normal, noGotoA_ret, noGotoA_exit, Wops_nil, Wops_cons, Wops_le, Wops_guard, Wops_guardle, ok1_some, okV_some, kont_at, kontL_at, gdB_true, gdB_false, decide_true, decide_false, ev_tmp, ev_const, ev_func, ev_global, put_some, put_none, upd_same, upd_at, gd_bt, gd_bf, Bool.not_true, Bool.not_false, pick_true, pick_false, pick_b, not_b, W1_mov, W1_pick, W1_new, W1_box, W1_build, W1_lit, W1_load1, W1_loadn, W1_store, W1_nilc, W1_bin, W1_un, W1_conv, W1_b2s, W1_s2b, W1_field1, W1_fieldn, W1_faddr, W1_iaddr, W1_iarr, W1_idxs, W1_idxa1, W1_idxan, W1_sls, W1_sll, W1_sla, W1_mk, W1_ext, W1_fn, W1_ifc, W1_lens, W1_lenc, W1_app, W1_apps, W1_copy, W1_mn, W1_mx, W1_isnil, W1_strc, W1_beq, W1_mks, W1_capn, W1_appz, W1_eqagg, W1_call, W1_calld, callD_func, List.nil_append, List.append_nil, List.map_cons, List.map_nil, Option.map_some, Option.map_none, reduceIte, Option.some.injEq, exists_eq_left', Nat.reduceBEq, iv_ii, postA_ret, postA_normal, resVs_nil, resVs_tmp, resVs_one, resVs_many, Option.bind_some, tupleOf, Int.toNat_natCast, true_and, and_true, Nat.reduceEqDiff, RdOk_nil, RdOk_refl, rd_load1, rd_loadn, rd_b2s, rd_sll, rd_sla, rd_call, rd_calld, rd_new, rd_box, rd_lit, rd_store, rd_s2b, rd_mk, rd_app, rd_apps, rd_appz, rd_mks, rd_copy, blk_ptr, blk_sl, blk_nil, List.cons_append, f25, f26, f27, binA_lss, hc1, hp1, hp2, q1, binA_add1 k (by omega)]
          exact ⟨⟨k + 1, by omega, q2, rfl, q3⟩, by omega⟩
        · have hc1 : ((k : Int) < (vs.length : Int)) = False := by simp; omega
          have hk : k = bss.length := by omega
          subst hk
          simp only [W_seq, W_ops, W_draw, W_block, W_skip, W_exit, W_ret, sq_normal, sq_ret, sq_exit, W_condv, condW_true, condW_false, thenA_normal, thenA_ret, thenA_exit, if_true, if_false, Bool.false_eq_true, decide_eq_true_eq, inBlockA_normal, inBlockA_ret, inBlockA_same, inBlockA_other, noGotoA_normal, noGotoA_ret, noGotoA_exit, Wops_nil, Wops_cons, Wops_le, Wops_guard, Wops_guardle, ok1_some, okV_some, kont_at, kontL_at, gdB_true, gdB_false, decide_true, decide_false, ev_tmp, ev_const, ev_func, ev_global, put_some, put_none, upd_same, upd_at, gd_bt, gd_bf, Bool.not_true, Bool.not_false, pick_true, pick_false, pick_b, not_b, W1_mov, W1_pick, W1_new, W1_box, W1_build, W1_lit, W1_load1, W1_loadn, W1_store, W1_nilc, W1_bin, W1_un, W1_conv, W1_b2s, W1_s2b, W1_field1, W1_fieldn, W1_faddr, W1_iaddr, W1_iarr, W1_idxs, W1_idxa1, W1_idxan, W1_sls, W1_sll, W1_sla, W1_mk, W1_ext, W1_fn, W1_ifc, W1_lens, W1_lenc, W1_app, W1_apps, W1_copy, W1_mn, W1_mx, W1_isnil, W1_strc, W1_beq, W1_mks, W1_capn, W1_appz, W1_eqagg, W1_call, W1_calld, callD_func, List.nil_append, List.append_nil, List.map_cons, List.map_nil, Option.map_some, Option.map_none, reduceIte, Option.some.injEq, exists_eq_left', Nat.reduceBEq, iv_ii, postA_ret, postA_normal, resVs_nil, resVs_tmp, resVs_one, resVs_many, Option.bind_some, tupleOf, Int.toNat_natCast, true_and, and_true, Nat.reduceEqDiff, RdOk_nil, RdOk_refl, rd_load1, rd_loadn, rd_b2s, rd_sll, rd_sla, rd_call, rd_calld, rd_new, rd_box, rd_lit, rd_store, rd_s2b, rd_mk, rd_app, rd_apps, rd_appz, rd_mks, rd_copy, blk_ptr, blk_sl, blk_nil, List.cons_append, f25, f26, f27, binA_lss, hc1]
          rw [List.take_length] at f6
          exact hq _ _ hle2 f6

end Go.AS.C

namespace Go.AS.C
open Go Go.Proofs
set_option linter.unusedVariables false
set_option linter.unusedSimpArgs false
set_option maxRecDepth 10000

theorem crc_tail_spec {A : AH} {s : BitVec 32} {Q : Value → AH → Prop} (hq : ∀ v A', Le A A' → OwnB A.length A' v (leB s.toNat 4) → Q v A') : ACalls 0 Try.prog crc_tail [u32 s] Q A := by
  refine ACalls.of_fits mixed fits_crc_tail rfl ?_
  unfold ic_crc_tail
  have i0 : initA [u32 s] 0 = u32 s := rfl
  generalize initA [u32 s] = a at i0
  have hs := s.isLt
  have e1 : (s &&& 65535#32).toNat = s.toNat % 65536 := by
    rw [BitVec.toNat_and]
    exact Nat.and_two_pow_sub_one_eq_mod s.toNat 16
  have e2 : (s >>> 16).toNat = s.toNat / 65536 := by
    rw [BitVec.toNat_ushiftRight, Nat.shiftRight_eq_div_pow]
  simp only [W_seq, W_ops, W_draw, W_block, W_skip, W_exit, W_ret, sq_normal, sq_ret, sq_exit, W_condv, condW_true, condW_false, thenA_normal, thenA_ret, thenA_exit, if_true, if_false, Bool.false_eq_true, decide_eq_true_eq, inBlockA_normal, inBlockA_ret, inBlockA_same, inBlockA_other, noGotoA_normal, noGotoA_ret, noGotoA_exit, Wops_nil, Wops_cons, Wops_le, Wops_guard, Wops_guardle, ok1_some, okV_some, kont_at, kontL_at, gdB_true, gdB_false, decide_true, decide_false, ev_tmp, ev_const, ev_func, ev_global, put_some, put_none, upd_same, upd_at, gd_bt, gd_bf, Bool.not_true, Bool.not_false, pick_true, pick_false, pick_b, not_b, W1_mov, W1_pick, W1_new, W1_box, W1_build, W1_lit, W1_load1, W1_loadn, W1_store, W1_nilc, W1_bin, W1_un, W1_conv, W1_b2s, W1_s2b, W1_field1, W1_fieldn, W1_faddr, W1_iaddr, W1_iarr, W1_idxs, W1_idxa1, W1_idxan, W1_sls, W1_sll, W1_sla, W1_mk, W1_ext, W1_fn, W1_ifc, W1_lens, W1_lenc, W1_app, W1_apps, W1_copy, W1_mn, W1_mx, W1_isnil, W1_strc, W1_beq, W1_mks, W1_capn, W1_appz, W1_eqagg, W1_call, W1_calld, callD_func, List.nil_append, List.append_nil, List.map_cons, List.map_nil, Option.map_some, Option.map_none, reduceIte, Option.some.injEq, exists_eq_left', Nat.reduceBEq, iv_ii, postA_ret, postA_normal, resVs_nil, resVs_tmp, resVs_one, resVs_many, Option.bind_some, tupleOf, Int.toNat_natCast, true_and, and_true, Nat.reduceEqDiff, RdOk_nil, RdOk_refl, rd_load1, rd_loadn, rd_b2s, rd_sll, rd_sla, rd_call, rd_calld, rd_new, rd_box, rd_lit, rd_store, rd_s2b, rd_mk, rd_app, rd_apps, rd_appz, rd_mks, rd_copy, blk_ptr, blk_sl, blk_nil, List.cons_append, i0, h65535, binA_and32, conv_i64_u32]
  refine num_Fix_own (w := 2) (by omega) (by omega) (by omega) (by omega) fun lo A1 hle1 ho1 => ?_
  simp only [W_seq, W_ops, W_draw, W_block, W_skip, W_exit, W_ret, sq_normal, sq_ret, sq_exit, W_condv, condW_true, condW_false, thenA_normal, thenA_ret, thenA_exit, if_true, if_false, Bool.false_eq_true, decide_eq_true_eq, inBlockA_normal, inBlockA_ret, inBlockA_same, inBlockA_other, noGotoA_normal, noGotoA_ret, noGotoA_exit, Wops_nil, Wops_cons, Wops_le, Wops_guard, Wops_guardle, ok1_some, okV_some, kont_at, kontL_at, gdB_true, gdB_false, decide_true, decide_false, ev_tmp, ev_const, ev_func, ev_global, put_some, put_none, upd_same, upd_at, gd_bt, gd_bf, Bool.not_true, Bool.not_false, pick_true, pick_false, pick_b, not_b, W1_mov, W1_pick, W1_new, W1_box, W1_build, W1_lit, W1_load1, W1_loadn, W1_store, W1_nilc, W1_bin, W1_un, W1_conv, W1_b2s, W1_s2b, W1_field1, W1_fieldn, W1_faddr, W1_iaddr, W1_iarr, W1_idxs, W1_idxa1, W1_idxan, W1_sls, W1_sll, W1_sla, W1_mk, W1_ext, W1_fn, W1_ifc, W1_lens, W1_lenc, W1_app, W1_apps, W1_copy, W1_mn, W1_mx, W1_isnil, W1_strc, W1_beq, W1_mks, W1_capn, W1_appz, W1_eqagg, W1_call, W1_calld, callD_func, List.nil_append, List.append_nil, List.map_cons, List.map_nil, Option.map_some, Option.map_none, reduceIte, Option.some.injEq, exists_eq_left', Nat.reduceBEq, iv_ii, postA_ret, postA_normal, resVs_nil, resVs_tmp, resVs_one, resVs_many, Option.bind_some, tupleOf, Int.toNat_natCast, true_and, and_true, Nat.reduceEqDiff, RdOk_nil, RdOk_refl, rd_load1, rd_loadn, rd_b2s, rd_sll, rd_sla, rd_call, rd_calld, rd_new, rd_box, rd_lit, rd_store, rd_s2b, rd_mk, rd_app, rd_apps, rd_appz, rd_mks, rd_copy, blk_ptr, blk_sl, blk_nil, List.cons_append, i0, ext0, ext1, shr16, conv_i64_u32]
  refine num_Fix_own (w := 2) (by omega) (by omega) (by omega) (by omega) fun hi A2 hle2 ho2 => ?_
  obtain ⟨p1, c1, hs1, _⟩ := ho1.byt.shape
  obtain ⟨p2, c2, hs2, _⟩ := ho2.byt.shape
  have hlit := lit1 (A := A2) (z := .slice none 0 0) (len := 2) (ps := [(0, 1, lo), (1, 1, hi)]) [lo, hi] rfl rfl (by
    intro x hx
    simp only [List.mem_cons, List.not_mem_nil, or_false] at hx
    rcases hx with rfl | rfl
    · rw [hs1]; exact one1_sl _ _ _
    · rw [hs2]; exact one1_sl _ _ _)
  simp only [W_seq, W_ops, W_draw, W_block, W_skip, W_exit, W_ret, sq_normal, sq_ret, sq_exit, W_condv, condW_true, condW_false, thenA_normal, thenA_ret, thenA_exit, if_true, if_false, Bool.false_eq_true, decide_eq_true_eq, inBlockA_normal, inBlockA_ret, inBlockA_same, inBlockA_other, noGotoA_normal, noGotoA_ret, noGotoA_exit, Wops_nil, Wops_cons, Wops_le, Wops_guard, Wops_guardle, ok1_some, okV_some, kont_at, kontL_at, gdB_true, gdB_false, decide_true, decide_false, ev_tmp, ev_const, ev_func, ev_global, put_some, put_none, upd_same, upd_at, gd_bt, gd_bf, Bool.not_true, Bool.not_false, pick_true, pick_false, pick_b, not_b, W1_mov, W1_pick, W1_new, W1_box, W1_build, W1_lit, W1_load1, W1_loadn, W1_store, W1_nilc, W1_bin, W1_un, W1_conv, W1_b2s, W1_s2b, W1_field1, W1_fieldn, W1_faddr, W1_iaddr, W1_iarr, W1_idxs, W1_idxa1, W1_idxan, W1_sls, W1_sll, W1_sla, W1_mk, W1_ext, W1_fn, W1_ifc, W1_lens, W1_lenc, W1_app, W1_apps, W1_copy, W1_mn, W1_mx, W1_isnil, W1_strc, W1_beq, W1_mks, W1_capn, W1_appz, W1_eqagg, W1_call, W1_calld, callD_func, List.nil_append, List.append_nil, List.map_cons, List.map_nil, Option.map_some, Option.map_none, reduceIte, Option.some.injEq, exists_eq_left', Nat.reduceBEq, iv_ii, postA_ret, postA_normal, resVs_nil, resVs_tmp, resVs_one, resVs_many, Option.bind_some, tupleOf, Int.toNat_natCast, true_and, and_true, Nat.reduceEqDiff, RdOk_nil, RdOk_refl, rd_load1, rd_loadn, rd_b2s, rd_sll, rd_sla, rd_call, rd_calld, rd_new, rd_box, rd_lit, rd_store, rd_s2b, rd_mk, rd_app, rd_apps, rd_appz, rd_mks, rd_copy, blk_ptr, blk_sl, blk_nil, List.cons_append, ext0, ext1, hlit]
  have hle3 : Le A2 (A2 ++ [.row [lo, hi] .own 1 true]) := .push _ _
  refine slices_Concat_spec (vs := [lo, hi]) (bss := [leB (s &&& 65535#32).toNat 2, leB (s >>> 16).toNat 2]) ?_ rfl ?_ ?_ ?_ ?_
  · exact ⟨rfl, .inr (.inr ⟨A2.length, 0, 2, [lo, hi], .own, true, rfl, Nat.le_refl _, get_last _ _, by simp, by simp, fun j _ => by rw [Nat.zero_add]⟩)⟩
  · intro j x bs hx hb
    match j with
    | 0 => simp only [List.getElem?_cons_zero, Option.some.injEq] at hx hb; subst hx hb; exact (ho1.byt.le hle2).le hle3
    | 1 => simp only [List.getElem?_cons_succ, List.getElem?_cons_zero, Option.some.injEq] at hx hb; subst hx hb; exact ho2.byt.le hle3
    | j + 2 => simp at hx
  · simp [leB_length]
  · simp
  · intro v A' hle ho
    simp only [W_seq, W_ops, W_draw, W_block, W_skip, W_exit, W_ret, sq_normal, sq_ret, sq_exit, W_condv, condW_true, condW_false, thenA_normal, thenA_ret, thenA_exit, if_true, if_false, Bool.false_eq_true, decide_eq_true_eq, inBlockA_normal, inBlockA_ret, inBlockA_same, inBlockA_other, noGotoA_normal, noGotoA_ret, noGotoA_exit, Wops_nil, Wops_cons, Wops_le, Wops_guard, Wops_guardle, ok1_some, okV_some, kont_at, kontL_at, gdB_true, gdB_false, decide_true, decide_false, ev_tmp, ev_const, ev_func, ev_global, put_some, put_none, upd_same, upd_at, gd_bt, gd_bf, Bool.not_true, Bool.not_false, pick_true, pick_false, pick_b, not_b, W1_mov, W1_pick, W1_new, W1_box, W1_build, W1_lit, W1_load1, W1_loadn, W1_store, W1_nilc, W1_bin, W1_un, W1_conv, W1_b2s, W1_s2b, W1_field1, W1_fieldn, W1_faddr, W1_iaddr, W1_iarr, W1_idxs, W1_idxa1, W1_idxan, W1_sls, W1_sll, W1_sla, W1_mk, W1_ext, W1_fn, W1_ifc, W1_lens, W1_lenc, W1_app, W1_apps, W1_copy, W1_mn, W1_mx, W1_isnil, W1_strc, W1_beq, W1_mks, W1_capn, W1_appz, W1_eqagg, W1_call, W1_calld, callD_func, List.nil_append, List.append_nil, List.map_cons, List.map_nil, Option.map_some, Option.map_none, reduceIte, Option.some.injEq, exists_eq_left', Nat.reduceBEq, iv_ii, postA_ret, postA_normal, resVs_nil, resVs_tmp, resVs_one, resVs_many, Option.bind_some, tupleOf, Int.toNat_natCast, true_and, and_true, Nat.reduceEqDiff, RdOk_nil, RdOk_refl, rd_load1, rd_loadn, rd_b2s, rd_sll, rd_sla, rd_call, rd_calld, rd_new, rd_box, rd_lit, rd_store, rd_s2b, rd_mk, rd_app, rd_apps, rd_appz, rd_mks, rd_copy, blk_ptr, blk_sl, blk_nil, List.cons_append]
    refine hq _ _ (((hle1.trans hle2).trans hle3).trans hle) ?_
    have e : [leB (s &&& 65535#32).toNat 2, leB (s >>> 16).toNat 2].flatten = leB s.toNat 4 := by
      rw [← leB4]; simp
    rw [e] at ho
    exact OwnS.mono ho (((hle1.trans hle2).trans hle3).len)

theorem crc_Seal_spec {A : AH} {v : Value} {bs : List UInt8} {Q : Value → AH → Prop} (hv : Byt A v bs) (hl : bs.length ≤ 2 ^ 39) (hq : ∀ v A', Le A A' → OwnB A.length A' v (sealB bs) → Q v A') :
    ACalls 0 Try.prog crc_Seal [v] Q A := by
  refine ACalls.of_fits mixed fits_crc_Seal rfl ?_
  unfold ic_crc_Seal
  have i0 : initA [v] 0 = v := rfl
  generalize initA [v] = a at i0
  simp only [W_seq, W_ops, W_draw, W_block, W_skip, W_exit, W_ret, sq_normal, sq_ret, sq_exit, W_condv, condW_true, condW_false, thenA_normal, thenA_ret, thenA_exit, if_true, if_false, Bool.false_eq_true, decide_eq_true_eq, inBlockA_normal, inBlockA_ret, inBlockA_same, inBlockA_other, noGotoA_normal, noGotoA_ret, noGotoA_exit, Wops_nil, Wops_cons, Wops_le, Wops_guard, Wops_guardle, ok1_some, okV_some, kont_at, kontL_at, gdB_true, gdB_false, decide_true, decide_false, ev_tmp, ev_const, ev_func, ev_global, put_some, put_none, upd_same, upd_at, gd_bt, gd_bf, Bool.not_true, Bool.not_false, pick_true, pick_false, pick_b, not_b, W1_mov, W1_pick, W1_new, W1_box, W1_build, W1_lit, W1_load1, W1_loadn, W1_store, W1_nilc, W1_bin, W1_un, W1_conv, W1_b2s, W1_s2b, W1_field1, W1_fieldn, W1_faddr, W1_iaddr, W1_iarr, W1_idxs, W1_idxa1, W1_idxan, W1_sls, W1_sll, W1_sla, W1_mk, W1_ext, W1_fn, W1_ifc, W1_lens, W1_lenc, W1_app, W1_apps, W1_copy, W1_mn, W1_mx, W1_isnil, W1_strc, W1_beq, W1_mks, W1_capn, W1_appz, W1_eqagg, W1_call, W1_calld, callD_func, List.nil_append, List.append_nil, List.map_cons, List.map_nil, Option.map_some, Option.map_none, reduceIte, Option.some.injEq, exists_eq_left', Nat.reduceBEq, iv_ii, postA_ret, postA_normal, resVs_nil, resVs_tmp, resVs_one, resVs_many, Option.bind_some, tupleOf, Int.toNat_natCast, true_and, and_true, Nat.reduceEqDiff, RdOk_nil, RdOk_refl, rd_load1, rd_loadn, rd_b2s, rd_sll, rd_sla, rd_call, rd_calld, rd_new, rd_box, rd_lit, rd_store, rd_s2b, rd_mk, rd_app, rd_apps, rd_appz, rd_mks, rd_copy, blk_ptr, blk_sl, blk_nil, List.cons_append, i0]
  refine crc_Sum_spec hv (by omega) ?_
  simp only [W_seq, W_ops, W_draw, W_block, W_skip, W_exit, W_ret, sq_normal, sq_ret, sq_exit, W_condv, condW_true, condW_false, thenA_normal, thenA_ret, thenA_exit, if_true, if_false, Bool.false_eq_true, decide_eq_true_eq, inBlockA_normal, inBlockA_ret, inBlockA_same, inBlockA_other, noGotoA_normal, noGotoA_ret, noGotoA_exit, Wops_nil, Wops_cons, Wops_le, Wops_guard, Wops_guardle, ok1_some, okV_some, kont_at, kontL_at, gdB_true, gdB_false, decide_true, decide_false, ev_tmp, ev_const, ev_func, ev_global, put_some, put_none, upd_same, upd_at, gd_bt, gd_bf, Bool.not_true, Bool.not_false, pick_true, pick_false, pick_b, not_b, W1_mov, W1_pick, W1_new, W1_box, W1_build, W1_lit, W1_load1, W1_loadn, W1_store, W1_nilc, W1_bin, W1_un, W1_conv, W1_b2s, W1_s2b, W1_field1, W1_fieldn, W1_faddr, W1_iaddr, W1_iarr, W1_idxs, W1_idxa1, W1_idxan, W1_sls, W1_sll, W1_sla, W1_mk, W1_ext, W1_fn, W1_ifc, W1_lens, W1_lenc, W1_app, W1_apps, W1_copy, W1_mn, W1_mx, W1_isnil, W1_strc, W1_beq, W1_mks, W1_capn, W1_appz, W1_eqagg, W1_call, W1_calld, callD_func, List.nil_append, List.append_nil, List.map_cons, List.map_nil, Option.map_some, Option.map_none, reduceIte, Option.some.injEq, exists_eq_left', Nat.reduceBEq, iv_ii, postA_ret, postA_normal, resVs_nil, resVs_tmp, resVs_one, resVs_many, Option.bind_some, tupleOf, Int.toNat_natCast, true_and, and_true, Nat.reduceEqDiff, RdOk_nil, RdOk_refl, rd_load1, rd_loadn, rd_b2s, rd_sll, rd_sla, rd_call, rd_calld, rd_new, rd_box, rd_lit, rd_store, rd_s2b, rd_mk, rd_app, rd_apps, rd_appz, rd_mks, rd_copy, blk_ptr, blk_sl, blk_nil, List.cons_append]
  refine crc_tail_spec fun t A1 hle1 ho1 => ?_
  obtain ⟨p1, c1, hs1, _⟩ := ho1.byt.shape
  obtain ⟨p2, c2, hs2, _⟩ := hv.shape
  have hlit := lit1 (A := A1) (z := .slice none 0 0) (len := 2) (ps := [(0, 1, v), (1, 1, t)]) [v, t] rfl rfl (by
    intro x hx
    simp only [List.mem_cons, List.not_mem_nil, or_false] at hx
    rcases hx with rfl | rfl
    · rw [hs2]; exact one1_sl _ _ _
    · rw [hs1]; exact one1_sl _ _ _)
  simp only [W_seq, W_ops, W_draw, W_block, W_skip, W_exit, W_ret, sq_normal, sq_ret, sq_exit, W_condv, condW_true, condW_false, thenA_normal, thenA_ret, thenA_exit, if_true, if_false, Bool.false_eq_true, decide_eq_true_eq, inBlockA_normal, inBlockA_ret, inBlockA_same, inBlockA_other, noGotoA_normal, noGotoA_ret, noGotoA_exit, Wops_nil, Wops_cons, Wops_le, Wops_guard, Wops_guardle, ok1_some, okV_some, kont_at, kontL_at, gdB_true, gdB_false, decide_true, decide_false, ev_tmp, ev_const, ev_func, ev_global, put_some, put_none, upd_same, upd_at, gd_bt, gd_bf, Bool.not_true, Bool.not_false, pick_true, pick_false, pick_b, not_b, W1_mov, W1_pick, W1_new, W1_box, W1_build, W1_lit, W1_load1, W1_loadn, W1_store, W1_nilc, W1_bin, W1_un, W1_conv, W1_b2s, W1_s2b, W1_field1, W1_fieldn, W1_faddr, W1_iaddr, W1_iarr, W1_idxs, W1_idxa1, W1_idxan, W1_sls, W1_sll, W1_sla, W1_mk, W1_ext, W1_fn, W1_ifc, W1_lens, W1_lenc, W1_app, W1_apps, W1_copy, W1_mn, W1_mx, W1_isnil, W1_strc, W1_beq, W1_mks, W1_capn, W1_appz, W1_eqagg, W1_call, W1_calld, callD_func, List.nil_append, List.append_nil, List.map_cons, List.map_nil, Option.map_some, Option.map_none, reduceIte, Option.some.injEq, exists_eq_left', Nat.reduceBEq, iv_ii, postA_ret, postA_normal, resVs_nil, resVs_tmp, resVs_one, resVs_many, Option.bind_some, tupleOf, Int.toNat_natCast, true_and, and_true, Nat.reduceEqDiff, RdOk_nil, RdOk_refl, rd_load1, rd_loadn, rd_b2s, rd_sll, rd_sla, rd_call, rd_calld, rd_new, rd_box, rd_lit, rd_store, rd_s2b, rd_mk, rd_app, rd_apps, rd_appz, rd_mks, rd_copy, blk_ptr, blk_sl, blk_nil, List.cons_append, hlit]
  have hle3 : Le A1 (A1 ++ [.row [v, t] .own 1 true]) := .push _ _
  refine slices_Concat_spec (vs := [v, t]) (bss := [bs, leB (more 0#32 bs).toNat 4]) ?_ rfl ?_ ?_ ?_ ?_
  · exact ⟨rfl, .inr (.inr ⟨A1.length, 0, 2, [v, t], .own, true, rfl, Nat.le_refl _, get_last _ _, by simp, by simp, fun j _ => by rw [Nat.zero_add]⟩)⟩
  · intro j x bs hx hb
    match j with
    | 0 => simp only [List.getElem?_cons_zero, Option.some.injEq] at hx hb; subst hx hb; exact (hv.le hle1).le hle3
    | 1 => simp only [List.getElem?_cons_succ, List.getElem?_cons_zero, Option.some.injEq] at hx hb; subst hx hb; exact ho1.byt.le hle3
    | j + 2 => simp at hx
  · simp [leB_length]; omega
  · simp
  · intro u A' hle ho
    simp only [W_seq, W_ops, W_draw, W_block, W_skip, W_exit, W_ret, sq_normal, sq_ret, sq_exit, W_condv, condW_true, condW_false, thenA_normal, thenA_ret, thenA_exit, if_true, if_false, Bool.false_eq_true, decide_eq_true_eq, inBlockA_normal, inBlockA_ret, inBlockA_same, inBlockA_other, noGotoA_normal, noGotoA_ret, noGotoA_exit, Wops_nil, Wops_cons, Wops_le, Wops_guard, Wops_guardle, ok1_some, okV_some, kont_at, kontL_at, gdB_true, gdB_false, decide_true, decide_false, ev_tmp, ev_const, ev_func, ev_global, put_some, put_none, upd_same, upd_at, gd_bt, gd_bf, Bool.not_true, Bool.not_false, pick_true, pick_false, pick_b, not_b, W1_mov, W1_pick, W1_new, W1_box, W1_build, W1_lit, W1_load1, W1_loadn, W1_store, W1_nilc, W1_bin, W1_un, W1_conv, W1_b2s, W1_s2b, W1_field1, W1_fieldn, W1_faddr, W1_iaddr, W1_iarr, W1_idxs, W1_idxa1, W1_idxan, W1_sls, W1_sll, W1_sla, W1_mk, W1_ext, W1_fn, W1_ifc, W1_lens, W1_lenc, W1_app, W1_apps, W1_copy, W1_mn, W1_mx, W1_isnil, W1_strc, W1_beq, W1_mks, W1_capn, W1_appz, W1_eqagg, W1_call, W1_calld, callD_func, List.nil_append, List.append_nil, List.map_cons, List.map_nil, Option.map_some, Option.map_none, reduceIte, Option.some.injEq, exists_eq_left', Nat.reduceBEq, iv_ii, postA_ret, postA_normal, resVs_nil, resVs_tmp, resVs_one, resVs_many, Option.bind_some, tupleOf, Int.toNat_natCast, true_and, and_true, Nat.reduceEqDiff, RdOk_nil, RdOk_refl, rd_load1, rd_loadn, rd_b2s, rd_sll, rd_sla, rd_call, rd_calld, rd_new, rd_box, rd_lit, rd_store, rd_s2b, rd_mk, rd_app, rd_apps, rd_appz, rd_mks, rd_copy, blk_ptr, blk_sl, blk_nil, List.cons_append]
    refine hq _ _ ((hle1.trans hle3).trans hle) ?_
    have e : [bs, leB (more 0#32 bs).toNat 4].flatten = sealB bs := by
      simp [sealB]
    rw [e] at ho
    exact OwnS.mono ho ((hle1.trans hle3).len)

end Go.AS.C

namespace Go.AS.C
open Go Go.Proofs
set_option linter.unusedVariables false
set_option linter.unusedSimpArgs false
set_option maxRecDepth 10000

theorem slices_Equal_spec {A : AH} {u v : Value} {xs ys : List UInt8} {Q : Value → AH → Prop} (hu : Byt A u xs) (hv : Byt A v ys) (hl : xs.length < 2 ^ 62) (hq : Q (.bool (xs == ys)) A) :
    ACalls 0 Try.prog slices_Equal_byte_byte [u, v] Q A := by
  refine ACalls.of_fits mixed fits_slices_Equal_byte_byte rfl ?_
  unfold ic_slices_Equal_byte_byte
  have i0 : initA [u, v] 0 = u := rfl
  have i1 : initA [u, v] 1 = v := rfl
  generalize initA [u, v] = a at i0 i1
  by_cases hlen : xs.length = ys.length
  · have c0 : (((xs.length : Nat) : Int) != ((ys.length : Nat) : Int)) = false := by simp [hlen]
    simp only [W_seq, W_ops, W_draw, W_block, W_skip, W_exit, W_ret, sq_normal, sq_ret, sq_exit, W_condv, condW_true, condW_false, thenA_normal, thenA_ret, thenA_exit, if_true, if_false, Bool.false_eq_true, decide_eq_true_eq, inBlockA_normal, inBlockA_ret, inBlockA_same, inBlockA_other, noGotoA_normal, noGotoA_ret, noGotoA_exit, Wops_nil, Wops_cons, Wops_le, Wops_guard, Wops_guardle, ok1_some, okV_some, kont_at, kontL_at, gdB_true, gdB_false, decide_true, decide_false, ev_tmp, ev_const, ev_func, ev_global, put_some, put_none, upd_same, upd_at, gd_bt, gd_bf, Bool.not_true, Bool.not_false, pick_true, pick_false, pick_b, not_b, W1_mov, W1_pick, W1_new, W1_box, W1_build, W1_lit, W1_load1, W1_loadn, W1_store, W1_nilc, W1_bin, W1_un, W1_conv, W1_b2s, W1_s2b, W1_field1, W1_fieldn, W1_faddr, W1_iaddr, W1_iarr, W1_idxs, W1_idxa1, W1_idxan, W1_sls, W1_sll, W1_sla, W1_mk, W1_ext, W1_fn, W1_ifc, W1_lens, W1_lenc, W1_app, W1_apps, W1_copy, W1_mn, W1_mx, W1_isnil, W1_strc, W1_beq, W1_mks, W1_capn, W1_appz, W1_eqagg, W1_call, W1_calld, callD_func, List.nil_append, List.append_nil, List.map_cons, List.map_nil, Option.map_some, Option.map_none, reduceIte, Option.some.injEq, exists_eq_left', Nat.reduceBEq, iv_ii, postA_ret, postA_normal, resVs_nil, resVs_tmp, resVs_one, resVs_many, Option.bind_some, tupleOf, Int.toNat_natCast, true_and, and_true, Nat.reduceEqDiff, RdOk_nil, RdOk_refl, rd_load1, rd_loadn, rd_b2s, rd_sll, rd_sla, rd_call, rd_calld, rd_new, rd_box, rd_lit, rd_store, rd_s2b, rd_mk, rd_app, rd_apps, rd_appz, rd_mks, rd_copy, blk_ptr, blk_sl, blk_nil, List.cons_append, i0, i1, hu.len, hv.len, binA_neq, c0]
    refine W_loop (fun a' A' => A' = A ∧ ∃ k : Nat, k ≤ xs.length ∧ xs.take k = ys.take k ∧ a' 0 = u ∧ a' 1 = v ∧ a' 12 = ii xs.length ∧ a' 13 = ii k) (fun a' _ => (xs.length - (iv (a' 13)).toNat)) ?_ ?_
    · refine ⟨rfl, 0, by omega, rfl, ?_⟩
      simp only [W_seq, W_ops, W_draw, W_block, W_skip, W_exit, W_ret, sq_normal, sq_ret, sq_exit, W_condv, condW_true, condW_false, thenA_normal, thenA_ret, thenA_exit, if_true, if_false, Bool.false_eq_true, decide_eq_true_eq, inBlockA_normal, inBlockA_ret, inBlockA_same, inBlockA_other, noGotoA_normal, noGotoA_ret, noGotoA_exit, Wops_nil, Wops_cons, Wops_le, Wops_guard, Wops_guardle, ok1_some, okV_some, kont_at, kontL_at, gdB_true, gdB_false, decide_true, decide_false, ev_tmp, ev_const, ev_func, ev_global, put_some, put_none, upd_same, upd_at, gd_bt, gd_bf, Bool.not_true, Bool.not_false, pick_true, pick_false, pick_b, not_b, W1_mov, W1_pick, W1_new, W1_box, W1_build, W1_lit, W1_load1, W1_loadn, W1_store, W1_nilc, W1_bin, W1_un, W1_conv, W1_b2s, W1_s2b, W1_field1, W1_fieldn, W1_faddr, W1_iaddr, W1_iarr, W1_idxs, W1_idxa1, W1_idxan, W1_sls, W1_sll, W1_sla, W1_mk, W1_ext, W1_fn, W1_ifc, W1_lens, W1_lenc, W1_app, W1_apps, W1_copy, W1_mn, W1_mx, W1_isnil, W1_strc, W1_beq, W1_mks, W1_capn, W1_appz, W1_eqagg, W1_call, W1_calld, callD_func, List.nil_append, List.append_nil, List.map_cons, List.map_nil, Option.map_some, Option.map_none, reduceIte, Option.some.injEq, exists_eq_left', Nat.reduceBEq, iv_ii, postA_ret, postA_normal, resVs_nil, resVs_tmp, resVs_one, resVs_many, Option.bind_some, tupleOf, Int.toNat_natCast, true_and, and_true, Nat.reduceEqDiff, RdOk_nil, RdOk_refl, rd_load1, rd_loadn, rd_b2s, rd_sll, rd_sla, rd_call, rd_calld, rd_new, rd_box, rd_lit, rd_store, rd_s2b, rd_mk, rd_app, rd_apps, rd_appz, rd_mks, rd_copy, blk_ptr, blk_sl, blk_nil, List.cons_append, i0, i1]
      simp
    · rintro a A' ⟨rfl, k, hk, ht, g0, g1, g12, g13⟩
      rcases Nat.lt_or_ge k xs.length with hlt | hge
      · have hc1 : ((k : Int) < (xs.length : Int)) = True := by simp; omega
        obtain ⟨x, hx⟩ : ∃ b, xs[k]? = some b := ⟨_, List.getElem?_eq_getElem (by omega)⟩
        obtain ⟨y, hy⟩ : ∃ b, ys[k]? = some b := ⟨_, List.getElem?_eq_getElem (by omega)⟩
        obtain ⟨p, hp1, hp2⟩ := hu.at1 hx
        obtain ⟨q, hq1, hq2⟩ := hv.at1 hy
        by_cases hxy : x = y
        · have c1 : (x != y) = false := by simp [hxy]
          simp only [W_seq, W_ops, W_draw, W_block, W_skip, W_exit, W_ret, sq_normal, sq_ret, sq_exit, W_condv, condW_true, condW_false, thenA_normal, thenA_ret, thenA_exit, if_true, if_false, Bool.false_eq_true, decide_eq_true_eq, inBlockA_normal, inBlockA_ret, inBlockA_same, inBlockA_other, noGotoA_normal, noGotoA_ret, noGotoA_exit, Wops_nil, Wops_cons, Wops_le, Wops_guard, Wops_guardle, ok1_some, okV_some, kont_at, kontL_at, gdB_true, gdB_false, decide_true, decide_false, ev_tmp, ev_const, ev_func, ev_global, put_some, put_none, upd_same, upd_at, gd_bt, gd_bf, Bool.not_true, Bool.not_false, pick_true, pick_false, pick_b, not_b, W1_mov, W1_pick, W1_new, W1_box, W1_build, W1_lit, W1_load1, W1_loadn, W1_store, W1_nilc, W1_bin, W1_un, W1_conv, W1_b2s, W1_s2b, W1_field1, W1_fieldn, W1_faddr, W1_iaddr, W1_iarr, W1_idxs, W1_idxa1, W1_idxan, W1_sls, W1_sll, W1_sla, W1_mk, W1_ext, W1_fn, W1_ifc, W1_lens, W1_lenc, W1_app, W1_apps, W1_copy, W1_mn, W1_mx, W1_isnil, W1_strc, W1_beq, W1_mks, W1_capn, W1_appz, W1_eqagg, W1_call, W1_calld, callD_func, List.nil_append, List.append_nil, List.map_cons, List.map_nil, Option.map_some, Option.map_none, reduceIte, Option.some.injEq, exists_eq_left', Nat.reduceBEq, iv_ii, postA_ret, postA_normal, resVs_nil, resVs_tmp, resVs_one, resVs_many, Option.bind_some, tupleOf, Int.toNat_natCast, true_and, and_true, Nat.reduceEqDiff, RdOk_nil, RdOk_refl, rd_load1, rd_loadn, rd_b2s, rd_sll, rd_sla, rd_call, rd_calld, rd_new, rd_box, rd_lit, rd_store, rd_s2b, rd_mk, rd_app, rd_apps, rd_appz, rd_mks, rd_copy, blk_ptr, blk_sl, blk_nil, List.cons_append, g0, g1, g12, g13, binA_lss, hc1, hp1, hp2, hq1, hq2, binA_ne8, c1, binA_add1 k (by omega)]
          refine ⟨⟨k + 1, by omega, ?_, rfl⟩, by omega⟩
          rw [List.take_add_one, List.take_add_one, hx, hy, ht, hxy]
        · have c1 : (x != y) = true := by simp [hxy]
          simp only [W_seq, W_ops, W_draw, W_block, W_skip, W_exit, W_ret, sq_normal, sq_ret, sq_exit, W_condv, condW_true, condW_false, thenA_normal, thenA_ret, thenA_exit, if_true, if_false, Bool.false_eq_true, decide_eq_true_eq, inBlockA_normal, inBlockA_ret, inBlockA_same, inBlockA_other, noGotoA_normal, noGotoA_ret, noGotoA_exit, Wops_nil, Wops_cons, Wops_le, Wops_guard, Wops_guardle, ok1_some, okV_some, kont_at, kontL_at, gdB_true, gdB_false, decide_true, decide_false, ev_tmp, ev_const, ev_func, ev_global, put_some, put_none, upd_same, upd_at, gd_bt, gd_bf, Bool.not_true, Bool.not_false, pick_true, pick_false, pick_b, not_b, W1_mov, W1_pick, W1_new, W1_box, W1_build, W1_lit, W1_load1, W1_loadn, W1_store, W1_nilc, W1_bin, W1_un, W1_conv, W1_b2s, W1_s2b, W1_field1, W1_fieldn, W1_faddr, W1_iaddr, W1_iarr, W1_idxs, W1_idxa1, W1_idxan, W1_sls, W1_sll, W1_sla, W1_mk, W1_ext, W1_fn, W1_ifc, W1_lens, W1_lenc, W1_app, W1_apps, W1_copy, W1_mn, W1_mx, W1_isnil, W1_strc, W1_beq, W1_mks, W1_capn, W1_appz, W1_eqagg, W1_call, W1_calld, callD_func, List.nil_append, List.append_nil, List.map_cons, List.map_nil, Option.map_some, Option.map_none, reduceIte, Option.some.injEq, exists_eq_left', Nat.reduceBEq, iv_ii, postA_ret, postA_normal, resVs_nil, resVs_tmp, resVs_one, resVs_many, Option.bind_some, tupleOf, Int.toNat_natCast, true_and, and_true, Nat.reduceEqDiff, RdOk_nil, RdOk_refl, rd_load1, rd_loadn, rd_b2s, rd_sll, rd_sla, rd_call, rd_calld, rd_new, rd_box, rd_lit, rd_store, rd_s2b, rd_mk, rd_app, rd_apps, rd_appz, rd_mks, rd_copy, blk_ptr, blk_sl, blk_nil, List.cons_append, g0, g1, g12, g13, binA_lss, hc1, hp1, hp2, hq1, hq2, binA_ne8, c1]
          have : (xs == ys) = false := by
            rw [beq_eq_false_iff_ne]
            rintro rfl
            rw [hx] at hy
            exact hxy (Option.some.inj hy)
          rw [this] at hq
          exact hq
      · have hc1 : ((k : Int) < (xs.length : Int)) = False := by simp; omega
        simp only [W_seq, W_ops, W_draw, W_block, W_skip, W_exit, W_ret, sq_normal, sq_ret, sq_exit, W_condv, condW_true, condW_false, thenA_normal, thenA_ret, thenA_exit, if_true, if_false, Bool.false_eq_true, decide_eq_true_eq, inBlockA_normal, inBlockA_ret, inBlockA_same, inBlockA_other, noGotoA_normal, noGotoA_ret, noGotoA_exit, Wops_nil, Wops_cons, Wops_le, Wops_guard, Wops_guardle, ok1_some, okV_some, kont_at, kontL_at, gdB_true, gdB_false, decide_true, decide_false, ev_tmp, ev_const, ev_func, ev_global, put_some, put_none, upd_same, upd_at, gd_bt, gd_bf, Bool.not_true, Bool.not_false, pick_true, pick_false, pick_b, not_b, W1_mov, W1_pick, W1_new, W1_box, W1_build, W1_lit, W1_load1, W1_loadn, W1_store, W1_nilc, W1_bin, W1_un, W1_conv, W1_b2s, W1_s2b, W1_field1, W1_fieldn, W1_faddr, W1_iaddr, W1_iarr, W1_idxs, W1_idxa1, W1_idxan, W1_sls, W1_sll, W1_sla, W1_mk, W1_ext, W1_fn, W1_ifc, W1_lens, W1_lenc, W1_app, W1_apps, W1_copy, W1_mn, W1_mx, W1_isnil, W1_strc, W1_beq, W1_mks, W1_capn, W1_appz, W1_eqagg, W1_call, W1_calld, callD_func, List.nil_append, List.append_nil, List.map_cons, List.map_nil, Option.map_some, Option.map_none, reduceIte, Option.some.injEq, exists_eq_left', Nat.reduceBEq, iv_ii, postA_ret, postA_normal, resVs_nil, resVs_tmp, resVs_one, resVs_many, Option.bind_some, tupleOf, Int.toNat_natCast, true_and, and_true, Nat.reduceEqDiff, RdOk_nil, RdOk_refl, rd_load1, rd_loadn, rd_b2s, rd_sll, rd_sla, rd_call, rd_calld, rd_new, rd_box, rd_lit, rd_store, rd_s2b, rd_mk, rd_app, rd_apps, rd_appz, rd_mks, rd_copy, blk_ptr, blk_sl, blk_nil, List.cons_append, g0, g1, g12, g13, binA_lss, hc1]
        have : (xs == ys) = true := by
          rw [beq_iff_eq]
          rw [List.take_of_length_le hge, List.take_of_length_le (by omega)] at ht
          exact ht
        rw [this] at hq
        exact hq
  · have c0 : (((xs.length : Nat) : Int) != ((ys.length : Nat) : Int)) = true := by simp; omega
    simp only [W_seq, W_ops, W_draw, W_block, W_skip, W_exit, W_ret, sq_normal, sq_ret, sq_exit, W_condv, condW_true, condW_false, thenA_normal, thenA_ret, thenA_exit, if_true, if_false, Bool.false_eq_true, decide_eq_true_eq, inBlockA_normal, inBlockA_ret, inBlockA_same, inBlockA_other, noGotoA_normal, noGotoA_ret, noGotoA_exit, Wops_nil, Wops_cons, Wops_le, Wops_guard, Wops_guardle, ok1_some, okV_some, kont_at, kontL_at, gdB_true, gdB_false, decide_true, decide_false, ev_tmp, ev_const, ev_func, ev_global, put_some, put_none, upd_same, upd_at, gd_bt, gd_bf, Bool.not_true, Bool.not_false, pick_true, pick_false, pick_b, not_b, W1_mov, W1_pick, W1_new, W1_box, W1_build, W1_lit, W1_load1, W1_loadn, W1_store, W1_nilc, W1_bin, W1_un, W1_conv, W1_b2s, W1_s2b, W1_field1, W1_fieldn, W1_faddr, W1_iaddr, W1_iarr, W1_idxs, W1_idxa1, W1_idxan, W1_sls, W1_sll, W1_sla, W1_mk, W1_ext, W1_fn, W1_ifc, W1_lens, W1_lenc, W1_app, W1_apps, W1_copy, W1_mn, W1_mx, W1_isnil, W1_strc, W1_beq, W1_mks, W1_capn, W1_appz, W1_eqagg, W1_call, W1_calld, callD_func, List.nil_append, List.append_nil, List.map_cons, List.map_nil, Option.map_some, Option.map_none, reduceIte, Option.some.injEq, exists_eq_left', Nat.reduceBEq, iv_ii, postA_ret, postA_normal, resVs_nil, resVs_tmp, resVs_one, resVs_many, Option.bind_some, tupleOf, Int.toNat_natCast, true_and, and_true, Nat.reduceEqDiff, RdOk_nil, RdOk_refl, rd_load1, rd_loadn, rd_b2s, rd_sll, rd_sla, rd_call, rd_calld, rd_new, rd_box, rd_lit, rd_store, rd_s2b, rd_mk, rd_app, rd_apps, rd_appz, rd_mks, rd_copy, blk_ptr, blk_sl, blk_nil, List.cons_append, i0, i1, hu.len, hv.len, binA_neq, c0]
    have : (xs == ys) = false := by
      rw [beq_eq_false_iff_ne]
      rintro rfl
      exact hlen rfl
    rw [this] at hq
    exact hq

end Go.AS.C

namespace Go.AS.C
open Go Go.Proofs
set_option linter.unusedVariables false
set_option linter.unusedSimpArgs false
set_option maxRecDepth 10000

theorem slices_Clone_spec {A : AH} {v : Value} {xs : List UInt8} {Q : Value → AH → Prop} (hv : Byt A v xs) (hl : xs.length ≤ 2 ^ 40) (hq : ∀ u A', Le A A' → OwnB A.length A' u xs → Q u A') :
    ACalls 0 Try.prog slices_Clone_byte_byte [v] Q A := by
  refine ACalls.of_fits mixed fits_slices_Clone_byte_byte rfl ?_
  unfold ic_slices_Clone_byte_byte
  have i0 : initA [v] 0 = v := rfl
  generalize initA [v] = a at i0
  obtain ⟨p, c, hs, hp⟩ := hv.shape
  cases p with
  | none =>
    have c1 : (if kindOf (.slice 5) v = true then sIsnil A v false else none) = some (.bool true, A) := by subst hs; rfl
    simp only [W_seq, W_ops, W_draw, W_block, W_skip, W_exit, W_ret, sq_normal, sq_ret, sq_exit, W_condv, condW_true, condW_false, thenA_normal, thenA_ret, thenA_exit, if_true, if_false, Bool.false_eq_true, decide_eq_true_eq, inBlockA_normal, inBlockA_ret, inBlockA_same, inBlockA_other, noGotoA_normal, noGotoA_ret, noGotoA_exit, Wops_nil, Wops_cons, Wops_le, Wops_guard, Wops_guardle, ok1_some, okV_some, kont_at, kontL_at, gdB_true, gdB_false, decide_true, decide_false, ev_tmp, ev_const, ev_func, ev_global, put_some, put_none, upd_same, upd_at, gd_bt, gd_bf, Bool.not_true, Bool.not_false, pick_true, pick_false, pick_b, not_b, W1_mov, W1_pick, W1_new, W1_box, W1_build, W1_lit, W1_load1, W1_loadn, W1_store, W1_nilc, W1_bin, W1_un, W1_conv, W1_b2s, W1_s2b, W1_field1, W1_fieldn, W1_faddr, W1_iaddr, W1_iarr, W1_idxs, W1_idxa1, W1_idxan, W1_sls, W1_sll, W1_sla, W1_mk, W1_ext, W1_fn, W1_ifc, W1_lens, W1_lenc, W1_app, W1_apps, W1_copy, W1_mn, W1_mx, W1_isnil, W1_strc, W1_beq, W1_mks, W1_capn, W1_appz, W1_eqagg, W1_call, W1_calld, callD_func, List.nil_append, List.append_nil, List.map_cons, List.map_nil, Option.map_some, Option.map_none, reduceIte, Option.some.injEq, exists_eq_left', Nat.reduceBEq, iv_ii, postA_ret, postA_normal, resVs_nil, resVs_tmp, resVs_one, resVs_many, Option.bind_some, tupleOf, Int.toNat_natCast, true_and, and_true, Nat.reduceEqDiff, RdOk_nil, RdOk_refl, rd_load1, rd_loadn, rd_b2s, rd_sll, rd_sla, rd_call, rd_calld, rd_new, rd_box, rd_lit, rd_store, rd_s2b, rd_mk, rd_app, rd_apps, rd_appz, rd_mks, rd_copy, blk_ptr, blk_sl, blk_nil, List.cons_append, i0, c1]
    rw [hp rfl] at hq
    exact hq _ _ (.refl _) (OwnB.nil _ _)
  | some b =>
    have c1 : (if kindOf (.slice 5) v = true then sIsnil A v false else none) = some (.bool false, A) := by subst hs; rfl
    obtain ⟨v', A', q1, q2, q3, _⟩ := app_bytes (A0 := A) (A := A ++ [.row [] .own 1 true]) (v := .slice (some ⟨A.length, 0, none⟩) 0 0) (bs := []) (.push _ _) (own_lit_none (.refl _)) (hv.le (.push _ _)) (by simp; omega)
    simp only [W_seq, W_ops, W_draw, W_block, W_skip, W_exit, W_ret, sq_normal, sq_ret, sq_exit, W_condv, condW_true, condW_false, thenA_normal, thenA_ret, thenA_exit, if_true, if_false, Bool.false_eq_true, decide_eq_true_eq, inBlockA_normal, inBlockA_ret, inBlockA_same, inBlockA_other, noGotoA_normal, noGotoA_ret, noGotoA_exit, Wops_nil, Wops_cons, Wops_le, Wops_guard, Wops_guardle, ok1_some, okV_some, kont_at, kontL_at, gdB_true, gdB_false, decide_true, decide_false, ev_tmp, ev_const, ev_func, ev_global, put_some, put_none, upd_same, upd_at, gd_bt, gd_bf, Bool.not_true, Bool.not_false, pick_true, pick_false, pick_b, not_b, W1_mov, W1_pick, W1_new, W1_box, W1_build, W1_lit, W1_load1, W1_loadn, W1_store, W1_nilc, W1_bin, W1_un, W1_conv, W1_b2s, W1_s2b, W1_field1, W1_fieldn, W1_faddr, W1_iaddr, W1_iarr, W1_idxs, W1_idxa1, W1_idxan, W1_sls, W1_sll, W1_sla, W1_mk, W1_ext, W1_fn, W1_ifc, W1_lens, W1_lenc, W1_app, W1_apps, W1_copy, W1_mn, W1_mx, W1_isnil, W1_strc, W1_beq, W1_mks, W1_capn, W1_appz, W1_eqagg, W1_call, W1_calld, callD_func, List.nil_append, List.append_nil, List.map_cons, List.map_nil, Option.map_some, Option.map_none, reduceIte, Option.some.injEq, exists_eq_left', Nat.reduceBEq, iv_ii, postA_ret, postA_normal, resVs_nil, resVs_tmp, resVs_one, resVs_many, Option.bind_some, tupleOf, Int.toNat_natCast, true_and, and_true, Nat.reduceEqDiff, RdOk_nil, RdOk_refl, rd_load1, rd_loadn, rd_b2s, rd_sll, rd_sla, rd_call, rd_calld, rd_new, rd_box, rd_lit, rd_store, rd_s2b, rd_mk, rd_app, rd_apps, rd_appz, rd_mks, rd_copy, blk_ptr, blk_sl, blk_nil, List.cons_append, i0, c1, lit_none, q1]
    exact hq _ _ q2 q3

end Go.AS.C

namespace Go.AS.C
open Go Go.Proofs
set_option linter.unusedVariables false
set_option linter.unusedSimpArgs false
set_option maxRecDepth 10000

theorem crc_Open_spec {A : AH} {v : Value} {bs : List UInt8} {Q : Value → AH → Prop} (hv : Byt A v bs) (hl : bs.length ≤ 2 ^ 39)
    (hok : ∀ x u A', openB bs = some x → Le A A' → OwnB A.length A' u x → Q (.tuple #[u, ii 0]) A') (hbad : ∀ A', openB bs = none → Le A A' → Q (.tuple #[.slice none 0 0, ii 12]) A') :
    ACalls 0 Try.prog crc_Open [v] Q A := by
  refine ACalls.of_fits mixed fits_crc_Open rfl ?_
  unfold ic_crc_Open
  have i0 : initA [v] 0 = v := rfl
  generalize initA [v] = a at i0
  rcases Nat.lt_or_ge bs.length 4 with h4 | h4
  · have c1 : ((bs.length : Int) - 4 < 0) = True := by simp; omega
    simp only [W_seq, W_ops, W_draw, W_block, W_skip, W_exit, W_ret, sq_normal, sq_ret, sq_exit, W_condv, condW_true, condW_false, thenA_normal, thenA_ret, thenA_exit, if_true, if_false, Bool.false_eq_true, decide_eq_true_eq, inBlockA_normal, inBlockA_ret, inBlockA_same, inBlockA_other, noGotoA_normal, noGotoA_ret, noGotoA_exit, Wops_nil, Wops_cons, Wops_le, Wops_guard, Wops_guardle, ok1_some, okV_some, kont_at, kontL_at, gdB_true, gdB_false, decide_true, decide_false, ev_tmp, ev_const, ev_func, ev_global, put_some, put_none, upd_same, upd_at, gd_bt, gd_bf, Bool.not_true, Bool.not_false, pick_true, pick_false, pick_b, not_b, W1_mov, W1_pick, W1_new, W1_box, W1_build, W1_lit, W1_load1, W1_loadn, W1_store, W1_nilc, W1_bin, W1_un, W1_conv, W1_b2s, W1_s2b, W1_field1, W1_fieldn, W1_faddr, W1_iaddr, W1_iarr, W1_idxs, W1_idxa1, W1_idxan, W1_sls, W1_sll, W1_sla, W1_mk, W1_ext, W1_fn, W1_ifc, W1_lens, W1_lenc, W1_app, W1_apps, W1_copy, W1_mn, W1_mx, W1_isnil, W1_strc, W1_beq, W1_mks, W1_capn, W1_appz, W1_eqagg, W1_call, W1_calld, callD_func, List.nil_append, List.append_nil, List.map_cons, List.map_nil, Option.map_some, Option.map_none, reduceIte, Option.some.injEq, exists_eq_left', Nat.reduceBEq, iv_ii, postA_ret, postA_normal, resVs_nil, resVs_tmp, resVs_one, resVs_many, Option.bind_some, tupleOf, Int.toNat_natCast, true_and, and_true, Nat.reduceEqDiff, RdOk_nil, RdOk_refl, rd_load1, rd_loadn, rd_b2s, rd_sll, rd_sla, rd_call, rd_calld, rd_new, rd_box, rd_lit, rd_store, rd_s2b, rd_mk, rd_app, rd_apps, rd_appz, rd_mks, rd_copy, blk_ptr, blk_sl, blk_nil, List.cons_append, i0, hv.len, binA_subi (bs.length : Int) 4 (by omega) (by omega), binA_lss, c1]
    refine hbad _ ?_ (.refl _)
    unfold openB
    rw [if_neg (by omega)]
  · have c1 : ((bs.length : Int) - 4 < 0) = False := by simp; omega
    have c2 : binA .sub (ii (bs.length : Int)) (ii 4) = some (ii ((bs.length - 4 : Nat) : Int)) := by
      rw [binA_subi (bs.length : Int) 4 (by omega) (by omega)]
      congr 2; omega
    have c3 : (((bs.length - 4 : Nat) : Int) < 0) = False := by simp
    obtain ⟨u1, d1, d2⟩ := hv.from (l := bs.length - 4) (by omega)
    obtain ⟨u2, d3, d4⟩ := hv.upto (k := bs.length - 4) (by omega)
    simp only [W_seq, W_ops, W_draw, W_block, W_skip, W_exit, W_ret, sq_normal, sq_ret, sq_exit, W_condv, condW_true, condW_false, thenA_normal, thenA_ret, thenA_exit, if_true, if_false, Bool.false_eq_true, decide_eq_true_eq, inBlockA_normal, inBlockA_ret, inBlockA_same, inBlockA_other, noGotoA_normal, noGotoA_ret, noGotoA_exit, Wops_nil, Wops_cons, Wops_le, Wops_guard, Wops_guardle, ok1_some, okV_some, kont_at, kontL_at, gdB_true, gdB_false, decide_true, decide_false, ev_tmp, ev_const, ev_func, ev_global, put_some, put_none, upd_same, upd_at, gd_bt, gd_bf, Bool.not_true, Bool.not_false, pick_true, pick_false, pick_b, not_b, W1_mov, W1_pick, W1_new, W1_box, W1_build, W1_lit, W1_load1, W1_loadn, W1_store, W1_nilc, W1_bin, W1_un, W1_conv, W1_b2s, W1_s2b, W1_field1, W1_fieldn, W1_faddr, W1_iaddr, W1_iarr, W1_idxs, W1_idxa1, W1_idxan, W1_sls, W1_sll, W1_sla, W1_mk, W1_ext, W1_fn, W1_ifc, W1_lens, W1_lenc, W1_app, W1_apps, W1_copy, W1_mn, W1_mx, W1_isnil, W1_strc, W1_beq, W1_mks, W1_capn, W1_appz, W1_eqagg, W1_call, W1_calld, callD_func, List.nil_append, List.append_nil, List.map_cons, List.map_nil, Option.map_some, Option.map_none, reduceIte, Option.some.injEq, exists_eq_left', Nat.reduceBEq, iv_ii, postA_ret, postA_normal, resVs_nil, resVs_tmp, resVs_one, resVs_many, Option.bind_some, tupleOf, Int.toNat_natCast, true_and, and_true, Nat.reduceEqDiff, RdOk_nil, RdOk_refl, rd_load1, rd_loadn, rd_b2s, rd_sll, rd_sla, rd_call, rd_calld, rd_new, rd_box, rd_lit, rd_store, rd_s2b, rd_mk, rd_app, rd_apps, rd_appz, rd_mks, rd_copy, blk_ptr, blk_sl, blk_nil, List.cons_append, i0, hv.len, c2, binA_lss, c3, d1, d3]
    refine crc_Sum_spec d4 (by rw [List.length_take]; omega) ?_
    simp only [W_seq, W_ops, W_draw, W_block, W_skip, W_exit, W_ret, sq_normal, sq_ret, sq_exit, W_condv, condW_true, condW_false, thenA_normal, thenA_ret, thenA_exit, if_true, if_false, Bool.false_eq_true, decide_eq_true_eq, inBlockA_normal, inBlockA_ret, inBlockA_same, inBlockA_other, noGotoA_normal, noGotoA_ret, noGotoA_exit, Wops_nil, Wops_cons, Wops_le, Wops_guard, Wops_guardle, ok1_some, okV_some, kont_at, kontL_at, gdB_true, gdB_false, decide_true, decide_false, ev_tmp, ev_const, ev_func, ev_global, put_some, put_none, upd_same, upd_at, gd_bt, gd_bf, Bool.not_true, Bool.not_false, pick_true, pick_false, pick_b, not_b, W1_mov, W1_pick, W1_new, W1_box, W1_build, W1_lit, W1_load1, W1_loadn, W1_store, W1_nilc, W1_bin, W1_un, W1_conv, W1_b2s, W1_s2b, W1_field1, W1_fieldn, W1_faddr, W1_iaddr, W1_iarr, W1_idxs, W1_idxa1, W1_idxan, W1_sls, W1_sll, W1_sla, W1_mk, W1_ext, W1_fn, W1_ifc, W1_lens, W1_lenc, W1_app, W1_apps, W1_copy, W1_mn, W1_mx, W1_isnil, W1_strc, W1_beq, W1_mks, W1_capn, W1_appz, W1_eqagg, W1_call, W1_calld, callD_func, List.nil_append, List.append_nil, List.map_cons, List.map_nil, Option.map_some, Option.map_none, reduceIte, Option.some.injEq, exists_eq_left', Nat.reduceBEq, iv_ii, postA_ret, postA_normal, resVs_nil, resVs_tmp, resVs_one, resVs_many, Option.bind_some, tupleOf, Int.toNat_natCast, true_and, and_true, Nat.reduceEqDiff, RdOk_nil, RdOk_refl, rd_load1, rd_loadn, rd_b2s, rd_sll, rd_sla, rd_call, rd_calld, rd_new, rd_box, rd_lit, rd_store, rd_s2b, rd_mk, rd_app, rd_apps, rd_appz, rd_mks, rd_copy, blk_ptr, blk_sl, blk_nil, List.cons_append]
    refine crc_tail_spec fun t A1 hle1 ho1 => ?_
    simp only [W_seq, W_ops, W_draw, W_block, W_skip, W_exit, W_ret, sq_normal, sq_ret, sq_exit, W_condv, condW_true, condW_false, thenA_normal, thenA_ret, thenA_exit, if_true, if_false, Bool.false_eq_true, decide_eq_true_eq, inBlockA_normal, inBlockA_ret, inBlockA_same, inBlockA_other, noGotoA_normal, noGotoA_ret, noGotoA_exit, Wops_nil, Wops_cons, Wops_le, Wops_guard, Wops_guardle, ok1_some, okV_some, kont_at, kontL_at, gdB_true, gdB_false, decide_true, decide_false, ev_tmp, ev_const, ev_func, ev_global, put_some, put_none, upd_same, upd_at, gd_bt, gd_bf, Bool.not_true, Bool.not_false, pick_true, pick_false, pick_b, not_b, W1_mov, W1_pick, W1_new, W1_box, W1_build, W1_lit, W1_load1, W1_loadn, W1_store, W1_nilc, W1_bin, W1_un, W1_conv, W1_b2s, W1_s2b, W1_field1, W1_fieldn, W1_faddr, W1_iaddr, W1_iarr, W1_idxs, W1_idxa1, W1_idxan, W1_sls, W1_sll, W1_sla, W1_mk, W1_ext, W1_fn, W1_ifc, W1_lens, W1_lenc, W1_app, W1_apps, W1_copy, W1_mn, W1_mx, W1_isnil, W1_strc, W1_beq, W1_mks, W1_capn, W1_appz, W1_eqagg, W1_call, W1_calld, callD_func, List.nil_append, List.append_nil, List.map_cons, List.map_nil, Option.map_some, Option.map_none, reduceIte, Option.some.injEq, exists_eq_left', Nat.reduceBEq, iv_ii, postA_ret, postA_normal, resVs_nil, resVs_tmp, resVs_one, resVs_many, Option.bind_some, tupleOf, Int.toNat_natCast, true_and, and_true, Nat.reduceEqDiff, RdOk_nil, RdOk_refl, rd_load1, rd_loadn, rd_b2s, rd_sll, rd_sla, rd_call, rd_calld, rd_new, rd_box, rd_lit, rd_store, rd_s2b, rd_mk, rd_app, rd_apps, rd_appz, rd_mks, rd_copy, blk_ptr, blk_sl, blk_nil, List.cons_append]
    refine ⟨hle1.rd _, ?_⟩
    refine slices_Equal_spec (d2.le hle1) ho1.byt (by rw [List.length_drop]; omega) ?_
    by_cases he : bs.drop (bs.length - 4) = leB (more 0#32 (bs.take (bs.length - 4))).toNat 4
    · have c4 : (bs.drop (bs.length - 4) == leB (more 0#32 (bs.take (bs.length - 4))).toNat 4) = true := by simp [he]
      obtain ⟨u3, d5, d6⟩ := (hv.le hle1).upto (k := bs.length - 4) (by omega)
      simp only [W_seq, W_ops, W_draw, W_block, W_skip, W_exit, W_ret, sq_normal, sq_ret, sq_exit, W_condv, condW_true, condW_false, thenA_normal, thenA_ret, thenA_exit, if_true, if_false, Bool.false_eq_true, decide_eq_true_eq, inBlockA_normal, inBlockA_ret, inBlockA_same, inBlockA_other, noGotoA_normal, noGotoA_ret, noGotoA_exit, Wops_nil, Wops_cons, Wops_le, Wops_guard, Wops_guardle, ok1_some, okV_some, kont_at, kontL_at, gdB_true, gdB_false, decide_true, decide_false, ev_tmp, ev_const, ev_func, ev_global, put_some, put_none, upd_same, upd_at, gd_bt, gd_bf, Bool.not_true, Bool.not_false, pick_true, pick_false, pick_b, not_b, W1_mov, W1_pick, W1_new, W1_box, W1_build, W1_lit, W1_load1, W1_loadn, W1_store, W1_nilc, W1_bin, W1_un, W1_conv, W1_b2s, W1_s2b, W1_field1, W1_fieldn, W1_faddr, W1_iaddr, W1_iarr, W1_idxs, W1_idxa1, W1_idxan, W1_sls, W1_sll, W1_sla, W1_mk, W1_ext, W1_fn, W1_ifc, W1_lens, W1_lenc, W1_app, W1_apps, W1_copy, W1_mn, W1_mx, W1_isnil, W1_strc, W1_beq, W1_mks, W1_capn, W1_appz, W1_eqagg, W1_call, W1_calld, callD_func, List.nil_append, List.append_nil, List.map_cons, List.map_nil, Option.map_some, Option.map_none, reduceIte, Option.some.injEq, exists_eq_left', Nat.reduceBEq, iv_ii, postA_ret, postA_normal, resVs_nil, resVs_tmp, resVs_one, resVs_many, Option.bind_some, tupleOf, Int.toNat_natCast, true_and, and_true, Nat.reduceEqDiff, RdOk_nil, RdOk_refl, rd_load1, rd_loadn, rd_b2s, rd_sll, rd_sla, rd_call, rd_calld, rd_new, rd_box, rd_lit, rd_store, rd_s2b, rd_mk, rd_app, rd_apps, rd_appz, rd_mks, rd_copy, blk_ptr, blk_sl, blk_nil, List.cons_append, c4, i0, d5]
      refine slices_Clone_spec d6 (by rw [List.length_take]; omega) fun u A2 hle2 ho2 => ?_
      simp only [W_seq, W_ops, W_draw, W_block, W_skip, W_exit, W_ret, sq_normal, sq_ret, sq_exit, W_condv, condW_true, condW_false, thenA_normal, thenA_ret, thenA_exit, if_true, if_false, Bool.false_eq_true, decide_eq_true_eq, inBlockA_normal, inBlockA_ret, inBlockA_same, inBlockA_other, noGotoA_normal, noGotoA_ret, noGotoA_exit, Wops_nil, Wops_cons, Wops_le, Wops_guard, Wops_guardle, ok1_some, okV_some, kont_at, kontL_at, gdB_true, gdB_false, decide_true, decide_false, ev_tmp, ev_const, ev_func, ev_global, put_some, put_none, upd_same, upd_at, gd_bt, gd_bf, Bool.not_true, Bool.not_false, pick_true, pick_false, pick_b, not_b, W1_mov, W1_pick, W1_new, W1_box, W1_build, W1_lit, W1_load1, W1_loadn, W1_store, W1_nilc, W1_bin, W1_un, W1_conv, W1_b2s, W1_s2b, W1_field1, W1_fieldn, W1_faddr, W1_iaddr, W1_iarr, W1_idxs, W1_idxa1, W1_idxan, W1_sls, W1_sll, W1_sla, W1_mk, W1_ext, W1_fn, W1_ifc, W1_lens, W1_lenc, W1_app, W1_apps, W1_copy, W1_mn, W1_mx, W1_isnil, W1_strc, W1_beq, W1_mks, W1_capn, W1_appz, W1_eqagg, W1_call, W1_calld, callD_func, List.nil_append, List.append_nil, List.map_cons, List.map_nil, Option.map_some, Option.map_none, reduceIte, Option.some.injEq, exists_eq_left', Nat.reduceBEq, iv_ii, postA_ret, postA_normal, resVs_nil, resVs_tmp, resVs_one, resVs_many, Option.bind_some, tupleOf, Int.toNat_natCast, true_and, and_true, Nat.reduceEqDiff, RdOk_nil, RdOk_refl, rd_load1, rd_loadn, rd_b2s, rd_sll, rd_sla, rd_call, rd_calld, rd_new, rd_box, rd_lit, rd_store, rd_s2b, rd_mk, rd_app, rd_apps, rd_appz, rd_mks, rd_copy, blk_ptr, blk_sl, blk_nil, List.cons_append]
      refine hok _ _ _ ?_ (hle1.trans hle2) (OwnS.mono ho2 hle1.len)
      unfold openB
      rw [if_pos ⟨h4, he⟩]
    · have c4 : (bs.drop (bs.length - 4) == leB (more 0#32 (bs.take (bs.length - 4))).toNat 4) = false := by simp [he]
      simp only [W_seq, W_ops, W_draw, W_block, W_skip, W_exit, W_ret, sq_normal, sq_ret, sq_exit, W_condv, condW_true, condW_false, thenA_normal, thenA_ret, thenA_exit, if_true, if_false, Bool.false_eq_true, decide_eq_true_eq, inBlockA_normal, inBlockA_ret, inBlockA_same, inBlockA_other, noGotoA_normal, noGotoA_ret, noGotoA_exit, Wops_nil, Wops_cons, Wops_le, Wops_guard, Wops_guardle, ok1_some, okV_some, kont_at, kontL_at, gdB_true, gdB_false, decide_true, decide_false, ev_tmp, ev_const, ev_func, ev_global, put_some, put_none, upd_same, upd_at, gd_bt, gd_bf, Bool.not_true, Bool.not_false, pick_true, pick_false, pick_b, not_b, W1_mov, W1_pick, W1_new, W1_box, W1_build, W1_lit, W1_load1, W1_loadn, W1_store, W1_nilc, W1_bin, W1_un, W1_conv, W1_b2s, W1_s2b, W1_field1, W1_fieldn, W1_faddr, W1_iaddr, W1_iarr, W1_idxs, W1_idxa1, W1_idxan, W1_sls, W1_sll, W1_sla, W1_mk, W1_ext, W1_fn, W1_ifc, W1_lens, W1_lenc, W1_app, W1_apps, W1_copy, W1_mn, W1_mx, W1_isnil, W1_strc, W1_beq, W1_mks, W1_capn, W1_appz, W1_eqagg, W1_call, W1_calld, callD_func, List.nil_append, List.append_nil, List.map_cons, List.map_nil, Option.map_some, Option.map_none, reduceIte, Option.some.injEq, exists_eq_left', Nat.reduceBEq, iv_ii, postA_ret, postA_normal, resVs_nil, resVs_tmp, resVs_one, resVs_many, Option.bind_some, tupleOf, Int.toNat_natCast, true_and, and_true, Nat.reduceEqDiff, RdOk_nil, RdOk_refl, rd_load1, rd_loadn, rd_b2s, rd_sll, rd_sla, rd_call, rd_calld, rd_new, rd_box, rd_lit, rd_store, rd_s2b, rd_mk, rd_app, rd_apps, rd_appz, rd_mks, rd_copy, blk_ptr, blk_sl, blk_nil, List.cons_append, c4, i0]
      refine hbad _ ?_ hle1
      unfold openB
      rw [if_neg (fun h => he h.2)]

end Go.AS.C

namespace Go.AS.C
open Go Go.Proofs
set_option linter.unusedVariables false
set_option linter.unusedSimpArgs false
set_option maxRecDepth 10000

theorem ref_More_spec {A : AH} {v : Value} {s : BitVec 32} {bs : List UInt8} {Q : Value → AH → Prop} (hv : Byt A v bs) (hl : bs.length < 2 ^ 62) (hq : Q (u32 (more s bs)) A) : ACalls 0 Try.prog chantryref02_More [u32 s, v] Q A := by
  refine ACalls.of_fits mixed fits_chantryref02_More rfl ?_
  unfold ic_chantryref02_More
  have i0 : initA [u32 s, v] 0 = u32 s := rfl
  have i1 : initA [u32 s, v] 1 = v := rfl
  generalize initA [u32 s, v] = a at i0 i1
  simp only [W_seq, W_ops, W_draw, W_block, W_skip, W_exit, W_ret, sq_normal, sq_ret, sq_exit, W_condv, condW_true, condW_false, thenA_normal, thenA_ret, thenA_exit, if_true, if_false, Bool.false_eq_true, decide_eq_true_eq, inBlockA_normal, inBlockA_ret, inBlockA_same, inBlockA_other, noGotoA_normal, noGotoA_ret, noGotoA_exit, Wops_nil, Wops_cons, Wops_le, Wops_guard, Wops_guardle, ok1_some, okV_some, kont_at, kontL_at, gdB_true, gdB_false, decide_true, decide_false, ev_tmp, ev_const, ev_func, ev_global, put_some, put_none, upd_same, upd_at, gd_bt, gd_bf, Bool.not_true, Bool.not_false, pick_true, pick_false, pick_b, not_b, W1_mov, W1_pick, W1_new, W1_box, W1_build, W1_lit, W1_load1, W1_loadn, W1_store, W1_nilc, W1_bin, W1_un, W1_conv, W1_b2s, W1_s2b, W1_field1, W1_fieldn, W1_faddr, W1_iaddr, W1_iarr, W1_idxs, W1_idxa1, W1_idxan, W1_sls, W1_sll, W1_sla, W1_mk, W1_ext, W1_fn, W1_ifc, W1_lens, W1_lenc, W1_app, W1_apps, W1_copy, W1_mn, W1_mx, W1_isnil, W1_strc, W1_beq, W1_mks, W1_capn, W1_appz, W1_eqagg, W1_call, W1_calld, callD_func, List.nil_append, List.append_nil, List.map_cons, List.map_nil, Option.map_some, Option.map_none, reduceIte, Option.some.injEq, exists_eq_left', Nat.reduceBEq, iv_ii, postA_ret, postA_normal, resVs_nil, resVs_tmp, resVs_one, resVs_many, Option.bind_some, tupleOf, Int.toNat_natCast, true_and, and_true, Nat.reduceEqDiff, RdOk_nil, RdOk_refl, rd_load1, rd_loadn, rd_b2s, rd_sll, rd_sla, rd_call, rd_calld, rd_new, rd_box, rd_lit, rd_store, rd_s2b, rd_mk, rd_app, rd_apps, rd_appz, rd_mks, rd_copy, blk_ptr, blk_sl, blk_nil, List.cons_append, i0, i1, hones32, binA_xor32, xor_ones]
  refine W_loop (fun a' A' => A' = A ∧ ∃ k : Nat, k ≤ bs.length ∧ a' 1 = v ∧ a' 6 = ii k ∧ a' 5 = u32 ((bs.take k).foldl byte1 (~~~ s))) (fun a' _ => (bs.length - (iv (a' 6)).toNat)) ?_ ?_
  · refine ⟨rfl, 0, by omega, ?_⟩
    simp only [W_seq, W_ops, W_draw, W_block, W_skip, W_exit, W_ret, sq_normal, sq_ret, sq_exit, W_condv, condW_true, condW_false, thenA_normal, thenA_ret, thenA_exit, if_true, if_false, Bool.false_eq_true, decide_eq_true_eq, inBlockA_normal, inBlockA_ret, inBlockA_same, inBlockA_other, noGotoA_normal, noGotoA_ret, noGotoA_exit, Wops_nil, Wops_cons, Wops_le, Wops_guard, Wops_guardle, ok1_some, okV_some, kont_at, kontL_at, gdB_true, gdB_false, decide_true, decide_false, ev_tmp, ev_const, ev_func, ev_global, put_some, put_none, upd_same, upd_at, gd_bt, gd_bf, Bool.not_true, Bool.not_false, pick_true, pick_false, pick_b, not_b, W1_mov, W1_pick, W1_new, W1_box, W1_build, W1_lit, W1_load1, W1_loadn, W1_store, W1_nilc, W1_bin, W1_un, W1_conv, W1_b2s, W1_s2b, W1_field1, W1_fieldn, W1_faddr, W1_iaddr, W1_iarr, W1_idxs, W1_idxa1, W1_idxan, W1_sls, W1_sll, W1_sla, W1_mk, W1_ext, W1_fn, W1_ifc, W1_lens, W1_lenc, W1_app, W1_apps, W1_copy, W1_mn, W1_mx, W1_isnil, W1_strc, W1_beq, W1_mks, W1_capn, W1_appz, W1_eqagg, W1_call, W1_calld, callD_func, List.nil_append, List.append_nil, List.map_cons, List.map_nil, Option.map_some, Option.map_none, reduceIte, Option.some.injEq, exists_eq_left', Nat.reduceBEq, iv_ii, postA_ret, postA_normal, resVs_nil, resVs_tmp, resVs_one, resVs_many, Option.bind_some, tupleOf, Int.toNat_natCast, true_and, and_true, Nat.reduceEqDiff, RdOk_nil, RdOk_refl, rd_load1, rd_loadn, rd_b2s, rd_sll, rd_sla, rd_call, rd_calld, rd_new, rd_box, rd_lit, rd_store, rd_s2b, rd_mk, rd_app, rd_apps, rd_appz, rd_mks, rd_copy, blk_ptr, blk_sl, blk_nil, List.cons_append, i1]
    simp [u32]
  · rintro a A' ⟨rfl, k, hk, h1, h6, h5⟩
    rcases Nat.lt_or_ge k bs.length with hlt | hge
    · have hc : ((k : Int) < (bs.length : Int)) = True := by simp; omega
      obtain ⟨b, hb⟩ : ∃ b, bs[k]? = some b := ⟨_, List.getElem?_eq_getElem hlt⟩
      obtain ⟨p, hp1, hp2⟩ := hv.at1 hb
      simp only [W_seq, W_ops, W_draw, W_block, W_skip, W_exit, W_ret, sq_normal, sq_ret, sq_exit, W_condv, condW_true, condW_false, thenA_normal, thenA_ret, thenA_exit, if_true, if_false, Bool.false_eq_true, decide_eq_true_eq, inBlockA_normal, inBlockA_ret, inBlockA_same, inBlockA_other, noGotoA_normal, noGotoA_ret, noGotoA_exit, Wops_nil, Wops_cons, Wops_le, Wops_guard, Wops_guardle, ok1_some, okV_some, kont_at, kontL_at, gdB_true, gdB_false, decide_true, decide_false, ev_tmp, ev_const, ev_func, ev_global, put_some, put_none, upd_same, upd_at, gd_bt, gd_bf, Bool.not_true, Bool.not_false, pick_true, pick_false, pick_b, not_b, W1_mov, W1_pick, W1_new, W1_box, W1_build, W1_lit, W1_load1, W1_loadn, W1_store, W1_nilc, W1_bin, W1_un, W1_conv, W1_b2s, W1_s2b, W1_field1, W1_fieldn, W1_faddr, W1_iaddr, W1_iarr, W1_idxs, W1_idxa1, W1_idxan, W1_sls, W1_sll, W1_sla, W1_mk, W1_ext, W1_fn, W1_ifc, W1_lens, W1_lenc, W1_app, W1_apps, W1_copy, W1_mn, W1_mx, W1_isnil, W1_strc, W1_beq, W1_mks, W1_capn, W1_appz, W1_eqagg, W1_call, W1_calld, callD_func, List.nil_append, List.append_nil, List.map_cons, List.map_nil, Option.map_some, Option.map_none, reduceIte, Option.some.injEq, exists_eq_left', Nat.reduceBEq, iv_ii, postA_ret, postA_normal, resVs_nil, resVs_tmp, resVs_one, resVs_many, Option.bind_some, tupleOf, Int.toNat_natCast, true_and, and_true, Nat.reduceEqDiff, RdOk_nil, RdOk_refl, rd_load1, rd_loadn, rd_b2s, rd_sll, rd_sla, rd_call, rd_calld, rd_new, rd_box, rd_lit, rd_store, rd_s2b, rd_mk, rd_app, rd_apps, rd_appz, rd_mks, rd_copy, blk_ptr, blk_sl, blk_nil, List.cons_append, h1, h6, h5, hv.len, binA_lss, hc, hp1, hp2, conv_u32_by8, binA_xor32]
      generalize hc0 : List.foldl byte1 (~~~s) (List.take k bs) ^^^ BitVec.ofNat 32 b.toNat = c0
      refine W_loop (fun a' B => B = A' ∧ ∃ j : Nat, j ≤ 8 ∧ a' 1 = v ∧ a' 6 = .int .i64 k ∧ a' 7 = .int .i64 j ∧ a' 5 = u32 (bitsN j c0)) (fun a' _ => 8 - (iv (a' 7)).toNat) ?_ ?_
      · refine ⟨rfl, 0, by omega, ?_⟩
        simp only [W_seq, W_ops, W_draw, W_block, W_skip, W_exit, W_ret, sq_normal, sq_ret, sq_exit, W_condv, condW_true, condW_false, thenA_normal, thenA_ret, thenA_exit, if_true, if_false, Bool.false_eq_true, decide_eq_true_eq, inBlockA_normal, inBlockA_ret, inBlockA_same, inBlockA_other, noGotoA_normal, noGotoA_ret, noGotoA_exit, Wops_nil, Wops_cons, Wops_le, Wops_guard, Wops_guardle, ok1_some, okV_some, kont_at, kontL_at, gdB_true, gdB_false, decide_true, decide_false, ev_tmp, ev_const, ev_func, ev_global, put_some, put_none, upd_same, upd_at, gd_bt, gd_bf, Bool.not_true, Bool.not_false, pick_true, pick_false, pick_b, not_b, W1_mov, W1_pick, W1_new, W1_box, W1_build, W1_lit, W1_load1, W1_loadn, W1_store, W1_nilc, W1_bin, W1_un, W1_conv, W1_b2s, W1_s2b, W1_field1, W1_fieldn, W1_faddr, W1_iaddr, W1_iarr, W1_idxs, W1_idxa1, W1_idxan, W1_sls, W1_sll, W1_sla, W1_mk, W1_ext, W1_fn, W1_ifc, W1_lens, W1_lenc, W1_app, W1_apps, W1_copy, W1_mn, W1_mx, W1_isnil, W1_strc, W1_beq, W1_mks, W1_capn, W1_appz, W1_eqagg, W1_call, W1_calld, callD_func, List.nil_append, List.append_nil, List.map_cons, List.map_nil, Option.map_some, Option.map_none, reduceIte, Option.some.injEq, exists_eq_left', Nat.reduceBEq, iv_ii, postA_ret, postA_normal, resVs_nil, resVs_tmp, resVs_one, resVs_many, Option.bind_some, tupleOf, Int.toNat_natCast, true_and, and_true, Nat.reduceEqDiff, RdOk_nil, RdOk_refl, rd_load1, rd_loadn, rd_b2s, rd_sll, rd_sla, rd_call, rd_calld, rd_new, rd_box, rd_lit, rd_store, rd_s2b, rd_mk, rd_app, rd_apps, rd_appz, rd_mks, rd_copy, blk_ptr, blk_sl, blk_nil, List.cons_append, h1, h6]
        simp [bitsN]
      · rintro a2 B ⟨rfl, j, hj, g1, g6, g7, g5⟩
        rcases Nat.lt_or_ge j 8 with hlt2 | hge2
        · have hc2 : ((j : Int) < 8) = True := by simp; omega
          simp only [W_seq, W_ops, W_draw, W_block, W_skip, W_exit, W_ret, sq_normal, sq_ret, sq_exit, W_condv, condW_true, condW_false, thenA_normal, thenA_ret, thenA_exit, if_true, if_false, Bool.false_eq_true, decide_eq_true_eq, inBlockA_normal, inBlockA_ret, inBlockA_same, inBlockA_other, noGotoA_normal, noGotoA_ret, noGotoA_exit, Wops_nil, Wops_cons, Wops_le, Wops_guard, Wops_guardle, ok1_some, okV_some, kont_at, kontL_at, gdB_true, gdB_false, decide_true, decide_false, ev_tmp, ev_const, ev_func, ev_global, put_some, put_none, upd_same, upd_at, gd_bt, gd_bf, Bool.not_true, Bool.not_false, pick_true, pick_false, pick_b, not_b, W1_mov, W1_pick, W1_new, W1_box, W1_build, W1_lit, W1_load1, W1_loadn, W1_store, W1_nilc, W1_bin, W1_un, W1_conv, W1_b2s, W1_s2b, W1_field1, W1_fieldn, W1_faddr, W1_iaddr, W1_iarr, W1_idxs, W1_idxa1, W1_idxan, W1_sls, W1_sll, W1_sla, W1_mk, W1_ext, W1_fn, W1_ifc, W1_lens, W1_lenc, W1_app, W1_apps, W1_copy, W1_mn, W1_mx, W1_isnil, W1_strc, W1_beq, W1_mks, W1_capn, W1_appz, W1_eqagg, W1_call, W1_calld, callD_func, List.nil_append, List.append_nil, List.map_cons, List.map_nil, Option.map_some, Option.map_none, reduceIte, Option.some.injEq, exists_eq_left', Nat.reduceBEq, iv_ii, postA_ret, postA_normal, resVs_nil, resVs_tmp, resVs_one, resVs_many, Option.bind_some, tupleOf, Int.toNat_natCast, true_and, and_true, Nat.reduceEqDiff, RdOk_nil, RdOk_refl, rd_load1, rd_loadn, rd_b2s, rd_sll, rd_sla, rd_call, rd_calld, rd_new, rd_box, rd_lit, rd_store, rd_s2b, rd_mk, rd_app, rd_apps, rd_appz, rd_mks, rd_copy, blk_ptr, blk_sl, blk_nil, List.cons_append, g7, g1, g6, g5, binA_lss, hc2, htwo32, hone32, hpoly, binA_rem32 _ 2#32 (by decide), binA_quo32 _ 2#32 (by decide), binA_eq32, beq_iff_eq]
          have hb1 := bit1_eq (bitsN j c0)
          refine condW_intro (fun hcc => ?_) (fun hcc => ?_)
          · simp only [beq_iff_eq] at hcc
            rw [if_pos hcc] at hb1
            simp only [W_seq, W_ops, W_draw, W_block, W_skip, W_exit, W_ret, sq_normal, sq_ret, sq_exit, W_condv, condW_true, condW_false, thenA_normal, thenA_ret, thenA_exit, if_true, if_false, Bool.false_eq_true, decide_eq_true_eq, inBlockA_normal, inBlockA_ret, inBlockA_same, inBlockA_other, noGotoA_normal, noGotoA_ret, noGotoA_exit, Wops_nil, Wops_cons, Wops_le, Wops_guard, Wops_guardle, ok1_some, okV_some, kont_at, kontL_at, gdB_true, gdB_false, decide_true, decide_false, ev_tmp, ev_const, ev_func, ev_global, put_some, put_none, upd_same, upd_at, gd_bt, gd_bf, Bool.not_true, Bool.not_false, pick_true, pick_false, pick_b, not_b, W1_mov, W1_pick, W1_new, W1_box, W1_build, W1_lit, W1_load1, W1_loadn, W1_store, W1_nilc, W1_bin, W1_un, W1_conv, W1_b2s, W1_s2b, W1_field1, W1_fieldn, W1_faddr, W1_iaddr, W1_iarr, W1_idxs, W1_idxa1, W1_idxan, W1_sls, W1_sll, W1_sla, W1_mk, W1_ext, W1_fn, W1_ifc, W1_lens, W1_lenc, W1_app, W1_apps, W1_copy, W1_mn, W1_mx, W1_isnil, W1_strc, W1_beq, W1_mks, W1_capn, W1_appz, W1_eqagg, W1_call, W1_calld, callD_func, List.nil_append, List.append_nil, List.map_cons, List.map_nil, Option.map_some, Option.map_none, reduceIte, Option.some.injEq, exists_eq_left', Nat.reduceBEq, iv_ii, postA_ret, postA_normal, resVs_nil, resVs_tmp, resVs_one, resVs_many, Option.bind_some, tupleOf, Int.toNat_natCast, true_and, and_true, Nat.reduceEqDiff, RdOk_nil, RdOk_refl, rd_load1, rd_loadn, rd_b2s, rd_sll, rd_sla, rd_call, rd_calld, rd_new, rd_box, rd_lit, rd_store, rd_s2b, rd_mk, rd_app, rd_apps, rd_appz, rd_mks, rd_copy, blk_ptr, blk_sl, blk_nil, List.cons_append, g7, g1, g6, binA_xor32, binA_add1 j (by omega)]
            refine ⟨⟨j + 1, by omega, rfl, ?_⟩, by omega⟩
            rw [← hb1]; rfl
          · simp only [beq_eq_false_iff_ne] at hcc
            rw [if_neg hcc] at hb1
            simp only [W_seq, W_ops, W_draw, W_block, W_skip, W_exit, W_ret, sq_normal, sq_ret, sq_exit, W_condv, condW_true, condW_false, thenA_normal, thenA_ret, thenA_exit, if_true, if_false, Bool.false_eq_true, decide_eq_true_eq, inBlockA_normal, inBlockA_ret, inBlockA_same, inBlockA_other, noGotoA_normal, noGotoA_ret, noGotoA_exit, Wops_nil, Wops_cons, Wops_le, Wops_guard, Wops_guardle, ok1_some, okV_some, kont_at, kontL_at, gdB_true, gdB_false, decide_true, decide_false, ev_tmp, ev_const, ev_func, ev_global, put_some, put_none, upd_same, upd_at, gd_bt, gd_bf, Bool.not_true, Bool.not_false, pick_true, pick_false, pick_b, not_b, W1_mov, W1_pick, W1_new, W1_box, W1_build, W1_lit, W1_load1, W1_loadn, W1_store, W1_nilc, W1_bin, W1_un, W1_conv, W1_b2s, W1_s2b, W1_field1, W1_fieldn, W1_faddr, W1_iaddr, W1_iarr, W1_idxs, W1_idxa1, W1_idxan, W1_sls, W1_sll, W1_sla, W1_mk, W1_ext, W1_fn, W1_ifc, W1_lens, W1_lenc, W1_app, W1_apps, W1_copy, W1_mn, W1_mx, W1_isnil, W1_strc, W1_beq, W1_mks, W1_capn, W1_appz, W1_eqagg, W1_call, W1_calld, callD_func, List.nil_append, List.append_nil, List.map_cons, List.map_nil, Option.map_some, Option.map_none, reduceIte, Option.some.injEq, exists_eq_left', Nat.reduceBEq, iv_ii, postA_ret, postA_normal, resVs_nil, resVs_tmp, resVs_one, resVs_many, Option.bind_some, tupleOf, Int.toNat_natCast, true_and, and_true, Nat.reduceEqDiff, RdOk_nil, RdOk_refl, rd_load1, rd_loadn, rd_b2s, rd_sll, rd_sla, rd_call, rd_calld, rd_new, rd_box, rd_lit, rd_store, rd_s2b, rd_mk, rd_app, rd_apps, rd_appz, rd_mks, rd_copy, blk_ptr, blk_sl, blk_nil, List.cons_append, g7, g1, g6, binA_xor32, binA_add1 j (by omega)]
            refine ⟨⟨j + 1, by omega, rfl, ?_⟩, by omega⟩
            rw [← hb1]; rfl
        · have hc2 : ((j : Int) < 8) = False := by simp; omega
          simp only [W_seq, W_ops, W_draw, W_block, W_skip, W_exit, W_ret, sq_normal, sq_ret, sq_exit, W_condv, condW_true, condW_false, thenA_normal, thenA_ret, thenA_exit, if_true, if_false, Bool.false_eq_true, decide_eq_true_eq, inBlockA_normal, inBlockA_ret, inBlockA_same, inBlockA_other, noGotoA_normal, noGotoA_ret, noGotoA_exit, Wops_nil, Wops_cons, Wops_le, Wops_guard, Wops_guardle, ok1_some, okV_some, kont_at, kontL_at, gdB_true, gdB_false, decide_true, decide_false, ev_tmp, ev_const, ev_func, ev_global, put_some, put_none, upd_same, upd_at, gd_bt, gd_bf, Bool.not_true, Bool.not_false, pick_true, pick_false, pick_b, not_b, W1_mov, W1_pick, W1_new, W1_box, W1_build, W1_lit, W1_load1, W1_loadn, W1_store, W1_nilc, W1_bin, W1_un, W1_conv, W1_b2s, W1_s2b, W1_field1, W1_fieldn, W1_faddr, W1_iaddr, W1_iarr, W1_idxs, W1_idxa1, W1_idxan, W1_sls, W1_sll, W1_sla, W1_mk, W1_ext, W1_fn, W1_ifc, W1_lens, W1_lenc, W1_app, W1_apps, W1_copy, W1_mn, W1_mx, W1_isnil, W1_strc, W1_beq, W1_mks, W1_capn, W1_appz, W1_eqagg, W1_call, W1_calld, callD_func, List.nil_append, List.append_nil, List.map_cons, List.map_nil, Option.map_some, Option.map_none, reduceIte, Option.some.injEq, exists_eq_left', Nat.reduceBEq, iv_ii, postA_ret, postA_normal, resVs_nil, resVs_tmp, resVs_one, resVs_many, Option.bind_some, tupleOf, Int.toNat_natCast, true_and, and_true, Nat.reduceEqDiff, RdOk_nil, RdOk_refl, rd_load1, rd_loadn, rd_b2s, rd_sll, rd_sla, rd_call, rd_calld, rd_new, rd_box, rd_lit, rd_store, rd_s2b, rd_mk, rd_app, rd_apps, rd_appz, rd_mks, rd_copy, blk_ptr, blk_sl, blk_nil, List.cons_append, g7, g6, g1, binA_lss, hc2, binA_add1 k (by omega)]
          refine ⟨⟨k + 1, by omega, rfl, ?_⟩, by omega⟩
          rw [g5, List.take_add_one, hb]
          have : j = 8 := by omega
          subst this
          simp only [Option.toList_some, List.foldl_append, List.foldl_cons, List.foldl_nil]
          rw [← hc0]
          rfl
    · have hc : ((k : Int) < (bs.length : Int)) = False := by simp; omega
      simp only [W_seq, W_ops, W_draw, W_block, W_skip, W_exit, W_ret, sq_normal, sq_ret, sq_exit, W_condv, condW_true, condW_false, thenA_normal, thenA_ret, thenA_exit, if_true, if_false, Bool.false_eq_true, decide_eq_true_eq, inBlockA_normal, inBlockA_ret, inBlockA_same, inBlockA_other, noGotoA_normal, noGotoA_ret, noGotoA_exit, Wops_nil, Wops_cons, Wops_le, Wops_guard, Wops_guardle, ok1_some, okV_some, kont_at, kontL_at, gdB_true, gdB_false, decide_true, decide_false, ev_tmp, ev_const, ev_func, ev_global, put_some, put_none, upd_same, upd_at, gd_bt, gd_bf, Bool.not_true, Bool.not_false, pick_true, pick_false, pick_b, not_b, W1_mov, W1_pick, W1_new, W1_box, W1_build, W1_lit, W1_load1, W1_loadn, W1_store, W1_nilc, W1_bin, W1_un, W1_conv, W1_b2s, W1_s2b, W1_field1, W1_fieldn, W1_faddr, W1_iaddr, W1_iarr, W1_idxs, W1_idxa1, W1_idxan, W1_sls, W1_sll, W1_sla, W1_mk, W1_ext, W1_fn, W1_ifc, W1_lens, W1_lenc, W1_app, W1_apps, W1_copy, W1_mn, W1_mx, W1_isnil, W1_strc, W1_beq, W1_mks, W1_capn, W1_appz, W1_eqagg, W1_call, W1_calld, callD_func, List.nil_append, List.append_nil, List.map_cons, List.map_nil, Option.map_some, Option.map_none, reduceIte, Option.some.injEq, exists_eq_left', Nat.reduceBEq, iv_ii, postA_ret, postA_normal, resVs_nil, resVs_tmp, resVs_one, resVs_many, Option.bind_some, tupleOf, Int.toNat_natCast, true_and, and_true, Nat.reduceEqDiff, RdOk_nil, RdOk_refl, rd_load1, rd_loadn, rd_b2s, rd_sll, rd_sla, rd_call, rd_calld, rd_new, rd_box, rd_lit, rd_store, rd_s2b, rd_mk, rd_app, rd_apps, rd_appz, rd_mks, rd_copy, blk_ptr, blk_sl, blk_nil, List.cons_append, h6, h1, hv.len, binA_lss, hc, h5, hones32, binA_xor32, xor_ones]
      have : List.take k bs = bs := List.take_of_length_le hge
      rw [this]
      exact hq

theorem ref_Sum_spec {A : AH} {v : Value} {bs : List UInt8} {Q : Value → AH → Prop} (hv : Byt A v bs) (hl : bs.length < 2 ^ 62) (hq : Q (u32 (more 0#32 bs)) A) : ACalls 0 Try.prog chantryref02_Sum [v] Q A := by
  refine ACalls.of_fits mixed fits_chantryref02_Sum rfl ?_
  unfold ic_chantryref02_Sum
  have i0 : initA [v] 0 = v := rfl
  generalize initA [v] = a at i0
  simp only [W_seq, W_ops, W_draw, W_block, W_skip, W_exit, W_ret, sq_normal, sq_ret, sq_exit, W_condv, condW_true, condW_false, thenA_normal, thenA_ret, thenA_exit, if_true, if_false, Bool.false_eq_true, decide_eq_true_eq, inBlockA_normal, inBlockA_ret, inBlockA_same, inBlockA_other, noGotoA_normal, noGotoA_ret, noGotoA_exit, Wops_nil, Wops_cons, Wops_le, Wops_guard, Wops_guardle, ok1_some, okV_some, kont_at, kontL_at, gdB_true, gdB_false, decide_true, decide_false, ev_tmp, ev_const, ev_func, ev_global, put_some, put_none, upd_same, upd_at, gd_bt, gd_bf, Bool.not_true, Bool.not_false, pick_true, pick_false, pick_b, not_b, W1_mov, W1_pick, W1_new, W1_box, W1_build, W1_lit, W1_load1, W1_loadn, W1_store, W1_nilc, W1_bin, W1_un, W1_conv, W1_b2s, W1_s2b, W1_field1, W1_fieldn, W1_faddr, W1_iaddr, W1_iarr, W1_idxs, W1_idxa1, W1_idxan, W1_sls, W1_sll, W1_sla, W1_mk, W1_ext, W1_fn, W1_ifc, W1_lens, W1_lenc, W1_app, W1_apps, W1_copy, W1_mn, W1_mx, W1_isnil, W1_strc, W1_beq, W1_mks, W1_capn, W1_appz, W1_eqagg, W1_call, W1_calld, callD_func, List.nil_append, List.append_nil, List.map_cons, List.map_nil, Option.map_some, Option.map_none, reduceIte, Option.some.injEq, exists_eq_left', Nat.reduceBEq, iv_ii, postA_ret, postA_normal, resVs_nil, resVs_tmp, resVs_one, resVs_many, Option.bind_some, tupleOf, Int.toNat_natCast, true_and, and_true, Nat.reduceEqDiff, RdOk_nil, RdOk_refl, rd_load1, rd_loadn, rd_b2s, rd_sll, rd_sla, rd_call, rd_calld, rd_new, rd_box, rd_lit, rd_store, rd_s2b, rd_mk, rd_app, rd_apps, rd_appz, rd_mks, rd_copy, blk_ptr, blk_sl, blk_nil, List.cons_append, i0, hzero32]
  refine ref_More_spec hv hl ?_
  simp only [W_seq, W_ops, W_draw, W_block, W_skip, W_exit, W_ret, sq_normal, sq_ret, sq_exit, W_condv, condW_true, condW_false, thenA_normal, thenA_ret, thenA_exit, if_true, if_false, Bool.false_eq_true, decide_eq_true_eq, inBlockA_normal, inBlockA_ret, inBlockA_same, inBlockA_other, noGotoA_normal, noGotoA_ret, noGotoA_exit, Wops_nil, Wops_cons, Wops_le, Wops_guard, Wops_guardle, ok1_some, okV_some, kont_at, kontL_at, gdB_true, gdB_false, decide_true, decide_false, ev_tmp, ev_const, ev_func, ev_global, put_some, put_none, upd_same, upd_at, gd_bt, gd_bf, Bool.not_true, Bool.not_false, pick_true, pick_false, pick_b, not_b, W1_mov, W1_pick, W1_new, W1_box, W1_build, W1_lit, W1_load1, W1_loadn, W1_store, W1_nilc, W1_bin, W1_un, W1_conv, W1_b2s, W1_s2b, W1_field1, W1_fieldn, W1_faddr, W1_iaddr, W1_iarr, W1_idxs, W1_idxa1, W1_idxan, W1_sls, W1_sll, W1_sla, W1_mk, W1_ext, W1_fn, W1_ifc, W1_lens, W1_lenc, W1_app, W1_apps, W1_copy, W1_mn, W1_mx, W1_isnil, W1_strc, W1_beq, W1_mks, W1_capn, W1_appz, W1_eqagg, W1_call, W1_calld, callD_func, List.nil_append, List.append_nil, List.map_cons, List.map_nil, Option.map_some, Option.map_none, reduceIte, Option.some.injEq, exists_eq_left', Nat.reduceBEq, iv_ii, postA_ret, postA_normal, resVs_nil, resVs_tmp, resVs_one, resVs_many, Option.bind_some, tupleOf, Int.toNat_natCast, true_and, and_true, Nat.reduceEqDiff, RdOk_nil, RdOk_refl, rd_load1, rd_loadn, rd_b2s, rd_sll, rd_sla, rd_call, rd_calld, rd_new, rd_box, rd_lit, rd_store, rd_s2b, rd_mk, rd_app, rd_apps, rd_appz, rd_mks, rd_copy, blk_ptr, blk_sl, blk_nil, List.cons_append]
  exact hq

end Go.AS.C
