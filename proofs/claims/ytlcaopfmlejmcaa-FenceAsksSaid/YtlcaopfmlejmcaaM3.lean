/- Lemmas for the proof of a given statement; no conditions. -/
import Derived.Test.YtlcaopfmlejmcaaM2
import Derived.Test.YtlcaopfmlejmcaaRows
namespace Go.AS.C
open Go
set_option linter.unusedVariables false
set_option linter.unusedSimpArgs false

/-- Bytes as a number, the lowest first. -/
def leN : List UInt8 → Nat
  | [] => 0
  | b :: r => b.toNat + 256 * leN r
theorem leN_append : ∀ (a b : List UInt8), leN (a ++ b) = leN a + 256 ^ a.length * leN b
  | [], b => by simp [leN]
  | x :: a, b => by
    simp only [List.cons_append, leN, leN_append a b, List.length_cons, Nat.pow_succ, Nat.mul_add, ← Nat.mul_assoc]
    rw [Nat.mul_comm 256 (256 ^ a.length)]
    omega
theorem leN_lt : ∀ a : List UInt8, leN a < 256 ^ a.length
  | [] => by simp [leN]
  | x :: a => by
    have h1 := leN_lt a
    have h2 := x.toNat_lt
    simp only [leN, List.length_cons, Nat.pow_succ]
    omega
theorem pow256 (k : Nat) : 2 ^ (8 * k) = 256 ^ k := by rw [Nat.pow_mul]

/-- What num.Unfix gives: the number, and the error. -/
def unfixN (bs : List UInt8) : Nat × Nat := if bs.length < 1 ∨ 4 < bs.length then (0, 1) else if leN bs ≤ 2147483647 then (leN bs, 0) else (0, 5)

theorem wrap_i64_nat (n : Nat) (h : n < 2 ^ 62) : IntKind.i64.wrap (n : Int) = n := wrap_i64 _ (by omega) (by omega)
theorem toNat_i64 (n : Nat) (h : n < 2 ^ 62) : (BitVec.ofInt 64 (n : Int)).toNat = n := by
  rw [BitVec.ofInt_natCast, BitVec.toNat_ofNat, Nat.mod_eq_of_lt (by omega)]
theorem or_ii (a b : Nat) (ha : a < 2 ^ 62) (hb : b < 2 ^ 62) : binA .or (ii a) (ii b) = some (ii ((a ||| b : Nat) : Int)) := by
  show (if IntKind.i64 = IntKind.i64 then some (Value.int .i64 (IntKind.i64.wrap ((BitVec.ofInt 64 (a : Int) ||| BitVec.ofInt 64 (b : Int)).toNat : Int))) else none) = _
  rw [if_pos rfl, BitVec.toNat_or, toNat_i64 a ha, toNat_i64 b hb, wrap_i64_nat _ (Nat.or_lt_two_pow ha hb)]
theorem and_ii (a b : Nat) (ha : a < 2 ^ 62) (hb : b < 2 ^ 62) : binA .and (ii a) (ii b) = some (ii ((a &&& b : Nat) : Int)) := by
  show (if IntKind.i64 = IntKind.i64 then some (Value.int .i64 (IntKind.i64.wrap ((BitVec.ofInt 64 (a : Int) &&& BitVec.ofInt 64 (b : Int)).toNat : Int))) else none) = _
  rw [if_pos rfl, BitVec.toNat_and, toNat_i64 a ha, toNat_i64 b hb, wrap_i64_nat _ (Nat.and_lt_two_pow _ hb)]
theorem shl_ii (a : Nat) (k : IntKind) (m : Nat) (hm : m ≤ 64) (h : a * 2 ^ m < 2 ^ 62) : binA .shl (ii a) (.int k m) = some (ii ((a * 2 ^ m : Nat) : Int)) := by
  simp only [binA]
  have hn : ¬ ((m : Int) < 0) := by omega
  rw [if_neg hn]
  have : min ((m : Int).toNat) IntKind.i64.bits = m := by
    show min ((m : Int).toNat) 64 = m
    simp; omega
  rw [this, show ((2 : Int) ^ m) = ((2 ^ m : Nat) : Int) by simp, ← Int.natCast_mul, wrap_i64_nat _ h]
theorem add_ii (a b : Nat) (h : a + b < 2 ^ 62) : binA .add (ii a) (ii b) = some (ii ((a + b : Nat) : Int)) := by
  rw [binA_addi _ _ (by omega) (by omega)]; rfl
theorem sub_ii (a b : Nat) (h : b ≤ a) (h2 : a < 2 ^ 62) : binA .sub (ii a) (ii b) = some (ii ((a - b : Nat) : Int)) := by
  rw [binA_subi _ _ (by omega) (by omega)]
  congr 2; omega
theorem or_low (a b k : Nat) (h : a < 2 ^ k) : a ||| (b * 2 ^ k) = a + b * 2 ^ k := by
  rw [Nat.mul_comm, Nat.or_comm, ← Nat.two_pow_add_eq_or_of_lt h, Nat.add_comm]
theorem div_ii (a b : Nat) (hb : b ≠ 0) (ha : a < 2 ^ 62) : binA .quo (ii a) (ii b) = some (ii ((a / b : Nat) : Int)) := by
  simp only [binA, ii]
  have hb2 : True ∧ (b : Int) ≠ 0 := ⟨trivial, by omega⟩
  rw [if_pos hb2, Int.tdiv_eq_ediv_of_nonneg (by omega), ← Int.natCast_ediv, wrap_i64_nat _ (Nat.lt_of_le_of_lt (Nat.div_le_self _ _) ha)]
theorem rem_ii (a b : Nat) (hb : b ≠ 0) : binA .rem (ii a) (ii b) = some (ii ((a % b : Nat) : Int)) := by
  simp only [binA, ii]
  have hb2 : True ∧ (b : Int) ≠ 0 := ⟨trivial, by omega⟩
  rw [if_pos hb2, Int.tmod_eq_emod_of_nonneg (by omega), ← Int.natCast_emod]
end Go.AS.C

namespace Go.AS.C
open Go
set_option linter.unusedVariables false
set_option linter.unusedSimpArgs false

theorem binA_or8 (a b : UInt8) : binA .or (by8 a) (by8 b) = some (by8 (a ||| b)) := by
  show (if IntKind.u8 = IntKind.u8 then some (Value.int .u8 (IntKind.u8.wrap ((BitVec.ofInt 8 (a.toNat : Int) ||| BitVec.ofInt 8 (b.toNat : Int)).toNat : Int))) else none) = _
  rw [if_pos rfl, ofInt_u8, ofInt_u8]
  have h1 : (a.toBitVec ||| b.toBitVec).toNat = (a ||| b).toNat := by simp
  rw [h1, wrap_u8 _ (a ||| b).toNat_lt]
  rfl
theorem binA_and8 (a b : UInt8) : binA .and (by8 a) (by8 b) = some (by8 (a &&& b)) := by
  show (if IntKind.u8 = IntKind.u8 then some (Value.int .u8 (IntKind.u8.wrap ((BitVec.ofInt 8 (a.toNat : Int) &&& BitVec.ofInt 8 (b.toNat : Int)).toNat : Int))) else none) = _
  rw [if_pos rfl, ofInt_u8, ofInt_u8]
  have h1 : (a.toBitVec &&& b.toBitVec).toNat = (a &&& b).toNat := by simp
  rw [h1, wrap_u8 _ (a &&& b).toNat_lt]
  rfl
theorem binA_shr8 (a : UInt8) (k : IntKind) (n : Nat) (h : n ≤ 8) : binA .shr (by8 a) (.int k n) = some (by8 (UInt8.ofNat (a.toNat / 2 ^ n))) := by
  simp only [binA, by8]
  have hn : ¬ ((n : Int) < 0) := by omega
  rw [if_neg hn]
  have : min ((n : Int).toNat) IntKind.u8.bits = n := by
    show min ((n : Int).toNat) 8 = n
    simp; omega
  rw [this, show ((2 : Int) ^ n) = ((2 ^ n : Nat) : Int) by simp, Int.fdiv_eq_ediv_of_nonneg _ (Int.natCast_nonneg _)]
  congr 2
  have hlt : a.toNat / 2 ^ n < 256 := Nat.lt_of_le_of_lt (Nat.div_le_self _ _) a.toNat_lt
  rw [UInt8.toNat_ofNat', Nat.mod_eq_of_lt hlt, Int.natCast_ediv]
theorem binA_sub8 (a b : UInt8) (h : b.toNat ≤ a.toNat) : binA .sub (by8 a) (by8 b) = some (by8 (UInt8.ofNat (a.toNat - b.toNat))) := by
  simp only [binA, by8, if_true]
  congr 2
  have ha := a.toNat_lt
  have e : (a.toNat : Int) - (b.toNat : Int) = ((a.toNat - b.toNat : Nat) : Int) := by omega
  rw [e, wrap_u8 _ (by omega), UInt8.toNat_ofNat', Nat.mod_eq_of_lt (by omega)]
theorem binA_gtr8 (a b : UInt8) : binA .gtr (by8 a) (by8 b) = some (.bool (decide (b.toNat < a.toNat))) := by
  simp only [binA, by8, if_true]
  congr 2
  rw [decide_eq_decide]
  omega
theorem b8_0 : (Value.int .u8 0) = by8 0 := rfl
theorem b8_1 : (Value.int .u8 1) = by8 1 := rfl

/-- How many bits of a byte are 1. -/
def popN (n : Nat) : Nat := (n % 2) + (n / 2 % 2) + (n / 4 % 2) + (n / 8 % 2) + (n / 16 % 2) + (n / 32 % 2) + (n / 64 % 2) + (n / 128 % 2)
def popB (b : UInt8) : Nat := popN b.toNat
def popL (l : List UInt8) : Nat := (l.map popB).sum
theorem pop_step : ∀ n : Fin 256, n.val ≠ 0 → popN (n.val &&& (n.val - 1)) + 1 = popN n.val := by decide +kernel
theorem popB_step (x : UInt8) (h : 0 < x.toNat) : popB (x &&& UInt8.ofNat (x.toNat - 1)) + 1 = popB x := by
  have := pop_step ⟨x.toNat, x.toNat_lt⟩ (by simp; omega)
  unfold popB
  have hx := x.toNat_lt
  rw [UInt8.toNat_and, UInt8.toNat_ofNat', Nat.mod_eq_of_lt (by omega)]
  exact this
theorem and_less (x : UInt8) (h : 0 < x.toNat) : (x &&& UInt8.ofNat (x.toNat - 1)).toNat < x.toNat := by
  have hx := x.toNat_lt
  rw [UInt8.toNat_and, UInt8.toNat_ofNat', Nat.mod_eq_of_lt (by omega)]
  have : x.toNat &&& (x.toNat - 1) ≤ x.toNat - 1 := Nat.and_le_right
  omega
theorem popB_le (x : UInt8) : popB x ≤ 8 := by unfold popB popN; omega
theorem popL_take_succ {l : List UInt8} {k : Nat} {x : UInt8} (h : l[k]? = some x) : popL (l.take (k + 1)) = popL (l.take k) + popB x := by
  unfold popL
  rw [List.take_add_one, h]
  simp
theorem popL_le (l : List UInt8) : popL l ≤ 8 * l.length := by
  unfold popL
  induction l with
  | nil => simp
  | cons a l ih => simp only [List.map_cons, List.sum_cons, List.length_cons]; have := popB_le a; omega
theorem popL_take_le (l : List UInt8) (k : Nat) : popL (l.take k) ≤ popL l := by
  conv => rhs; rw [← List.take_append_drop k l]
  unfold popL
  rw [List.map_append, List.sum_append]
  omega
/-- The first k bits. -/
def popK (n : Nat) : Nat → Nat
  | 0 => 0
  | k + 1 => popK n k + n / 2 ^ k % 2
theorem popK_8 (n : Nat) : popK n 8 = popN n := by simp [popK, popN]
end Go.AS.C

namespace Go.AS.C
open Go
set_option linter.unusedVariables false
set_option linter.unusedSimpArgs false

theorem ext_bytes (s : ByteArray) (l h : Nat) : (s.extract l h).data.toList = (s.data.toList.drop l).take (h - l) := by
  rw [ByteArray.data_extract, Array.toList_extract, List.extract_eq_take_drop]
theorem size_bytes (s : ByteArray) : s.size = s.data.toList.length := by rw [Array.length_toList]; rfl
theorem sls_both {A : AH} {s : ByteArray} {l h : Nat} (h1 : l ≤ h) (h2 : h ≤ s.size) : sSls A (.string s) (some (ii l)) (some (ii h)) = some (.string (s.extract l h), A) := by
  unfold sSls
  simp only [bnd_both h1 h2]
  rfl
theorem s2b_row (A : AH) (s : ByteArray) : sS2b A (.string s) = some (.slice (some ⟨A.length, 0, none⟩) s.size s.size, A ++ [.row (s.data.toList.map by8) .own 1 false]) := id rfl
theorem s2b_byt (A : AH) (s : ByteArray) : OwnB A.length (A ++ [.row (s.data.toList.map by8) .own 1 false]) (.slice (some ⟨A.length, 0, none⟩) s.size s.size) s.data.toList :=
  own_row (get_last _ _) (size_bytes s) (Nat.le_refl _) (Nat.le_refl _)
theorem lens_str {A : AH} {s : ByteArray} : sLens A true (.string s) = some (ii s.size, A) := id rfl
end Go.AS.C

namespace Go.AS.C
open Go
set_option linter.unusedVariables false
set_option linter.unusedSimpArgs false
set_option maxRecDepth 10000

/-- One bit's turn. -/
def bit1 (c : BitVec 32) : BitVec 32 := (c >>> 1) ^^^ (2197175160#32 &&& -(c &&& 1#32))

def bitsN : Nat → BitVec 32 → BitVec 32
  | 0, c => c
  | n + 1, c => bit1 (bitsN n c)

def byte1 (c : BitVec 32) (b : UInt8) : BitVec 32 := bitsN 8 (c ^^^ BitVec.ofNat 32 b.toNat)

def more (s : BitVec 32) (bs : List UInt8) : BitVec 32 := ~~~ (bs.foldl byte1 (~~~ s))

theorem hpoly : (Value.int .u32 2197175160) = u32 2197175160#32 := rfl

theorem shr1 (a : BitVec 32) : binA .shr (u32 a) (.int .u64 1) = some (u32 (a >>> 1)) := binA_shr32 a .u64 1 (by omega)

theorem hone32 : (Value.int .u32 1) = u32 1#32 := rfl

theorem and1 (c : BitVec 32) : c &&& 1#32 = if c.toNat % 2 = 1 then 1#32 else 0#32 := by
  apply BitVec.eq_of_toNat_eq
  rw [BitVec.toNat_and]
  simp only [BitVec.toNat_ofNat, Nat.reducePow, Nat.reduceMod, Nat.and_one_is_mod]
  split <;> simp <;> omega

theorem rem2 (c : BitVec 32) : c % 2#32 = if c.toNat % 2 = 1 then 1#32 else 0#32 := by
  apply BitVec.eq_of_toNat_eq
  rw [BitVec.toNat_umod]
  simp only [BitVec.toNat_ofNat, Nat.reducePow, Nat.reduceMod]
  split <;> simp <;> omega

theorem quo2 (c : BitVec 32) : c / 2#32 = c >>> 1 := by
  apply BitVec.eq_of_toNat_eq
  rw [BitVec.toNat_udiv, BitVec.toNat_ushiftRight, Nat.shiftRight_eq_div_pow]
  rfl

theorem bit1_eq (c : BitVec 32) : bit1 c = if c % 2#32 = 1#32 then (c / 2#32) ^^^ 2197175160#32 else c / 2#32 := by
  unfold bit1
  rw [and1, rem2, quo2]
  split
  · rename_i h
    have e : -(1#32) = BitVec.allOnes 32 := by decide
    simp [e]
  · simp

theorem htwo32 : (Value.int .u32 2) = u32 2#32 := rfl

theorem hones32 : (Value.int .u32 4294967295) = u32 4294967295#32 := rfl

theorem xor_ones (c : BitVec 32) : c ^^^ 4294967295#32 = ~~~ c := by
  have : (4294967295#32) = BitVec.allOnes 32 := by decide
  rw [this, BitVec.xor_allOnes]

theorem hzero32 : (Value.int .u32 0) = u32 0#32 := rfl

/-- n as w bytes, the lowest first. -/
def leB (n w : Nat) : List UInt8 := (List.range w).map fun j => UInt8.ofNat (n / 2 ^ (8 * j))

theorem leB_length (n w : Nat) : (leB n w).length = w := by simp [leB]

theorem flat_take_le {α : Type} (l : List (List α)) (k : Nat) : (l.take k).flatten.length ≤ l.flatten.length := by
  conv => rhs; rw [← List.take_append_drop k l, List.flatten_append, List.length_append]
  omega

theorem flat_take_succ {α : Type} (l : List (List α)) {k : Nat} {x : List α} (h : l[k]? = some x) : (l.take (k + 1)).flatten = (l.take k).flatten ++ x := by
  rw [List.take_add_one, h]
  simp

theorem leB4 (s : BitVec 32) : leB (s &&& 65535#32).toNat 2 ++ leB (s >>> 16).toNat 2 = leB s.toNat 4 := by
  have h := s.isLt
  have e1 : (s &&& 65535#32).toNat = s.toNat % 65536 := by
    rw [BitVec.toNat_and]
    exact Nat.and_two_pow_sub_one_eq_mod s.toNat 16
  have e2 : (s >>> 16).toNat = s.toNat / 65536 := by
    rw [BitVec.toNat_ushiftRight, Nat.shiftRight_eq_div_pow]
  rw [e1, e2]
  have r2 : List.range 2 = [0, 1] := by decide
  have r4 : List.range 4 = [0, 1, 2, 3] := by decide
  unfold leB
  rw [r2, r4]
  simp only [List.map_cons, List.map_nil, List.cons_append, List.nil_append]
  simp only [List.cons.injEq, and_true]
  exact ⟨u8eq (by omega), u8eq (by omega), u8eq (by omega), u8eq (by omega)⟩

theorem h65535 : (Value.int .u32 65535) = u32 65535#32 := rfl

theorem shr16 (a : BitVec 32) : binA .shr (u32 a) (.int .u64 16) = some (u32 (a >>> 16)) := binA_shr32 a .u64 16 (by omega)

/-- What seals bytes. -/
def sealB (bs : List UInt8) : List UInt8 := bs ++ leB (more 0#32 bs).toNat 4

theorem sealB_length (bs : List UInt8) : (sealB bs).length = bs.length + 4 := by simp [sealB, leB_length]

/-- What was sealed is these bytes. -/
def openB (bs : List UInt8) : Option (List UInt8) :=
  if 4 ≤ bs.length ∧ bs.drop (bs.length - 4) = leB (more 0#32 (bs.take (bs.length - 4))).toNat 4 then some (bs.take (bs.length - 4)) else none

theorem openB_sealB (bs : List UInt8) : openB (sealB bs) = some bs := by
  unfold openB
  have e : (sealB bs).length - 4 = bs.length := by rw [sealB_length]; omega
  have h1 : (sealB bs).take bs.length = bs := by unfold sealB; simp
  have h2 : (sealB bs).drop bs.length = leB (more 0#32 bs).toNat 4 := by unfold sealB; simp
  rw [e, h1, h2, if_pos ⟨by rw [sealB_length]; omega, rfl⟩]

theorem openB_iff {bs x : List UInt8} : openB bs = some x ↔ bs = sealB x := by
  constructor
  · intro h
    unfold openB at h
    split at h
    · rename_i hc
      injection h with h
      rw [h] at hc
      unfold sealB
      rw [← hc.2, ← h]
      simp
    · cases h
  · rintro rfl
    exact openB_sealB x

theorem h256 : (Value.int .u32 256) = u32 256#32 := rfl

theorem h65536 : (Value.int .u32 65536) = u32 65536#32 := rfl

theorem h16m : (Value.int .u32 16777216) = u32 16777216#32 := rfl

theorem leB4' (s : BitVec 32) : [UInt8.ofNat (s % 256#32).toNat, UInt8.ofNat (s / 256#32 % 256#32).toNat, UInt8.ofNat (s / 65536#32 % 256#32).toNat, UInt8.ofNat (s / 16777216#32).toNat] = leB s.toNat 4 := by
  have r4 : List.range 4 = [0, 1, 2, 3] := by decide
  unfold leB
  rw [r4]
  simp only [List.map_cons, List.map_nil, BitVec.toNat_umod, BitVec.toNat_udiv, BitVec.toNat_ofNat, Nat.reducePow, Nat.reduceMod]
  simp only [List.cons.injEq, and_true]
  have hs := s.isLt
  refine ⟨u8eq ?_, u8eq ?_, u8eq ?_⟩ <;> omega

theorem openB_seal {bs : List UInt8} (h : 4 ≤ bs.length) : (sealB (bs.take (bs.length - 4)) != bs) = (openB bs).isNone := by
  cases ho : openB bs with
  | none =>
    simp only [Option.isNone_none, bne_iff_ne, ne_eq]
    intro he
    have := openB_sealB (bs.take (bs.length - 4))
    rw [he, ho] at this
    cases this
  | some x =>
    have := openB_iff.1 ho
    subst this
    have e : (sealB x).length - 4 = x.length := by rw [sealB_length]; omega
    have h1 : (sealB x).take x.length = x := by unfold sealB; simp
    rw [e, h1]
    simp

theorem more_append (s : BitVec 32) (a b : List UInt8) : more (more s a) b = more s (a ++ b) := by
  unfold more
  rw [BitVec.not_not, List.foldl_append]

end Go.AS.C

-- Printed by gen.py (wip/tools): the abstract code of each function, and that it fits the program.
namespace Go.AS.C
open Go Go.Proofs
set_option maxRecDepth 100000
abbrev chantrylaw27_FenceMakes : FuncId := 3
abbrev chantrylaw27_FenceAsks : FuncId := 4
abbrev chantrylaw27_FenceNever : FuncId := 5
abbrev chantrylaw27_few : FuncId := 6
abbrev chantrylaw27_awake : FuncId := 7
abbrev fence_Make : FuncId := 8
abbrev chantryref27_Make : FuncId := 9
abbrev fence_Has : FuncId := 10
abbrev chantryref27_Has : FuncId := 11
abbrev fence_Count : FuncId := 12
abbrev chantryref27_Count : FuncId := 13
abbrev fence_Join : FuncId := 14
abbrev chantryref27_Join : FuncId := 15
abbrev chantrylaw16_Few : FuncId := 16
abbrev chantrylaw16_ID : FuncId := 17
abbrev fence_may : FuncId := 18
abbrev slices_ContainsFunc_string_string : FuncId := 19
abbrev fence_Make_1 : FuncId := 20
abbrev ids_Right : FuncId := 21
abbrev fence_marks : FuncId := 22
abbrev fence_set : FuncId := 23
abbrev chantryref04_Right : FuncId := 24
abbrev chantryref27_marks : FuncId := 25
abbrev chantryref27_may : FuncId := 26
abbrev slices_Clone_byte_byte : FuncId := 27
abbrev slices_IndexFunc_string_string : FuncId := 28
abbrev num_Unfix : FuncId := 29
abbrev chantryref01_Unfix : FuncId := 30
abbrev num_is : FuncId := 31
abbrev runtime_boundsError_Error : FuncId := 32
abbrev runtime_boundsError_RuntimeError : FuncId := 33
abbrev runtime_errorString_Error : FuncId := 34
abbrev runtime_errorString_RuntimeError : FuncId := 35
abbrev runtime_plainError_Error : FuncId := 36
abbrev runtime_plainError_RuntimeError : FuncId := 37
abbrev runtime_errorAddressString_Error : FuncId := 38
abbrev runtime_errorAddressString_RuntimeError : FuncId := 39
abbrev runtime_TypeAssertionError_Error : FuncId := 40
abbrev runtime_TypeAssertionError_RuntimeError : FuncId := 41
abbrev runtime_PanicNilError_Error : FuncId := 42
abbrev runtime_PanicNilError_RuntimeError : FuncId := 43
abbrev internal_abi_Type_Align : FuncId := 44
abbrev internal_runtime_maps_unhashableTypeError_Error : FuncId := 45
abbrev internal_runtime_maps_unhashableTypeError_RuntimeError : FuncId := 46
abbrev internal_abi_Kind_String : FuncId := 47

/-- chantry/chantrylaw27.FenceMakes -/
noncomputable def ic_chantrylaw27_FenceMakes : IC :=
  (.seq (.ops [
    ⟨(some 6), none, false, .mov (.const (.bool false))⟩]) (.seq (.seq (.ops [
    ⟨(some 11), none, false, .mov (.tmp 0)⟩,
    ⟨(some 12), none, false, .call chantrylaw27_few [(.tmp 11)]⟩,
    ⟨(some 13), none, false, .un .not (.tmp 12)⟩,
    ⟨(some 14), none, false, .mov (.tmp 13)⟩,
    ⟨(some 15), (some (14, false)), false, .mov (.tmp 2)⟩,
    ⟨(some 16), (some (14, false)), false, .lens true (.tmp 15)⟩,
    ⟨(some 17), (some (14, false)), false, .bin .gtr (.tmp 16) (.const (.int .i64 100))⟩,
    ⟨(some 18), none, false, .pick (.tmp 14) (.const (.bool true)) (.tmp 17)⟩]) (.cond (.tmp 18) (.seq (.ops [
    ⟨(some 19), none, false, .call chantrylaw27_awake []⟩,
    ⟨(some 6), none, false, .mov (.tmp 19)⟩]) .ret) .skip)) (.seq (.ops [
    ⟨(some 21), none, false, .mov (.tmp 0)⟩,
    ⟨(some 22), none, false, .mov (.tmp 1)⟩,
    ⟨(some 23), none, false, .call fence_Make [(.tmp 21), (.tmp 22)]⟩,
    ⟨(some 20), none, false, .mov (.tmp 23)⟩,
    ⟨(some 24), none, false, .ext (.tmp 20) 0⟩,
    ⟨(some 25), none, false, .ext (.tmp 20) 1⟩,
    ⟨(some 7), none, false, .mov (.tmp 24)⟩,
    ⟨(some 8), none, false, .mov (.tmp 25)⟩]) (.seq (.ops [
    ⟨(some 27), none, false, .mov (.tmp 0)⟩,
    ⟨(some 28), none, false, .mov (.tmp 1)⟩,
    ⟨(some 29), none, false, .call chantryref27_Make [(.tmp 27), (.tmp 28)]⟩,
    ⟨(some 26), none, false, .mov (.tmp 29)⟩,
    ⟨(some 30), none, false, .ext (.tmp 26) 0⟩,
    ⟨(some 31), none, false, .ext (.tmp 26) 1⟩,
    ⟨(some 9), none, false, .mov (.tmp 30)⟩,
    ⟨(some 10), none, false, .mov (.tmp 31)⟩]) (.seq (.ops [
    ⟨(some 32), none, false, .mov (.tmp 7)⟩,
    ⟨(some 33), none, false, .b2s (.tmp 32)⟩,
    ⟨(some 34), none, false, .mov (.tmp 9)⟩,
    ⟨(some 35), none, false, .b2s (.tmp 34)⟩,
    ⟨(some 36), none, false, .bin .eql (.tmp 33) (.tmp 35)⟩,
    ⟨(some 37), none, false, .mov (.tmp 36)⟩,
    ⟨(some 38), (some (37, true)), false, .mov (.tmp 8)⟩,
    ⟨(some 39), (some (37, true)), false, .mov (.tmp 10)⟩,
    ⟨(some 40), (some (37, true)), false, .bin .eql (.tmp 38) (.tmp 39)⟩,
    ⟨(some 41), none, false, .pick (.tmp 37) (.tmp 40) (.const (.bool false))⟩,
    ⟨(some 42), none, false, .mov (.tmp 41)⟩,
    ⟨(some 43), (some (42, true)), false, .mov (.tmp 7)⟩,
    ⟨(some 44), (some (42, true)), false, .mov (.tmp 2)⟩,
    ⟨(some 45), (some (42, true)), false, .call fence_Has [(.tmp 43), (.tmp 44)]⟩,
    ⟨(some 46), (some (42, true)), false, .mov (.tmp 7)⟩,
    ⟨(some 47), (some (42, true)), false, .mov (.tmp 2)⟩,
    ⟨(some 48), (some (42, true)), false, .call chantryref27_Has [(.tmp 46), (.tmp 47)]⟩,
    ⟨(some 49), (some (42, true)), false, .beq false (.tmp 45) (.tmp 48)⟩,
    ⟨(some 50), none, false, .pick (.tmp 42) (.tmp 49) (.const (.bool false))⟩,
    ⟨(some 51), none, false, .mov (.tmp 50)⟩,
    ⟨(some 52), (some (51, true)), false, .mov (.tmp 7)⟩,
    ⟨(some 53), (some (51, true)), false, .call fence_Count [(.tmp 52)]⟩,
    ⟨(some 54), (some (51, true)), false, .mov (.tmp 7)⟩,
    ⟨(some 55), (some (51, true)), false, .call chantryref27_Count [(.tmp 54)]⟩,
    ⟨(some 56), (some (51, true)), false, .bin .eql (.tmp 53) (.tmp 55)⟩,
    ⟨(some 57), none, false, .pick (.tmp 51) (.tmp 56) (.const (.bool false))⟩,
    ⟨(some 58), none, false, .mov (.tmp 57)⟩,
    ⟨(some 59), (some (58, true)), false, .call chantrylaw27_awake []⟩,
    ⟨(some 60), none, false, .pick (.tmp 58) (.tmp 59) (.const (.bool false))⟩,
    ⟨(some 6), none, false, .mov (.tmp 60)⟩]) .ret)))))
theorem fits_chantrylaw27_FenceMakes : Fits Try.prog 0 chantrylaw27_FenceMakes ic_chantrylaw27_FenceMakes [.tmp 6] 3 :=
  ⟨Try.f3, Try.func3, by decide, by kernel_rfl, by kernel_rfl⟩

/-- chantry/chantrylaw27.FenceAsks -/
noncomputable def ic_chantrylaw27_FenceAsks : IC :=
  (.seq (.ops [
    ⟨(some 6), none, false, .mov (.const (.bool false))⟩]) (.seq (.seq (.ops [
    ⟨(some 11), none, false, .mov (.tmp 0)⟩,
    ⟨(some 12), none, false, .lens false (.tmp 11)⟩,
    ⟨(some 13), none, false, .bin .gtr (.tmp 12) (.const (.int .i64 5000))⟩,
    ⟨(some 14), none, false, .mov (.tmp 13)⟩,
    ⟨(some 15), (some (14, false)), false, .mov (.tmp 1)⟩,
    ⟨(some 16), (some (14, false)), false, .lens false (.tmp 15)⟩,
    ⟨(some 17), (some (14, false)), false, .bin .gtr (.tmp 16) (.const (.int .i64 5000))⟩,
    ⟨(some 18), none, false, .pick (.tmp 14) (.const (.bool true)) (.tmp 17)⟩,
    ⟨(some 19), none, false, .mov (.tmp 18)⟩,
    ⟨(some 20), (some (19, false)), false, .mov (.tmp 2)⟩,
    ⟨(some 21), (some (19, false)), false, .lens true (.tmp 20)⟩,
    ⟨(some 22), (some (19, false)), false, .bin .gtr (.tmp 21) (.const (.int .i64 100))⟩,
    ⟨(some 23), none, false, .pick (.tmp 19) (.const (.bool true)) (.tmp 22)⟩]) (.cond (.tmp 23) (.seq (.ops [
    ⟨(some 24), none, false, .call chantrylaw27_awake []⟩,
    ⟨(some 6), none, false, .mov (.tmp 24)⟩]) .ret) .skip)) (.seq (.ops [
    ⟨(some 26), none, false, .mov (.tmp 0)⟩,
    ⟨(some 27), none, false, .mov (.tmp 1)⟩,
    ⟨(some 28), none, false, .call fence_Join [(.tmp 26), (.tmp 27)]⟩,
    ⟨(some 25), none, false, .mov (.tmp 28)⟩,
    ⟨(some 29), none, false, .ext (.tmp 25) 0⟩,
    ⟨(some 30), none, false, .ext (.tmp 25) 1⟩,
    ⟨(some 7), none, false, .mov (.tmp 29)⟩,
    ⟨(some 8), none, false, .mov (.tmp 30)⟩]) (.seq (.ops [
    ⟨(some 32), none, false, .mov (.tmp 0)⟩,
    ⟨(some 33), none, false, .mov (.tmp 1)⟩,
    ⟨(some 34), none, false, .call chantryref27_Join [(.tmp 32), (.tmp 33)]⟩,
    ⟨(some 31), none, false, .mov (.tmp 34)⟩,
    ⟨(some 35), none, false, .ext (.tmp 31) 0⟩,
    ⟨(some 36), none, false, .ext (.tmp 31) 1⟩,
    ⟨(some 9), none, false, .mov (.tmp 35)⟩,
    ⟨(some 10), none, false, .mov (.tmp 36)⟩]) (.seq (.ops [
    ⟨(some 37), none, false, .mov (.tmp 7)⟩,
    ⟨(some 38), none, false, .b2s (.tmp 37)⟩,
    ⟨(some 39), none, false, .mov (.tmp 9)⟩,
    ⟨(some 40), none, false, .b2s (.tmp 39)⟩,
    ⟨(some 41), none, false, .bin .eql (.tmp 38) (.tmp 40)⟩,
    ⟨(some 42), none, false, .mov (.tmp 41)⟩,
    ⟨(some 43), (some (42, true)), false, .mov (.tmp 8)⟩,
    ⟨(some 44), (some (42, true)), false, .mov (.tmp 10)⟩,
    ⟨(some 45), (some (42, true)), false, .bin .eql (.tmp 43) (.tmp 44)⟩,
    ⟨(some 46), none, false, .pick (.tmp 42) (.tmp 45) (.const (.bool false))⟩,
    ⟨(some 47), none, false, .mov (.tmp 46)⟩,
    ⟨(some 48), (some (47, true)), false, .mov (.tmp 0)⟩,
    ⟨(some 49), (some (47, true)), false, .mov (.tmp 2)⟩,
    ⟨(some 50), (some (47, true)), false, .call fence_Has [(.tmp 48), (.tmp 49)]⟩,
    ⟨(some 51), (some (47, true)), false, .mov (.tmp 0)⟩,
    ⟨(some 52), (some (47, true)), false, .mov (.tmp 2)⟩,
    ⟨(some 53), (some (47, true)), false, .call chantryref27_Has [(.tmp 51), (.tmp 52)]⟩,
    ⟨(some 54), (some (47, true)), false, .beq false (.tmp 50) (.tmp 53)⟩,
    ⟨(some 55), none, false, .pick (.tmp 47) (.tmp 54) (.const (.bool false))⟩,
    ⟨(some 56), none, false, .mov (.tmp 55)⟩,
    ⟨(some 57), (some (56, true)), false, .mov (.tmp 0)⟩,
    ⟨(some 58), (some (56, true)), false, .call fence_Count [(.tmp 57)]⟩,
    ⟨(some 59), (some (56, true)), false, .mov (.tmp 0)⟩,
    ⟨(some 60), (some (56, true)), false, .call chantryref27_Count [(.tmp 59)]⟩,
    ⟨(some 61), (some (56, true)), false, .bin .eql (.tmp 58) (.tmp 60)⟩,
    ⟨(some 62), none, false, .pick (.tmp 56) (.tmp 61) (.const (.bool false))⟩,
    ⟨(some 63), none, false, .mov (.tmp 62)⟩,
    ⟨(some 64), (some (63, true)), false, .call chantrylaw27_awake []⟩,
    ⟨(some 65), none, false, .pick (.tmp 63) (.tmp 64) (.const (.bool false))⟩,
    ⟨(some 6), none, false, .mov (.tmp 65)⟩]) .ret)))))
theorem fits_chantrylaw27_FenceAsks : Fits Try.prog 0 chantrylaw27_FenceAsks ic_chantrylaw27_FenceAsks [.tmp 6] 3 :=
  ⟨Try.f4, Try.func4, by decide, by kernel_rfl, by kernel_rfl⟩

/-- chantry/chantrylaw27.FenceNever -/
noncomputable def ic_chantrylaw27_FenceNever : IC :=
  (.seq (.ops [
    ⟨(some 6), none, false, .mov (.const (.bool false))⟩]) (.seq (.seq (.ops [
    ⟨(some 16), none, false, .mov (.tmp 0)⟩,
    ⟨(some 17), none, false, .call chantrylaw27_few [(.tmp 16)]⟩,
    ⟨(some 18), none, false, .un .not (.tmp 17)⟩,
    ⟨(some 19), none, false, .mov (.tmp 18)⟩,
    ⟨(some 20), (some (19, false)), false, .mov (.tmp 1)⟩,
    ⟨(some 21), (some (19, false)), false, .call chantrylaw27_few [(.tmp 20)]⟩,
    ⟨(some 22), (some (19, false)), false, .un .not (.tmp 21)⟩,
    ⟨(some 23), none, false, .pick (.tmp 19) (.const (.bool true)) (.tmp 22)⟩]) (.cond (.tmp 23) (.seq (.ops [
    ⟨(some 24), none, false, .call chantrylaw27_awake []⟩,
    ⟨(some 6), none, false, .mov (.tmp 24)⟩]) .ret) .skip)) (.seq (.ops [
    ⟨(some 26), none, false, .mov (.tmp 0)⟩,
    ⟨(some 27), none, false, .mov (.tmp 2)⟩,
    ⟨(some 28), none, false, .call fence_Make [(.tmp 26), (.tmp 27)]⟩,
    ⟨(some 25), none, false, .mov (.tmp 28)⟩,
    ⟨(some 29), none, false, .ext (.tmp 25) 0⟩,
    ⟨(some 30), none, false, .ext (.tmp 25) 1⟩,
    ⟨(some 7), none, false, .mov (.tmp 29)⟩,
    ⟨(some 8), none, false, .mov (.tmp 30)⟩]) (.seq (.ops [
    ⟨(some 32), none, false, .mov (.tmp 1)⟩,
    ⟨(some 33), none, false, .mov (.tmp 2)⟩,
    ⟨(some 34), none, false, .call fence_Make [(.tmp 32), (.tmp 33)]⟩,
    ⟨(some 31), none, false, .mov (.tmp 34)⟩,
    ⟨(some 35), none, false, .ext (.tmp 31) 0⟩,
    ⟨(some 36), none, false, .ext (.tmp 31) 1⟩,
    ⟨(some 9), none, false, .mov (.tmp 35)⟩,
    ⟨(some 10), none, false, .mov (.tmp 36)⟩]) (.seq (.ops [
    ⟨(some 38), none, false, .lit [.string ⟨#[]⟩] 1 0 []⟩,
    ⟨(some 39), none, false, .mov (.tmp 0)⟩,
    ⟨(some 40), none, false, .app (.tmp 38) (.tmp 39) 1 16⟩,
    ⟨(some 41), none, false, .mov (.tmp 1)⟩,
    ⟨(some 42), none, false, .app (.tmp 40) (.tmp 41) 1 16⟩,
    ⟨(some 43), none, false, .mov (.tmp 2)⟩,
    ⟨(some 44), none, false, .call fence_Make [(.tmp 42), (.tmp 43)]⟩,
    ⟨(some 37), none, false, .mov (.tmp 44)⟩,
    ⟨(some 45), none, false, .ext (.tmp 37) 0⟩,
    ⟨(some 46), none, false, .ext (.tmp 37) 1⟩,
    ⟨(some 11), none, false, .mov (.tmp 45)⟩,
    ⟨(some 12), none, false, .mov (.tmp 46)⟩]) (.seq (.seq (.ops [
    ⟨(some 47), none, false, .mov (.tmp 8)⟩,
    ⟨(some 48), none, false, .bin .neq (.tmp 47) (.const (.int .i64 0))⟩,
    ⟨(some 49), none, false, .mov (.tmp 48)⟩,
    ⟨(some 50), (some (49, false)), false, .mov (.tmp 10)⟩,
    ⟨(some 51), (some (49, false)), false, .bin .neq (.tmp 50) (.const (.int .i64 0))⟩,
    ⟨(some 52), none, false, .pick (.tmp 49) (.const (.bool true)) (.tmp 51)⟩]) (.cond (.tmp 52) (.seq (.ops [
    ⟨(some 53), none, false, .mov (.tmp 12)⟩,
    ⟨(some 54), none, false, .bin .eql (.tmp 53) (.const (.int .i64 1))⟩,
    ⟨(some 55), none, false, .mov (.tmp 54)⟩,
    ⟨(some 56), (some (55, true)), false, .call chantrylaw27_awake []⟩,
    ⟨(some 57), none, false, .pick (.tmp 55) (.tmp 56) (.const (.bool false))⟩,
    ⟨(some 6), none, false, .mov (.tmp 57)⟩]) .ret) .skip)) (.seq (.seq (.ops [
    ⟨(some 13), none, false, .mov (.const (.int .i64 0))⟩]) (.block 0 (.loop (.seq (.seq (.ops [
    ⟨(some 58), none, false, .mov (.tmp 13)⟩,
    ⟨(some 59), none, false, .mov (.tmp 0)⟩,
    ⟨(some 60), none, false, .lens false (.tmp 59)⟩,
    ⟨(some 61), none, false, .bin .lss (.tmp 58) (.tmp 60)⟩]) (.cond (.tmp 61) .skip (.exit 0))) (.seq (.block 1 (.seq (.ops [
    ⟨(some 64), none, false, .mov (.tmp 7)⟩,
    ⟨(some 65), none, false, .mov (.tmp 0)⟩,
    ⟨(some 66), none, false, .mov (.tmp 13)⟩,
    ⟨(some 67), none, false, .iaddr (.tmp 65) (.tmp 66) 1⟩,
    ⟨(some 68), none, false, .load1 (.tmp 67)⟩,
    ⟨(some 69), none, false, .call fence_Has [(.tmp 64), (.tmp 68)]⟩,
    ⟨(some 70), none, false, .un .not (.tmp 69)⟩,
    ⟨(some 71), none, false, .mov (.tmp 70)⟩,
    ⟨(some 72), (some (71, false)), false, .mov (.tmp 11)⟩,
    ⟨(some 73), (some (71, false)), false, .mov (.tmp 0)⟩,
    ⟨(some 74), (some (71, false)), false, .mov (.tmp 13)⟩,
    ⟨(some 75), (some (71, false)), false, .iaddr (.tmp 73) (.tmp 74) 1⟩,
    ⟨(some 76), (some (71, false)), false, .load1 (.tmp 75)⟩,
    ⟨(some 77), (some (71, false)), false, .call fence_Has [(.tmp 72), (.tmp 76)]⟩,
    ⟨(some 78), (some (71, false)), false, .un .not (.tmp 77)⟩,
    ⟨(some 79), none, false, .pick (.tmp 71) (.const (.bool true)) (.tmp 78)⟩]) (.cond (.tmp 79) (.seq (.ops [
    ⟨(some 6), none, false, .mov (.const (.bool false))⟩]) .ret) .skip))) (.ops [
    ⟨(some 62), none, false, .mov (.tmp 13)⟩,
    ⟨(some 63), none, false, .bin .add (.tmp 62) (.const (.int .i64 1))⟩,
    ⟨(some 13), none, false, .mov (.tmp 63)⟩])))))) (.seq (.ops [
    ⟨(some 81), none, false, .mov (.tmp 7)⟩,
    ⟨(some 82), none, false, .mov (.tmp 9)⟩,
    ⟨(some 83), none, false, .call fence_Join [(.tmp 81), (.tmp 82)]⟩,
    ⟨(some 80), none, false, .mov (.tmp 83)⟩,
    ⟨(some 84), none, false, .ext (.tmp 80) 0⟩,
    ⟨(some 85), none, false, .ext (.tmp 80) 1⟩,
    ⟨(some 14), none, false, .mov (.tmp 84)⟩,
    ⟨(some 15), none, false, .mov (.tmp 85)⟩]) (.seq (.ops [
    ⟨(some 86), none, false, .mov (.tmp 12)⟩,
    ⟨(some 87), none, false, .bin .eql (.tmp 86) (.const (.int .i64 0))⟩,
    ⟨(some 88), none, false, .mov (.tmp 87)⟩,
    ⟨(some 89), (some (88, true)), false, .mov (.tmp 15)⟩,
    ⟨(some 90), (some (88, true)), false, .bin .eql (.tmp 89) (.const (.int .i64 0))⟩,
    ⟨(some 91), none, false, .pick (.tmp 88) (.tmp 90) (.const (.bool false))⟩,
    ⟨(some 92), none, false, .mov (.tmp 91)⟩,
    ⟨(some 93), (some (92, true)), false, .mov (.tmp 14)⟩,
    ⟨(some 94), (some (92, true)), false, .b2s (.tmp 93)⟩,
    ⟨(some 95), (some (92, true)), false, .mov (.tmp 11)⟩,
    ⟨(some 96), (some (92, true)), false, .b2s (.tmp 95)⟩,
    ⟨(some 97), (some (92, true)), false, .bin .eql (.tmp 94) (.tmp 96)⟩,
    ⟨(some 98), none, false, .pick (.tmp 92) (.tmp 97) (.const (.bool false))⟩,
    ⟨(some 99), none, false, .mov (.tmp 98)⟩,
    ⟨(some 100), (some (99, true)), false, .mov (.tmp 11)⟩,
    ⟨(some 101), (some (99, true)), false, .call fence_Count [(.tmp 100)]⟩,
    ⟨(some 102), (some (99, true)), false, .mov (.tmp 0)⟩,
    ⟨(some 103), (some (99, true)), false, .lens false (.tmp 102)⟩,
    ⟨(some 104), (some (99, true)), false, .mov (.tmp 1)⟩,
    ⟨(some 105), (some (99, true)), false, .lens false (.tmp 104)⟩,
    ⟨(some 106), (some (99, true)), false, .bin .add (.tmp 103) (.tmp 105)⟩,
    ⟨(some 107), (some (99, true)), false, .bin .mul (.const (.int .i64 3)) (.tmp 106)⟩,
    ⟨(some 108), (some (99, true)), false, .bin .leq (.tmp 101) (.tmp 107)⟩,
    ⟨(some 109), none, false, .pick (.tmp 99) (.tmp 108) (.const (.bool false))⟩,
    ⟨(some 110), none, false, .mov (.tmp 109)⟩,
    ⟨(some 111), (some (110, true)), false, .call chantrylaw27_awake []⟩,
    ⟨(some 112), none, false, .pick (.tmp 110) (.tmp 111) (.const (.bool false))⟩,
    ⟨(some 6), none, false, .mov (.tmp 112)⟩]) .ret)))))))))
theorem fits_chantrylaw27_FenceNever : Fits Try.prog 0 chantrylaw27_FenceNever ic_chantrylaw27_FenceNever [.tmp 6] 3 :=
  ⟨Try.f5, Try.func5, by decide, by kernel_rfl, by kernel_rfl⟩

/-- chantry/chantrylaw27.few -/
noncomputable def ic_chantrylaw27_few : IC :=
  (.seq (.ops [
    ⟨(some 2), none, false, .mov (.const (.bool false))⟩]) (.seq (.draw [
    ⟨(some 3), none, false, .mov (.tmp 0)⟩,
    ⟨(some 4), none, false, .lens false (.tmp 3)⟩,
    ⟨(some 5), none, false, .bin .leq (.tmp 4) (.const (.int .i64 30))⟩,
    ⟨(some 6), none, false, .mov (.tmp 5)⟩,
    ⟨(some 7), (some (6, true)), false, .mov (.tmp 0)⟩,
    ⟨(some 8), (some (6, true)), false, .mov (.tmp 0)⟩,
    ⟨(some 9), (some (6, true)), false, .lens false (.tmp 8)⟩,
    ⟨(some 10), (some (6, true)), false, .bin .quo (.tmp 9) (.const (.int .i64 2))⟩,
    ⟨(some 11), (some (6, true)), false, .sll (.tmp 7) none (some (.tmp 10)) none 1⟩,
    ⟨(some 12), (some (6, true)), false, .build [.string ⟨#[]⟩, .slice none 0 0] [(1, 1, (.tmp 11))]⟩,
    ⟨(some 13), (some (6, true)), false, .mov (.tmp 0)⟩,
    ⟨(some 14), (some (6, true)), false, .mov (.tmp 0)⟩,
    ⟨(some 15), (some (6, true)), false, .lens false (.tmp 14)⟩,
    ⟨(some 16), (some (6, true)), false, .bin .quo (.tmp 15) (.const (.int .i64 2))⟩,
    ⟨(some 17), (some (6, true)), false, .sll (.tmp 13) (some (.tmp 16)) none none 1⟩,
    ⟨(some 18), (some (6, true)), false, .build [.string ⟨#[]⟩, .slice none 0 0] [(1, 1, (.tmp 17))]⟩,
    ⟨(some 19), (some (6, true)), false, .lit [.string ⟨#[]⟩, .slice none 0 0] 2 2 [(0, 2, (.tmp 12)), (2, 2, (.tmp 18))]⟩,
    ⟨(some 20), (some (6, true)), false, .call chantrylaw16_Few [(.tmp 19)]⟩,
    ⟨(some 21), none, false, .pick (.tmp 6) (.tmp 20) (.const (.bool false))⟩,
    ⟨(some 2), none, false, .mov (.tmp 21)⟩]) .ret))
theorem fits_chantrylaw27_few : Fits Try.prog 0 chantrylaw27_few ic_chantrylaw27_few [.tmp 2] 1 :=
  ⟨Try.f6, Try.func6, by decide, by kernel_rfl, by kernel_rfl⟩

/-- chantry/chantrylaw27.awake -/
noncomputable def ic_chantrylaw27_awake : IC :=
  (.seq (.ops [
    ⟨(some 0), none, false, .mov (.const (.bool false))⟩]) (.seq (.ops [
    ⟨(some 17), none, false, .call chantrylaw16_ID [(.const (.int .u8 1))]⟩,
    ⟨(some 18), none, false, .call chantrylaw16_ID [(.const (.int .u8 2))]⟩,
    ⟨(some 1), none, false, .mov (.tmp 17)⟩,
    ⟨(some 2), none, false, .mov (.tmp 18)⟩]) (.seq (.ops [
    ⟨(some 20), none, false, .mov (.tmp 1)⟩,
    ⟨(some 21), none, false, .lit [.string ⟨#[]⟩] 1 1 [(0, 1, (.tmp 20))]⟩,
    ⟨(some 22), none, false, .call fence_Make [(.tmp 21), (.const (.int .i64 20))]⟩,
    ⟨(some 19), none, false, .mov (.tmp 22)⟩,
    ⟨(some 23), none, false, .ext (.tmp 19) 0⟩,
    ⟨(some 24), none, false, .ext (.tmp 19) 1⟩,
    ⟨(some 3), none, false, .mov (.tmp 23)⟩,
    ⟨(some 4), none, false, .mov (.tmp 24)⟩]) (.seq (.ops [
    ⟨(some 26), none, false, .mov (.tmp 2)⟩,
    ⟨(some 27), none, false, .lit [.string ⟨#[]⟩] 1 1 [(0, 1, (.tmp 26))]⟩,
    ⟨(some 28), none, false, .call fence_Make [(.tmp 27), (.const (.int .i64 20))]⟩,
    ⟨(some 25), none, false, .mov (.tmp 28)⟩,
    ⟨(some 29), none, false, .ext (.tmp 25) 0⟩,
    ⟨(some 30), none, false, .ext (.tmp 25) 1⟩,
    ⟨(some 5), none, false, .mov (.tmp 29)⟩,
    ⟨(some 6), none, false, .mov (.tmp 30)⟩]) (.seq (.ops [
    ⟨(some 32), none, false, .call fence_Make [(.const (.slice none 0 0)), (.const (.int .i64 2))]⟩,
    ⟨(some 31), none, false, .mov (.tmp 32)⟩,
    ⟨(some 33), none, false, .ext (.tmp 31) 0⟩,
    ⟨(some 34), none, false, .ext (.tmp 31) 1⟩,
    ⟨(some 7), none, false, .mov (.tmp 33)⟩,
    ⟨(some 8), none, false, .mov (.tmp 34)⟩]) (.seq (.ops [
    ⟨(some 36), none, false, .lit [.string ⟨#[]⟩] 1 1 [(0, 1, (.const (.string ⟨#[120]⟩)))]⟩,
    ⟨(some 37), none, false, .call fence_Make [(.tmp 36), (.const (.int .i64 2))]⟩,
    ⟨(some 35), none, false, .mov (.tmp 37)⟩,
    ⟨(some 38), none, false, .ext (.tmp 35) 0⟩,
    ⟨(some 39), none, false, .ext (.tmp 35) 1⟩,
    ⟨(some 9), none, false, .mov (.tmp 38)⟩,
    ⟨(some 10), none, false, .mov (.tmp 39)⟩]) (.seq (.ops [
    ⟨(some 41), none, false, .call fence_Make [(.const (.slice none 0 0)), (.const (.int .i64 0))]⟩,
    ⟨(some 40), none, false, .mov (.tmp 41)⟩,
    ⟨(some 42), none, false, .ext (.tmp 40) 0⟩,
    ⟨(some 43), none, false, .ext (.tmp 40) 1⟩,
    ⟨(some 11), none, false, .mov (.tmp 42)⟩,
    ⟨(some 12), none, false, .mov (.tmp 43)⟩]) (.seq (.ops [
    ⟨(some 45), none, false, .mov (.tmp 3)⟩,
    ⟨(some 46), none, false, .mov (.tmp 5)⟩,
    ⟨(some 47), none, false, .call fence_Join [(.tmp 45), (.tmp 46)]⟩,
    ⟨(some 44), none, false, .mov (.tmp 47)⟩,
    ⟨(some 48), none, false, .ext (.tmp 44) 0⟩,
    ⟨(some 49), none, false, .ext (.tmp 44) 1⟩,
    ⟨(some 13), none, false, .mov (.tmp 48)⟩,
    ⟨(some 14), none, false, .mov (.tmp 49)⟩]) (.seq (.ops [
    ⟨(some 51), none, false, .mov (.tmp 3)⟩,
    ⟨(some 52), none, false, .mov (.tmp 7)⟩,
    ⟨(some 53), none, false, .call fence_Join [(.tmp 51), (.tmp 52)]⟩,
    ⟨(some 50), none, false, .mov (.tmp 53)⟩,
    ⟨(some 54), none, false, .ext (.tmp 50) 0⟩,
    ⟨(some 55), none, false, .ext (.tmp 50) 1⟩,
    ⟨(some 15), none, false, .mov (.tmp 54)⟩,
    ⟨(some 16), none, false, .mov (.tmp 55)⟩]) (.seq (.ops [
    ⟨(some 56), none, false, .mov (.tmp 4)⟩,
    ⟨(some 57), none, false, .bin .eql (.tmp 56) (.const (.int .i64 0))⟩,
    ⟨(some 58), none, false, .mov (.tmp 57)⟩,
    ⟨(some 59), (some (58, true)), false, .mov (.tmp 6)⟩,
    ⟨(some 60), (some (58, true)), false, .bin .eql (.tmp 59) (.const (.int .i64 0))⟩,
    ⟨(some 61), none, false, .pick (.tmp 58) (.tmp 60) (.const (.bool false))⟩,
    ⟨(some 62), none, false, .mov (.tmp 61)⟩,
    ⟨(some 63), (some (62, true)), false, .mov (.tmp 8)⟩,
    ⟨(some 64), (some (62, true)), false, .bin .eql (.tmp 63) (.const (.int .i64 0))⟩,
    ⟨(some 65), none, false, .pick (.tmp 62) (.tmp 64) (.const (.bool false))⟩,
    ⟨(some 66), none, false, .mov (.tmp 65)⟩,
    ⟨(some 67), (some (66, true)), false, .mov (.tmp 7)⟩,
    ⟨(some 68), (some (66, true)), false, .b2s (.tmp 67)⟩,
    ⟨(some 69), (some (66, true)), false, .bin .eql (.tmp 68) (.const (.string ⟨#[0, 0]⟩))⟩,
    ⟨(some 70), none, false, .pick (.tmp 66) (.tmp 69) (.const (.bool false))⟩,
    ⟨(some 71), none, false, .mov (.tmp 70)⟩,
    ⟨(some 72), (some (71, true)), false, .mov (.tmp 10)⟩,
    ⟨(some 73), (some (71, true)), false, .bin .eql (.tmp 72) (.const (.int .i64 1))⟩,
    ⟨(some 74), none, false, .pick (.tmp 71) (.tmp 73) (.const (.bool false))⟩,
    ⟨(some 75), none, false, .mov (.tmp 74)⟩,
    ⟨(some 76), (some (75, true)), false, .mov (.tmp 12)⟩,
    ⟨(some 77), (some (75, true)), false, .bin .eql (.tmp 76) (.const (.int .i64 1))⟩,
    ⟨(some 78), none, false, .pick (.tmp 75) (.tmp 77) (.const (.bool false))⟩,
    ⟨(some 79), none, false, .mov (.tmp 78)⟩,
    ⟨(some 80), (some (79, true)), false, .mov (.tmp 14)⟩,
    ⟨(some 81), (some (79, true)), false, .bin .eql (.tmp 80) (.const (.int .i64 0))⟩,
    ⟨(some 82), none, false, .pick (.tmp 79) (.tmp 81) (.const (.bool false))⟩,
    ⟨(some 83), none, false, .mov (.tmp 82)⟩,
    ⟨(some 84), (some (83, true)), false, .mov (.tmp 16)⟩,
    ⟨(some 85), (some (83, true)), false, .bin .eql (.tmp 84) (.const (.int .i64 1))⟩,
    ⟨(some 86), none, false, .pick (.tmp 83) (.tmp 85) (.const (.bool false))⟩,
    ⟨(some 87), none, false, .mov (.tmp 86)⟩,
    ⟨(some 88), (some (87, true)), false, .mov (.tmp 3)⟩,
    ⟨(some 89), (some (87, true)), false, .mov (.tmp 1)⟩,
    ⟨(some 90), (some (87, true)), false, .call fence_Has [(.tmp 88), (.tmp 89)]⟩,
    ⟨(some 91), none, false, .pick (.tmp 87) (.tmp 90) (.const (.bool false))⟩,
    ⟨(some 92), none, false, .mov (.tmp 91)⟩,
    ⟨(some 93), (some (92, true)), false, .mov (.tmp 3)⟩,
    ⟨(some 94), (some (92, true)), false, .mov (.tmp 2)⟩,
    ⟨(some 95), (some (92, true)), false, .call fence_Has [(.tmp 93), (.tmp 94)]⟩,
    ⟨(some 96), (some (92, true)), false, .un .not (.tmp 95)⟩,
    ⟨(some 97), none, false, .pick (.tmp 92) (.tmp 96) (.const (.bool false))⟩,
    ⟨(some 98), none, false, .mov (.tmp 97)⟩,
    ⟨(some 99), (some (98, true)), false, .mov (.tmp 13)⟩,
    ⟨(some 100), (some (98, true)), false, .mov (.tmp 1)⟩,
    ⟨(some 101), (some (98, true)), false, .call fence_Has [(.tmp 99), (.tmp 100)]⟩,
    ⟨(some 102), none, false, .pick (.tmp 98) (.tmp 101) (.const (.bool false))⟩,
    ⟨(some 103), none, false, .mov (.tmp 102)⟩,
    ⟨(some 104), (some (103, true)), false, .mov (.tmp 13)⟩,
    ⟨(some 105), (some (103, true)), false, .mov (.tmp 2)⟩,
    ⟨(some 106), (some (103, true)), false, .call fence_Has [(.tmp 104), (.tmp 105)]⟩,
    ⟨(some 107), none, false, .pick (.tmp 103) (.tmp 106) (.const (.bool false))⟩,
    ⟨(some 108), none, false, .mov (.tmp 107)⟩,
    ⟨(some 109), (some (108, true)), false, .mov (.tmp 7)⟩,
    ⟨(some 110), (some (108, true)), false, .call fence_Count [(.tmp 109)]⟩,
    ⟨(some 111), (some (108, true)), false, .bin .eql (.tmp 110) (.const (.int .i64 0))⟩,
    ⟨(some 112), none, false, .pick (.tmp 108) (.tmp 111) (.const (.bool false))⟩,
    ⟨(some 113), none, false, .mov (.tmp 112)⟩,
    ⟨(some 114), (some (113, true)), false, .lit [.int .u8 0] 1 1 [(0, 1, (.const (.int .u8 7)))]⟩,
    ⟨(some 115), (some (113, true)), false, .call fence_Count [(.tmp 114)]⟩,
    ⟨(some 116), (some (113, true)), false, .bin .eql (.tmp 115) (.const (.int .i64 3))⟩,
    ⟨(some 117), none, false, .pick (.tmp 113) (.tmp 116) (.const (.bool false))⟩,
    ⟨(some 118), none, false, .mov (.tmp 117)⟩,
    ⟨(some 119), (some (118, true)), false, .mov (.tmp 3)⟩,
    ⟨(some 120), (some (118, true)), false, .call fence_Has [(.tmp 119), (.const (.string ⟨#[120]⟩))]⟩,
    ⟨(some 121), (some (118, true)), false, .un .not (.tmp 120)⟩,
    ⟨(some 122), none, false, .pick (.tmp 118) (.tmp 121) (.const (.bool false))⟩,
    ⟨(some 123), none, false, .mov (.tmp 122)⟩,
    ⟨(some 124), (some (123, true)), false, .mov (.tmp 1)⟩,
    ⟨(some 125), (some (123, true)), false, .call fence_Has [(.const (.slice none 0 0)), (.tmp 124)]⟩,
    ⟨(some 126), (some (123, true)), false, .un .not (.tmp 125)⟩,
    ⟨(some 127), none, false, .pick (.tmp 123) (.tmp 126) (.const (.bool false))⟩,
    ⟨(some 0), none, false, .mov (.tmp 127)⟩]) .ret))))))))))
theorem fits_chantrylaw27_awake : Fits Try.prog 0 chantrylaw27_awake ic_chantrylaw27_awake [.tmp 0] 0 :=
  ⟨Try.f7, Try.func7, by decide, by kernel_rfl, by kernel_rfl⟩

/-- chantry/fence.Make -/
noncomputable def ic_fence_Make : IC :=
  (.seq (.ops [
    ⟨(some 4), none, false, .mov (.const (.slice none 0 0))⟩,
    ⟨(some 5), none, false, .mov (.const (.int .i64 0))⟩]) (.seq (.seq (.ops [
    ⟨(some 10), none, false, .mov (.tmp 1)⟩,
    ⟨(some 11), none, false, .call fence_may [(.tmp 10)]⟩,
    ⟨(some 12), none, false, .un .not (.tmp 11)⟩,
    ⟨(some 13), none, false, .mov (.tmp 12)⟩,
    ⟨(some 14), (some (13, false)), false, .mov (.tmp 0)⟩,
    ⟨(some 15), (some (13, false)), false, .call slices_ContainsFunc_string_string [(.tmp 14), (.func 20)]⟩,
    ⟨(some 16), none, false, .pick (.tmp 13) (.const (.bool true)) (.tmp 15)⟩]) (.cond (.tmp 16) (.seq (.ops [
    ⟨(some 4), none, false, .mov (.const (.slice none 0 0))⟩,
    ⟨(some 5), none, false, .mov (.const (.int .i64 1))⟩]) .ret) .skip)) (.seq (.ops [
    ⟨(some 17), none, false, .mov (.tmp 1)⟩,
    ⟨(some 18), none, false, .mk [.int .u8 0] 1 (.tmp 17) (.tmp 17)⟩,
    ⟨(some 6), none, false, .mov (.tmp 18)⟩]) (.seq (.seq (.ops [
    ⟨(some 19), none, false, .mov (.tmp 0)⟩,
    ⟨(some 20), none, false, .lens false (.tmp 19)⟩,
    ⟨(some 21), none, false, .mov (.const (.int .i64 0))⟩]) (.block 0 (.loop (.seq (.ops [
    ⟨(some 22), none, false, .bin .lss (.tmp 21) (.tmp 20)⟩]) (.seq (.cond (.tmp 22) .skip (.exit 0)) (.seq (.block 1 (.seq (.ops [
    ⟨(some 23), none, false, .iaddr (.tmp 19) (.tmp 21) 1⟩,
    ⟨(some 24), none, false, .load1 (.tmp 23)⟩,
    ⟨(some 8), none, false, .mov (.tmp 24)⟩]) (.seq (.ops [
    ⟨(some 25), none, false, .mov (.tmp 1)⟩,
    ⟨(some 26), none, false, .mov (.tmp 8)⟩,
    ⟨(some 27), none, false, .call fence_marks [(.tmp 25), (.tmp 26)]⟩,
    ⟨(some 9), none, false, .new [.int .i64 0, .int .i64 0, .int .i64 0]⟩,
    ⟨none, none, false, .store (.tmp 9) (.tmp 27) 3⟩]) (.ops [
    ⟨(some 28), none, false, .mov (.tmp 6)⟩,
    ⟨(some 29), none, false, .sla (.tmp 9) none none none 3 1⟩,
    ⟨(some 30), none, false, .call fence_set [(.tmp 28), (.tmp 29)]⟩])))) (.ops [
    ⟨(some 31), none, false, .bin .add (.tmp 21) (.const (.int .i64 1))⟩,
    ⟨(some 21), none, false, .mov (.tmp 31)⟩]))))))) (.seq (.ops [
    ⟨(some 32), none, false, .mov (.tmp 6)⟩,
    ⟨(some 4), none, false, .mov (.tmp 32)⟩,
    ⟨(some 5), none, false, .mov (.const (.int .i64 0))⟩]) .ret)))))
theorem fits_fence_Make : Fits Try.prog 0 fence_Make ic_fence_Make [.tmp 4, .tmp 5] 2 :=
  ⟨Try.f8, Try.func8, by decide, by kernel_rfl, by kernel_rfl⟩

/-- chantry/chantryref27.Make -/
noncomputable def ic_chantryref27_Make : IC :=
  (.seq (.ops [
    ⟨(some 4), none, false, .mov (.const (.slice none 0 0))⟩,
    ⟨(some 5), none, false, .mov (.const (.int .i64 0))⟩]) (.seq (.seq (.ops [
    ⟨(some 10), none, false, .mov (.tmp 1)⟩,
    ⟨(some 11), none, false, .bin .lss (.tmp 10) (.const (.int .i64 1))⟩,
    ⟨(some 12), none, false, .mov (.tmp 11)⟩,
    ⟨(some 13), (some (12, false)), false, .mov (.tmp 1)⟩,
    ⟨(some 14), (some (12, false)), false, .bin .gtr (.tmp 13) (.const (.int .i64 4096))⟩,
    ⟨(some 15), none, false, .pick (.tmp 12) (.const (.bool true)) (.tmp 14)⟩]) (.cond (.tmp 15) (.seq (.ops [
    ⟨(some 4), none, false, .mov (.const (.slice none 0 0))⟩,
    ⟨(some 5), none, false, .mov (.const (.int .i64 1))⟩]) .ret) .skip)) (.seq (.ops [
    ⟨(some 16), none, false, .mov (.tmp 1)⟩,
    ⟨(some 17), none, false, .mk [.int .u8 0] 1 (.tmp 16) (.tmp 16)⟩,
    ⟨(some 6), none, false, .mov (.tmp 17)⟩]) (.seq (.seq (.ops [
    ⟨(some 7), none, false, .mov (.const (.int .i64 0))⟩]) (.block 0 (.loop (.seq (.seq (.ops [
    ⟨(some 18), none, false, .mov (.tmp 7)⟩,
    ⟨(some 19), none, false, .mov (.tmp 0)⟩,
    ⟨(some 20), none, false, .lens false (.tmp 19)⟩,
    ⟨(some 21), none, false, .bin .lss (.tmp 18) (.tmp 20)⟩]) (.cond (.tmp 21) .skip (.exit 0))) (.seq (.block 1 (.seq (.seq (.ops [
    ⟨(some 24), none, false, .mov (.tmp 0)⟩,
    ⟨(some 25), none, false, .mov (.tmp 7)⟩,
    ⟨(some 26), none, false, .iaddr (.tmp 24) (.tmp 25) 1⟩,
    ⟨(some 27), none, false, .load1 (.tmp 26)⟩,
    ⟨(some 28), none, false, .call chantryref04_Right [(.tmp 27)]⟩,
    ⟨(some 29), none, false, .un .not (.tmp 28)⟩]) (.cond (.tmp 29) (.seq (.ops [
    ⟨(some 4), none, false, .mov (.const (.slice none 0 0))⟩,
    ⟨(some 5), none, false, .mov (.const (.int .i64 1))⟩]) .ret) .skip)) (.seq (.ops [
    ⟨(some 30), none, false, .mov (.tmp 1)⟩,
    ⟨(some 31), none, false, .mov (.tmp 0)⟩,
    ⟨(some 32), none, false, .mov (.tmp 7)⟩,
    ⟨(some 33), none, false, .iaddr (.tmp 31) (.tmp 32) 1⟩,
    ⟨(some 34), none, false, .load1 (.tmp 33)⟩,
    ⟨(some 35), none, false, .call chantryref27_marks [(.tmp 30), (.tmp 34)]⟩,
    ⟨(some 8), none, false, .mov (.tmp 35)⟩]) (.seq (.ops [
    ⟨(some 9), none, false, .mov (.const (.int .i64 0))⟩]) (.block 2 (.loop (.seq (.seq (.ops [
    ⟨(some 36), none, false, .mov (.tmp 9)⟩,
    ⟨(some 37), none, false, .bin .lss (.tmp 36) (.const (.int .i64 3))⟩]) (.cond (.tmp 37) .skip (.exit 2))) (.seq (.block 3 (.draw [
    ⟨(some 40), none, false, .mov (.tmp 6)⟩,
    ⟨(some 41), none, false, .mov (.tmp 8)⟩,
    ⟨(some 42), none, false, .mov (.tmp 9)⟩,
    ⟨(some 43), none, false, .iaddr (.tmp 41) (.tmp 42) 1⟩,
    ⟨(some 44), none, false, .load1 (.tmp 43)⟩,
    ⟨(some 45), none, false, .bin .quo (.tmp 44) (.const (.int .i64 8))⟩,
    ⟨(some 46), none, false, .mov (.tmp 6)⟩,
    ⟨(some 47), none, false, .mov (.tmp 8)⟩,
    ⟨(some 48), none, false, .mov (.tmp 9)⟩,
    ⟨(some 49), none, false, .iaddr (.tmp 47) (.tmp 48) 1⟩,
    ⟨(some 50), none, false, .load1 (.tmp 49)⟩,
    ⟨(some 51), none, false, .bin .quo (.tmp 50) (.const (.int .i64 8))⟩,
    ⟨(some 52), none, false, .iaddr (.tmp 46) (.tmp 51) 1⟩,
    ⟨(some 53), none, false, .load1 (.tmp 52)⟩,
    ⟨(some 54), none, false, .mov (.tmp 8)⟩,
    ⟨(some 55), none, false, .mov (.tmp 9)⟩,
    ⟨(some 56), none, false, .iaddr (.tmp 54) (.tmp 55) 1⟩,
    ⟨(some 57), none, false, .load1 (.tmp 56)⟩,
    ⟨(some 58), none, false, .bin .rem (.tmp 57) (.const (.int .i64 8))⟩,
    ⟨(some 59), none, false, .bin .shl (.const (.int .u8 1)) (.tmp 58)⟩,
    ⟨(some 60), none, false, .bin .or (.tmp 53) (.tmp 59)⟩,
    ⟨(some 61), none, false, .iaddr (.tmp 40) (.tmp 45) 1⟩,
    ⟨none, none, false, .store (.tmp 61) (.tmp 60) 1⟩])) (.ops [
    ⟨(some 38), none, false, .mov (.tmp 9)⟩,
    ⟨(some 39), none, false, .bin .add (.tmp 38) (.const (.int .i64 1))⟩,
    ⟨(some 9), none, false, .mov (.tmp 39)⟩]))))))))) (.ops [
    ⟨(some 22), none, false, .mov (.tmp 7)⟩,
    ⟨(some 23), none, false, .bin .add (.tmp 22) (.const (.int .i64 1))⟩,
    ⟨(some 7), none, false, .mov (.tmp 23)⟩])))))) (.seq (.ops [
    ⟨(some 62), none, false, .mov (.tmp 6)⟩,
    ⟨(some 4), none, false, .mov (.tmp 62)⟩,
    ⟨(some 5), none, false, .mov (.const (.int .i64 0))⟩]) .ret)))))
theorem fits_chantryref27_Make : Fits Try.prog 0 chantryref27_Make ic_chantryref27_Make [.tmp 4, .tmp 5] 2 :=
  ⟨Try.f9, Try.func9, by decide, by kernel_rfl, by kernel_rfl⟩

/-- chantry/fence.Has -/
noncomputable def ic_fence_Has : IC :=
  (.seq (.ops [
    ⟨(some 4), none, false, .mov (.const (.bool false))⟩]) (.seq (.seq (.ops [
    ⟨(some 7), none, false, .mov (.tmp 0)⟩,
    ⟨(some 8), none, false, .lens false (.tmp 7)⟩,
    ⟨(some 9), none, false, .call fence_may [(.tmp 8)]⟩,
    ⟨(some 10), none, false, .un .not (.tmp 9)⟩,
    ⟨(some 11), none, false, .mov (.tmp 10)⟩,
    ⟨(some 12), (some (11, false)), false, .mov (.tmp 1)⟩,
    ⟨(some 13), (some (11, false)), false, .call ids_Right [(.tmp 12)]⟩,
    ⟨(some 14), (some (11, false)), false, .un .not (.tmp 13)⟩,
    ⟨(some 15), none, false, .pick (.tmp 11) (.const (.bool true)) (.tmp 14)⟩]) (.cond (.tmp 15) (.seq (.ops [
    ⟨(some 4), none, false, .mov (.const (.bool false))⟩]) .ret) .skip)) (.seq (.seq (.ops [
    ⟨(some 16), none, false, .mov (.tmp 0)⟩,
    ⟨(some 17), none, false, .lens false (.tmp 16)⟩,
    ⟨(some 18), none, false, .mov (.tmp 1)⟩,
    ⟨(some 19), none, false, .call fence_marks [(.tmp 17), (.tmp 18)]⟩,
    ⟨(some 20), none, false, .mov (.const (.int .i64 0))⟩]) (.block 0 (.loop (.seq (.ops [
    ⟨(some 21), none, false, .bin .lss (.tmp 20) (.const (.int .i64 3))⟩]) (.seq (.cond (.tmp 21) .skip (.exit 0)) (.seq (.block 1 (.seq (.ops [
    ⟨(some 22), none, false, .idxa1 (.tmp 19) (.tmp 20) 3⟩,
    ⟨(some 6), none, false, .mov (.tmp 22)⟩]) (.seq (.ops [
    ⟨(some 23), none, false, .mov (.tmp 0)⟩,
    ⟨(some 24), none, false, .mov (.tmp 6)⟩,
    ⟨(some 25), none, false, .bin .quo (.tmp 24) (.const (.int .i64 8))⟩,
    ⟨(some 26), none, false, .iaddr (.tmp 23) (.tmp 25) 1⟩,
    ⟨(some 27), none, false, .load1 (.tmp 26)⟩,
    ⟨(some 28), none, false, .mov (.tmp 6)⟩,
    ⟨(some 29), none, false, .bin .rem (.tmp 28) (.const (.int .i64 8))⟩,
    ⟨(some 30), none, false, .bin .shr (.tmp 27) (.tmp 29)⟩,
    ⟨(some 31), none, false, .bin .and (.tmp 30) (.const (.int .u8 1))⟩,
    ⟨(some 32), none, false, .bin .eql (.tmp 31) (.const (.int .u8 0))⟩]) (.cond (.tmp 32) (.seq (.ops [
    ⟨(some 4), none, false, .mov (.const (.bool false))⟩]) .ret) .skip)))) (.ops [
    ⟨(some 33), none, false, .bin .add (.tmp 20) (.const (.int .i64 1))⟩,
    ⟨(some 20), none, false, .mov (.tmp 33)⟩]))))))) (.seq (.ops [
    ⟨(some 4), none, false, .mov (.const (.bool true))⟩]) .ret))))
theorem fits_fence_Has : Fits Try.prog 0 fence_Has ic_fence_Has [.tmp 4] 2 :=
  ⟨Try.f10, Try.func10, by decide, by kernel_rfl, by kernel_rfl⟩

/-- chantry/chantryref27.Has -/
noncomputable def ic_chantryref27_Has : IC :=
  (.seq (.ops [
    ⟨(some 4), none, false, .mov (.const (.bool false))⟩]) (.seq (.seq (.ops [
    ⟨(some 7), none, false, .mov (.tmp 0)⟩,
    ⟨(some 8), none, false, .call chantryref27_may [(.tmp 7)]⟩,
    ⟨(some 9), none, false, .un .not (.tmp 8)⟩,
    ⟨(some 10), none, false, .mov (.tmp 9)⟩,
    ⟨(some 11), (some (10, false)), false, .mov (.tmp 1)⟩,
    ⟨(some 12), (some (10, false)), false, .call chantryref04_Right [(.tmp 11)]⟩,
    ⟨(some 13), (some (10, false)), false, .un .not (.tmp 12)⟩,
    ⟨(some 14), none, false, .pick (.tmp 10) (.const (.bool true)) (.tmp 13)⟩]) (.cond (.tmp 14) (.seq (.ops [
    ⟨(some 4), none, false, .mov (.const (.bool false))⟩]) .ret) .skip)) (.seq (.ops [
    ⟨(some 15), none, false, .mov (.tmp 0)⟩,
    ⟨(some 16), none, false, .lens false (.tmp 15)⟩,
    ⟨(some 17), none, false, .mov (.tmp 1)⟩,
    ⟨(some 18), none, false, .call chantryref27_marks [(.tmp 16), (.tmp 17)]⟩,
    ⟨(some 5), none, false, .mov (.tmp 18)⟩]) (.seq (.seq (.ops [
    ⟨(some 6), none, false, .mov (.const (.int .i64 0))⟩]) (.block 0 (.loop (.seq (.seq (.ops [
    ⟨(some 19), none, false, .mov (.tmp 6)⟩,
    ⟨(some 20), none, false, .bin .lss (.tmp 19) (.const (.int .i64 3))⟩]) (.cond (.tmp 20) .skip (.exit 0))) (.seq (.block 1 (.seq (.draw [
    ⟨(some 23), none, false, .mov (.tmp 0)⟩,
    ⟨(some 24), none, false, .mov (.tmp 5)⟩,
    ⟨(some 25), none, false, .mov (.tmp 6)⟩,
    ⟨(some 26), none, false, .iaddr (.tmp 24) (.tmp 25) 1⟩,
    ⟨(some 27), none, false, .load1 (.tmp 26)⟩,
    ⟨(some 28), none, false, .bin .quo (.tmp 27) (.const (.int .i64 8))⟩,
    ⟨(some 29), none, false, .iaddr (.tmp 23) (.tmp 28) 1⟩,
    ⟨(some 30), none, false, .load1 (.tmp 29)⟩,
    ⟨(some 31), none, false, .mov (.tmp 5)⟩,
    ⟨(some 32), none, false, .mov (.tmp 6)⟩,
    ⟨(some 33), none, false, .iaddr (.tmp 31) (.tmp 32) 1⟩,
    ⟨(some 34), none, false, .load1 (.tmp 33)⟩,
    ⟨(some 35), none, false, .bin .rem (.tmp 34) (.const (.int .i64 8))⟩,
    ⟨(some 36), none, false, .bin .shr (.tmp 30) (.tmp 35)⟩,
    ⟨(some 37), none, false, .bin .and (.tmp 36) (.const (.int .u8 1))⟩,
    ⟨(some 38), none, false, .bin .eql (.tmp 37) (.const (.int .u8 0))⟩]) (.cond (.tmp 38) (.seq (.ops [
    ⟨(some 4), none, false, .mov (.const (.bool false))⟩]) .ret) .skip))) (.ops [
    ⟨(some 21), none, false, .mov (.tmp 6)⟩,
    ⟨(some 22), none, false, .bin .add (.tmp 21) (.const (.int .i64 1))⟩,
    ⟨(some 6), none, false, .mov (.tmp 22)⟩])))))) (.seq (.ops [
    ⟨(some 4), none, false, .mov (.const (.bool true))⟩]) .ret)))))
theorem fits_chantryref27_Has : Fits Try.prog 0 chantryref27_Has ic_chantryref27_Has [.tmp 4] 2 :=
  ⟨Try.f11, Try.func11, by decide, by kernel_rfl, by kernel_rfl⟩

/-- chantry/fence.Count -/
noncomputable def ic_fence_Count : IC :=
  (.seq (.ops [
    ⟨(some 2), none, false, .mov (.const (.int .i64 0))⟩]) (.seq (.ops [
    ⟨(some 3), none, false, .mov (.const (.int .i64 0))⟩]) (.seq (.seq (.ops [
    ⟨(some 6), none, false, .mov (.tmp 0)⟩,
    ⟨(some 7), none, false, .lens false (.tmp 6)⟩,
    ⟨(some 8), none, false, .mov (.const (.int .i64 0))⟩]) (.block 0 (.loop (.seq (.ops [
    ⟨(some 9), none, false, .bin .lss (.tmp 8) (.tmp 7)⟩]) (.seq (.cond (.tmp 9) .skip (.exit 0)) (.seq (.block 1 (.seq (.ops [
    ⟨(some 10), none, false, .iaddr (.tmp 6) (.tmp 8) 1⟩,
    ⟨(some 11), none, false, .load1 (.tmp 10)⟩,
    ⟨(some 5), none, false, .mov (.tmp 11)⟩]) (.block 2 (.loop (.seq (.seq (.ops [
    ⟨(some 12), none, false, .mov (.tmp 5)⟩,
    ⟨(some 13), none, false, .bin .gtr (.tmp 12) (.const (.int .u8 0))⟩]) (.cond (.tmp 13) .skip (.exit 2))) (.seq (.block 3 (.ops [
    ⟨(some 18), none, false, .mov (.tmp 3)⟩,
    ⟨(some 19), none, false, .bin .add (.tmp 18) (.const (.int .i64 1))⟩,
    ⟨(some 3), none, false, .mov (.tmp 19)⟩])) (.ops [
    ⟨(some 14), none, false, .mov (.tmp 5)⟩,
    ⟨(some 15), none, false, .mov (.tmp 5)⟩,
    ⟨(some 16), none, false, .bin .sub (.tmp 15) (.const (.int .u8 1))⟩,
    ⟨(some 17), none, false, .bin .and (.tmp 14) (.tmp 16)⟩,
    ⟨(some 5), none, false, .mov (.tmp 17)⟩]))))))) (.ops [
    ⟨(some 20), none, false, .bin .add (.tmp 8) (.const (.int .i64 1))⟩,
    ⟨(some 8), none, false, .mov (.tmp 20)⟩]))))))) (.seq (.ops [
    ⟨(some 21), none, false, .mov (.tmp 3)⟩,
    ⟨(some 2), none, false, .mov (.tmp 21)⟩]) .ret))))
theorem fits_fence_Count : Fits Try.prog 0 fence_Count ic_fence_Count [.tmp 2] 1 :=
  ⟨Try.f12, Try.func12, by decide, by kernel_rfl, by kernel_rfl⟩

/-- chantry/chantryref27.Count -/
noncomputable def ic_chantryref27_Count : IC :=
  (.seq (.ops [
    ⟨(some 2), none, false, .mov (.const (.int .i64 0))⟩]) (.seq (.ops [
    ⟨(some 3), none, false, .mov (.const (.int .i64 0))⟩]) (.seq (.seq (.ops [
    ⟨(some 4), none, false, .mov (.const (.int .i64 0))⟩]) (.block 0 (.loop (.seq (.seq (.ops [
    ⟨(some 6), none, false, .mov (.tmp 4)⟩,
    ⟨(some 7), none, false, .mov (.tmp 0)⟩,
    ⟨(some 8), none, false, .lens false (.tmp 7)⟩,
    ⟨(some 9), none, false, .bin .lss (.tmp 6) (.tmp 8)⟩]) (.cond (.tmp 9) .skip (.exit 0))) (.seq (.block 1 (.seq (.ops [
    ⟨(some 5), none, false, .mov (.const (.int .i64 0))⟩]) (.block 2 (.loop (.seq (.seq (.ops [
    ⟨(some 12), none, false, .mov (.tmp 5)⟩,
    ⟨(some 13), none, false, .bin .lss (.tmp 12) (.const (.int .i64 8))⟩]) (.cond (.tmp 13) .skip (.exit 2))) (.seq (.block 3 (.ops [
    ⟨(some 16), none, false, .mov (.tmp 3)⟩,
    ⟨(some 17), none, false, .mov (.tmp 0)⟩,
    ⟨(some 18), none, false, .mov (.tmp 4)⟩,
    ⟨(some 19), none, false, .iaddr (.tmp 17) (.tmp 18) 1⟩,
    ⟨(some 20), none, false, .load1 (.tmp 19)⟩,
    ⟨(some 21), none, false, .mov (.tmp 5)⟩,
    ⟨(some 22), none, false, .bin .shr (.tmp 20) (.tmp 21)⟩,
    ⟨(some 23), none, false, .bin .and (.tmp 22) (.const (.int .u8 1))⟩,
    ⟨(some 24), none, false, .conv .i64 (.tmp 23)⟩,
    ⟨(some 25), none, false, .bin .add (.tmp 16) (.tmp 24)⟩,
    ⟨(some 3), none, false, .mov (.tmp 25)⟩])) (.ops [
    ⟨(some 14), none, false, .mov (.tmp 5)⟩,
    ⟨(some 15), none, false, .bin .add (.tmp 14) (.const (.int .i64 1))⟩,
    ⟨(some 5), none, false, .mov (.tmp 15)⟩]))))))) (.ops [
    ⟨(some 10), none, false, .mov (.tmp 4)⟩,
    ⟨(some 11), none, false, .bin .add (.tmp 10) (.const (.int .i64 1))⟩,
    ⟨(some 4), none, false, .mov (.tmp 11)⟩])))))) (.seq (.ops [
    ⟨(some 26), none, false, .mov (.tmp 3)⟩,
    ⟨(some 2), none, false, .mov (.tmp 26)⟩]) .ret))))
theorem fits_chantryref27_Count : Fits Try.prog 0 chantryref27_Count ic_chantryref27_Count [.tmp 2] 1 :=
  ⟨Try.f13, Try.func13, by decide, by kernel_rfl, by kernel_rfl⟩

/-- chantry/fence.Join -/
noncomputable def ic_fence_Join : IC :=
  (.seq (.ops [
    ⟨(some 4), none, false, .mov (.const (.slice none 0 0))⟩,
    ⟨(some 5), none, false, .mov (.const (.int .i64 0))⟩]) (.seq (.seq (.ops [
    ⟨(some 9), none, false, .mov (.tmp 0)⟩,
    ⟨(some 10), none, false, .lens false (.tmp 9)⟩,
    ⟨(some 11), none, false, .call fence_may [(.tmp 10)]⟩,
    ⟨(some 12), none, false, .un .not (.tmp 11)⟩,
    ⟨(some 13), none, false, .mov (.tmp 12)⟩,
    ⟨(some 14), (some (13, false)), false, .mov (.tmp 0)⟩,
    ⟨(some 15), (some (13, false)), false, .lens false (.tmp 14)⟩,
    ⟨(some 16), (some (13, false)), false, .mov (.tmp 1)⟩,
    ⟨(some 17), (some (13, false)), false, .lens false (.tmp 16)⟩,
    ⟨(some 18), (some (13, false)), false, .bin .neq (.tmp 15) (.tmp 17)⟩,
    ⟨(some 19), none, false, .pick (.tmp 13) (.const (.bool true)) (.tmp 18)⟩]) (.cond (.tmp 19) (.seq (.ops [
    ⟨(some 4), none, false, .mov (.const (.slice none 0 0))⟩,
    ⟨(some 5), none, false, .mov (.const (.int .i64 1))⟩]) .ret) .skip)) (.seq (.ops [
    ⟨(some 20), none, false, .mov (.tmp 0)⟩,
    ⟨(some 21), none, false, .call slices_Clone_byte_byte [(.tmp 20)]⟩,
    ⟨(some 6), none, false, .mov (.tmp 21)⟩]) (.seq (.seq (.ops [
    ⟨(some 22), none, false, .mov (.tmp 1)⟩,
    ⟨(some 23), none, false, .lens false (.tmp 22)⟩,
    ⟨(some 24), none, false, .mov (.const (.int .i64 0))⟩]) (.block 0 (.loop (.seq (.ops [
    ⟨(some 25), none, false, .bin .lss (.tmp 24) (.tmp 23)⟩]) (.seq (.cond (.tmp 25) .skip (.exit 0)) (.seq (.block 1 (.seq (.ops [
    ⟨(some 26), none, false, .mov (.tmp 24)⟩,
    ⟨(some 27), none, false, .iaddr (.tmp 22) (.tmp 24) 1⟩,
    ⟨(some 28), none, false, .load1 (.tmp 27)⟩,
    ⟨(some 7), none, false, .mov (.tmp 26)⟩,
    ⟨(some 8), none, false, .mov (.tmp 28)⟩]) (.ops [
    ⟨(some 29), none, false, .mov (.tmp 6)⟩,
    ⟨(some 30), none, false, .mov (.tmp 7)⟩,
    ⟨(some 31), none, false, .iaddr (.tmp 29) (.tmp 30) 1⟩,
    ⟨(some 32), none, false, .load1 (.tmp 31)⟩,
    ⟨(some 33), none, false, .mov (.tmp 8)⟩,
    ⟨(some 34), none, false, .bin .or (.tmp 32) (.tmp 33)⟩,
    ⟨(some 35), none, false, .iaddr (.tmp 29) (.tmp 30) 1⟩,
    ⟨none, none, false, .store (.tmp 35) (.tmp 34) 1⟩]))) (.ops [
    ⟨(some 36), none, false, .bin .add (.tmp 24) (.const (.int .i64 1))⟩,
    ⟨(some 24), none, false, .mov (.tmp 36)⟩]))))))) (.seq (.ops [
    ⟨(some 37), none, false, .mov (.tmp 6)⟩,
    ⟨(some 4), none, false, .mov (.tmp 37)⟩,
    ⟨(some 5), none, false, .mov (.const (.int .i64 0))⟩]) .ret)))))
theorem fits_fence_Join : Fits Try.prog 0 fence_Join ic_fence_Join [.tmp 4, .tmp 5] 2 :=
  ⟨Try.f14, Try.func14, by decide, by kernel_rfl, by kernel_rfl⟩

/-- chantry/chantryref27.Join -/
noncomputable def ic_chantryref27_Join : IC :=
  (.seq (.ops [
    ⟨(some 4), none, false, .mov (.const (.slice none 0 0))⟩,
    ⟨(some 5), none, false, .mov (.const (.int .i64 0))⟩]) (.seq (.seq (.ops [
    ⟨(some 8), none, false, .mov (.tmp 0)⟩,
    ⟨(some 9), none, false, .call chantryref27_may [(.tmp 8)]⟩,
    ⟨(some 10), none, false, .un .not (.tmp 9)⟩,
    ⟨(some 11), none, false, .mov (.tmp 10)⟩,
    ⟨(some 12), (some (11, false)), false, .mov (.tmp 0)⟩,
    ⟨(some 13), (some (11, false)), false, .lens false (.tmp 12)⟩,
    ⟨(some 14), (some (11, false)), false, .mov (.tmp 1)⟩,
    ⟨(some 15), (some (11, false)), false, .lens false (.tmp 14)⟩,
    ⟨(some 16), (some (11, false)), false, .bin .neq (.tmp 13) (.tmp 15)⟩,
    ⟨(some 17), none, false, .pick (.tmp 11) (.const (.bool true)) (.tmp 16)⟩]) (.cond (.tmp 17) (.seq (.ops [
    ⟨(some 4), none, false, .mov (.const (.slice none 0 0))⟩,
    ⟨(some 5), none, false, .mov (.const (.int .i64 1))⟩]) .ret) .skip)) (.seq (.ops [
    ⟨(some 6), none, false, .mov (.const (.slice none 0 0))⟩]) (.seq (.seq (.ops [
    ⟨(some 7), none, false, .mov (.const (.int .i64 0))⟩]) (.block 0 (.loop (.seq (.seq (.ops [
    ⟨(some 18), none, false, .mov (.tmp 7)⟩,
    ⟨(some 19), none, false, .mov (.tmp 0)⟩,
    ⟨(some 20), none, false, .lens false (.tmp 19)⟩,
    ⟨(some 21), none, false, .bin .lss (.tmp 18) (.tmp 20)⟩]) (.cond (.tmp 21) .skip (.exit 0))) (.seq (.block 1 (.draw [
    ⟨(some 24), none, false, .mov (.tmp 6)⟩,
    ⟨(some 25), none, false, .mov (.tmp 0)⟩,
    ⟨(some 26), none, false, .mov (.tmp 7)⟩,
    ⟨(some 27), none, false, .iaddr (.tmp 25) (.tmp 26) 1⟩,
    ⟨(some 28), none, false, .load1 (.tmp 27)⟩,
    ⟨(some 29), none, false, .mov (.tmp 1)⟩,
    ⟨(some 30), none, false, .mov (.tmp 7)⟩,
    ⟨(some 31), none, false, .iaddr (.tmp 29) (.tmp 30) 1⟩,
    ⟨(some 32), none, false, .load1 (.tmp 31)⟩,
    ⟨(some 33), none, false, .bin .or (.tmp 28) (.tmp 32)⟩,
    ⟨(some 34), none, false, .lit [.int .u8 0] 1 1 [(0, 1, (.tmp 33))]⟩,
    ⟨(some 35), none, false, .app (.tmp 24) (.tmp 34) 1 1⟩,
    ⟨(some 6), none, false, .mov (.tmp 35)⟩])) (.ops [
    ⟨(some 22), none, false, .mov (.tmp 7)⟩,
    ⟨(some 23), none, false, .bin .add (.tmp 22) (.const (.int .i64 1))⟩,
    ⟨(some 7), none, false, .mov (.tmp 23)⟩])))))) (.seq (.ops [
    ⟨(some 36), none, false, .mov (.tmp 6)⟩,
    ⟨(some 4), none, false, .mov (.tmp 36)⟩,
    ⟨(some 5), none, false, .mov (.const (.int .i64 0))⟩]) .ret)))))
theorem fits_chantryref27_Join : Fits Try.prog 0 chantryref27_Join ic_chantryref27_Join [.tmp 4, .tmp 5] 2 :=
  ⟨Try.f15, Try.func15, by decide, by kernel_rfl, by kernel_rfl⟩

/-- chantry/chantrylaw16.Few -/
noncomputable def ic_chantrylaw16_Few : IC :=
  (.seq (.ops [
    ⟨(some 2), none, false, .mov (.const (.bool false))⟩]) (.seq (.seq (.ops [
    ⟨(some 5), none, false, .mov (.tmp 0)⟩,
    ⟨(some 6), none, false, .lens false (.tmp 5)⟩,
    ⟨(some 7), none, false, .bin .gtr (.tmp 6) (.const (.int .i64 30))⟩]) (.cond (.tmp 7) (.seq (.ops [
    ⟨(some 2), none, false, .mov (.const (.bool false))⟩]) .ret) .skip)) (.seq (.seq (.ops [
    ⟨(some 3), none, false, .mov (.const (.int .i64 0))⟩]) (.block 0 (.loop (.seq (.seq (.ops [
    ⟨(some 8), none, false, .mov (.tmp 3)⟩,
    ⟨(some 9), none, false, .mov (.tmp 0)⟩,
    ⟨(some 10), none, false, .lens false (.tmp 9)⟩,
    ⟨(some 11), none, false, .bin .lss (.tmp 8) (.tmp 10)⟩]) (.cond (.tmp 11) .skip (.exit 0))) (.seq (.block 1 (.seq (.seq (.ops [
    ⟨(some 14), none, false, .mov (.tmp 0)⟩,
    ⟨(some 15), none, false, .mov (.tmp 3)⟩,
    ⟨(some 16), none, false, .iaddr (.tmp 14) (.tmp 15) 2⟩,
    ⟨(some 17), none, false, .faddr (.tmp 16) 0⟩,
    ⟨(some 18), none, false, .load1 (.tmp 17)⟩,
    ⟨(some 19), none, false, .lens true (.tmp 18)⟩,
    ⟨(some 20), none, false, .bin .gtr (.tmp 19) (.const (.int .i64 100))⟩,
    ⟨(some 21), none, false, .mov (.tmp 20)⟩,
    ⟨(some 22), (some (21, false)), false, .mov (.tmp 0)⟩,
    ⟨(some 23), (some (21, false)), false, .mov (.tmp 3)⟩,
    ⟨(some 24), (some (21, false)), false, .iaddr (.tmp 22) (.tmp 23) 2⟩,
    ⟨(some 25), (some (21, false)), false, .faddr (.tmp 24) 1⟩,
    ⟨(some 26), (some (21, false)), false, .load1 (.tmp 25)⟩,
    ⟨(some 27), (some (21, false)), false, .lens false (.tmp 26)⟩,
    ⟨(some 28), (some (21, false)), false, .bin .gtr (.tmp 27) (.const (.int .i64 20))⟩,
    ⟨(some 29), none, false, .pick (.tmp 21) (.const (.bool true)) (.tmp 28)⟩]) (.cond (.tmp 29) (.seq (.ops [
    ⟨(some 2), none, false, .mov (.const (.bool false))⟩]) .ret) .skip)) (.seq (.ops [
    ⟨(some 4), none, false, .mov (.const (.int .i64 0))⟩]) (.block 2 (.loop (.seq (.seq (.ops [
    ⟨(some 30), none, false, .mov (.tmp 4)⟩,
    ⟨(some 31), none, false, .mov (.tmp 0)⟩,
    ⟨(some 32), none, false, .mov (.tmp 3)⟩,
    ⟨(some 33), none, false, .iaddr (.tmp 31) (.tmp 32) 2⟩,
    ⟨(some 34), none, false, .faddr (.tmp 33) 1⟩,
    ⟨(some 35), none, false, .load1 (.tmp 34)⟩,
    ⟨(some 36), none, false, .lens false (.tmp 35)⟩,
    ⟨(some 37), none, false, .bin .lss (.tmp 30) (.tmp 36)⟩]) (.cond (.tmp 37) .skip (.exit 2))) (.seq (.block 3 (.seq (.ops [
    ⟨(some 40), none, false, .mov (.tmp 0)⟩,
    ⟨(some 41), none, false, .mov (.tmp 3)⟩,
    ⟨(some 42), none, false, .iaddr (.tmp 40) (.tmp 41) 2⟩,
    ⟨(some 43), none, false, .faddr (.tmp 42) 1⟩,
    ⟨(some 44), none, false, .load1 (.tmp 43)⟩,
    ⟨(some 45), none, false, .mov (.tmp 4)⟩,
    ⟨(some 46), none, false, .iaddr (.tmp 44) (.tmp 45) 1⟩,
    ⟨(some 47), none, false, .load1 (.tmp 46)⟩,
    ⟨(some 48), none, false, .lens true (.tmp 47)⟩,
    ⟨(some 49), none, false, .bin .gtr (.tmp 48) (.const (.int .i64 100))⟩]) (.cond (.tmp 49) (.seq (.ops [
    ⟨(some 2), none, false, .mov (.const (.bool false))⟩]) .ret) .skip))) (.ops [
    ⟨(some 38), none, false, .mov (.tmp 4)⟩,
    ⟨(some 39), none, false, .bin .add (.tmp 38) (.const (.int .i64 1))⟩,
    ⟨(some 4), none, false, .mov (.tmp 39)⟩])))))))) (.ops [
    ⟨(some 12), none, false, .mov (.tmp 3)⟩,
    ⟨(some 13), none, false, .bin .add (.tmp 12) (.const (.int .i64 1))⟩,
    ⟨(some 3), none, false, .mov (.tmp 13)⟩])))))) (.seq (.ops [
    ⟨(some 2), none, false, .mov (.const (.bool true))⟩]) .ret))))
theorem fits_chantrylaw16_Few : Fits Try.prog 0 chantrylaw16_Few ic_chantrylaw16_Few [.tmp 2] 1 :=
  ⟨Try.f16, Try.func16, by decide, by kernel_rfl, by kernel_rfl⟩

/-- chantry/chantrylaw16.ID -/
noncomputable def ic_chantrylaw16_ID : IC :=
  (.seq (.ops [
    ⟨(some 2), none, false, .mov (.const (.string ⟨#[]⟩))⟩]) (.seq (.ops [
    ⟨(some 3), none, false, .mov (.const (.slice none 0 0))⟩]) (.seq (.seq (.ops [
    ⟨(some 4), none, false, .mov (.const (.int .i64 0))⟩]) (.block 0 (.loop (.seq (.seq (.ops [
    ⟨(some 5), none, false, .mov (.tmp 4)⟩,
    ⟨(some 6), none, false, .bin .lss (.tmp 5) (.const (.int .i64 32))⟩]) (.cond (.tmp 6) .skip (.exit 0))) (.seq (.block 1 (.ops [
    ⟨(some 9), none, false, .mov (.tmp 3)⟩,
    ⟨(some 10), none, false, .mov (.tmp 0)⟩,
    ⟨(some 11), none, false, .lit [.int .u8 0] 1 1 [(0, 1, (.tmp 10))]⟩,
    ⟨(some 12), none, false, .app (.tmp 9) (.tmp 11) 1 1⟩,
    ⟨(some 3), none, false, .mov (.tmp 12)⟩])) (.ops [
    ⟨(some 7), none, false, .mov (.tmp 4)⟩,
    ⟨(some 8), none, false, .bin .add (.tmp 7) (.const (.int .i64 1))⟩,
    ⟨(some 4), none, false, .mov (.tmp 8)⟩])))))) (.seq (.ops [
    ⟨(some 13), none, false, .mov (.tmp 3)⟩,
    ⟨(some 14), none, false, .b2s (.tmp 13)⟩,
    ⟨(some 2), none, false, .mov (.tmp 14)⟩]) .ret))))
theorem fits_chantrylaw16_ID : Fits Try.prog 0 chantrylaw16_ID ic_chantrylaw16_ID [.tmp 2] 1 :=
  ⟨Try.f17, Try.func17, by decide, by kernel_rfl, by kernel_rfl⟩

/-- chantry/fence.may -/
noncomputable def ic_fence_may : IC :=
  (.seq (.ops [
    ⟨(some 2), none, false, .mov (.const (.bool false))⟩]) (.seq (.ops [
    ⟨(some 3), none, false, .mov (.tmp 0)⟩,
    ⟨(some 4), none, false, .bin .geq (.tmp 3) (.const (.int .i64 1))⟩,
    ⟨(some 5), none, false, .mov (.tmp 4)⟩,
    ⟨(some 6), (some (5, true)), false, .mov (.tmp 0)⟩,
    ⟨(some 7), (some (5, true)), false, .bin .leq (.tmp 6) (.const (.int .i64 4096))⟩,
    ⟨(some 8), none, false, .pick (.tmp 5) (.tmp 7) (.const (.bool false))⟩,
    ⟨(some 2), none, false, .mov (.tmp 8)⟩]) .ret))
theorem fits_fence_may : Fits Try.prog 0 fence_may ic_fence_may [.tmp 2] 1 :=
  ⟨Try.f18, Try.func18, by decide, by kernel_rfl, by kernel_rfl⟩

/-- slices.ContainsFunc[[]string,string] -/
noncomputable def ic_slices_ContainsFunc_string_string : IC :=
  (.seq (.ops [
    ⟨(some 4), none, false, .mov (.const (.bool false))⟩]) (.seq (.ops [
    ⟨(some 5), none, false, .mov (.tmp 0)⟩,
    ⟨(some 6), none, false, .mov (.tmp 1)⟩,
    ⟨(some 7), none, false, .call slices_IndexFunc_string_string [(.tmp 5), (.tmp 6)]⟩,
    ⟨(some 8), none, false, .bin .geq (.tmp 7) (.const (.int .i64 0))⟩,
    ⟨(some 4), none, false, .mov (.tmp 8)⟩]) .ret))
theorem fits_slices_ContainsFunc_string_string : Fits Try.prog 0 slices_ContainsFunc_string_string ic_slices_ContainsFunc_string_string [.tmp 4] 2 :=
  ⟨Try.f19, Try.func19, by decide, by kernel_rfl, by kernel_rfl⟩

/-- chantry/fence.Make$1 -/
noncomputable def ic_fence_Make_1 : IC :=
  (.seq (.ops [
    ⟨(some 2), none, false, .mov (.const (.bool false))⟩]) (.seq (.ops [
    ⟨(some 3), none, false, .mov (.tmp 0)⟩,
    ⟨(some 4), none, false, .call ids_Right [(.tmp 3)]⟩,
    ⟨(some 5), none, false, .un .not (.tmp 4)⟩,
    ⟨(some 2), none, false, .mov (.tmp 5)⟩]) .ret))
theorem fits_fence_Make_1 : Fits Try.prog 0 fence_Make_1 ic_fence_Make_1 [.tmp 2] 1 :=
  ⟨Try.f20, Try.func20, by decide, by kernel_rfl, by kernel_rfl⟩

/-- chantry/ids.Right -/
noncomputable def ic_ids_Right : IC :=
  (.seq (.ops [
    ⟨(some 2), none, false, .mov (.const (.bool false))⟩]) (.seq (.ops [
    ⟨(some 3), none, false, .mov (.tmp 0)⟩,
    ⟨(some 4), none, false, .lens true (.tmp 3)⟩,
    ⟨(some 5), none, false, .bin .eql (.tmp 4) (.const (.int .i64 32))⟩,
    ⟨(some 2), none, false, .mov (.tmp 5)⟩]) .ret))
theorem fits_ids_Right : Fits Try.prog 0 ids_Right ic_ids_Right [.tmp 2] 1 :=
  ⟨Try.f21, Try.func21, by decide, by kernel_rfl, by kernel_rfl⟩

/-- chantry/fence.marks -/
noncomputable def ic_fence_marks : IC :=
  (.seq (.ops [
    ⟨(some 4), none, false, .new [.int .i64 0, .int .i64 0, .int .i64 0]⟩]) (.seq (.ops [
    ⟨(some 5), none, false, .new [.int .i64 0, .int .i64 0, .int .i64 0]⟩]) (.seq (.seq (.ops [
    ⟨(some 9), none, false, .mov (.const (.int .i64 0))⟩]) (.block 0 (.loop (.seq (.ops [
    ⟨(some 10), none, false, .bin .lss (.tmp 9) (.const (.int .i64 3))⟩]) (.seq (.cond (.tmp 10) .skip (.exit 0)) (.seq (.block 1 (.seq (.ops [
    ⟨(some 11), none, false, .mov (.tmp 9)⟩,
    ⟨(some 6), none, false, .mov (.tmp 11)⟩]) (.seq (.ops [
    ⟨(some 13), none, false, .mov (.tmp 1)⟩,
    ⟨(some 14), none, false, .mov (.tmp 6)⟩,
    ⟨(some 15), none, false, .bin .mul (.const (.int .i64 3)) (.tmp 14)⟩,
    ⟨(some 16), none, false, .mov (.tmp 6)⟩,
    ⟨(some 17), none, false, .bin .add (.tmp 16) (.const (.int .i64 1))⟩,
    ⟨(some 18), none, false, .bin .mul (.const (.int .i64 3)) (.tmp 17)⟩,
    ⟨(some 19), none, false, .sls (.tmp 13) (some (.tmp 15)) (some (.tmp 18))⟩,
    ⟨(some 20), none, false, .s2b (.tmp 19)⟩,
    ⟨(some 21), none, false, .call num_Unfix [(.tmp 20)]⟩,
    ⟨(some 12), none, false, .mov (.tmp 21)⟩,
    ⟨(some 22), none, false, .ext (.tmp 12) 0⟩,
    ⟨(some 23), none, false, .ext (.tmp 12) 1⟩,
    ⟨(some 7), none, false, .mov (.tmp 22)⟩,
    ⟨(some 8), none, false, .mov (.tmp 23)⟩]) (.ops [
    ⟨(some 24), none, false, .mov (.tmp 6)⟩,
    ⟨(some 25), none, false, .mov (.tmp 7)⟩,
    ⟨(some 26), none, false, .mov (.tmp 0)⟩,
    ⟨(some 27), none, false, .bin .mul (.const (.int .i64 8)) (.tmp 26)⟩,
    ⟨(some 28), none, false, .bin .rem (.tmp 25) (.tmp 27)⟩,
    ⟨(some 29), none, false, .iarr (.tmp 5) (.tmp 24) 3 1⟩,
    ⟨none, none, false, .store (.tmp 29) (.tmp 28) 1⟩])))) (.ops [
    ⟨(some 30), none, false, .bin .add (.tmp 9) (.const (.int .i64 1))⟩,
    ⟨(some 9), none, false, .mov (.tmp 30)⟩]))))))) (.seq (.ops [
    ⟨(some 31), none, false, .loadn (.tmp 5) 3⟩,
    ⟨none, none, false, .store (.tmp 4) (.tmp 31) 3⟩]) .ret))))
theorem fits_fence_marks : Fits Try.prog 0 fence_marks ic_fence_marks [.many 4 3] 2 :=
  ⟨Try.f22, Try.func22, by decide, by kernel_rfl, by kernel_rfl⟩

/-- chantry/fence.set -/
noncomputable def ic_fence_set : IC :=
  (.seq (.ops [
    ⟨(some 6), none, false, .mov (.tmp 1)⟩,
    ⟨(some 7), none, false, .lens false (.tmp 6)⟩,
    ⟨(some 8), none, false, .mov (.const (.int .i64 0))⟩]) (.block 0 (.loop (.seq (.ops [
    ⟨(some 9), none, false, .bin .lss (.tmp 8) (.tmp 7)⟩]) (.seq (.cond (.tmp 9) .skip (.exit 0)) (.seq (.block 1 (.seq (.ops [
    ⟨(some 10), none, false, .iaddr (.tmp 6) (.tmp 8) 1⟩,
    ⟨(some 11), none, false, .load1 (.tmp 10)⟩,
    ⟨(some 5), none, false, .mov (.tmp 11)⟩]) (.draw [
    ⟨(some 12), none, false, .mov (.tmp 0)⟩,
    ⟨(some 13), none, false, .mov (.tmp 5)⟩,
    ⟨(some 14), none, false, .bin .quo (.tmp 13) (.const (.int .i64 8))⟩,
    ⟨(some 15), none, false, .iaddr (.tmp 12) (.tmp 14) 1⟩,
    ⟨(some 16), none, false, .load1 (.tmp 15)⟩,
    ⟨(some 17), none, false, .mov (.tmp 5)⟩,
    ⟨(some 18), none, false, .bin .rem (.tmp 17) (.const (.int .i64 8))⟩,
    ⟨(some 19), none, false, .bin .shl (.const (.int .u8 1)) (.tmp 18)⟩,
    ⟨(some 20), none, false, .bin .or (.tmp 16) (.tmp 19)⟩,
    ⟨(some 21), none, false, .iaddr (.tmp 12) (.tmp 14) 1⟩,
    ⟨none, none, false, .store (.tmp 21) (.tmp 20) 1⟩]))) (.ops [
    ⟨(some 22), none, false, .bin .add (.tmp 8) (.const (.int .i64 1))⟩,
    ⟨(some 8), none, false, .mov (.tmp 22)⟩])))))))
theorem fits_fence_set : Fits Try.prog 0 fence_set ic_fence_set [] 2 :=
  ⟨Try.f23, Try.func23, by decide, by kernel_rfl, by kernel_rfl⟩

/-- chantry/chantryref04.Right -/
noncomputable def ic_chantryref04_Right : IC :=
  (.seq (.ops [
    ⟨(some 2), none, false, .mov (.const (.bool false))⟩]) (.seq (.ops [
    ⟨(some 3), none, false, .mov (.tmp 0)⟩,
    ⟨(some 4), none, false, .lens true (.tmp 3)⟩,
    ⟨(some 5), none, false, .bin .eql (.tmp 4) (.const (.int .i64 32))⟩,
    ⟨(some 2), none, false, .mov (.tmp 5)⟩]) .ret))
theorem fits_chantryref04_Right : Fits Try.prog 0 chantryref04_Right ic_chantryref04_Right [.tmp 2] 1 :=
  ⟨Try.f24, Try.func24, by decide, by kernel_rfl, by kernel_rfl⟩

/-- chantry/chantryref27.marks -/
noncomputable def ic_chantryref27_marks : IC :=
  (.seq (.ops [
    ⟨(some 4), none, false, .mov (.const (.slice none 0 0))⟩]) (.seq (.ops [
    ⟨(some 5), none, false, .mov (.const (.slice none 0 0))⟩]) (.seq (.seq (.ops [
    ⟨(some 6), none, false, .mov (.const (.int .i64 0))⟩]) (.block 0 (.loop (.seq (.seq (.ops [
    ⟨(some 9), none, false, .mov (.tmp 6)⟩,
    ⟨(some 10), none, false, .bin .lss (.tmp 9) (.const (.int .i64 3))⟩]) (.cond (.tmp 10) .skip (.exit 0))) (.seq (.block 1 (.seq (.ops [
    ⟨(some 14), none, false, .mov (.tmp 1)⟩,
    ⟨(some 15), none, false, .mov (.tmp 6)⟩,
    ⟨(some 16), none, false, .bin .mul (.const (.int .i64 3)) (.tmp 15)⟩,
    ⟨(some 17), none, false, .mov (.tmp 6)⟩,
    ⟨(some 18), none, false, .bin .mul (.const (.int .i64 3)) (.tmp 17)⟩,
    ⟨(some 19), none, false, .bin .add (.tmp 18) (.const (.int .i64 3))⟩,
    ⟨(some 20), none, false, .sls (.tmp 14) (some (.tmp 16)) (some (.tmp 19))⟩,
    ⟨(some 21), none, false, .s2b (.tmp 20)⟩,
    ⟨(some 22), none, false, .call chantryref01_Unfix [(.tmp 21)]⟩,
    ⟨(some 13), none, false, .mov (.tmp 22)⟩,
    ⟨(some 23), none, false, .ext (.tmp 13) 0⟩,
    ⟨(some 24), none, false, .ext (.tmp 13) 1⟩,
    ⟨(some 7), none, false, .mov (.tmp 23)⟩,
    ⟨(some 8), none, false, .mov (.tmp 24)⟩]) (.ops [
    ⟨(some 25), none, false, .mov (.tmp 5)⟩,
    ⟨(some 26), none, false, .mov (.tmp 7)⟩,
    ⟨(some 27), none, false, .mov (.tmp 0)⟩,
    ⟨(some 28), none, false, .bin .mul (.const (.int .i64 8)) (.tmp 27)⟩,
    ⟨(some 29), none, false, .bin .rem (.tmp 26) (.tmp 28)⟩,
    ⟨(some 30), none, false, .lit [.int .i64 0] 1 1 [(0, 1, (.tmp 29))]⟩,
    ⟨(some 31), none, false, .app (.tmp 25) (.tmp 30) 1 8⟩,
    ⟨(some 5), none, false, .mov (.tmp 31)⟩]))) (.ops [
    ⟨(some 11), none, false, .mov (.tmp 6)⟩,
    ⟨(some 12), none, false, .bin .add (.tmp 11) (.const (.int .i64 1))⟩,
    ⟨(some 6), none, false, .mov (.tmp 12)⟩])))))) (.seq (.ops [
    ⟨(some 32), none, false, .mov (.tmp 5)⟩,
    ⟨(some 4), none, false, .mov (.tmp 32)⟩]) .ret))))
theorem fits_chantryref27_marks : Fits Try.prog 0 chantryref27_marks ic_chantryref27_marks [.tmp 4] 2 :=
  ⟨Try.f25, Try.func25, by decide, by kernel_rfl, by kernel_rfl⟩

/-- chantry/chantryref27.may -/
noncomputable def ic_chantryref27_may : IC :=
  (.seq (.ops [
    ⟨(some 2), none, false, .mov (.const (.bool false))⟩]) (.seq (.ops [
    ⟨(some 3), none, false, .mov (.tmp 0)⟩,
    ⟨(some 4), none, false, .lens false (.tmp 3)⟩,
    ⟨(some 5), none, false, .bin .geq (.tmp 4) (.const (.int .i64 1))⟩,
    ⟨(some 6), none, false, .mov (.tmp 5)⟩,
    ⟨(some 7), (some (6, true)), false, .mov (.tmp 0)⟩,
    ⟨(some 8), (some (6, true)), false, .lens false (.tmp 7)⟩,
    ⟨(some 9), (some (6, true)), false, .bin .leq (.tmp 8) (.const (.int .i64 4096))⟩,
    ⟨(some 10), none, false, .pick (.tmp 6) (.tmp 9) (.const (.bool false))⟩,
    ⟨(some 2), none, false, .mov (.tmp 10)⟩]) .ret))
theorem fits_chantryref27_may : Fits Try.prog 0 chantryref27_may ic_chantryref27_may [.tmp 2] 1 :=
  ⟨Try.f26, Try.func26, by decide, by kernel_rfl, by kernel_rfl⟩

/-- slices.Clone[[]byte,byte] -/
noncomputable def ic_slices_Clone_byte_byte : IC :=
  (.seq (.ops [
    ⟨(some 2), none, false, .mov (.const (.slice none 0 0))⟩]) (.seq (.seq (.ops [
    ⟨(some 3), none, false, .mov (.tmp 0)⟩,
    ⟨(some 4), none, false, .isnil (.slice 5) (.tmp 3) false⟩]) (.cond (.tmp 4) (.seq (.ops [
    ⟨(some 2), none, false, .mov (.const (.slice none 0 0))⟩]) .ret) .skip)) (.seq (.ops [
    ⟨(some 5), none, false, .lit [.int .u8 0] 1 0 []⟩,
    ⟨(some 6), none, false, .mov (.tmp 0)⟩,
    ⟨(some 7), none, false, .app (.tmp 5) (.tmp 6) 1 1⟩,
    ⟨(some 2), none, false, .mov (.tmp 7)⟩]) .ret)))
theorem fits_slices_Clone_byte_byte : Fits Try.prog 0 slices_Clone_byte_byte ic_slices_Clone_byte_byte [.tmp 2] 1 :=
  ⟨Try.f27, Try.func27, by decide, by kernel_rfl, by kernel_rfl⟩

/-- slices.IndexFunc[[]string,string] -/
noncomputable def ic_slices_IndexFunc_string_string : IC :=
  (.seq (.ops [
    ⟨(some 4), none, false, .mov (.const (.int .i64 0))⟩]) (.seq (.seq (.ops [
    ⟨(some 6), none, false, .mov (.tmp 0)⟩,
    ⟨(some 7), none, false, .lens false (.tmp 6)⟩,
    ⟨(some 8), none, false, .mov (.const (.int .i64 0))⟩]) (.block 0 (.loop (.seq (.ops [
    ⟨(some 9), none, false, .bin .lss (.tmp 8) (.tmp 7)⟩]) (.seq (.cond (.tmp 9) .skip (.exit 0)) (.seq (.block 1 (.seq (.ops [
    ⟨(some 10), none, false, .mov (.tmp 8)⟩,
    ⟨(some 5), none, false, .mov (.tmp 10)⟩]) (.seq (.ops [
    ⟨(some 11), none, false, .mov (.tmp 1)⟩,
    ⟨(some 12), none, false, .mov (.tmp 0)⟩,
    ⟨(some 13), none, false, .mov (.tmp 5)⟩,
    ⟨(some 14), none, false, .iaddr (.tmp 12) (.tmp 13) 1⟩,
    ⟨(some 15), none, false, .load1 (.tmp 14)⟩,
    ⟨(some 16), none, false, .calld (.tmp 11) [(.tmp 15)]⟩]) (.cond (.tmp 16) (.seq (.ops [
    ⟨(some 17), none, false, .mov (.tmp 5)⟩,
    ⟨(some 4), none, false, .mov (.tmp 17)⟩]) .ret) .skip)))) (.ops [
    ⟨(some 18), none, false, .bin .add (.tmp 8) (.const (.int .i64 1))⟩,
    ⟨(some 8), none, false, .mov (.tmp 18)⟩]))))))) (.seq (.ops [
    ⟨(some 4), none, false, .mov (.const (.int .i64 (-1)))⟩]) .ret)))
theorem fits_slices_IndexFunc_string_string : Fits Try.prog 0 slices_IndexFunc_string_string ic_slices_IndexFunc_string_string [.tmp 4] 2 :=
  ⟨Try.f28, Try.func28, by decide, by kernel_rfl, by kernel_rfl⟩

/-- chantry/num.Unfix -/
noncomputable def ic_num_Unfix : IC :=
  (.seq (.ops [
    ⟨(some 2), none, false, .mov (.const (.int .i64 0))⟩,
    ⟨(some 3), none, false, .mov (.const (.int .i64 0))⟩]) (.seq (.seq (.ops [
    ⟨(some 7), none, false, .mov (.tmp 0)⟩,
    ⟨(some 8), none, false, .lens false (.tmp 7)⟩,
    ⟨(some 9), none, false, .bin .lss (.tmp 8) (.const (.int .i64 1))⟩,
    ⟨(some 10), none, false, .mov (.tmp 9)⟩,
    ⟨(some 11), (some (10, false)), false, .mov (.tmp 0)⟩,
    ⟨(some 12), (some (10, false)), false, .lens false (.tmp 11)⟩,
    ⟨(some 13), (some (10, false)), false, .bin .gtr (.tmp 12) (.const (.int .i64 4))⟩,
    ⟨(some 14), none, false, .pick (.tmp 10) (.const (.bool true)) (.tmp 13)⟩]) (.cond (.tmp 14) (.seq (.ops [
    ⟨(some 2), none, false, .mov (.const (.int .i64 0))⟩,
    ⟨(some 3), none, false, .mov (.const (.int .i64 1))⟩]) .ret) .skip)) (.seq (.ops [
    ⟨(some 4), none, false, .mov (.const (.int .i64 0))⟩]) (.seq (.seq (.ops [
    ⟨(some 15), none, false, .mov (.tmp 0)⟩,
    ⟨(some 16), none, false, .lens false (.tmp 15)⟩,
    ⟨(some 17), none, false, .mov (.const (.int .i64 0))⟩]) (.block 0 (.loop (.seq (.ops [
    ⟨(some 18), none, false, .bin .lss (.tmp 17) (.tmp 16)⟩]) (.seq (.cond (.tmp 18) .skip (.exit 0)) (.seq (.block 1 (.seq (.ops [
    ⟨(some 19), none, false, .mov (.tmp 17)⟩,
    ⟨(some 20), none, false, .iaddr (.tmp 15) (.tmp 17) 1⟩,
    ⟨(some 21), none, false, .load1 (.tmp 20)⟩,
    ⟨(some 5), none, false, .mov (.tmp 19)⟩,
    ⟨(some 6), none, false, .mov (.tmp 21)⟩]) (.ops [
    ⟨(some 22), none, false, .mov (.tmp 4)⟩,
    ⟨(some 23), none, false, .mov (.tmp 6)⟩,
    ⟨(some 24), none, false, .conv .i64 (.tmp 23)⟩,
    ⟨(some 25), none, false, .mov (.tmp 5)⟩,
    ⟨(some 26), none, false, .bin .mul (.const (.int .i64 8)) (.tmp 25)⟩,
    ⟨(some 27), none, false, .bin .shl (.tmp 24) (.tmp 26)⟩,
    ⟨(some 28), none, false, .bin .or (.tmp 22) (.tmp 27)⟩,
    ⟨(some 4), none, false, .mov (.tmp 28)⟩]))) (.ops [
    ⟨(some 29), none, false, .bin .add (.tmp 17) (.const (.int .i64 1))⟩,
    ⟨(some 17), none, false, .mov (.tmp 29)⟩]))))))) (.seq (.seq (.ops [
    ⟨(some 30), none, false, .mov (.tmp 4)⟩,
    ⟨(some 31), none, false, .call num_is [(.tmp 30)]⟩,
    ⟨(some 32), none, false, .un .not (.tmp 31)⟩]) (.cond (.tmp 32) (.seq (.ops [
    ⟨(some 2), none, false, .mov (.const (.int .i64 0))⟩,
    ⟨(some 3), none, false, .mov (.const (.int .i64 5))⟩]) .ret) .skip)) (.seq (.ops [
    ⟨(some 33), none, false, .mov (.tmp 4)⟩,
    ⟨(some 2), none, false, .mov (.tmp 33)⟩,
    ⟨(some 3), none, false, .mov (.const (.int .i64 0))⟩]) .ret))))))
theorem fits_num_Unfix : Fits Try.prog 0 num_Unfix ic_num_Unfix [.tmp 2, .tmp 3] 1 :=
  ⟨Try.f29, Try.func29, by decide, by kernel_rfl, by kernel_rfl⟩

/-- chantry/chantryref01.Unfix -/
noncomputable def ic_chantryref01_Unfix : IC :=
  (.seq (.ops [
    ⟨(some 2), none, false, .mov (.const (.int .i64 0))⟩,
    ⟨(some 3), none, false, .mov (.const (.int .i64 0))⟩]) (.seq (.seq (.ops [
    ⟨(some 6), none, false, .mov (.tmp 0)⟩,
    ⟨(some 7), none, false, .lens false (.tmp 6)⟩,
    ⟨(some 8), none, false, .bin .lss (.tmp 7) (.const (.int .i64 1))⟩,
    ⟨(some 9), none, false, .mov (.tmp 8)⟩,
    ⟨(some 10), (some (9, false)), false, .mov (.tmp 0)⟩,
    ⟨(some 11), (some (9, false)), false, .lens false (.tmp 10)⟩,
    ⟨(some 12), (some (9, false)), false, .bin .gtr (.tmp 11) (.const (.int .i64 4))⟩,
    ⟨(some 13), none, false, .pick (.tmp 9) (.const (.bool true)) (.tmp 12)⟩]) (.cond (.tmp 13) (.seq (.ops [
    ⟨(some 2), none, false, .mov (.const (.int .i64 0))⟩,
    ⟨(some 3), none, false, .mov (.const (.int .i64 1))⟩]) .ret) .skip)) (.seq (.ops [
    ⟨(some 4), none, false, .mov (.const (.int .i64 0))⟩]) (.seq (.seq (.ops [
    ⟨(some 14), none, false, .mov (.tmp 0)⟩,
    ⟨(some 15), none, false, .lens false (.tmp 14)⟩,
    ⟨(some 16), none, false, .bin .sub (.tmp 15) (.const (.int .i64 1))⟩,
    ⟨(some 5), none, false, .mov (.tmp 16)⟩]) (.block 0 (.loop (.seq (.seq (.ops [
    ⟨(some 17), none, false, .mov (.tmp 5)⟩,
    ⟨(some 18), none, false, .bin .geq (.tmp 17) (.const (.int .i64 0))⟩]) (.cond (.tmp 18) .skip (.exit 0))) (.seq (.block 1 (.ops [
    ⟨(some 21), none, false, .mov (.tmp 4)⟩,
    ⟨(some 22), none, false, .bin .mul (.const (.int .i64 256)) (.tmp 21)⟩,
    ⟨(some 23), none, false, .mov (.tmp 0)⟩,
    ⟨(some 24), none, false, .mov (.tmp 5)⟩,
    ⟨(some 25), none, false, .iaddr (.tmp 23) (.tmp 24) 1⟩,
    ⟨(some 26), none, false, .load1 (.tmp 25)⟩,
    ⟨(some 27), none, false, .conv .i64 (.tmp 26)⟩,
    ⟨(some 28), none, false, .bin .add (.tmp 22) (.tmp 27)⟩,
    ⟨(some 4), none, false, .mov (.tmp 28)⟩])) (.ops [
    ⟨(some 19), none, false, .mov (.tmp 5)⟩,
    ⟨(some 20), none, false, .bin .sub (.tmp 19) (.const (.int .i64 1))⟩,
    ⟨(some 5), none, false, .mov (.tmp 20)⟩])))))) (.seq (.seq (.ops [
    ⟨(some 29), none, false, .mov (.tmp 4)⟩,
    ⟨(some 30), none, false, .bin .gtr (.tmp 29) (.const (.int .i64 2147483647))⟩]) (.cond (.tmp 30) (.seq (.ops [
    ⟨(some 2), none, false, .mov (.const (.int .i64 0))⟩,
    ⟨(some 3), none, false, .mov (.const (.int .i64 5))⟩]) .ret) .skip)) (.seq (.ops [
    ⟨(some 31), none, false, .mov (.tmp 4)⟩,
    ⟨(some 2), none, false, .mov (.tmp 31)⟩,
    ⟨(some 3), none, false, .mov (.const (.int .i64 0))⟩]) .ret))))))
theorem fits_chantryref01_Unfix : Fits Try.prog 0 chantryref01_Unfix ic_chantryref01_Unfix [.tmp 2, .tmp 3] 1 :=
  ⟨Try.f30, Try.func30, by decide, by kernel_rfl, by kernel_rfl⟩

/-- chantry/num.is -/
noncomputable def ic_num_is : IC :=
  (.seq (.ops [
    ⟨(some 2), none, false, .mov (.const (.bool false))⟩]) (.seq (.ops [
    ⟨(some 3), none, false, .mov (.tmp 0)⟩,
    ⟨(some 4), none, false, .bin .geq (.tmp 3) (.const (.int .i64 0))⟩,
    ⟨(some 5), none, false, .mov (.tmp 4)⟩,
    ⟨(some 6), (some (5, true)), false, .mov (.tmp 0)⟩,
    ⟨(some 7), (some (5, true)), false, .bin .leq (.tmp 6) (.const (.int .i64 2147483647))⟩,
    ⟨(some 8), none, false, .pick (.tmp 5) (.tmp 7) (.const (.bool false))⟩,
    ⟨(some 2), none, false, .mov (.tmp 8)⟩]) .ret))
theorem fits_num_is : Fits Try.prog 0 num_is ic_num_is [.tmp 2] 1 :=
  ⟨Try.f31, Try.func31, by decide, by kernel_rfl, by kernel_rfl⟩

-- NOT SERVED 32 (runtime.boundsError).Error: no body

-- NOT SERVED 33 (runtime.boundsError).RuntimeError: no body

-- NOT SERVED 34 (runtime.errorString).Error: no body

-- NOT SERVED 35 (runtime.errorString).RuntimeError: no body

-- NOT SERVED 36 (runtime.plainError).Error: no body

-- NOT SERVED 37 (runtime.plainError).RuntimeError: no body

-- NOT SERVED 38 (runtime.errorAddressString).Error: no body

-- NOT SERVED 39 (runtime.errorAddressString).RuntimeError: no body

-- NOT SERVED 40 (*runtime.TypeAssertionError).Error: no body

-- NOT SERVED 41 (*runtime.TypeAssertionError).RuntimeError: no body

-- NOT SERVED 42 (*runtime.PanicNilError).Error: no body

-- NOT SERVED 43 (*runtime.PanicNilError).RuntimeError: no body

-- NOT SERVED 44 (*internal/abi.Type).Align: no body

-- NOT SERVED 45 (internal/runtime/maps.unhashableTypeError).Error: no body

-- NOT SERVED 46 (internal/runtime/maps.unhashableTypeError).RuntimeError: no body

-- NOT SERVED 47 (internal/abi.Kind).String: no body

end Go.AS.C

namespace Go.AS.C
open Go Go.Proofs
set_option linter.unusedVariables false
set_option linter.unusedSimpArgs false
set_option maxRecDepth 10000

theorem mixed : Try.prog.follows .mixedOrders = true := by kernel_rfl

end Go.AS.C

namespace Go.AS.C
open Go Go.Proofs
set_option linter.unusedVariables false
set_option linter.unusedSimpArgs false
set_option maxRecDepth 10000

theorem num_is_spec {A : AH} {n : Int} {Q : Value → AH → Prop} (hq : Q (.bool (decide (0 ≤ n ∧ n ≤ 2147483647))) A) : ACalls 0 Try.prog num_is [ii n] Q A := by
  refine ACalls.of_fits mixed fits_num_is rfl ?_
  unfold ic_num_is
  have i0 : initA [ii n] 0 = ii n := rfl
  generalize initA [ii n] = a at i0
  by_cases h : (0 : Int) ≤ n
  · have h1 : (n ≥ 0) = True := by simp [h]
    simp only [W_seq, W_ops, W_draw, W_block, W_skip, W_exit, W_ret, sq_normal, sq_ret, sq_exit, W_condv, condW_true, condW_false, thenA_normal, thenA_ret, thenA_exit, if_true, if_false, Bool.false_eq_true, decide_eq_true_eq, inBlockA_normal, inBlockA_ret, inBlockA_same, inBlockA_other, noGotoA_normal, noGotoA_ret, noGotoA_exit, Wops_nil, Wops_cons, Wops_le, Wops_guard, Wops_guardle, ok1_some, okV_some, kont_at, kontL_at, gdB_true, gdB_false, decide_true, decide_false, ev_tmp, ev_const, ev_func, ev_global, put_some, put_none, upd_same, upd_at, gd_bt, gd_bf, Bool.not_true, Bool.not_false, pick_true, pick_false, pick_b, not_b, W1_mov, W1_pick, W1_new, W1_box, W1_build, W1_lit, W1_load1, W1_loadn, W1_store, W1_nilc, W1_bin, W1_un, W1_conv, W1_b2s, W1_s2b, W1_field1, W1_fieldn, W1_faddr, W1_iaddr, W1_iarr, W1_idxs, W1_idxa1, W1_idxan, W1_sls, W1_sll, W1_sla, W1_mk, W1_ext, W1_fn, W1_ifc, W1_lens, W1_lenc, W1_app, W1_apps, W1_copy, W1_mn, W1_mx, W1_isnil, W1_strc, W1_beq, W1_mks, W1_capn, W1_appz, W1_eqagg, W1_call, W1_calld, callD_func, List.nil_append, List.append_nil, List.map_cons, List.map_nil, Option.map_some, Option.map_none, reduceIte, Option.some.injEq, exists_eq_left', Nat.reduceBEq, iv_ii, postA_ret, postA_normal, resVs_nil, resVs_tmp, resVs_one, resVs_many, Option.bind_some, tupleOf, Int.toNat_natCast, true_and, and_true, Nat.reduceEqDiff, i0, binA_geq, binA_leq, h1]
    simpa [h] using hq
  · have h1 : (n ≥ 0) = False := by simp; omega
    simp only [W_seq, W_ops, W_draw, W_block, W_skip, W_exit, W_ret, sq_normal, sq_ret, sq_exit, W_condv, condW_true, condW_false, thenA_normal, thenA_ret, thenA_exit, if_true, if_false, Bool.false_eq_true, decide_eq_true_eq, inBlockA_normal, inBlockA_ret, inBlockA_same, inBlockA_other, noGotoA_normal, noGotoA_ret, noGotoA_exit, Wops_nil, Wops_cons, Wops_le, Wops_guard, Wops_guardle, ok1_some, okV_some, kont_at, kontL_at, gdB_true, gdB_false, decide_true, decide_false, ev_tmp, ev_const, ev_func, ev_global, put_some, put_none, upd_same, upd_at, gd_bt, gd_bf, Bool.not_true, Bool.not_false, pick_true, pick_false, pick_b, not_b, W1_mov, W1_pick, W1_new, W1_box, W1_build, W1_lit, W1_load1, W1_loadn, W1_store, W1_nilc, W1_bin, W1_un, W1_conv, W1_b2s, W1_s2b, W1_field1, W1_fieldn, W1_faddr, W1_iaddr, W1_iarr, W1_idxs, W1_idxa1, W1_idxan, W1_sls, W1_sll, W1_sla, W1_mk, W1_ext, W1_fn, W1_ifc, W1_lens, W1_lenc, W1_app, W1_apps, W1_copy, W1_mn, W1_mx, W1_isnil, W1_strc, W1_beq, W1_mks, W1_capn, W1_appz, W1_eqagg, W1_call, W1_calld, callD_func, List.nil_append, List.append_nil, List.map_cons, List.map_nil, Option.map_some, Option.map_none, reduceIte, Option.some.injEq, exists_eq_left', Nat.reduceBEq, iv_ii, postA_ret, postA_normal, resVs_nil, resVs_tmp, resVs_one, resVs_many, Option.bind_some, tupleOf, Int.toNat_natCast, true_and, and_true, Nat.reduceEqDiff, i0, binA_geq, binA_leq, h1]
    simpa [h] using hq

end Go.AS.C

namespace Go.AS.C
open Go Go.Proofs
set_option linter.unusedVariables false
set_option linter.unusedSimpArgs false
set_option maxRecDepth 10000

theorem num_Unfix_spec {A : AH} {v : Value} {bs : List UInt8} {Q : Value → AH → Prop} (hv : Byt A v bs) (hq : Q (.tuple #[ii ((unfixN bs).1 : Nat), ii ((unfixN bs).2 : Nat)]) A) : ACalls 0 Try.prog num_Unfix [v] Q A := by
  refine ACalls.of_fits mixed fits_num_Unfix rfl ?_
  unfold ic_num_Unfix
  have i0 : initA [v] 0 = v := rfl
  generalize initA [v] = a at i0
  by_cases h1 : bs.length < 1
  · have c1 : ((bs.length : Int) < 1) = True := by simp; omega
    simp only [W_seq, W_ops, W_draw, W_block, W_skip, W_exit, W_ret, sq_normal, sq_ret, sq_exit, W_condv, condW_true, condW_false, thenA_normal, thenA_ret, thenA_exit, if_true, if_false, Bool.false_eq_true, decide_eq_true_eq, inBlockA_normal, inBlockA_ret, inBlockA_same, inBlockA_other, noGotoA_normal, noGotoA_ret, noGotoA_exit, Wops_nil, Wops_cons, Wops_le, Wops_guard, Wops_guardle, ok1_some, okV_some, kont_at, kontL_at, gdB_true, gdB_false, decide_true, decide_false, ev_tmp, ev_const, ev_func, ev_global, put_some, put_none, upd_same, upd_at, gd_bt, gd_bf, Bool.not_true, Bool.not_false, pick_true, pick_false, pick_b, not_b, W1_mov, W1_pick, W1_new, W1_box, W1_build, W1_lit, W1_load1, W1_loadn, W1_store, W1_nilc, W1_bin, W1_un, W1_conv, W1_b2s, W1_s2b, W1_field1, W1_fieldn, W1_faddr, W1_iaddr, W1_iarr, W1_idxs, W1_idxa1, W1_idxan, W1_sls, W1_sll, W1_sla, W1_mk, W1_ext, W1_fn, W1_ifc, W1_lens, W1_lenc, W1_app, W1_apps, W1_copy, W1_mn, W1_mx, W1_isnil, W1_strc, W1_beq, W1_mks, W1_capn, W1_appz, W1_eqagg, W1_call, W1_calld, callD_func, List.nil_append, List.append_nil, List.map_cons, List.map_nil, Option.map_some, Option.map_none, reduceIte, Option.some.injEq, exists_eq_left', Nat.reduceBEq, iv_ii, postA_ret, postA_normal, resVs_nil, resVs_tmp, resVs_one, resVs_many, Option.bind_some, tupleOf, Int.toNat_natCast, true_and, and_true, Nat.reduceEqDiff, i0, hv.len, binA_lss, c1]
    have e : unfixN bs = (0, 1) := by unfold unfixN; rw [if_pos (.inl h1)]
    rw [e] at hq
    exact hq
  · have c1 : ((bs.length : Int) < 1) = False := by simp; omega
    by_cases h4 : 4 < bs.length
    · have c2 : ((bs.length : Int) > 4) = True := by simp; omega
      simp only [W_seq, W_ops, W_draw, W_block, W_skip, W_exit, W_ret, sq_normal, sq_ret, sq_exit, W_condv, condW_true, condW_false, thenA_normal, thenA_ret, thenA_exit, if_true, if_false, Bool.false_eq_true, decide_eq_true_eq, inBlockA_normal, inBlockA_ret, inBlockA_same, inBlockA_other, noGotoA_normal, noGotoA_ret, noGotoA_exit, Wops_nil, Wops_cons, Wops_le, Wops_guard, Wops_guardle, ok1_some, okV_some, kont_at, kontL_at, gdB_true, gdB_false, decide_true, decide_false, ev_tmp, ev_const, ev_func, ev_global, put_some, put_none, upd_same, upd_at, gd_bt, gd_bf, Bool.not_true, Bool.not_false, pick_true, pick_false, pick_b, not_b, W1_mov, W1_pick, W1_new, W1_box, W1_build, W1_lit, W1_load1, W1_loadn, W1_store, W1_nilc, W1_bin, W1_un, W1_conv, W1_b2s, W1_s2b, W1_field1, W1_fieldn, W1_faddr, W1_iaddr, W1_iarr, W1_idxs, W1_idxa1, W1_idxan, W1_sls, W1_sll, W1_sla, W1_mk, W1_ext, W1_fn, W1_ifc, W1_lens, W1_lenc, W1_app, W1_apps, W1_copy, W1_mn, W1_mx, W1_isnil, W1_strc, W1_beq, W1_mks, W1_capn, W1_appz, W1_eqagg, W1_call, W1_calld, callD_func, List.nil_append, List.append_nil, List.map_cons, List.map_nil, Option.map_some, Option.map_none, reduceIte, Option.some.injEq, exists_eq_left', Nat.reduceBEq, iv_ii, postA_ret, postA_normal, resVs_nil, resVs_tmp, resVs_one, resVs_many, Option.bind_some, tupleOf, Int.toNat_natCast, true_and, and_true, Nat.reduceEqDiff, i0, hv.len, binA_lss, c1, binA_gtr, c2]
      have e : unfixN bs = (0, 1) := by unfold unfixN; rw [if_pos (.inr h4)]
      rw [e] at hq
      exact hq
    · have c2 : ((bs.length : Int) > 4) = False := by simp; omega
      simp only [W_seq, W_ops, W_draw, W_block, W_skip, W_exit, W_ret, sq_normal, sq_ret, sq_exit, W_condv, condW_true, condW_false, thenA_normal, thenA_ret, thenA_exit, if_true, if_false, Bool.false_eq_true, decide_eq_true_eq, inBlockA_normal, inBlockA_ret, inBlockA_same, inBlockA_other, noGotoA_normal, noGotoA_ret, noGotoA_exit, Wops_nil, Wops_cons, Wops_le, Wops_guard, Wops_guardle, ok1_some, okV_some, kont_at, kontL_at, gdB_true, gdB_false, decide_true, decide_false, ev_tmp, ev_const, ev_func, ev_global, put_some, put_none, upd_same, upd_at, gd_bt, gd_bf, Bool.not_true, Bool.not_false, pick_true, pick_false, pick_b, not_b, W1_mov, W1_pick, W1_new, W1_box, W1_build, W1_lit, W1_load1, W1_loadn, W1_store, W1_nilc, W1_bin, W1_un, W1_conv, W1_b2s, W1_s2b, W1_field1, W1_fieldn, W1_faddr, W1_iaddr, W1_iarr, W1_idxs, W1_idxa1, W1_idxan, W1_sls, W1_sll, W1_sla, W1_mk, W1_ext, W1_fn, W1_ifc, W1_lens, W1_lenc, W1_app, W1_apps, W1_copy, W1_mn, W1_mx, W1_isnil, W1_strc, W1_beq, W1_mks, W1_capn, W1_appz, W1_eqagg, W1_call, W1_calld, callD_func, List.nil_append, List.append_nil, List.map_cons, List.map_nil, Option.map_some, Option.map_none, reduceIte, Option.some.injEq, exists_eq_left', Nat.reduceBEq, iv_ii, postA_ret, postA_normal, resVs_nil, resVs_tmp, resVs_one, resVs_many, Option.bind_some, tupleOf, Int.toNat_natCast, true_and, and_true, Nat.reduceEqDiff, i0, hv.len, binA_lss, c1, binA_gtr, c2]
      refine W_loop (fun a' A' => A' = A ∧ ∃ k : Nat, k ≤ bs.length ∧ a' 15 = v ∧ a' 16 = ii bs.length ∧ a' 17 = ii k ∧ a' 4 = ii (leN (bs.take k) : Nat)) (fun a' _ => (bs.length - (iv (a' 17)).toNat)) ?_ ?_
      · refine ⟨rfl, 0, by omega, ?_⟩
        simp only [W_seq, W_ops, W_draw, W_block, W_skip, W_exit, W_ret, sq_normal, sq_ret, sq_exit, W_condv, condW_true, condW_false, thenA_normal, thenA_ret, thenA_exit, if_true, if_false, Bool.false_eq_true, decide_eq_true_eq, inBlockA_normal, inBlockA_ret, inBlockA_same, inBlockA_other, noGotoA_normal, noGotoA_ret, noGotoA_exit, Wops_nil, Wops_cons, Wops_le, Wops_guard, Wops_guardle, ok1_some, okV_some, kont_at, kontL_at, gdB_true, gdB_false, decide_true, decide_false, ev_tmp, ev_const, ev_func, ev_global, put_some, put_none, upd_same, upd_at, gd_bt, gd_bf, Bool.not_true, Bool.not_false, pick_true, pick_false, pick_b, not_b, W1_mov, W1_pick, W1_new, W1_box, W1_build, W1_lit, W1_load1, W1_loadn, W1_store, W1_nilc, W1_bin, W1_un, W1_conv, W1_b2s, W1_s2b, W1_field1, W1_fieldn, W1_faddr, W1_iaddr, W1_iarr, W1_idxs, W1_idxa1, W1_idxan, W1_sls, W1_sll, W1_sla, W1_mk, W1_ext, W1_fn, W1_ifc, W1_lens, W1_lenc, W1_app, W1_apps, W1_copy, W1_mn, W1_mx, W1_isnil, W1_strc, W1_beq, W1_mks, W1_capn, W1_appz, W1_eqagg, W1_call, W1_calld, callD_func, List.nil_append, List.append_nil, List.map_cons, List.map_nil, Option.map_some, Option.map_none, reduceIte, Option.some.injEq, exists_eq_left', Nat.reduceBEq, iv_ii, postA_ret, postA_normal, resVs_nil, resVs_tmp, resVs_one, resVs_many, Option.bind_some, tupleOf, Int.toNat_natCast, true_and, and_true, Nat.reduceEqDiff, i0]
        simp [leN]
      · rintro a A' ⟨rfl, k, hk, g15, g16, g17, g4⟩
        rcases Nat.lt_or_ge k bs.length with hlt | hge
        · have hc : ((k : Int) < (bs.length : Int)) = True := by simp; omega
          obtain ⟨b, hb⟩ : ∃ b, bs[k]? = some b := ⟨_, List.getElem?_eq_getElem hlt⟩
          obtain ⟨p, hp1, hp2⟩ := hv.at1 hb
          have hb8 := b.toNat_lt
          have hk3 : k ≤ 3 := by omega
          have hpk : 2 ^ (8 * k) ≤ 2 ^ 24 := Nat.pow_le_pow_right (by omega) (by omega)
          have hlow := leN_lt (bs.take k)
          have hlen : (bs.take k).length = k := by simp; omega
          rw [hlen, ← pow256] at hlow
          have hm : b.toNat * 2 ^ (8 * k) ≤ 256 * 2 ^ 24 := Nat.mul_le_mul (by omega) hpk
          have d1 : binA .mul (ii 8) (ii k) = some (ii ((8 * k : Nat) : Int)) := mul_ii 8 k (by omega)
          have d2 := shl_ii b.toNat .i64 (8 * k) (by omega) (by omega)
          have d3 := or_ii (leN (bs.take k)) (b.toNat * 2 ^ (8 * k)) (by omega) (by omega)
          simp only [W_seq, W_ops, W_draw, W_block, W_skip, W_exit, W_ret, sq_normal, sq_ret, sq_exit, W_condv, condW_true, condW_false, thenA_normal, thenA_ret, thenA_exit, if_true, if_false, Bool.false_eq_true, decide_eq_true_eq, inBlockA_normal, inBlockA_ret, inBlockA_same, inBlockA_other, noGotoA_normal, noGotoA_ret, noGotoA_exit, Wops_nil, Wops_cons, Wops_le, Wops_guard, Wops_guardle, ok1_some, okV_some, kont_at, kontL_at, gdB_true, gdB_false, decide_true, decide_false, ev_tmp, ev_const, ev_func, ev_global, put_some, put_none, upd_same, upd_at, gd_bt, gd_bf, Bool.not_true, Bool.not_false, pick_true, pick_false, pick_b, not_b, W1_mov, W1_pick, W1_new, W1_box, W1_build, W1_lit, W1_load1, W1_loadn, W1_store, W1_nilc, W1_bin, W1_un, W1_conv, W1_b2s, W1_s2b, W1_field1, W1_fieldn, W1_faddr, W1_iaddr, W1_iarr, W1_idxs, W1_idxa1, W1_idxan, W1_sls, W1_sll, W1_sla, W1_mk, W1_ext, W1_fn, W1_ifc, W1_lens, W1_lenc, W1_app, W1_apps, W1_copy, W1_mn, W1_mx, W1_isnil, W1_strc, W1_beq, W1_mks, W1_capn, W1_appz, W1_eqagg, W1_call, W1_calld, callD_func, List.nil_append, List.append_nil, List.map_cons, List.map_nil, Option.map_some, Option.map_none, reduceIte, Option.some.injEq, exists_eq_left', Nat.reduceBEq, iv_ii, postA_ret, postA_normal, resVs_nil, resVs_tmp, resVs_one, resVs_many, Option.bind_some, tupleOf, Int.toNat_natCast, true_and, and_true, Nat.reduceEqDiff, g15, g16, g17, g4, binA_lss, hc, hp1, hp2, conv_i64_by8, d1, d2, d3, binA_add1 k (by omega)]
          refine ⟨⟨k + 1, by omega, rfl, ?_⟩, by omega⟩
          rw [List.take_add_one, hb, leN_append, hlen, or_low _ _ _ hlow, pow256]
          simp only [Option.toList_some, leN, Nat.mul_zero, Nat.add_zero]
          rw [Nat.mul_comm b.toNat]
        · have hc : ((k : Int) < (bs.length : Int)) = False := by simp; omega
          simp only [W_seq, W_ops, W_draw, W_block, W_skip, W_exit, W_ret, sq_normal, sq_ret, sq_exit, W_condv, condW_true, condW_false, thenA_normal, thenA_ret, thenA_exit, if_true, if_false, Bool.false_eq_true, decide_eq_true_eq, inBlockA_normal, inBlockA_ret, inBlockA_same, inBlockA_other, noGotoA_normal, noGotoA_ret, noGotoA_exit, Wops_nil, Wops_cons, Wops_le, Wops_guard, Wops_guardle, ok1_some, okV_some, kont_at, kontL_at, gdB_true, gdB_false, decide_true, decide_false, ev_tmp, ev_const, ev_func, ev_global, put_some, put_none, upd_same, upd_at, gd_bt, gd_bf, Bool.not_true, Bool.not_false, pick_true, pick_false, pick_b, not_b, W1_mov, W1_pick, W1_new, W1_box, W1_build, W1_lit, W1_load1, W1_loadn, W1_store, W1_nilc, W1_bin, W1_un, W1_conv, W1_b2s, W1_s2b, W1_field1, W1_fieldn, W1_faddr, W1_iaddr, W1_iarr, W1_idxs, W1_idxa1, W1_idxan, W1_sls, W1_sll, W1_sla, W1_mk, W1_ext, W1_fn, W1_ifc, W1_lens, W1_lenc, W1_app, W1_apps, W1_copy, W1_mn, W1_mx, W1_isnil, W1_strc, W1_beq, W1_mks, W1_capn, W1_appz, W1_eqagg, W1_call, W1_calld, callD_func, List.nil_append, List.append_nil, List.map_cons, List.map_nil, Option.map_some, Option.map_none, reduceIte, Option.some.injEq, exists_eq_left', Nat.reduceBEq, iv_ii, postA_ret, postA_normal, resVs_nil, resVs_tmp, resVs_one, resVs_many, Option.bind_some, tupleOf, Int.toNat_natCast, true_and, and_true, Nat.reduceEqDiff, g15, g16, g17, g4, binA_lss, hc]
          rw [List.take_of_length_le hge]
          refine num_is_spec ?_
          by_cases hmax : leN bs ≤ 2147483647
          · have c3 : ((0 : Int) ≤ (leN bs : Nat) ∧ ((leN bs : Nat) : Int) ≤ 2147483647) = True := by simp; omega
            have e : unfixN bs = (leN bs, 0) := by unfold unfixN; rw [if_neg (by omega), if_pos hmax]
            rw [e] at hq
            rw [List.take_of_length_le hge] at g4
            simp only [W_seq, W_ops, W_draw, W_block, W_skip, W_exit, W_ret, sq_normal, sq_ret, sq_exit, W_condv, condW_true, condW_false, thenA_normal, thenA_ret, thenA_exit, if_true, if_false, Bool.false_eq_true, decide_eq_true_eq, inBlockA_normal, inBlockA_ret, inBlockA_same, inBlockA_other, noGotoA_normal, noGotoA_ret, noGotoA_exit, Wops_nil, Wops_cons, Wops_le, Wops_guard, Wops_guardle, ok1_some, okV_some, kont_at, kontL_at, gdB_true, gdB_false, decide_true, decide_false, ev_tmp, ev_const, ev_func, ev_global, put_some, put_none, upd_same, upd_at, gd_bt, gd_bf, Bool.not_true, Bool.not_false, pick_true, pick_false, pick_b, not_b, W1_mov, W1_pick, W1_new, W1_box, W1_build, W1_lit, W1_load1, W1_loadn, W1_store, W1_nilc, W1_bin, W1_un, W1_conv, W1_b2s, W1_s2b, W1_field1, W1_fieldn, W1_faddr, W1_iaddr, W1_iarr, W1_idxs, W1_idxa1, W1_idxan, W1_sls, W1_sll, W1_sla, W1_mk, W1_ext, W1_fn, W1_ifc, W1_lens, W1_lenc, W1_app, W1_apps, W1_copy, W1_mn, W1_mx, W1_isnil, W1_strc, W1_beq, W1_mks, W1_capn, W1_appz, W1_eqagg, W1_call, W1_calld, callD_func, List.nil_append, List.append_nil, List.map_cons, List.map_nil, Option.map_some, Option.map_none, reduceIte, Option.some.injEq, exists_eq_left', Nat.reduceBEq, iv_ii, postA_ret, postA_normal, resVs_nil, resVs_tmp, resVs_one, resVs_many, Option.bind_some, tupleOf, Int.toNat_natCast, true_and, and_true, Nat.reduceEqDiff, c3, g4]
            exact hq
          · have c3 : ((0 : Int) ≤ (leN bs : Nat) ∧ ((leN bs : Nat) : Int) ≤ 2147483647) = False := by simp; omega
            have e : unfixN bs = (0, 5) := by unfold unfixN; rw [if_neg (by omega), if_neg hmax]
            rw [e] at hq
            simp only [W_seq, W_ops, W_draw, W_block, W_skip, W_exit, W_ret, sq_normal, sq_ret, sq_exit, W_condv, condW_true, condW_false, thenA_normal, thenA_ret, thenA_exit, if_true, if_false, Bool.false_eq_true, decide_eq_true_eq, inBlockA_normal, inBlockA_ret, inBlockA_same, inBlockA_other, noGotoA_normal, noGotoA_ret, noGotoA_exit, Wops_nil, Wops_cons, Wops_le, Wops_guard, Wops_guardle, ok1_some, okV_some, kont_at, kontL_at, gdB_true, gdB_false, decide_true, decide_false, ev_tmp, ev_const, ev_func, ev_global, put_some, put_none, upd_same, upd_at, gd_bt, gd_bf, Bool.not_true, Bool.not_false, pick_true, pick_false, pick_b, not_b, W1_mov, W1_pick, W1_new, W1_box, W1_build, W1_lit, W1_load1, W1_loadn, W1_store, W1_nilc, W1_bin, W1_un, W1_conv, W1_b2s, W1_s2b, W1_field1, W1_fieldn, W1_faddr, W1_iaddr, W1_iarr, W1_idxs, W1_idxa1, W1_idxan, W1_sls, W1_sll, W1_sla, W1_mk, W1_ext, W1_fn, W1_ifc, W1_lens, W1_lenc, W1_app, W1_apps, W1_copy, W1_mn, W1_mx, W1_isnil, W1_strc, W1_beq, W1_mks, W1_capn, W1_appz, W1_eqagg, W1_call, W1_calld, callD_func, List.nil_append, List.append_nil, List.map_cons, List.map_nil, Option.map_some, Option.map_none, reduceIte, Option.some.injEq, exists_eq_left', Nat.reduceBEq, iv_ii, postA_ret, postA_normal, resVs_nil, resVs_tmp, resVs_one, resVs_many, Option.bind_some, tupleOf, Int.toNat_natCast, true_and, and_true, Nat.reduceEqDiff, c3, g4]
            exact hq
end Go.AS.C

namespace Go.AS.C
open Go Go.Proofs
set_option linter.unusedVariables false
set_option linter.unusedSimpArgs false
set_option maxRecDepth 10000

theorem ref01_Unfix_spec {A : AH} {v : Value} {bs : List UInt8} {Q : Value → AH → Prop} (hv : Byt A v bs) (hq : Q (.tuple #[ii ((unfixN bs).1 : Nat), ii ((unfixN bs).2 : Nat)]) A) : ACalls 0 Try.prog chantryref01_Unfix [v] Q A := by
  refine ACalls.of_fits mixed fits_chantryref01_Unfix rfl ?_
  unfold ic_chantryref01_Unfix
  have i0 : initA [v] 0 = v := rfl
  generalize initA [v] = a at i0
  by_cases h1 : bs.length < 1
  · have c1 : ((bs.length : Int) < 1) = True := by simp; omega
    simp only [W_seq, W_ops, W_draw, W_block, W_skip, W_exit, W_ret, sq_normal, sq_ret, sq_exit, W_condv, condW_true, condW_false, thenA_normal, thenA_ret, thenA_exit, if_true, if_false, Bool.false_eq_true, decide_eq_true_eq, inBlockA_normal, inBlockA_ret, inBlockA_same, inBlockA_other, noGotoA_normal, noGotoA_ret, noGotoA_exit, Wops_nil, Wops_cons, Wops_le, Wops_guard, Wops_guardle, ok1_some, okV_some, kont_at, kontL_at, gdB_true, gdB_false, decide_true, decide_false, ev_tmp, ev_const, ev_func, ev_global, put_some, put_none, upd_same, upd_at, gd_bt, gd_bf, Bool.not_true, Bool.not_false, pick_true, pick_false, pick_b, not_b, W1_mov, W1_pick, W1_new, W1_box, W1_build, W1_lit, W1_load1, W1_loadn, W1_store, W1_nilc, W1_bin, W1_un, W1_conv, W1_b2s, W1_s2b, W1_field1, W1_fieldn, W1_faddr, W1_iaddr, W1_iarr, W1_idxs, W1_idxa1, W1_idxan, W1_sls, W1_sll, W1_sla, W1_mk, W1_ext, W1_fn, W1_ifc, W1_lens, W1_lenc, W1_app, W1_apps, W1_copy, W1_mn, W1_mx, W1_isnil, W1_strc, W1_beq, W1_mks, W1_capn, W1_appz, W1_eqagg, W1_call, W1_calld, callD_func, List.nil_append, List.append_nil, List.map_cons, List.map_nil, Option.map_some, Option.map_none, reduceIte, Option.some.injEq, exists_eq_left', Nat.reduceBEq, iv_ii, postA_ret, postA_normal, resVs_nil, resVs_tmp, resVs_one, resVs_many, Option.bind_some, tupleOf, Int.toNat_natCast, true_and, and_true, Nat.reduceEqDiff, i0, hv.len, binA_lss, c1]
    have e : unfixN bs = (0, 1) := by unfold unfixN; rw [if_pos (.inl h1)]
    rw [e] at hq
    exact hq
  · have c1 : ((bs.length : Int) < 1) = False := by simp; omega
    by_cases h4 : 4 < bs.length
    · have c2 : ((bs.length : Int) > 4) = True := by simp; omega
      simp only [W_seq, W_ops, W_draw, W_block, W_skip, W_exit, W_ret, sq_normal, sq_ret, sq_exit, W_condv, condW_true, condW_false, thenA_normal, thenA_ret, thenA_exit, if_true, if_false, Bool.false_eq_true, decide_eq_true_eq, inBlockA_normal, inBlockA_ret, inBlockA_same, inBlockA_other, noGotoA_normal, noGotoA_ret, noGotoA_exit, Wops_nil, Wops_cons, Wops_le, Wops_guard, Wops_guardle, ok1_some, okV_some, kont_at, kontL_at, gdB_true, gdB_false, decide_true, decide_false, ev_tmp, ev_const, ev_func, ev_global, put_some, put_none, upd_same, upd_at, gd_bt, gd_bf, Bool.not_true, Bool.not_false, pick_true, pick_false, pick_b, not_b, W1_mov, W1_pick, W1_new, W1_box, W1_build, W1_lit, W1_load1, W1_loadn, W1_store, W1_nilc, W1_bin, W1_un, W1_conv, W1_b2s, W1_s2b, W1_field1, W1_fieldn, W1_faddr, W1_iaddr, W1_iarr, W1_idxs, W1_idxa1, W1_idxan, W1_sls, W1_sll, W1_sla, W1_mk, W1_ext, W1_fn, W1_ifc, W1_lens, W1_lenc, W1_app, W1_apps, W1_copy, W1_mn, W1_mx, W1_isnil, W1_strc, W1_beq, W1_mks, W1_capn, W1_appz, W1_eqagg, W1_call, W1_calld, callD_func, List.nil_append, List.append_nil, List.map_cons, List.map_nil, Option.map_some, Option.map_none, reduceIte, Option.some.injEq, exists_eq_left', Nat.reduceBEq, iv_ii, postA_ret, postA_normal, resVs_nil, resVs_tmp, resVs_one, resVs_many, Option.bind_some, tupleOf, Int.toNat_natCast, true_and, and_true, Nat.reduceEqDiff, i0, hv.len, binA_lss, c1, binA_gtr, c2]
      have e : unfixN bs = (0, 1) := by unfold unfixN; rw [if_pos (.inr h4)]
      rw [e] at hq
      exact hq
    · have c2 : ((bs.length : Int) > 4) = False := by simp; omega
      have c3 : binA .sub (ii (bs.length : Nat)) (ii 1) = some (ii ((bs.length : Nat) - 1)) := binA_subi _ _ (by omega) (by omega)
      simp only [W_seq, W_ops, W_draw, W_block, W_skip, W_exit, W_ret, sq_normal, sq_ret, sq_exit, W_condv, condW_true, condW_false, thenA_normal, thenA_ret, thenA_exit, if_true, if_false, Bool.false_eq_true, decide_eq_true_eq, inBlockA_normal, inBlockA_ret, inBlockA_same, inBlockA_other, noGotoA_normal, noGotoA_ret, noGotoA_exit, Wops_nil, Wops_cons, Wops_le, Wops_guard, Wops_guardle, ok1_some, okV_some, kont_at, kontL_at, gdB_true, gdB_false, decide_true, decide_false, ev_tmp, ev_const, ev_func, ev_global, put_some, put_none, upd_same, upd_at, gd_bt, gd_bf, Bool.not_true, Bool.not_false, pick_true, pick_false, pick_b, not_b, W1_mov, W1_pick, W1_new, W1_box, W1_build, W1_lit, W1_load1, W1_loadn, W1_store, W1_nilc, W1_bin, W1_un, W1_conv, W1_b2s, W1_s2b, W1_field1, W1_fieldn, W1_faddr, W1_iaddr, W1_iarr, W1_idxs, W1_idxa1, W1_idxan, W1_sls, W1_sll, W1_sla, W1_mk, W1_ext, W1_fn, W1_ifc, W1_lens, W1_lenc, W1_app, W1_apps, W1_copy, W1_mn, W1_mx, W1_isnil, W1_strc, W1_beq, W1_mks, W1_capn, W1_appz, W1_eqagg, W1_call, W1_calld, callD_func, List.nil_append, List.append_nil, List.map_cons, List.map_nil, Option.map_some, Option.map_none, reduceIte, Option.some.injEq, exists_eq_left', Nat.reduceBEq, iv_ii, postA_ret, postA_normal, resVs_nil, resVs_tmp, resVs_one, resVs_many, Option.bind_some, tupleOf, Int.toNat_natCast, true_and, and_true, Nat.reduceEqDiff, i0, hv.len, binA_lss, c1, binA_gtr, c2, c3]
      -- k bytes are still ahead
      refine W_loop (fun a' A' => A' = A ∧ ∃ k : Nat, k ≤ bs.length ∧ a' 0 = v ∧ a' 5 = ii ((k : Nat) - 1) ∧ a' 4 = ii (leN (bs.drop k) : Nat)) (fun a' _ => ((iv (a' 5)) + 1).toNat) ?_ ?_
      · refine ⟨rfl, bs.length, by omega, ?_⟩
        simp only [W_seq, W_ops, W_draw, W_block, W_skip, W_exit, W_ret, sq_normal, sq_ret, sq_exit, W_condv, condW_true, condW_false, thenA_normal, thenA_ret, thenA_exit, if_true, if_false, Bool.false_eq_true, decide_eq_true_eq, inBlockA_normal, inBlockA_ret, inBlockA_same, inBlockA_other, noGotoA_normal, noGotoA_ret, noGotoA_exit, Wops_nil, Wops_cons, Wops_le, Wops_guard, Wops_guardle, ok1_some, okV_some, kont_at, kontL_at, gdB_true, gdB_false, decide_true, decide_false, ev_tmp, ev_const, ev_func, ev_global, put_some, put_none, upd_same, upd_at, gd_bt, gd_bf, Bool.not_true, Bool.not_false, pick_true, pick_false, pick_b, not_b, W1_mov, W1_pick, W1_new, W1_box, W1_build, W1_lit, W1_load1, W1_loadn, W1_store, W1_nilc, W1_bin, W1_un, W1_conv, W1_b2s, W1_s2b, W1_field1, W1_fieldn, W1_faddr, W1_iaddr, W1_iarr, W1_idxs, W1_idxa1, W1_idxan, W1_sls, W1_sll, W1_sla, W1_mk, W1_ext, W1_fn, W1_ifc, W1_lens, W1_lenc, W1_app, W1_apps, W1_copy, W1_mn, W1_mx, W1_isnil, W1_strc, W1_beq, W1_mks, W1_capn, W1_appz, W1_eqagg, W1_call, W1_calld, callD_func, List.nil_append, List.append_nil, List.map_cons, List.map_nil, Option.map_some, Option.map_none, reduceIte, Option.some.injEq, exists_eq_left', Nat.reduceBEq, iv_ii, postA_ret, postA_normal, resVs_nil, resVs_tmp, resVs_one, resVs_many, Option.bind_some, tupleOf, Int.toNat_natCast, true_and, and_true, Nat.reduceEqDiff, i0]
        simp [leN]
      · rintro a A' ⟨rfl, k, hk, g0, g5, g4⟩
        rcases Nat.eq_zero_or_pos k with h0 | hpos
        · subst h0
          have hc : (((0 : Nat) : Int) - 1 ≥ 0) = False := by simp
          rw [List.drop_zero] at g4
          by_cases hmax : leN bs ≤ 2147483647
          · have c4 : (((leN bs : Nat) : Int) > 2147483647) = False := by simp; omega
            have e : unfixN bs = (leN bs, 0) := by unfold unfixN; rw [if_neg (by omega), if_pos hmax]
            rw [e] at hq
            simp only [W_seq, W_ops, W_draw, W_block, W_skip, W_exit, W_ret, sq_normal, sq_ret, sq_exit, W_condv, condW_true, condW_false, thenA_normal, thenA_ret, thenA_exit, if_true, if_false, Bool.false_eq_true, decide_eq_true_eq, inBlockA_normal, inBlockA_ret, inBlockA_same, inBlockA_other, noGotoA_normal, noGotoA_ret, noGotoA_exit, Wops_nil, Wops_cons, Wops_le, Wops_guard, Wops_guardle, ok1_some, okV_some, kont_at, kontL_at, gdB_true, gdB_false, decide_true, decide_false, ev_tmp, ev_const, ev_func, ev_global, put_some, put_none, upd_same, upd_at, gd_bt, gd_bf, Bool.not_true, Bool.not_false, pick_true, pick_false, pick_b, not_b, W1_mov, W1_pick, W1_new, W1_box, W1_build, W1_lit, W1_load1, W1_loadn, W1_store, W1_nilc, W1_bin, W1_un, W1_conv, W1_b2s, W1_s2b, W1_field1, W1_fieldn, W1_faddr, W1_iaddr, W1_iarr, W1_idxs, W1_idxa1, W1_idxan, W1_sls, W1_sll, W1_sla, W1_mk, W1_ext, W1_fn, W1_ifc, W1_lens, W1_lenc, W1_app, W1_apps, W1_copy, W1_mn, W1_mx, W1_isnil, W1_strc, W1_beq, W1_mks, W1_capn, W1_appz, W1_eqagg, W1_call, W1_calld, callD_func, List.nil_append, List.append_nil, List.map_cons, List.map_nil, Option.map_some, Option.map_none, reduceIte, Option.some.injEq, exists_eq_left', Nat.reduceBEq, iv_ii, postA_ret, postA_normal, resVs_nil, resVs_tmp, resVs_one, resVs_many, Option.bind_some, tupleOf, Int.toNat_natCast, true_and, and_true, Nat.reduceEqDiff, g0, g5, g4, binA_geq, hc, binA_gtr, c4]
            exact hq
          · have c4 : (((leN bs : Nat) : Int) > 2147483647) = True := by simp; omega
            have e : unfixN bs = (0, 5) := by unfold unfixN; rw [if_neg (by omega), if_neg hmax]
            rw [e] at hq
            simp only [W_seq, W_ops, W_draw, W_block, W_skip, W_exit, W_ret, sq_normal, sq_ret, sq_exit, W_condv, condW_true, condW_false, thenA_normal, thenA_ret, thenA_exit, if_true, if_false, Bool.false_eq_true, decide_eq_true_eq, inBlockA_normal, inBlockA_ret, inBlockA_same, inBlockA_other, noGotoA_normal, noGotoA_ret, noGotoA_exit, Wops_nil, Wops_cons, Wops_le, Wops_guard, Wops_guardle, ok1_some, okV_some, kont_at, kontL_at, gdB_true, gdB_false, decide_true, decide_false, ev_tmp, ev_const, ev_func, ev_global, put_some, put_none, upd_same, upd_at, gd_bt, gd_bf, Bool.not_true, Bool.not_false, pick_true, pick_false, pick_b, not_b, W1_mov, W1_pick, W1_new, W1_box, W1_build, W1_lit, W1_load1, W1_loadn, W1_store, W1_nilc, W1_bin, W1_un, W1_conv, W1_b2s, W1_s2b, W1_field1, W1_fieldn, W1_faddr, W1_iaddr, W1_iarr, W1_idxs, W1_idxa1, W1_idxan, W1_sls, W1_sll, W1_sla, W1_mk, W1_ext, W1_fn, W1_ifc, W1_lens, W1_lenc, W1_app, W1_apps, W1_copy, W1_mn, W1_mx, W1_isnil, W1_strc, W1_beq, W1_mks, W1_capn, W1_appz, W1_eqagg, W1_call, W1_calld, callD_func, List.nil_append, List.append_nil, List.map_cons, List.map_nil, Option.map_some, Option.map_none, reduceIte, Option.some.injEq, exists_eq_left', Nat.reduceBEq, iv_ii, postA_ret, postA_normal, resVs_nil, resVs_tmp, resVs_one, resVs_many, Option.bind_some, tupleOf, Int.toNat_natCast, true_and, and_true, Nat.reduceEqDiff, g0, g5, g4, binA_geq, hc, binA_gtr, c4]
            exact hq
        · have hc : (((k : Nat) : Int) - 1 ≥ 0) = True := by simp; omega
          obtain ⟨j, rfl⟩ : ∃ j, k = j + 1 := ⟨k - 1, by omega⟩
          obtain ⟨b, hb⟩ : ∃ b, bs[j]? = some b := ⟨_, List.getElem?_eq_getElem (by omega)⟩
          obtain ⟨p, hp1, hp2⟩ := hv.at1 hb
          have ej : ((((j + 1 : Nat)) : Int) - 1) = (j : Int) := by omega
          rw [ej] at g5 hc
          have hlow := leN_lt (bs.drop (j + 1))
          have hpw : 256 ^ (bs.drop (j + 1)).length ≤ 256 ^ 4 := Nat.pow_le_pow_right (by omega) (by simp; omega)
          have hb8 := b.toNat_lt
          have d1 : binA .mul (ii 256) (ii (leN (bs.drop (j + 1)) : Nat)) = some (ii ((256 * leN (bs.drop (j + 1)) : Nat) : Int)) := mul_ii 256 _ (by omega)
          have d2 := add_ii (256 * leN (bs.drop (j + 1))) b.toNat (by omega)
          have d3 : binA .sub (ii (j : Int)) (ii 1) = some (ii ((j : Int) - 1)) := binA_subi _ _ (by omega) (by omega)
          simp only [W_seq, W_ops, W_draw, W_block, W_skip, W_exit, W_ret, sq_normal, sq_ret, sq_exit, W_condv, condW_true, condW_false, thenA_normal, thenA_ret, thenA_exit, if_true, if_false, Bool.false_eq_true, decide_eq_true_eq, inBlockA_normal, inBlockA_ret, inBlockA_same, inBlockA_other, noGotoA_normal, noGotoA_ret, noGotoA_exit, Wops_nil, Wops_cons, Wops_le, Wops_guard, Wops_guardle, ok1_some, okV_some, kont_at, kontL_at, gdB_true, gdB_false, decide_true, decide_false, ev_tmp, ev_const, ev_func, ev_global, put_some, put_none, upd_same, upd_at, gd_bt, gd_bf, Bool.not_true, Bool.not_false, pick_true, pick_false, pick_b, not_b, W1_mov, W1_pick, W1_new, W1_box, W1_build, W1_lit, W1_load1, W1_loadn, W1_store, W1_nilc, W1_bin, W1_un, W1_conv, W1_b2s, W1_s2b, W1_field1, W1_fieldn, W1_faddr, W1_iaddr, W1_iarr, W1_idxs, W1_idxa1, W1_idxan, W1_sls, W1_sll, W1_sla, W1_mk, W1_ext, W1_fn, W1_ifc, W1_lens, W1_lenc, W1_app, W1_apps, W1_copy, W1_mn, W1_mx, W1_isnil, W1_strc, W1_beq, W1_mks, W1_capn, W1_appz, W1_eqagg, W1_call, W1_calld, callD_func, List.nil_append, List.append_nil, List.map_cons, List.map_nil, Option.map_some, Option.map_none, reduceIte, Option.some.injEq, exists_eq_left', Nat.reduceBEq, iv_ii, postA_ret, postA_normal, resVs_nil, resVs_tmp, resVs_one, resVs_many, Option.bind_some, tupleOf, Int.toNat_natCast, true_and, and_true, Nat.reduceEqDiff, g0, g5, g4, binA_geq, hc, hp1, hp2, conv_i64_by8, d1, d2, d3]
          refine ⟨⟨j, by omega, rfl, ?_⟩, by omega⟩
          have hdr : bs.drop j = b :: bs.drop (j + 1) := by
            rw [List.drop_eq_getElem_cons (by omega)]
            congr 1
            rw [List.getElem?_eq_getElem (by omega)] at hb
            exact Option.some.inj hb
          rw [hdr, leN]
          congr 2
          omega
end Go.AS.C

namespace Go.AS.C
open Go Go.Proofs
set_option linter.unusedVariables false
set_option linter.unusedSimpArgs false
set_option maxRecDepth 10000

theorem ids_Right_spec {A : AH} {s : ByteArray} {Q : Value → AH → Prop} (hq : Q (.bool (decide (s.size = 32))) A) : ACalls 0 Try.prog ids_Right [.string s] Q A := by
  refine ACalls.of_fits mixed fits_ids_Right rfl ?_
  unfold ic_ids_Right
  have i0 : initA [.string s] 0 = .string s := rfl
  generalize initA [.string s] = a at i0
  have e : (((s.size : Nat) : Int) == 32) = decide (s.size = 32) := by
    rw [Bool.eq_iff_iff]; simp; omega
  simp only [W_seq, W_ops, W_draw, W_block, W_skip, W_exit, W_ret, sq_normal, sq_ret, sq_exit, W_condv, condW_true, condW_false, thenA_normal, thenA_ret, thenA_exit, if_true, if_false, Bool.false_eq_true, decide_eq_true_eq, inBlockA_normal, inBlockA_ret, inBlockA_same, inBlockA_other, noGotoA_normal, noGotoA_ret, noGotoA_exit, Wops_nil, Wops_cons, Wops_le, Wops_guard, Wops_guardle, ok1_some, okV_some, kont_at, kontL_at, gdB_true, gdB_false, decide_true, decide_false, ev_tmp, ev_const, ev_func, ev_global, put_some, put_none, upd_same, upd_at, gd_bt, gd_bf, Bool.not_true, Bool.not_false, pick_true, pick_false, pick_b, not_b, W1_mov, W1_pick, W1_new, W1_box, W1_build, W1_lit, W1_load1, W1_loadn, W1_store, W1_nilc, W1_bin, W1_un, W1_conv, W1_b2s, W1_s2b, W1_field1, W1_fieldn, W1_faddr, W1_iaddr, W1_iarr, W1_idxs, W1_idxa1, W1_idxan, W1_sls, W1_sll, W1_sla, W1_mk, W1_ext, W1_fn, W1_ifc, W1_lens, W1_lenc, W1_app, W1_apps, W1_copy, W1_mn, W1_mx, W1_isnil, W1_strc, W1_beq, W1_mks, W1_capn, W1_appz, W1_eqagg, W1_call, W1_calld, callD_func, List.nil_append, List.append_nil, List.map_cons, List.map_nil, Option.map_some, Option.map_none, reduceIte, Option.some.injEq, exists_eq_left', Nat.reduceBEq, iv_ii, postA_ret, postA_normal, resVs_nil, resVs_tmp, resVs_one, resVs_many, Option.bind_some, tupleOf, Int.toNat_natCast, true_and, and_true, Nat.reduceEqDiff, i0, lens_str, binA_eql, e]
  exact hq
theorem ref04_Right_spec {A : AH} {s : ByteArray} {Q : Value → AH → Prop} (hq : Q (.bool (decide (s.size = 32))) A) : ACalls 0 Try.prog chantryref04_Right [.string s] Q A := by
  refine ACalls.of_fits mixed fits_chantryref04_Right rfl ?_
  unfold ic_chantryref04_Right
  have i0 : initA [.string s] 0 = .string s := rfl
  generalize initA [.string s] = a at i0
  have e : (((s.size : Nat) : Int) == 32) = decide (s.size = 32) := by
    rw [Bool.eq_iff_iff]; simp; omega
  simp only [W_seq, W_ops, W_draw, W_block, W_skip, W_exit, W_ret, sq_normal, sq_ret, sq_exit, W_condv, condW_true, condW_false, thenA_normal, thenA_ret, thenA_exit, if_true, if_false, Bool.false_eq_true, decide_eq_true_eq, inBlockA_normal, inBlockA_ret, inBlockA_same, inBlockA_other, noGotoA_normal, noGotoA_ret, noGotoA_exit, Wops_nil, Wops_cons, Wops_le, Wops_guard, Wops_guardle, ok1_some, okV_some, kont_at, kontL_at, gdB_true, gdB_false, decide_true, decide_false, ev_tmp, ev_const, ev_func, ev_global, put_some, put_none, upd_same, upd_at, gd_bt, gd_bf, Bool.not_true, Bool.not_false, pick_true, pick_false, pick_b, not_b, W1_mov, W1_pick, W1_new, W1_box, W1_build, W1_lit, W1_load1, W1_loadn, W1_store, W1_nilc, W1_bin, W1_un, W1_conv, W1_b2s, W1_s2b, W1_field1, W1_fieldn, W1_faddr, W1_iaddr, W1_iarr, W1_idxs, W1_idxa1, W1_idxan, W1_sls, W1_sll, W1_sla, W1_mk, W1_ext, W1_fn, W1_ifc, W1_lens, W1_lenc, W1_app, W1_apps, W1_copy, W1_mn, W1_mx, W1_isnil, W1_strc, W1_beq, W1_mks, W1_capn, W1_appz, W1_eqagg, W1_call, W1_calld, callD_func, List.nil_append, List.append_nil, List.map_cons, List.map_nil, Option.map_some, Option.map_none, reduceIte, Option.some.injEq, exists_eq_left', Nat.reduceBEq, iv_ii, postA_ret, postA_normal, resVs_nil, resVs_tmp, resVs_one, resVs_many, Option.bind_some, tupleOf, Int.toNat_natCast, true_and, and_true, Nat.reduceEqDiff, i0, lens_str, binA_eql, e]
  exact hq

/-- The k-th mark of an ID in a fence of n bytes. -/
def markN (n : Nat) (s : ByteArray) (k : Nat) : Nat := leN ((s.data.toList.drop (3 * k)).take 3) % (8 * n)
theorem markN_lt {n : Nat} (h : 1 ≤ n) (s : ByteArray) (k : Nat) : markN n s k < 8 * n := Nat.mod_lt _ (by omega)
theorem unfix3 {l : List UInt8} (h : l.length = 3) : unfixN l = (leN l, 0) := by
  have := leN_lt l
  rw [h] at this
  unfold unfixN
  rw [if_neg (by omega), if_pos (by omega)]
/-- The marks told so far, in three cells. -/
def mrow (n : Nat) (s : ByteArray) (k : Nat) : List Value := (List.range 3).map fun j => if j < k then ii (markN n s j : Nat) else ii 0
theorem mrow_len (n : Nat) (s : ByteArray) (k : Nat) : (mrow n s k).length = 3 := by simp [mrow]
theorem mrow_step (n : Nat) (s : ByteArray) {k : Nat} (h : k < 3) : (mrow n s k).set k (ii (markN n s k : Nat)) = mrow n s (k + 1) := by
  have r3 : List.range 3 = [0, 1, 2] := by decide
  unfold mrow
  rw [r3]
  have : k = 0 ∨ k = 1 ∨ k = 2 := by omega
  rcases this with rfl | rfl | rfl <;> simp

theorem fence_marks_spec {A : AH} {n : Nat} {s : ByteArray} {Q : Value → AH → Prop} (hn : 1 ≤ n ∧ n ≤ 4096) (hs : s.size = 32) (hq : ∀ A', Le A A' → Q (.agg #[ii (markN n s 0 : Nat), ii (markN n s 1 : Nat), ii (markN n s 2 : Nat)]) A') :
    ACalls 0 Try.prog fence_marks [ii n, .string s] Q A := by
  refine ACalls.of_fits mixed fits_fence_marks rfl ?_
  unfold ic_fence_marks
  have i0 : initA [ii n, .string s] 0 = ii n := rfl
  have i1 : initA [ii n, .string s] 1 = .string s := rfl
  generalize initA [ii n, .string s] = a at i0 i1
  simp only [W_seq, W_ops, W_draw, W_block, W_skip, W_exit, W_ret, sq_normal, sq_ret, sq_exit, W_condv, condW_true, condW_false, thenA_normal, thenA_ret, thenA_exit, if_true, if_false, Bool.false_eq_true, decide_eq_true_eq, inBlockA_normal, inBlockA_ret, inBlockA_same, inBlockA_other, noGotoA_normal, noGotoA_ret, noGotoA_exit, Wops_nil, Wops_cons, Wops_le, Wops_guard, Wops_guardle, ok1_some, okV_some, kont_at, kontL_at, gdB_true, gdB_false, decide_true, decide_false, ev_tmp, ev_const, ev_func, ev_global, put_some, put_none, upd_same, upd_at, gd_bt, gd_bf, Bool.not_true, Bool.not_false, pick_true, pick_false, pick_b, not_b, W1_mov, W1_pick, W1_new, W1_box, W1_build, W1_lit, W1_load1, W1_loadn, W1_store, W1_nilc, W1_bin, W1_un, W1_conv, W1_b2s, W1_s2b, W1_field1, W1_fieldn, W1_faddr, W1_iaddr, W1_iarr, W1_idxs, W1_idxa1, W1_idxan, W1_sls, W1_sll, W1_sla, W1_mk, W1_ext, W1_fn, W1_ifc, W1_lens, W1_lenc, W1_app, W1_apps, W1_copy, W1_mn, W1_mx, W1_isnil, W1_strc, W1_beq, W1_mks, W1_capn, W1_appz, W1_eqagg, W1_call, W1_calld, callD_func, List.nil_append, List.append_nil, List.map_cons, List.map_nil, Option.map_some, Option.map_none, reduceIte, Option.some.injEq, exists_eq_left', Nat.reduceBEq, iv_ii, postA_ret, postA_normal, resVs_nil, resVs_tmp, resVs_one, resVs_many, Option.bind_some, tupleOf, Int.toNat_natCast, true_and, and_true, Nat.reduceEqDiff, i0]
  have hA1 : (A ++ [Blk.row [.int .i64 0, .int .i64 0, .int .i64 0] .own 0 true]).length = A.length + 1 := by simp
  rw [hA1]
  refine W_loop (fun a' B => ∃ k : Nat, k ≤ 3 ∧ Le A B ∧ a' 0 = ii n ∧ a' 1 = .string s ∧ a' 4 = .pointer (some ⟨A.length, 0, none⟩) ∧ a' 5 = .pointer (some ⟨A.length + 1, 0, none⟩) ∧ a' 9 = ii k ∧
      B[A.length]? = some (.row [.int .i64 0, .int .i64 0, .int .i64 0] .own 0 true) ∧ B[A.length + 1]? = some (.row (mrow n s k) .own 0 true)) (fun a' _ => 3 - (iv (a' 9)).toNat) ?_ ?_
  · refine ⟨0, by omega, (Le.push _ _).trans (.push _ _), ?_⟩
    simp only [W_seq, W_ops, W_draw, W_block, W_skip, W_exit, W_ret, sq_normal, sq_ret, sq_exit, W_condv, condW_true, condW_false, thenA_normal, thenA_ret, thenA_exit, if_true, if_false, Bool.false_eq_true, decide_eq_true_eq, inBlockA_normal, inBlockA_ret, inBlockA_same, inBlockA_other, noGotoA_normal, noGotoA_ret, noGotoA_exit, Wops_nil, Wops_cons, Wops_le, Wops_guard, Wops_guardle, ok1_some, okV_some, kont_at, kontL_at, gdB_true, gdB_false, decide_true, decide_false, ev_tmp, ev_const, ev_func, ev_global, put_some, put_none, upd_same, upd_at, gd_bt, gd_bf, Bool.not_true, Bool.not_false, pick_true, pick_false, pick_b, not_b, W1_mov, W1_pick, W1_new, W1_box, W1_build, W1_lit, W1_load1, W1_loadn, W1_store, W1_nilc, W1_bin, W1_un, W1_conv, W1_b2s, W1_s2b, W1_field1, W1_fieldn, W1_faddr, W1_iaddr, W1_iarr, W1_idxs, W1_idxa1, W1_idxan, W1_sls, W1_sll, W1_sla, W1_mk, W1_ext, W1_fn, W1_ifc, W1_lens, W1_lenc, W1_app, W1_apps, W1_copy, W1_mn, W1_mx, W1_isnil, W1_strc, W1_beq, W1_mks, W1_capn, W1_appz, W1_eqagg, W1_call, W1_calld, callD_func, List.nil_append, List.append_nil, List.map_cons, List.map_nil, Option.map_some, Option.map_none, reduceIte, Option.some.injEq, exists_eq_left', Nat.reduceBEq, iv_ii, postA_ret, postA_normal, resVs_nil, resVs_tmp, resVs_one, resVs_many, Option.bind_some, tupleOf, Int.toNat_natCast, true_and, and_true, Nat.reduceEqDiff, i0, i1]
    refine ⟨rfl, ?_, ?_⟩
    · simp
    · rw [List.getElem?_append_right (by simp)]
      simp [mrow]
      rfl
  · rintro a2 B ⟨k, hk, hle, g0, g1, g4, g5, g9, hr0, hr1⟩
    rcases Nat.lt_or_ge k 3 with hlt | hge
    · have hc : ((k : Int) < 3) = True := by simp; omega
      have d1 : binA .mul (ii 3) (ii k) = some (ii ((3 * k : Nat) : Int)) := mul_ii 3 k (by omega)
      have d2 : binA .mul (ii 3) (ii ((k + 1 : Nat))) = some (ii ((3 * (k + 1) : Nat) : Int)) := mul_ii 3 (k + 1) (by omega)
      have d3 := sls_both (A := B) (s := s) (l := 3 * k) (h := 3 * (k + 1)) (by omega) (by omega)
      simp only [W_seq, W_ops, W_draw, W_block, W_skip, W_exit, W_ret, sq_normal, sq_ret, sq_exit, W_condv, condW_true, condW_false, thenA_normal, thenA_ret, thenA_exit, if_true, if_false, Bool.false_eq_true, decide_eq_true_eq, inBlockA_normal, inBlockA_ret, inBlockA_same, inBlockA_other, noGotoA_normal, noGotoA_ret, noGotoA_exit, Wops_nil, Wops_cons, Wops_le, Wops_guard, Wops_guardle, ok1_some, okV_some, kont_at, kontL_at, gdB_true, gdB_false, decide_true, decide_false, ev_tmp, ev_const, ev_func, ev_global, put_some, put_none, upd_same, upd_at, gd_bt, gd_bf, Bool.not_true, Bool.not_false, pick_true, pick_false, pick_b, not_b, W1_mov, W1_pick, W1_new, W1_box, W1_build, W1_lit, W1_load1, W1_loadn, W1_store, W1_nilc, W1_bin, W1_un, W1_conv, W1_b2s, W1_s2b, W1_field1, W1_fieldn, W1_faddr, W1_iaddr, W1_iarr, W1_idxs, W1_idxa1, W1_idxan, W1_sls, W1_sll, W1_sla, W1_mk, W1_ext, W1_fn, W1_ifc, W1_lens, W1_lenc, W1_app, W1_apps, W1_copy, W1_mn, W1_mx, W1_isnil, W1_strc, W1_beq, W1_mks, W1_capn, W1_appz, W1_eqagg, W1_call, W1_calld, callD_func, List.nil_append, List.append_nil, List.map_cons, List.map_nil, Option.map_some, Option.map_none, reduceIte, Option.some.injEq, exists_eq_left', Nat.reduceBEq, iv_ii, postA_ret, postA_normal, resVs_nil, resVs_tmp, resVs_one, resVs_many, Option.bind_some, tupleOf, Int.toNat_natCast, true_and, and_true, Nat.reduceEqDiff, g0, g1, g9, binA_lss, hc, d1, d2, d3, binA_add1 k (by omega), s2b_row]
      have hb := (s2b_byt B (s.extract (3 * k) (3 * (k + 1)))).byt
      have k1 : Le B (B ++ [.row ((s.extract (3 * k) (3 * (k + 1))).data.toList.map by8) .own 1 false]) := .push _ _
      refine num_Unfix_spec hb ?_
      have hsz := size_bytes s
      have e3 : (s.extract (3 * k) (3 * (k + 1))).data.toList = (s.data.toList.drop (3 * k)).take 3 := by
        rw [ext_bytes]; congr 1; omega
      have hl3 : ((s.data.toList.drop (3 * k)).take 3).length = 3 := by simp; omega
      rw [e3] at k1
      rw [e3, unfix3 hl3]
      have d4 : binA .mul (ii 8) (ii n) = some (ii ((8 * n : Nat) : Int)) := mul_ii 8 n (by omega)
      have d5 := rem_ii (leN ((s.data.toList.drop (3 * k)).take 3)) (8 * n) (by omega)
      have hr1' := k1.get hr1
      have d6 : sIarr (B ++ [.row (((s.data.toList.drop (3 * k)).take 3).map by8) .own 1 false]) (.pointer (some ⟨A.length + 1, 0, none⟩)) (ii k) 3 1 = some (.pointer (some ⟨A.length + 1, k, none⟩), B ++ [.row (((s.data.toList.drop (3 * k)).take 3).map by8) .own 1 false]) := by
        unfold sIarr
        simp only [ii, asI, Option.bind_some]
        rw [if_pos ⟨by omega, by omega⟩]
        simp
      have d7 := store1 (o := k) (x := ii (markN n s k : Nat)) hr1' (by rw [mrow_len]; exact hlt) rfl rfl
      rw [mrow_step n s hlt] at d7
      unfold markN at d7
      simp only [W_seq, W_ops, W_draw, W_block, W_skip, W_exit, W_ret, sq_normal, sq_ret, sq_exit, W_condv, condW_true, condW_false, thenA_normal, thenA_ret, thenA_exit, if_true, if_false, Bool.false_eq_true, decide_eq_true_eq, inBlockA_normal, inBlockA_ret, inBlockA_same, inBlockA_other, noGotoA_normal, noGotoA_ret, noGotoA_exit, Wops_nil, Wops_cons, Wops_le, Wops_guard, Wops_guardle, ok1_some, okV_some, kont_at, kontL_at, gdB_true, gdB_false, decide_true, decide_false, ev_tmp, ev_const, ev_func, ev_global, put_some, put_none, upd_same, upd_at, gd_bt, gd_bf, Bool.not_true, Bool.not_false, pick_true, pick_false, pick_b, not_b, W1_mov, W1_pick, W1_new, W1_box, W1_build, W1_lit, W1_load1, W1_loadn, W1_store, W1_nilc, W1_bin, W1_un, W1_conv, W1_b2s, W1_s2b, W1_field1, W1_fieldn, W1_faddr, W1_iaddr, W1_iarr, W1_idxs, W1_idxa1, W1_idxan, W1_sls, W1_sll, W1_sla, W1_mk, W1_ext, W1_fn, W1_ifc, W1_lens, W1_lenc, W1_app, W1_apps, W1_copy, W1_mn, W1_mx, W1_isnil, W1_strc, W1_beq, W1_mks, W1_capn, W1_appz, W1_eqagg, W1_call, W1_calld, callD_func, List.nil_append, List.append_nil, List.map_cons, List.map_nil, Option.map_some, Option.map_none, reduceIte, Option.some.injEq, exists_eq_left', Nat.reduceBEq, iv_ii, postA_ret, postA_normal, resVs_nil, resVs_tmp, resVs_one, resVs_many, Option.bind_some, tupleOf, Int.toNat_natCast, true_and, and_true, Nat.reduceEqDiff, g0, g5, g9, g1, ext0, ext1, d4, d5, d6, d7, binA_add1 k (by omega)]
      refine ⟨⟨k + 1, by omega, (hle.trans k1).set (by omega), g4, rfl, ?_, ?_⟩, by omega⟩
      · rw [List.getElem?_set_ne (by omega)]
        exact k1.get hr0
      · rw [List.getElem?_set_self (lt_of_get hr1')]
    · have hc : ((k : Int) < 3) = False := by simp; omega
      have hk3 : k = 3 := by omega
      subst hk3
      have hm : mrow n s 3 = [ii (markN n s 0 : Nat), ii (markN n s 1 : Nat), ii (markN n s 2 : Nat)] := by
        have r3 : List.range 3 = [0, 1, 2] := by decide
        unfold mrow
        rw [r3]
        rfl
      rw [hm] at hr1
      have f1 : sLoadn B (.pointer (some ⟨A.length + 1, 0, none⟩)) 3 = some (.agg #[ii (markN n s 0 : Nat), ii (markN n s 1 : Nat), ii (markN n s 2 : Nat)], B) := by
        unfold sLoadn getRow
        simp only [hr1]
        rfl
      have f2 : sStore B (.pointer (some ⟨A.length, 0, none⟩)) (.agg #[ii (markN n s 0 : Nat), ii (markN n s 1 : Nat), ii (markN n s 2 : Nat)]) 3 = some (undef, B.set A.length (.row [ii (markN n s 0 : Nat), ii (markN n s 1 : Nat), ii (markN n s 2 : Nat)] .own 0 true)) := by
        unfold sStore wr
        simp only [hr0]
        rfl
      have f3 : sLoadn (B.set A.length (.row [ii (markN n s 0 : Nat), ii (markN n s 1 : Nat), ii (markN n s 2 : Nat)] .own 0 true)) (.pointer (some ⟨A.length, 0, none⟩)) 3 = some (.agg #[ii (markN n s 0 : Nat), ii (markN n s 1 : Nat), ii (markN n s 2 : Nat)], B.set A.length (.row [ii (markN n s 0 : Nat), ii (markN n s 1 : Nat), ii (markN n s 2 : Nat)] .own 0 true)) := by
        have hx := List.getElem?_set_self (a := Blk.row [ii (markN n s 0 : Nat), ii (markN n s 1 : Nat), ii (markN n s 2 : Nat)] .own 0 true) (lt_of_get hr0)
        unfold sLoadn getRow
        simp only [hx]
        rfl
      simp only [W_seq, W_ops, W_draw, W_block, W_skip, W_exit, W_ret, sq_normal, sq_ret, sq_exit, W_condv, condW_true, condW_false, thenA_normal, thenA_ret, thenA_exit, if_true, if_false, Bool.false_eq_true, decide_eq_true_eq, inBlockA_normal, inBlockA_ret, inBlockA_same, inBlockA_other, noGotoA_normal, noGotoA_ret, noGotoA_exit, Wops_nil, Wops_cons, Wops_le, Wops_guard, Wops_guardle, ok1_some, okV_some, kont_at, kontL_at, gdB_true, gdB_false, decide_true, decide_false, ev_tmp, ev_const, ev_func, ev_global, put_some, put_none, upd_same, upd_at, gd_bt, gd_bf, Bool.not_true, Bool.not_false, pick_true, pick_false, pick_b, not_b, W1_mov, W1_pick, W1_new, W1_box, W1_build, W1_lit, W1_load1, W1_loadn, W1_store, W1_nilc, W1_bin, W1_un, W1_conv, W1_b2s, W1_s2b, W1_field1, W1_fieldn, W1_faddr, W1_iaddr, W1_iarr, W1_idxs, W1_idxa1, W1_idxan, W1_sls, W1_sll, W1_sla, W1_mk, W1_ext, W1_fn, W1_ifc, W1_lens, W1_lenc, W1_app, W1_apps, W1_copy, W1_mn, W1_mx, W1_isnil, W1_strc, W1_beq, W1_mks, W1_capn, W1_appz, W1_eqagg, W1_call, W1_calld, callD_func, List.nil_append, List.append_nil, List.map_cons, List.map_nil, Option.map_some, Option.map_none, reduceIte, Option.some.injEq, exists_eq_left', Nat.reduceBEq, iv_ii, postA_ret, postA_normal, resVs_nil, resVs_tmp, resVs_one, resVs_many, Option.bind_some, tupleOf, Int.toNat_natCast, true_and, and_true, Nat.reduceEqDiff, g9, g4, g5, binA_lss, hc, f1, f2, f3]
      exact hq _ (hle.set (Nat.le_refl _))
end Go.AS.C

namespace Go.AS.C
open Go Go.Proofs
set_option linter.unusedVariables false
set_option linter.unusedSimpArgs false
set_option maxRecDepth 10000

theorem slices_Clone_spec {A : AH} {v : Value} {xs : List UInt8} {Q : Value → AH → Prop} (hv : Byt A v xs) (hl : xs.length ≤ 2 ^ 40) (hq : ∀ u A', Le A A' → OwnB A.length A' u xs → Q u A') :
    ACalls 0 Try.prog slices_Clone_byte_byte [v] Q A := by
  refine ACalls.of_fits mixed fits_slices_Clone_byte_byte rfl ?_
  unfold ic_slices_Clone_byte_byte
  have i0 : initA [v] 0 = v := rfl
  generalize initA [v] = a at i0
  obtain ⟨p, c, hs, hp⟩ := hv.shape
  cases p with
  | none =>
    have c1 : (if kindOf (.slice 5) v = true then sIsnil A v false else none) = some (.bool true, A) := by subst hs; rfl
    simp only [W_seq, W_ops, W_draw, W_block, W_skip, W_exit, W_ret, sq_normal, sq_ret, sq_exit, W_condv, condW_true, condW_false, thenA_normal, thenA_ret, thenA_exit, if_true, if_false, Bool.false_eq_true, decide_eq_true_eq, inBlockA_normal, inBlockA_ret, inBlockA_same, inBlockA_other, noGotoA_normal, noGotoA_ret, noGotoA_exit, Wops_nil, Wops_cons, Wops_le, Wops_guard, Wops_guardle, ok1_some, okV_some, kont_at, kontL_at, gdB_true, gdB_false, decide_true, decide_false, ev_tmp, ev_const, ev_func, ev_global, put_some, put_none, upd_same, upd_at, gd_bt, gd_bf, Bool.not_true, Bool.not_false, pick_true, pick_false, pick_b, not_b, W1_mov, W1_pick, W1_new, W1_box, W1_build, W1_lit, W1_load1, W1_loadn, W1_store, W1_nilc, W1_bin, W1_un, W1_conv, W1_b2s, W1_s2b, W1_field1, W1_fieldn, W1_faddr, W1_iaddr, W1_iarr, W1_idxs, W1_idxa1, W1_idxan, W1_sls, W1_sll, W1_sla, W1_mk, W1_ext, W1_fn, W1_ifc, W1_lens, W1_lenc, W1_app, W1_apps, W1_copy, W1_mn, W1_mx, W1_isnil, W1_strc, W1_beq, W1_mks, W1_capn, W1_appz, W1_eqagg, W1_call, W1_calld, callD_func, List.nil_append, List.append_nil, List.map_cons, List.map_nil, Option.map_some, Option.map_none, reduceIte, Option.some.injEq, exists_eq_left', Nat.reduceBEq, iv_ii, postA_ret, postA_normal, resVs_nil, resVs_tmp, resVs_one, resVs_many, Option.bind_some, tupleOf, Int.toNat_natCast, true_and, and_true, Nat.reduceEqDiff, i0, c1]
    rw [hp rfl] at hq
    exact hq _ _ (.refl _) (OwnB.nil _ _)
  | some b =>
    have c1 : (if kindOf (.slice 5) v = true then sIsnil A v false else none) = some (.bool false, A) := by subst hs; rfl
    obtain ⟨v', A', q1, q2, q3, _⟩ := app_bytes (A0 := A) (A := A ++ [.row [] .own 1 true]) (v := .slice (some ⟨A.length, 0, none⟩) 0 0) (bs := []) (.push _ _) (own_lit_none (.refl _)) (hv.le (.push _ _)) (by simp; omega)
    simp only [W_seq, W_ops, W_draw, W_block, W_skip, W_exit, W_ret, sq_normal, sq_ret, sq_exit, W_condv, condW_true, condW_false, thenA_normal, thenA_ret, thenA_exit, if_true, if_false, Bool.false_eq_true, decide_eq_true_eq, inBlockA_normal, inBlockA_ret, inBlockA_same, inBlockA_other, noGotoA_normal, noGotoA_ret, noGotoA_exit, Wops_nil, Wops_cons, Wops_le, Wops_guard, Wops_guardle, ok1_some, okV_some, kont_at, kontL_at, gdB_true, gdB_false, decide_true, decide_false, ev_tmp, ev_const, ev_func, ev_global, put_some, put_none, upd_same, upd_at, gd_bt, gd_bf, Bool.not_true, Bool.not_false, pick_true, pick_false, pick_b, not_b, W1_mov, W1_pick, W1_new, W1_box, W1_build, W1_lit, W1_load1, W1_loadn, W1_store, W1_nilc, W1_bin, W1_un, W1_conv, W1_b2s, W1_s2b, W1_field1, W1_fieldn, W1_faddr, W1_iaddr, W1_iarr, W1_idxs, W1_idxa1, W1_idxan, W1_sls, W1_sll, W1_sla, W1_mk, W1_ext, W1_fn, W1_ifc, W1_lens, W1_lenc, W1_app, W1_apps, W1_copy, W1_mn, W1_mx, W1_isnil, W1_strc, W1_beq, W1_mks, W1_capn, W1_appz, W1_eqagg, W1_call, W1_calld, callD_func, List.nil_append, List.append_nil, List.map_cons, List.map_nil, Option.map_some, Option.map_none, reduceIte, Option.some.injEq, exists_eq_left', Nat.reduceBEq, iv_ii, postA_ret, postA_normal, resVs_nil, resVs_tmp, resVs_one, resVs_many, Option.bind_some, tupleOf, Int.toNat_natCast, true_and, and_true, Nat.reduceEqDiff, i0, c1, lit_none, q1]
    exact hq _ _ q2 q3

end Go.AS.C

namespace Go.AS.C
open Go Go.Proofs
set_option linter.unusedVariables false
set_option linter.unusedSimpArgs false
set_option maxRecDepth 10000

theorem fence_may_spec {A : AH} {n : Int} {Q : Value → AH → Prop} (hq : Q (.bool (decide (1 ≤ n ∧ n ≤ 4096))) A) : ACalls 0 Try.prog fence_may [ii n] Q A := by
  refine ACalls.of_fits mixed fits_fence_may rfl ?_
  unfold ic_fence_may
  have i0 : initA [ii n] 0 = ii n := rfl
  generalize initA [ii n] = a at i0
  by_cases h : (1 : Int) ≤ n
  · have h1 : (n ≥ 1) = True := by simp [h]
    simp only [W_seq, W_ops, W_draw, W_block, W_skip, W_exit, W_ret, sq_normal, sq_ret, sq_exit, W_condv, condW_true, condW_false, thenA_normal, thenA_ret, thenA_exit, if_true, if_false, Bool.false_eq_true, decide_eq_true_eq, inBlockA_normal, inBlockA_ret, inBlockA_same, inBlockA_other, noGotoA_normal, noGotoA_ret, noGotoA_exit, Wops_nil, Wops_cons, Wops_le, Wops_guard, Wops_guardle, ok1_some, okV_some, kont_at, kontL_at, gdB_true, gdB_false, decide_true, decide_false, ev_tmp, ev_const, ev_func, ev_global, put_some, put_none, upd_same, upd_at, gd_bt, gd_bf, Bool.not_true, Bool.not_false, pick_true, pick_false, pick_b, not_b, W1_mov, W1_pick, W1_new, W1_box, W1_build, W1_lit, W1_load1, W1_loadn, W1_store, W1_nilc, W1_bin, W1_un, W1_conv, W1_b2s, W1_s2b, W1_field1, W1_fieldn, W1_faddr, W1_iaddr, W1_iarr, W1_idxs, W1_idxa1, W1_idxan, W1_sls, W1_sll, W1_sla, W1_mk, W1_ext, W1_fn, W1_ifc, W1_lens, W1_lenc, W1_app, W1_apps, W1_copy, W1_mn, W1_mx, W1_isnil, W1_strc, W1_beq, W1_mks, W1_capn, W1_appz, W1_eqagg, W1_call, W1_calld, callD_func, List.nil_append, List.append_nil, List.map_cons, List.map_nil, Option.map_some, Option.map_none, reduceIte, Option.some.injEq, exists_eq_left', Nat.reduceBEq, iv_ii, postA_ret, postA_normal, resVs_nil, resVs_tmp, resVs_one, resVs_many, Option.bind_some, tupleOf, Int.toNat_natCast, true_and, and_true, Nat.reduceEqDiff, i0, binA_geq, binA_leq, h1]
    simpa [h] using hq
  · have h1 : (n ≥ 1) = False := by simp; omega
    simp only [W_seq, W_ops, W_draw, W_block, W_skip, W_exit, W_ret, sq_normal, sq_ret, sq_exit, W_condv, condW_true, condW_false, thenA_normal, thenA_ret, thenA_exit, if_true, if_false, Bool.false_eq_true, decide_eq_true_eq, inBlockA_normal, inBlockA_ret, inBlockA_same, inBlockA_other, noGotoA_normal, noGotoA_ret, noGotoA_exit, Wops_nil, Wops_cons, Wops_le, Wops_guard, Wops_guardle, ok1_some, okV_some, kont_at, kontL_at, gdB_true, gdB_false, decide_true, decide_false, ev_tmp, ev_const, ev_func, ev_global, put_some, put_none, upd_same, upd_at, gd_bt, gd_bf, Bool.not_true, Bool.not_false, pick_true, pick_false, pick_b, not_b, W1_mov, W1_pick, W1_new, W1_box, W1_build, W1_lit, W1_load1, W1_loadn, W1_store, W1_nilc, W1_bin, W1_un, W1_conv, W1_b2s, W1_s2b, W1_field1, W1_fieldn, W1_faddr, W1_iaddr, W1_iarr, W1_idxs, W1_idxa1, W1_idxan, W1_sls, W1_sll, W1_sla, W1_mk, W1_ext, W1_fn, W1_ifc, W1_lens, W1_lenc, W1_app, W1_apps, W1_copy, W1_mn, W1_mx, W1_isnil, W1_strc, W1_beq, W1_mks, W1_capn, W1_appz, W1_eqagg, W1_call, W1_calld, callD_func, List.nil_append, List.append_nil, List.map_cons, List.map_nil, Option.map_some, Option.map_none, reduceIte, Option.some.injEq, exists_eq_left', Nat.reduceBEq, iv_ii, postA_ret, postA_normal, resVs_nil, resVs_tmp, resVs_one, resVs_many, Option.bind_some, tupleOf, Int.toNat_natCast, true_and, and_true, Nat.reduceEqDiff, i0, binA_geq, binA_leq, h1]
    simpa [h] using hq
theorem ref27_may_spec {A : AH} {v : Value} {bs : List UInt8} {Q : Value → AH → Prop} (hv : Byt A v bs) (hq : Q (.bool (decide (1 ≤ bs.length ∧ bs.length ≤ 4096))) A) : ACalls 0 Try.prog chantryref27_may [v] Q A := by
  refine ACalls.of_fits mixed fits_chantryref27_may rfl ?_
  unfold ic_chantryref27_may
  have i0 : initA [v] 0 = v := rfl
  generalize initA [v] = a at i0
  by_cases h : 1 ≤ bs.length
  · have h1 : ((bs.length : Int) ≥ 1) = True := by simp; omega
    by_cases h2 : bs.length ≤ 4096
    · have h3 : ((bs.length : Int) ≤ 4096) = True := by simp; omega
      simp only [W_seq, W_ops, W_draw, W_block, W_skip, W_exit, W_ret, sq_normal, sq_ret, sq_exit, W_condv, condW_true, condW_false, thenA_normal, thenA_ret, thenA_exit, if_true, if_false, Bool.false_eq_true, decide_eq_true_eq, inBlockA_normal, inBlockA_ret, inBlockA_same, inBlockA_other, noGotoA_normal, noGotoA_ret, noGotoA_exit, Wops_nil, Wops_cons, Wops_le, Wops_guard, Wops_guardle, ok1_some, okV_some, kont_at, kontL_at, gdB_true, gdB_false, decide_true, decide_false, ev_tmp, ev_const, ev_func, ev_global, put_some, put_none, upd_same, upd_at, gd_bt, gd_bf, Bool.not_true, Bool.not_false, pick_true, pick_false, pick_b, not_b, W1_mov, W1_pick, W1_new, W1_box, W1_build, W1_lit, W1_load1, W1_loadn, W1_store, W1_nilc, W1_bin, W1_un, W1_conv, W1_b2s, W1_s2b, W1_field1, W1_fieldn, W1_faddr, W1_iaddr, W1_iarr, W1_idxs, W1_idxa1, W1_idxan, W1_sls, W1_sll, W1_sla, W1_mk, W1_ext, W1_fn, W1_ifc, W1_lens, W1_lenc, W1_app, W1_apps, W1_copy, W1_mn, W1_mx, W1_isnil, W1_strc, W1_beq, W1_mks, W1_capn, W1_appz, W1_eqagg, W1_call, W1_calld, callD_func, List.nil_append, List.append_nil, List.map_cons, List.map_nil, Option.map_some, Option.map_none, reduceIte, Option.some.injEq, exists_eq_left', Nat.reduceBEq, iv_ii, postA_ret, postA_normal, resVs_nil, resVs_tmp, resVs_one, resVs_many, Option.bind_some, tupleOf, Int.toNat_natCast, true_and, and_true, Nat.reduceEqDiff, i0, hv.len, binA_geq, binA_leq, h1, h3]
      simpa [h, h2] using hq
    · have h3 : ((bs.length : Int) ≤ 4096) = False := by simp; omega
      simp only [W_seq, W_ops, W_draw, W_block, W_skip, W_exit, W_ret, sq_normal, sq_ret, sq_exit, W_condv, condW_true, condW_false, thenA_normal, thenA_ret, thenA_exit, if_true, if_false, Bool.false_eq_true, decide_eq_true_eq, inBlockA_normal, inBlockA_ret, inBlockA_same, inBlockA_other, noGotoA_normal, noGotoA_ret, noGotoA_exit, Wops_nil, Wops_cons, Wops_le, Wops_guard, Wops_guardle, ok1_some, okV_some, kont_at, kontL_at, gdB_true, gdB_false, decide_true, decide_false, ev_tmp, ev_const, ev_func, ev_global, put_some, put_none, upd_same, upd_at, gd_bt, gd_bf, Bool.not_true, Bool.not_false, pick_true, pick_false, pick_b, not_b, W1_mov, W1_pick, W1_new, W1_box, W1_build, W1_lit, W1_load1, W1_loadn, W1_store, W1_nilc, W1_bin, W1_un, W1_conv, W1_b2s, W1_s2b, W1_field1, W1_fieldn, W1_faddr, W1_iaddr, W1_iarr, W1_idxs, W1_idxa1, W1_idxan, W1_sls, W1_sll, W1_sla, W1_mk, W1_ext, W1_fn, W1_ifc, W1_lens, W1_lenc, W1_app, W1_apps, W1_copy, W1_mn, W1_mx, W1_isnil, W1_strc, W1_beq, W1_mks, W1_capn, W1_appz, W1_eqagg, W1_call, W1_calld, callD_func, List.nil_append, List.append_nil, List.map_cons, List.map_nil, Option.map_some, Option.map_none, reduceIte, Option.some.injEq, exists_eq_left', Nat.reduceBEq, iv_ii, postA_ret, postA_normal, resVs_nil, resVs_tmp, resVs_one, resVs_many, Option.bind_some, tupleOf, Int.toNat_natCast, true_and, and_true, Nat.reduceEqDiff, i0, hv.len, binA_geq, binA_leq, h1, h3]
      simpa [h, h2] using hq
  · have h1 : ((bs.length : Int) ≥ 1) = False := by simp; omega
    simp only [W_seq, W_ops, W_draw, W_block, W_skip, W_exit, W_ret, sq_normal, sq_ret, sq_exit, W_condv, condW_true, condW_false, thenA_normal, thenA_ret, thenA_exit, if_true, if_false, Bool.false_eq_true, decide_eq_true_eq, inBlockA_normal, inBlockA_ret, inBlockA_same, inBlockA_other, noGotoA_normal, noGotoA_ret, noGotoA_exit, Wops_nil, Wops_cons, Wops_le, Wops_guard, Wops_guardle, ok1_some, okV_some, kont_at, kontL_at, gdB_true, gdB_false, decide_true, decide_false, ev_tmp, ev_const, ev_func, ev_global, put_some, put_none, upd_same, upd_at, gd_bt, gd_bf, Bool.not_true, Bool.not_false, pick_true, pick_false, pick_b, not_b, W1_mov, W1_pick, W1_new, W1_box, W1_build, W1_lit, W1_load1, W1_loadn, W1_store, W1_nilc, W1_bin, W1_un, W1_conv, W1_b2s, W1_s2b, W1_field1, W1_fieldn, W1_faddr, W1_iaddr, W1_iarr, W1_idxs, W1_idxa1, W1_idxan, W1_sls, W1_sll, W1_sla, W1_mk, W1_ext, W1_fn, W1_ifc, W1_lens, W1_lenc, W1_app, W1_apps, W1_copy, W1_mn, W1_mx, W1_isnil, W1_strc, W1_beq, W1_mks, W1_capn, W1_appz, W1_eqagg, W1_call, W1_calld, callD_func, List.nil_append, List.append_nil, List.map_cons, List.map_nil, Option.map_some, Option.map_none, reduceIte, Option.some.injEq, exists_eq_left', Nat.reduceBEq, iv_ii, postA_ret, postA_normal, resVs_nil, resVs_tmp, resVs_one, resVs_many, Option.bind_some, tupleOf, Int.toNat_natCast, true_and, and_true, Nat.reduceEqDiff, i0, hv.len, binA_geq, binA_leq, h1]
    simpa [h] using hq

/-- Bits that either has. -/
def orB (a b : List UInt8) : List UInt8 := List.zipWith (· ||| ·) a b
theorem orB_length {a b : List UInt8} (h : a.length = b.length) : (orB a b).length = a.length := by simp [orB, h]
theorem orB_get {a b : List UInt8} {j : Nat} {x y : UInt8} (h1 : a[j]? = some x) (h2 : b[j]? = some y) : (orB a b)[j]? = some (x ||| y) := by
  unfold orB
  rw [List.getElem?_zipWith, h1, h2]
/-- What fence.Join gives. -/
def joinF (a b : List UInt8) : Option (List UInt8) := if 1 ≤ a.length ∧ a.length ≤ 4096 ∧ a.length = b.length then some (orB a b) else none

theorem fence_Join_spec {A : AH} {u v : Value} {xs ys : List UInt8} {Q : Value → AH → Prop} (hu : Byt A u xs) (hv : Byt A v ys) (hok : ∀ z t A', joinF xs ys = some z → Le A A' → OwnB A.length A' t z → Q (.tuple #[t, ii 0]) A') (hbad : joinF xs ys = none → Q (.tuple #[.slice none 0 0, ii 1]) A) :
    ACalls 0 Try.prog fence_Join [u, v] Q A := by
  refine ACalls.of_fits mixed fits_fence_Join rfl ?_
  unfold ic_fence_Join
  have i0 : initA [u, v] 0 = u := rfl
  have i1 : initA [u, v] 1 = v := rfl
  generalize initA [u, v] = a at i0 i1
  simp only [W_seq, W_ops, W_draw, W_block, W_skip, W_exit, W_ret, sq_normal, sq_ret, sq_exit, W_condv, condW_true, condW_false, thenA_normal, thenA_ret, thenA_exit, if_true, if_false, Bool.false_eq_true, decide_eq_true_eq, inBlockA_normal, inBlockA_ret, inBlockA_same, inBlockA_other, noGotoA_normal, noGotoA_ret, noGotoA_exit, Wops_nil, Wops_cons, Wops_le, Wops_guard, Wops_guardle, ok1_some, okV_some, kont_at, kontL_at, gdB_true, gdB_false, decide_true, decide_false, ev_tmp, ev_const, ev_func, ev_global, put_some, put_none, upd_same, upd_at, gd_bt, gd_bf, Bool.not_true, Bool.not_false, pick_true, pick_false, pick_b, not_b, W1_mov, W1_pick, W1_new, W1_box, W1_build, W1_lit, W1_load1, W1_loadn, W1_store, W1_nilc, W1_bin, W1_un, W1_conv, W1_b2s, W1_s2b, W1_field1, W1_fieldn, W1_faddr, W1_iaddr, W1_iarr, W1_idxs, W1_idxa1, W1_idxan, W1_sls, W1_sll, W1_sla, W1_mk, W1_ext, W1_fn, W1_ifc, W1_lens, W1_lenc, W1_app, W1_apps, W1_copy, W1_mn, W1_mx, W1_isnil, W1_strc, W1_beq, W1_mks, W1_capn, W1_appz, W1_eqagg, W1_call, W1_calld, callD_func, List.nil_append, List.append_nil, List.map_cons, List.map_nil, Option.map_some, Option.map_none, reduceIte, Option.some.injEq, exists_eq_left', Nat.reduceBEq, iv_ii, postA_ret, postA_normal, resVs_nil, resVs_tmp, resVs_one, resVs_many, Option.bind_some, tupleOf, Int.toNat_natCast, true_and, and_true, Nat.reduceEqDiff, i0, hu.len]
  refine fence_may_spec ?_
  by_cases h : 1 ≤ xs.length ∧ xs.length ≤ 4096
  · have c1 : ((1 : Int) ≤ (xs.length : Nat) ∧ ((xs.length : Nat) : Int) ≤ 4096) = True := by simp; omega
    by_cases h2 : xs.length = ys.length
    · have c2 : (((xs.length : Nat) : Int) != ((ys.length : Nat) : Int)) = false := by simp [h2]
      have hj : joinF xs ys = some (orB xs ys) := by unfold joinF; rw [if_pos ⟨h.1, h.2, h2⟩]
      simp only [W_seq, W_ops, W_draw, W_block, W_skip, W_exit, W_ret, sq_normal, sq_ret, sq_exit, W_condv, condW_true, condW_false, thenA_normal, thenA_ret, thenA_exit, if_true, if_false, Bool.false_eq_true, decide_eq_true_eq, inBlockA_normal, inBlockA_ret, inBlockA_same, inBlockA_other, noGotoA_normal, noGotoA_ret, noGotoA_exit, Wops_nil, Wops_cons, Wops_le, Wops_guard, Wops_guardle, ok1_some, okV_some, kont_at, kontL_at, gdB_true, gdB_false, decide_true, decide_false, ev_tmp, ev_const, ev_func, ev_global, put_some, put_none, upd_same, upd_at, gd_bt, gd_bf, Bool.not_true, Bool.not_false, pick_true, pick_false, pick_b, not_b, W1_mov, W1_pick, W1_new, W1_box, W1_build, W1_lit, W1_load1, W1_loadn, W1_store, W1_nilc, W1_bin, W1_un, W1_conv, W1_b2s, W1_s2b, W1_field1, W1_fieldn, W1_faddr, W1_iaddr, W1_iarr, W1_idxs, W1_idxa1, W1_idxan, W1_sls, W1_sll, W1_sla, W1_mk, W1_ext, W1_fn, W1_ifc, W1_lens, W1_lenc, W1_app, W1_apps, W1_copy, W1_mn, W1_mx, W1_isnil, W1_strc, W1_beq, W1_mks, W1_capn, W1_appz, W1_eqagg, W1_call, W1_calld, callD_func, List.nil_append, List.append_nil, List.map_cons, List.map_nil, Option.map_some, Option.map_none, reduceIte, Option.some.injEq, exists_eq_left', Nat.reduceBEq, iv_ii, postA_ret, postA_normal, resVs_nil, resVs_tmp, resVs_one, resVs_many, Option.bind_some, tupleOf, Int.toNat_natCast, true_and, and_true, Nat.reduceEqDiff, c1, i0, i1, hu.len, hv.len, binA_neq, c2]
      refine slices_Clone_spec hu (by omega) fun t A1 hle ho => ?_
      simp only [W_seq, W_ops, W_draw, W_block, W_skip, W_exit, W_ret, sq_normal, sq_ret, sq_exit, W_condv, condW_true, condW_false, thenA_normal, thenA_ret, thenA_exit, if_true, if_false, Bool.false_eq_true, decide_eq_true_eq, inBlockA_normal, inBlockA_ret, inBlockA_same, inBlockA_other, noGotoA_normal, noGotoA_ret, noGotoA_exit, Wops_nil, Wops_cons, Wops_le, Wops_guard, Wops_guardle, ok1_some, okV_some, kont_at, kontL_at, gdB_true, gdB_false, decide_true, decide_false, ev_tmp, ev_const, ev_func, ev_global, put_some, put_none, upd_same, upd_at, gd_bt, gd_bf, Bool.not_true, Bool.not_false, pick_true, pick_false, pick_b, not_b, W1_mov, W1_pick, W1_new, W1_box, W1_build, W1_lit, W1_load1, W1_loadn, W1_store, W1_nilc, W1_bin, W1_un, W1_conv, W1_b2s, W1_s2b, W1_field1, W1_fieldn, W1_faddr, W1_iaddr, W1_iarr, W1_idxs, W1_idxa1, W1_idxan, W1_sls, W1_sll, W1_sla, W1_mk, W1_ext, W1_fn, W1_ifc, W1_lens, W1_lenc, W1_app, W1_apps, W1_copy, W1_mn, W1_mx, W1_isnil, W1_strc, W1_beq, W1_mks, W1_capn, W1_appz, W1_eqagg, W1_call, W1_calld, callD_func, List.nil_append, List.append_nil, List.map_cons, List.map_nil, Option.map_some, Option.map_none, reduceIte, Option.some.injEq, exists_eq_left', Nat.reduceBEq, iv_ii, postA_ret, postA_normal, resVs_nil, resVs_tmp, resVs_one, resVs_many, Option.bind_some, tupleOf, Int.toNat_natCast, true_and, and_true, Nat.reduceEqDiff, i1, (hv.le hle).len]
      refine W_loop (fun a' B => ∃ k : Nat, k ≤ ys.length ∧ Le A B ∧ a' 22 = v ∧ a' 23 = ii ys.length ∧ a' 24 = ii k ∧ OwnB A.length B (a' 6) ((orB xs ys).take k ++ xs.drop k)) (fun a' _ => ys.length - (iv (a' 24)).toNat) ?_ ?_
      · refine ⟨0, by omega, hle, ?_⟩
        simp only [W_seq, W_ops, W_draw, W_block, W_skip, W_exit, W_ret, sq_normal, sq_ret, sq_exit, W_condv, condW_true, condW_false, thenA_normal, thenA_ret, thenA_exit, if_true, if_false, Bool.false_eq_true, decide_eq_true_eq, inBlockA_normal, inBlockA_ret, inBlockA_same, inBlockA_other, noGotoA_normal, noGotoA_ret, noGotoA_exit, Wops_nil, Wops_cons, Wops_le, Wops_guard, Wops_guardle, ok1_some, okV_some, kont_at, kontL_at, gdB_true, gdB_false, decide_true, decide_false, ev_tmp, ev_const, ev_func, ev_global, put_some, put_none, upd_same, upd_at, gd_bt, gd_bf, Bool.not_true, Bool.not_false, pick_true, pick_false, pick_b, not_b, W1_mov, W1_pick, W1_new, W1_box, W1_build, W1_lit, W1_load1, W1_loadn, W1_store, W1_nilc, W1_bin, W1_un, W1_conv, W1_b2s, W1_s2b, W1_field1, W1_fieldn, W1_faddr, W1_iaddr, W1_iarr, W1_idxs, W1_idxa1, W1_idxan, W1_sls, W1_sll, W1_sla, W1_mk, W1_ext, W1_fn, W1_ifc, W1_lens, W1_lenc, W1_app, W1_apps, W1_copy, W1_mn, W1_mx, W1_isnil, W1_strc, W1_beq, W1_mks, W1_capn, W1_appz, W1_eqagg, W1_call, W1_calld, callD_func, List.nil_append, List.append_nil, List.map_cons, List.map_nil, Option.map_some, Option.map_none, reduceIte, Option.some.injEq, exists_eq_left', Nat.reduceBEq, iv_ii, postA_ret, postA_normal, resVs_nil, resVs_tmp, resVs_one, resVs_many, Option.bind_some, tupleOf, Int.toNat_natCast, true_and, and_true, Nat.reduceEqDiff, i1]
        simpa using ho
      · rintro a2 B ⟨k, hk, hleB, g22, g23, g24, g6⟩
        rcases Nat.lt_or_ge k ys.length with hlt | hge
        · have hc : ((k : Int) < (ys.length : Int)) = True := by simp; omega
          obtain ⟨x, hx⟩ : ∃ b, xs[k]? = some b := ⟨_, List.getElem?_eq_getElem (by omega)⟩
          obtain ⟨y, hy⟩ : ∃ b, ys[k]? = some b := ⟨_, List.getElem?_eq_getElem hlt⟩
          obtain ⟨p, hp1, hp2⟩ := (hv.le hleB).at1 hy
          have hol := orB_length h2
          have hcur : ((orB xs ys).take k ++ xs.drop k)[k]? = some x := by
            rw [List.getElem?_append_right (by simp; omega)]
            simp only [List.length_take, hol, List.getElem?_drop]
            rw [Nat.min_eq_left (by omega), Nat.sub_self, Nat.add_zero, hx]
          obtain ⟨q, hq1, hq2⟩ := g6.byt.at1 hcur
          obtain ⟨q2, B2, e1, e2, e3, e4, _⟩ := own_store (x ||| y) hleB g6 (k := k) (lt_of_get hcur)
          have hqq : q2 = q := by
            rw [hq1] at e1
            injection e1 with e1; injection e1 with e1 _; exact e1.symm
          subst hqq
          simp only [W_seq, W_ops, W_draw, W_block, W_skip, W_exit, W_ret, sq_normal, sq_ret, sq_exit, W_condv, condW_true, condW_false, thenA_normal, thenA_ret, thenA_exit, if_true, if_false, Bool.false_eq_true, decide_eq_true_eq, inBlockA_normal, inBlockA_ret, inBlockA_same, inBlockA_other, noGotoA_normal, noGotoA_ret, noGotoA_exit, Wops_nil, Wops_cons, Wops_le, Wops_guard, Wops_guardle, ok1_some, okV_some, kont_at, kontL_at, gdB_true, gdB_false, decide_true, decide_false, ev_tmp, ev_const, ev_func, ev_global, put_some, put_none, upd_same, upd_at, gd_bt, gd_bf, Bool.not_true, Bool.not_false, pick_true, pick_false, pick_b, not_b, W1_mov, W1_pick, W1_new, W1_box, W1_build, W1_lit, W1_load1, W1_loadn, W1_store, W1_nilc, W1_bin, W1_un, W1_conv, W1_b2s, W1_s2b, W1_field1, W1_fieldn, W1_faddr, W1_iaddr, W1_iarr, W1_idxs, W1_idxa1, W1_idxan, W1_sls, W1_sll, W1_sla, W1_mk, W1_ext, W1_fn, W1_ifc, W1_lens, W1_lenc, W1_app, W1_apps, W1_copy, W1_mn, W1_mx, W1_isnil, W1_strc, W1_beq, W1_mks, W1_capn, W1_appz, W1_eqagg, W1_call, W1_calld, callD_func, List.nil_append, List.append_nil, List.map_cons, List.map_nil, Option.map_some, Option.map_none, reduceIte, Option.some.injEq, exists_eq_left', Nat.reduceBEq, iv_ii, postA_ret, postA_normal, resVs_nil, resVs_tmp, resVs_one, resVs_many, Option.bind_some, tupleOf, Int.toNat_natCast, true_and, and_true, Nat.reduceEqDiff, g22, g23, g24, binA_lss, hc, hp1, hp2, hq1, hq2, binA_or8, e2, binA_add1 k (by omega)]
          refine ⟨⟨k + 1, by omega, e4, rfl, ?_⟩, by omega⟩
          have hstep : ((orB xs ys).take k ++ xs.drop k).set k (x ||| y) = (orB xs ys).take (k + 1) ++ xs.drop (k + 1) := by
            have hor := orB_get hx hy
            have hdr := List.drop_eq_getElem_cons (l := xs) (i := k) (by omega)
            rw [List.take_add_one, hor]
            rw [List.set_append_right _ _ (by simp; omega)]
            have e0 : k - ((orB xs ys).take k).length = 0 := by simp; omega
            rw [e0, hdr]
            simp only [List.set_cons_zero, Option.toList_some, List.append_assoc, List.singleton_append]
          rw [hstep] at e3
          exact e3
        · have hc : ((k : Int) < (ys.length : Int)) = False := by simp; omega
          have hk2 : k = xs.length := by omega
          subst hk2
          simp only [W_seq, W_ops, W_draw, W_block, W_skip, W_exit, W_ret, sq_normal, sq_ret, sq_exit, W_condv, condW_true, condW_false, thenA_normal, thenA_ret, thenA_exit, if_true, if_false, Bool.false_eq_true, decide_eq_true_eq, inBlockA_normal, inBlockA_ret, inBlockA_same, inBlockA_other, noGotoA_normal, noGotoA_ret, noGotoA_exit, Wops_nil, Wops_cons, Wops_le, Wops_guard, Wops_guardle, ok1_some, okV_some, kont_at, kontL_at, gdB_true, gdB_false, decide_true, decide_false, ev_tmp, ev_const, ev_func, ev_global, put_some, put_none, upd_same, upd_at, gd_bt, gd_bf, Bool.not_true, Bool.not_false, pick_true, pick_false, pick_b, not_b, W1_mov, W1_pick, W1_new, W1_box, W1_build, W1_lit, W1_load1, W1_loadn, W1_store, W1_nilc, W1_bin, W1_un, W1_conv, W1_b2s, W1_s2b, W1_field1, W1_fieldn, W1_faddr, W1_iaddr, W1_iarr, W1_idxs, W1_idxa1, W1_idxan, W1_sls, W1_sll, W1_sla, W1_mk, W1_ext, W1_fn, W1_ifc, W1_lens, W1_lenc, W1_app, W1_apps, W1_copy, W1_mn, W1_mx, W1_isnil, W1_strc, W1_beq, W1_mks, W1_capn, W1_appz, W1_eqagg, W1_call, W1_calld, callD_func, List.nil_append, List.append_nil, List.map_cons, List.map_nil, Option.map_some, Option.map_none, reduceIte, Option.some.injEq, exists_eq_left', Nat.reduceBEq, iv_ii, postA_ret, postA_normal, resVs_nil, resVs_tmp, resVs_one, resVs_many, Option.bind_some, tupleOf, Int.toNat_natCast, true_and, and_true, Nat.reduceEqDiff, g22, g23, g24, binA_lss, hc]
          rw [List.take_of_length_le (by rw [orB_length h2]; exact Nat.le_refl _), List.drop_length, List.append_nil] at g6
          exact hok _ _ _ hj hleB g6
    · have c2 : (((xs.length : Nat) : Int) != ((ys.length : Nat) : Int)) = true := by simp; omega
      simp only [W_seq, W_ops, W_draw, W_block, W_skip, W_exit, W_ret, sq_normal, sq_ret, sq_exit, W_condv, condW_true, condW_false, thenA_normal, thenA_ret, thenA_exit, if_true, if_false, Bool.false_eq_true, decide_eq_true_eq, inBlockA_normal, inBlockA_ret, inBlockA_same, inBlockA_other, noGotoA_normal, noGotoA_ret, noGotoA_exit, Wops_nil, Wops_cons, Wops_le, Wops_guard, Wops_guardle, ok1_some, okV_some, kont_at, kontL_at, gdB_true, gdB_false, decide_true, decide_false, ev_tmp, ev_const, ev_func, ev_global, put_some, put_none, upd_same, upd_at, gd_bt, gd_bf, Bool.not_true, Bool.not_false, pick_true, pick_false, pick_b, not_b, W1_mov, W1_pick, W1_new, W1_box, W1_build, W1_lit, W1_load1, W1_loadn, W1_store, W1_nilc, W1_bin, W1_un, W1_conv, W1_b2s, W1_s2b, W1_field1, W1_fieldn, W1_faddr, W1_iaddr, W1_iarr, W1_idxs, W1_idxa1, W1_idxan, W1_sls, W1_sll, W1_sla, W1_mk, W1_ext, W1_fn, W1_ifc, W1_lens, W1_lenc, W1_app, W1_apps, W1_copy, W1_mn, W1_mx, W1_isnil, W1_strc, W1_beq, W1_mks, W1_capn, W1_appz, W1_eqagg, W1_call, W1_calld, callD_func, List.nil_append, List.append_nil, List.map_cons, List.map_nil, Option.map_some, Option.map_none, reduceIte, Option.some.injEq, exists_eq_left', Nat.reduceBEq, iv_ii, postA_ret, postA_normal, resVs_nil, resVs_tmp, resVs_one, resVs_many, Option.bind_some, tupleOf, Int.toNat_natCast, true_and, and_true, Nat.reduceEqDiff, c1, i0, i1, hu.len, hv.len, binA_neq, c2]
      exact hbad (by unfold joinF; rw [if_neg (fun h => h2 h.2.2)])
  · have c1 : ((1 : Int) ≤ (xs.length : Nat) ∧ ((xs.length : Nat) : Int) ≤ 4096) = False := by simp; omega
    simp only [W_seq, W_ops, W_draw, W_block, W_skip, W_exit, W_ret, sq_normal, sq_ret, sq_exit, W_condv, condW_true, condW_false, thenA_normal, thenA_ret, thenA_exit, if_true, if_false, Bool.false_eq_true, decide_eq_true_eq, inBlockA_normal, inBlockA_ret, inBlockA_same, inBlockA_other, noGotoA_normal, noGotoA_ret, noGotoA_exit, Wops_nil, Wops_cons, Wops_le, Wops_guard, Wops_guardle, ok1_some, okV_some, kont_at, kontL_at, gdB_true, gdB_false, decide_true, decide_false, ev_tmp, ev_const, ev_func, ev_global, put_some, put_none, upd_same, upd_at, gd_bt, gd_bf, Bool.not_true, Bool.not_false, pick_true, pick_false, pick_b, not_b, W1_mov, W1_pick, W1_new, W1_box, W1_build, W1_lit, W1_load1, W1_loadn, W1_store, W1_nilc, W1_bin, W1_un, W1_conv, W1_b2s, W1_s2b, W1_field1, W1_fieldn, W1_faddr, W1_iaddr, W1_iarr, W1_idxs, W1_idxa1, W1_idxan, W1_sls, W1_sll, W1_sla, W1_mk, W1_ext, W1_fn, W1_ifc, W1_lens, W1_lenc, W1_app, W1_apps, W1_copy, W1_mn, W1_mx, W1_isnil, W1_strc, W1_beq, W1_mks, W1_capn, W1_appz, W1_eqagg, W1_call, W1_calld, callD_func, List.nil_append, List.append_nil, List.map_cons, List.map_nil, Option.map_some, Option.map_none, reduceIte, Option.some.injEq, exists_eq_left', Nat.reduceBEq, iv_ii, postA_ret, postA_normal, resVs_nil, resVs_tmp, resVs_one, resVs_many, Option.bind_some, tupleOf, Int.toNat_natCast, true_and, and_true, Nat.reduceEqDiff, c1]
    exact hbad (by unfold joinF; rw [if_neg (fun h2 => h ⟨h2.1, h2.2.1⟩)])

theorem ref27_Join_spec {A : AH} {u v : Value} {xs ys : List UInt8} {Q : Value → AH → Prop} (hu : Byt A u xs) (hv : Byt A v ys) (hok : ∀ z t A', joinF xs ys = some z → Le A A' → OwnB A.length A' t z → Q (.tuple #[t, ii 0]) A') (hbad : joinF xs ys = none → Q (.tuple #[.slice none 0 0, ii 1]) A) :
    ACalls 0 Try.prog chantryref27_Join [u, v] Q A := by
  refine ACalls.of_fits mixed fits_chantryref27_Join rfl ?_
  unfold ic_chantryref27_Join
  have i0 : initA [u, v] 0 = u := rfl
  have i1 : initA [u, v] 1 = v := rfl
  generalize initA [u, v] = a at i0 i1
  simp only [W_seq, W_ops, W_draw, W_block, W_skip, W_exit, W_ret, sq_normal, sq_ret, sq_exit, W_condv, condW_true, condW_false, thenA_normal, thenA_ret, thenA_exit, if_true, if_false, Bool.false_eq_true, decide_eq_true_eq, inBlockA_normal, inBlockA_ret, inBlockA_same, inBlockA_other, noGotoA_normal, noGotoA_ret, noGotoA_exit, Wops_nil, Wops_cons, Wops_le, Wops_guard, Wops_guardle, ok1_some, okV_some, kont_at, kontL_at, gdB_true, gdB_false, decide_true, decide_false, ev_tmp, ev_const, ev_func, ev_global, put_some, put_none, upd_same, upd_at, gd_bt, gd_bf, Bool.not_true, Bool.not_false, pick_true, pick_false, pick_b, not_b, W1_mov, W1_pick, W1_new, W1_box, W1_build, W1_lit, W1_load1, W1_loadn, W1_store, W1_nilc, W1_bin, W1_un, W1_conv, W1_b2s, W1_s2b, W1_field1, W1_fieldn, W1_faddr, W1_iaddr, W1_iarr, W1_idxs, W1_idxa1, W1_idxan, W1_sls, W1_sll, W1_sla, W1_mk, W1_ext, W1_fn, W1_ifc, W1_lens, W1_lenc, W1_app, W1_apps, W1_copy, W1_mn, W1_mx, W1_isnil, W1_strc, W1_beq, W1_mks, W1_capn, W1_appz, W1_eqagg, W1_call, W1_calld, callD_func, List.nil_append, List.append_nil, List.map_cons, List.map_nil, Option.map_some, Option.map_none, reduceIte, Option.some.injEq, exists_eq_left', Nat.reduceBEq, iv_ii, postA_ret, postA_normal, resVs_nil, resVs_tmp, resVs_one, resVs_many, Option.bind_some, tupleOf, Int.toNat_natCast, true_and, and_true, Nat.reduceEqDiff, i0, hu.len]
  refine ref27_may_spec hu ?_
  by_cases h : 1 ≤ xs.length ∧ xs.length ≤ 4096
  · have c1 : (1 ≤ xs.length ∧ xs.length ≤ 4096) = True := by simp only [h]; trivial
    by_cases h2 : xs.length = ys.length
    · have c2 : (((xs.length : Nat) : Int) != ((ys.length : Nat) : Int)) = false := by simp [h2]
      have hj : joinF xs ys = some (orB xs ys) := by unfold joinF; rw [if_pos ⟨h.1, h.2, h2⟩]
      simp only [W_seq, W_ops, W_draw, W_block, W_skip, W_exit, W_ret, sq_normal, sq_ret, sq_exit, W_condv, condW_true, condW_false, thenA_normal, thenA_ret, thenA_exit, if_true, if_false, Bool.false_eq_true, decide_eq_true_eq, inBlockA_normal, inBlockA_ret, inBlockA_same, inBlockA_other, noGotoA_normal, noGotoA_ret, noGotoA_exit, Wops_nil, Wops_cons, Wops_le, Wops_guard, Wops_guardle, ok1_some, okV_some, kont_at, kontL_at, gdB_true, gdB_false, decide_true, decide_false, ev_tmp, ev_const, ev_func, ev_global, put_some, put_none, upd_same, upd_at, gd_bt, gd_bf, Bool.not_true, Bool.not_false, pick_true, pick_false, pick_b, not_b, W1_mov, W1_pick, W1_new, W1_box, W1_build, W1_lit, W1_load1, W1_loadn, W1_store, W1_nilc, W1_bin, W1_un, W1_conv, W1_b2s, W1_s2b, W1_field1, W1_fieldn, W1_faddr, W1_iaddr, W1_iarr, W1_idxs, W1_idxa1, W1_idxan, W1_sls, W1_sll, W1_sla, W1_mk, W1_ext, W1_fn, W1_ifc, W1_lens, W1_lenc, W1_app, W1_apps, W1_copy, W1_mn, W1_mx, W1_isnil, W1_strc, W1_beq, W1_mks, W1_capn, W1_appz, W1_eqagg, W1_call, W1_calld, callD_func, List.nil_append, List.append_nil, List.map_cons, List.map_nil, Option.map_some, Option.map_none, reduceIte, Option.some.injEq, exists_eq_left', Nat.reduceBEq, iv_ii, postA_ret, postA_normal, resVs_nil, resVs_tmp, resVs_one, resVs_many, Option.bind_some, tupleOf, Int.toNat_natCast, true_and, and_true, Nat.reduceEqDiff, c1, i0, i1, hu.len, hv.len, binA_neq, c2]
      refine W_loop (fun a' B => ∃ k : Nat, k ≤ xs.length ∧ Le A B ∧ a' 0 = u ∧ a' 1 = v ∧ a' 7 = ii k ∧ OwnB A.length B (a' 6) ((orB xs ys).take k)) (fun a' _ => xs.length - (iv (a' 7)).toNat) ?_ ?_
      · refine ⟨0, by omega, .refl _, ?_⟩
        simp only [W_seq, W_ops, W_draw, W_block, W_skip, W_exit, W_ret, sq_normal, sq_ret, sq_exit, W_condv, condW_true, condW_false, thenA_normal, thenA_ret, thenA_exit, if_true, if_false, Bool.false_eq_true, decide_eq_true_eq, inBlockA_normal, inBlockA_ret, inBlockA_same, inBlockA_other, noGotoA_normal, noGotoA_ret, noGotoA_exit, Wops_nil, Wops_cons, Wops_le, Wops_guard, Wops_guardle, ok1_some, okV_some, kont_at, kontL_at, gdB_true, gdB_false, decide_true, decide_false, ev_tmp, ev_const, ev_func, ev_global, put_some, put_none, upd_same, upd_at, gd_bt, gd_bf, Bool.not_true, Bool.not_false, pick_true, pick_false, pick_b, not_b, W1_mov, W1_pick, W1_new, W1_box, W1_build, W1_lit, W1_load1, W1_loadn, W1_store, W1_nilc, W1_bin, W1_un, W1_conv, W1_b2s, W1_s2b, W1_field1, W1_fieldn, W1_faddr, W1_iaddr, W1_iarr, W1_idxs, W1_idxa1, W1_idxan, W1_sls, W1_sll, W1_sla, W1_mk, W1_ext, W1_fn, W1_ifc, W1_lens, W1_lenc, W1_app, W1_apps, W1_copy, W1_mn, W1_mx, W1_isnil, W1_strc, W1_beq, W1_mks, W1_capn, W1_appz, W1_eqagg, W1_call, W1_calld, callD_func, List.nil_append, List.append_nil, List.map_cons, List.map_nil, Option.map_some, Option.map_none, reduceIte, Option.some.injEq, exists_eq_left', Nat.reduceBEq, iv_ii, postA_ret, postA_normal, resVs_nil, resVs_tmp, resVs_one, resVs_many, Option.bind_some, tupleOf, Int.toNat_natCast, true_and, and_true, Nat.reduceEqDiff, i0, i1]
        exact ⟨rfl, OwnB.nil _ _⟩
      · rintro a2 B ⟨k, hk, hleB, g0, g1, g7, g6⟩
        rcases Nat.lt_or_ge k xs.length with hlt | hge
        · have hc : ((k : Int) < (xs.length : Int)) = True := by simp; omega
          obtain ⟨x, hx⟩ : ∃ b, xs[k]? = some b := ⟨_, List.getElem?_eq_getElem hlt⟩
          obtain ⟨y, hy⟩ : ∃ b, ys[k]? = some b := ⟨_, List.getElem?_eq_getElem (by omega)⟩
          obtain ⟨p, hp1, hp2⟩ := (hu.le hleB).at1 hx
          obtain ⟨q, hq1, hq2⟩ := (hv.le hleB).at1 hy
          have l1 := litB B [x ||| y] (len := 1) (ps := [(0, 1, by8 (x ||| y))]) rfl rfl
          have k1 : Le B (B ++ [.row (List.map by8 [x ||| y]) .own 1 true]) := .push _ _
          obtain ⟨v2, A2, p1, p2, p3, _⟩ := app_bytes (hleB.trans k1) (OwnS.le g6 k1) (byt_last B [x ||| y]) (by simp; omega)
          rw [List.length_singleton] at p1
          simp only [List.map_cons, List.map_nil, List.length_singleton] at l1 p1
          simp only [W_seq, W_ops, W_draw, W_block, W_skip, W_exit, W_ret, sq_normal, sq_ret, sq_exit, W_condv, condW_true, condW_false, thenA_normal, thenA_ret, thenA_exit, if_true, if_false, Bool.false_eq_true, decide_eq_true_eq, inBlockA_normal, inBlockA_ret, inBlockA_same, inBlockA_other, noGotoA_normal, noGotoA_ret, noGotoA_exit, Wops_nil, Wops_cons, Wops_le, Wops_guard, Wops_guardle, ok1_some, okV_some, kont_at, kontL_at, gdB_true, gdB_false, decide_true, decide_false, ev_tmp, ev_const, ev_func, ev_global, put_some, put_none, upd_same, upd_at, gd_bt, gd_bf, Bool.not_true, Bool.not_false, pick_true, pick_false, pick_b, not_b, W1_mov, W1_pick, W1_new, W1_box, W1_build, W1_lit, W1_load1, W1_loadn, W1_store, W1_nilc, W1_bin, W1_un, W1_conv, W1_b2s, W1_s2b, W1_field1, W1_fieldn, W1_faddr, W1_iaddr, W1_iarr, W1_idxs, W1_idxa1, W1_idxan, W1_sls, W1_sll, W1_sla, W1_mk, W1_ext, W1_fn, W1_ifc, W1_lens, W1_lenc, W1_app, W1_apps, W1_copy, W1_mn, W1_mx, W1_isnil, W1_strc, W1_beq, W1_mks, W1_capn, W1_appz, W1_eqagg, W1_call, W1_calld, callD_func, List.nil_append, List.append_nil, List.map_cons, List.map_nil, Option.map_some, Option.map_none, reduceIte, Option.some.injEq, exists_eq_left', Nat.reduceBEq, iv_ii, postA_ret, postA_normal, resVs_nil, resVs_tmp, resVs_one, resVs_many, Option.bind_some, tupleOf, Int.toNat_natCast, true_and, and_true, Nat.reduceEqDiff, g0, g1, g7, binA_lss, hc, (hu.le hleB).len, hp1, hp2, hq1, hq2, binA_or8, l1, p1, binA_add1 k (by omega)]
          refine ⟨⟨k + 1, by omega, p2, rfl, ?_⟩, by omega⟩
          rw [List.take_add_one, orB_get hx hy]
          exact p3
        · have hc : ((k : Int) < (xs.length : Int)) = False := by simp; omega
          have hk2 : k = xs.length := by omega
          subst hk2
          simp only [W_seq, W_ops, W_draw, W_block, W_skip, W_exit, W_ret, sq_normal, sq_ret, sq_exit, W_condv, condW_true, condW_false, thenA_normal, thenA_ret, thenA_exit, if_true, if_false, Bool.false_eq_true, decide_eq_true_eq, inBlockA_normal, inBlockA_ret, inBlockA_same, inBlockA_other, noGotoA_normal, noGotoA_ret, noGotoA_exit, Wops_nil, Wops_cons, Wops_le, Wops_guard, Wops_guardle, ok1_some, okV_some, kont_at, kontL_at, gdB_true, gdB_false, decide_true, decide_false, ev_tmp, ev_const, ev_func, ev_global, put_some, put_none, upd_same, upd_at, gd_bt, gd_bf, Bool.not_true, Bool.not_false, pick_true, pick_false, pick_b, not_b, W1_mov, W1_pick, W1_new, W1_box, W1_build, W1_lit, W1_load1, W1_loadn, W1_store, W1_nilc, W1_bin, W1_un, W1_conv, W1_b2s, W1_s2b, W1_field1, W1_fieldn, W1_faddr, W1_iaddr, W1_iarr, W1_idxs, W1_idxa1, W1_idxan, W1_sls, W1_sll, W1_sla, W1_mk, W1_ext, W1_fn, W1_ifc, W1_lens, W1_lenc, W1_app, W1_apps, W1_copy, W1_mn, W1_mx, W1_isnil, W1_strc, W1_beq, W1_mks, W1_capn, W1_appz, W1_eqagg, W1_call, W1_calld, callD_func, List.nil_append, List.append_nil, List.map_cons, List.map_nil, Option.map_some, Option.map_none, reduceIte, Option.some.injEq, exists_eq_left', Nat.reduceBEq, iv_ii, postA_ret, postA_normal, resVs_nil, resVs_tmp, resVs_one, resVs_many, Option.bind_some, tupleOf, Int.toNat_natCast, true_and, and_true, Nat.reduceEqDiff, g0, g1, g7, binA_lss, hc, (hu.le hleB).len]
          rw [List.take_of_length_le (by rw [orB_length h2]; exact Nat.le_refl _)] at g6
          exact hok _ _ _ hj hleB g6
    · have c2 : (((xs.length : Nat) : Int) != ((ys.length : Nat) : Int)) = true := by simp; omega
      simp only [W_seq, W_ops, W_draw, W_block, W_skip, W_exit, W_ret, sq_normal, sq_ret, sq_exit, W_condv, condW_true, condW_false, thenA_normal, thenA_ret, thenA_exit, if_true, if_false, Bool.false_eq_true, decide_eq_true_eq, inBlockA_normal, inBlockA_ret, inBlockA_same, inBlockA_other, noGotoA_normal, noGotoA_ret, noGotoA_exit, Wops_nil, Wops_cons, Wops_le, Wops_guard, Wops_guardle, ok1_some, okV_some, kont_at, kontL_at, gdB_true, gdB_false, decide_true, decide_false, ev_tmp, ev_const, ev_func, ev_global, put_some, put_none, upd_same, upd_at, gd_bt, gd_bf, Bool.not_true, Bool.not_false, pick_true, pick_false, pick_b, not_b, W1_mov, W1_pick, W1_new, W1_box, W1_build, W1_lit, W1_load1, W1_loadn, W1_store, W1_nilc, W1_bin, W1_un, W1_conv, W1_b2s, W1_s2b, W1_field1, W1_fieldn, W1_faddr, W1_iaddr, W1_iarr, W1_idxs, W1_idxa1, W1_idxan, W1_sls, W1_sll, W1_sla, W1_mk, W1_ext, W1_fn, W1_ifc, W1_lens, W1_lenc, W1_app, W1_apps, W1_copy, W1_mn, W1_mx, W1_isnil, W1_strc, W1_beq, W1_mks, W1_capn, W1_appz, W1_eqagg, W1_call, W1_calld, callD_func, List.nil_append, List.append_nil, List.map_cons, List.map_nil, Option.map_some, Option.map_none, reduceIte, Option.some.injEq, exists_eq_left', Nat.reduceBEq, iv_ii, postA_ret, postA_normal, resVs_nil, resVs_tmp, resVs_one, resVs_many, Option.bind_some, tupleOf, Int.toNat_natCast, true_and, and_true, Nat.reduceEqDiff, c1, i0, i1, hu.len, hv.len, binA_neq, c2]
      exact hbad (by unfold joinF; rw [if_neg (fun h => h2 h.2.2)])
  · have c1 : (1 ≤ xs.length ∧ xs.length ≤ 4096) = False := by simp only [h]
    simp only [W_seq, W_ops, W_draw, W_block, W_skip, W_exit, W_ret, sq_normal, sq_ret, sq_exit, W_condv, condW_true, condW_false, thenA_normal, thenA_ret, thenA_exit, if_true, if_false, Bool.false_eq_true, decide_eq_true_eq, inBlockA_normal, inBlockA_ret, inBlockA_same, inBlockA_other, noGotoA_normal, noGotoA_ret, noGotoA_exit, Wops_nil, Wops_cons, Wops_le, Wops_guard, Wops_guardle, ok1_some, okV_some, kont_at, kontL_at, gdB_true, gdB_false, decide_true, decide_false, ev_tmp, ev_const, ev_func, ev_global, put_some, put_none, upd_same, upd_at, gd_bt, gd_bf, Bool.not_true, Bool.not_false, pick_true, pick_false, pick_b, not_b, W1_mov, W1_pick, W1_new, W1_box, W1_build, W1_lit, W1_load1, W1_loadn, W1_store, W1_nilc, W1_bin, W1_un, W1_conv, W1_b2s, W1_s2b, W1_field1, W1_fieldn, W1_faddr, W1_iaddr, W1_iarr, W1_idxs, W1_idxa1, W1_idxan, W1_sls, W1_sll, W1_sla, W1_mk, W1_ext, W1_fn, W1_ifc, W1_lens, W1_lenc, W1_app, W1_apps, W1_copy, W1_mn, W1_mx, W1_isnil, W1_strc, W1_beq, W1_mks, W1_capn, W1_appz, W1_eqagg, W1_call, W1_calld, callD_func, List.nil_append, List.append_nil, List.map_cons, List.map_nil, Option.map_some, Option.map_none, reduceIte, Option.some.injEq, exists_eq_left', Nat.reduceBEq, iv_ii, postA_ret, postA_normal, resVs_nil, resVs_tmp, resVs_one, resVs_many, Option.bind_some, tupleOf, Int.toNat_natCast, true_and, and_true, Nat.reduceEqDiff, c1]
    exact hbad (by unfold joinF; rw [if_neg (fun h2 => h ⟨h2.1, h2.2.1⟩)])
end Go.AS.C

namespace Go.AS.C
open Go Go.Proofs
set_option linter.unusedVariables false
set_option linter.unusedSimpArgs false
set_option maxRecDepth 10000

def mcells (n : Nat) (s : ByteArray) : List Value := [ii (markN n s 0 : Nat), ii (markN n s 1 : Nat), ii (markN n s 2 : Nat)]
theorem mcells_get {n : Nat} {s : ByteArray} {k : Nat} (h : k < 3) : (mcells n s)[k]? = some (ii (markN n s k : Nat)) := by
  have : k = 0 ∨ k = 1 ∨ k = 2 := by omega
  rcases this with rfl | rfl | rfl <;> rfl

theorem ref27_marks_spec {A : AH} {n : Nat} {s : ByteArray} {Q : Value → AH → Prop} (hn : 1 ≤ n ∧ n ≤ 4096) (hs : s.size = 32) (hq : ∀ v A', Le A A' → OwnS A.length A' 1 v 3 (mcells n s) → Q v A') :
    ACalls 0 Try.prog chantryref27_marks [ii n, .string s] Q A := by
  refine ACalls.of_fits mixed fits_chantryref27_marks rfl ?_
  unfold ic_chantryref27_marks
  have i0 : initA [ii n, .string s] 0 = ii n := rfl
  have i1 : initA [ii n, .string s] 1 = .string s := rfl
  generalize initA [ii n, .string s] = a at i0 i1
  simp only [W_seq, W_ops, W_draw, W_block, W_skip, W_exit, W_ret, sq_normal, sq_ret, sq_exit, W_condv, condW_true, condW_false, thenA_normal, thenA_ret, thenA_exit, if_true, if_false, Bool.false_eq_true, decide_eq_true_eq, inBlockA_normal, inBlockA_ret, inBlockA_same, inBlockA_other, noGotoA_normal, noGotoA_ret, noGotoA_exit, Wops_nil, Wops_cons, Wops_le, Wops_guard, Wops_guardle, ok1_some, okV_some, kont_at, kontL_at, gdB_true, gdB_false, decide_true, decide_false, ev_tmp, ev_const, ev_func, ev_global, put_some, put_none, upd_same, upd_at, gd_bt, gd_bf, Bool.not_true, Bool.not_false, pick_true, pick_false, pick_b, not_b, W1_mov, W1_pick, W1_new, W1_box, W1_build, W1_lit, W1_load1, W1_loadn, W1_store, W1_nilc, W1_bin, W1_un, W1_conv, W1_b2s, W1_s2b, W1_field1, W1_fieldn, W1_faddr, W1_iaddr, W1_iarr, W1_idxs, W1_idxa1, W1_idxan, W1_sls, W1_sll, W1_sla, W1_mk, W1_ext, W1_fn, W1_ifc, W1_lens, W1_lenc, W1_app, W1_apps, W1_copy, W1_mn, W1_mx, W1_isnil, W1_strc, W1_beq, W1_mks, W1_capn, W1_appz, W1_eqagg, W1_call, W1_calld, callD_func, List.nil_append, List.append_nil, List.map_cons, List.map_nil, Option.map_some, Option.map_none, reduceIte, Option.some.injEq, exists_eq_left', Nat.reduceBEq, iv_ii, postA_ret, postA_normal, resVs_nil, resVs_tmp, resVs_one, resVs_many, Option.bind_some, tupleOf, Int.toNat_natCast, true_and, and_true, Nat.reduceEqDiff, i0]
  refine W_loop (fun a' B => ∃ k : Nat, k ≤ 3 ∧ Le A B ∧ a' 0 = ii n ∧ a' 1 = .string s ∧ a' 6 = ii k ∧ OwnS A.length B 1 (a' 5) k ((mcells n s).take k)) (fun a' _ => 3 - (iv (a' 6)).toNat) ?_ ?_
  · refine ⟨0, by omega, .refl _, ?_⟩
    simp only [W_seq, W_ops, W_draw, W_block, W_skip, W_exit, W_ret, sq_normal, sq_ret, sq_exit, W_condv, condW_true, condW_false, thenA_normal, thenA_ret, thenA_exit, if_true, if_false, Bool.false_eq_true, decide_eq_true_eq, inBlockA_normal, inBlockA_ret, inBlockA_same, inBlockA_other, noGotoA_normal, noGotoA_ret, noGotoA_exit, Wops_nil, Wops_cons, Wops_le, Wops_guard, Wops_guardle, ok1_some, okV_some, kont_at, kontL_at, gdB_true, gdB_false, decide_true, decide_false, ev_tmp, ev_const, ev_func, ev_global, put_some, put_none, upd_same, upd_at, gd_bt, gd_bf, Bool.not_true, Bool.not_false, pick_true, pick_false, pick_b, not_b, W1_mov, W1_pick, W1_new, W1_box, W1_build, W1_lit, W1_load1, W1_loadn, W1_store, W1_nilc, W1_bin, W1_un, W1_conv, W1_b2s, W1_s2b, W1_field1, W1_fieldn, W1_faddr, W1_iaddr, W1_iarr, W1_idxs, W1_idxa1, W1_idxan, W1_sls, W1_sll, W1_sla, W1_mk, W1_ext, W1_fn, W1_ifc, W1_lens, W1_lenc, W1_app, W1_apps, W1_copy, W1_mn, W1_mx, W1_isnil, W1_strc, W1_beq, W1_mks, W1_capn, W1_appz, W1_eqagg, W1_call, W1_calld, callD_func, List.nil_append, List.append_nil, List.map_cons, List.map_nil, Option.map_some, Option.map_none, reduceIte, Option.some.injEq, exists_eq_left', Nat.reduceBEq, iv_ii, postA_ret, postA_normal, resVs_nil, resVs_tmp, resVs_one, resVs_many, Option.bind_some, tupleOf, Int.toNat_natCast, true_and, and_true, Nat.reduceEqDiff, i0, i1]
    exact ⟨rfl, OwnS.nil _ _ _⟩
  · rintro a2 B ⟨k, hk, hle, g0, g1, g6, g5⟩
    rcases Nat.lt_or_ge k 3 with hlt | hge
    · have hc : ((k : Int) < 3) = True := by simp; omega
      have d1 : binA .mul (ii 3) (ii k) = some (ii ((3 * k : Nat) : Int)) := mul_ii 3 k (by omega)
      have d2 : binA .add (ii ((3 * k : Nat) : Int)) (ii 3) = some (ii ((3 * k + 3 : Nat) : Int)) := add_ii (3 * k) 3 (by omega)
      have d3 := sls_both (A := B) (s := s) (l := 3 * k) (h := 3 * k + 3) (by omega) (by omega)
      simp only [W_seq, W_ops, W_draw, W_block, W_skip, W_exit, W_ret, sq_normal, sq_ret, sq_exit, W_condv, condW_true, condW_false, thenA_normal, thenA_ret, thenA_exit, if_true, if_false, Bool.false_eq_true, decide_eq_true_eq, inBlockA_normal, inBlockA_ret, inBlockA_same, inBlockA_other, noGotoA_normal, noGotoA_ret, noGotoA_exit, Wops_nil, Wops_cons, Wops_le, Wops_guard, Wops_guardle, ok1_some, okV_some, kont_at, kontL_at, gdB_true, gdB_false, decide_true, decide_false, ev_tmp, ev_const, ev_func, ev_global, put_some, put_none, upd_same, upd_at, gd_bt, gd_bf, Bool.not_true, Bool.not_false, pick_true, pick_false, pick_b, not_b, W1_mov, W1_pick, W1_new, W1_box, W1_build, W1_lit, W1_load1, W1_loadn, W1_store, W1_nilc, W1_bin, W1_un, W1_conv, W1_b2s, W1_s2b, W1_field1, W1_fieldn, W1_faddr, W1_iaddr, W1_iarr, W1_idxs, W1_idxa1, W1_idxan, W1_sls, W1_sll, W1_sla, W1_mk, W1_ext, W1_fn, W1_ifc, W1_lens, W1_lenc, W1_app, W1_apps, W1_copy, W1_mn, W1_mx, W1_isnil, W1_strc, W1_beq, W1_mks, W1_capn, W1_appz, W1_eqagg, W1_call, W1_calld, callD_func, List.nil_append, List.append_nil, List.map_cons, List.map_nil, Option.map_some, Option.map_none, reduceIte, Option.some.injEq, exists_eq_left', Nat.reduceBEq, iv_ii, postA_ret, postA_normal, resVs_nil, resVs_tmp, resVs_one, resVs_many, Option.bind_some, tupleOf, Int.toNat_natCast, true_and, and_true, Nat.reduceEqDiff, g0, g1, g6, binA_lss, hc, d1, d2, d3, s2b_row]
      have hb := (s2b_byt B (s.extract (3 * k) (3 * k + 3))).byt
      have k1 : Le B (B ++ [.row ((s.extract (3 * k) (3 * k + 3)).data.toList.map by8) .own 1 false]) := .push _ _
      refine ref01_Unfix_spec hb ?_
      have hsz := size_bytes s
      have e3 : (s.extract (3 * k) (3 * k + 3)).data.toList = (s.data.toList.drop (3 * k)).take 3 := by
        rw [ext_bytes]; congr 1; omega
      have hl3 : ((s.data.toList.drop (3 * k)).take 3).length = 3 := by simp; omega
      rw [e3] at k1
      rw [e3, unfix3 hl3]
      generalize B ++ [Blk.row (((s.data.toList.drop (3 * k)).take 3).map by8) .own 1 false] = B1 at k1 ⊢
      have d4 : binA .mul (ii 8) (ii n) = some (ii ((8 * n : Nat) : Int)) := mul_ii 8 n (by omega)
      have d5 := rem_ii (leN ((s.data.toList.drop (3 * k)).take 3)) (8 * n) (by omega)
      have l1 := lit1 (A := B1) (z := .int .i64 0) (len := 1) (ps := [(0, 1, ii (markN n s k : Nat))]) [ii (markN n s k : Nat)] rfl rfl (by
        intro x hx
        rw [List.mem_singleton] at hx
        subst hx; exact one1_int _ _)
      have k2 : Le B1 (B1 ++ [.row [ii (markN n s k : Nat)] .own 1 true]) := .push _ _
      obtain ⟨v2, B2, p1, p2, p3, _⟩ := app_cells (bytes := 8) ((hle.trans k1).trans k2) (OwnS.le (OwnS.le g5 k1) k2) (sl_last B1 (cs := [ii (markN n s k : Nat)]) (st := .own) (ex := true) (c := 1) (by simp) (by simp)) rfl (by omega) (by simp; omega) (by omega)
      have hm : markN n s k = leN ((s.data.toList.drop (3 * k)).take 3) % (8 * n) := rfl
      rw [List.length_singleton] at l1 p1
      rw [hm] at l1 p1
      simp only [W_seq, W_ops, W_draw, W_block, W_skip, W_exit, W_ret, sq_normal, sq_ret, sq_exit, W_condv, condW_true, condW_false, thenA_normal, thenA_ret, thenA_exit, if_true, if_false, Bool.false_eq_true, decide_eq_true_eq, inBlockA_normal, inBlockA_ret, inBlockA_same, inBlockA_other, noGotoA_normal, noGotoA_ret, noGotoA_exit, Wops_nil, Wops_cons, Wops_le, Wops_guard, Wops_guardle, ok1_some, okV_some, kont_at, kontL_at, gdB_true, gdB_false, decide_true, decide_false, ev_tmp, ev_const, ev_func, ev_global, put_some, put_none, upd_same, upd_at, gd_bt, gd_bf, Bool.not_true, Bool.not_false, pick_true, pick_false, pick_b, not_b, W1_mov, W1_pick, W1_new, W1_box, W1_build, W1_lit, W1_load1, W1_loadn, W1_store, W1_nilc, W1_bin, W1_un, W1_conv, W1_b2s, W1_s2b, W1_field1, W1_fieldn, W1_faddr, W1_iaddr, W1_iarr, W1_idxs, W1_idxa1, W1_idxan, W1_sls, W1_sll, W1_sla, W1_mk, W1_ext, W1_fn, W1_ifc, W1_lens, W1_lenc, W1_app, W1_apps, W1_copy, W1_mn, W1_mx, W1_isnil, W1_strc, W1_beq, W1_mks, W1_capn, W1_appz, W1_eqagg, W1_call, W1_calld, callD_func, List.nil_append, List.append_nil, List.map_cons, List.map_nil, Option.map_some, Option.map_none, reduceIte, Option.some.injEq, exists_eq_left', Nat.reduceBEq, iv_ii, postA_ret, postA_normal, resVs_nil, resVs_tmp, resVs_one, resVs_many, Option.bind_some, tupleOf, Int.toNat_natCast, true_and, and_true, Nat.reduceEqDiff, g0, g6, g1, ext0, ext1, d4, d5, l1, p1, binA_add1 k (by omega)]
      refine ⟨⟨k + 1, by omega, p2, rfl, ?_⟩, by omega⟩
      rw [List.take_add_one, mcells_get hlt]
      exact p3
    · have hc : ((k : Int) < 3) = False := by simp; omega
      have hk3 : k = 3 := by omega
      subst hk3
      simp only [W_seq, W_ops, W_draw, W_block, W_skip, W_exit, W_ret, sq_normal, sq_ret, sq_exit, W_condv, condW_true, condW_false, thenA_normal, thenA_ret, thenA_exit, if_true, if_false, Bool.false_eq_true, decide_eq_true_eq, inBlockA_normal, inBlockA_ret, inBlockA_same, inBlockA_other, noGotoA_normal, noGotoA_ret, noGotoA_exit, Wops_nil, Wops_cons, Wops_le, Wops_guard, Wops_guardle, ok1_some, okV_some, kont_at, kontL_at, gdB_true, gdB_false, decide_true, decide_false, ev_tmp, ev_const, ev_func, ev_global, put_some, put_none, upd_same, upd_at, gd_bt, gd_bf, Bool.not_true, Bool.not_false, pick_true, pick_false, pick_b, not_b, W1_mov, W1_pick, W1_new, W1_box, W1_build, W1_lit, W1_load1, W1_loadn, W1_store, W1_nilc, W1_bin, W1_un, W1_conv, W1_b2s, W1_s2b, W1_field1, W1_fieldn, W1_faddr, W1_iaddr, W1_iarr, W1_idxs, W1_idxa1, W1_idxan, W1_sls, W1_sll, W1_sla, W1_mk, W1_ext, W1_fn, W1_ifc, W1_lens, W1_lenc, W1_app, W1_apps, W1_copy, W1_mn, W1_mx, W1_isnil, W1_strc, W1_beq, W1_mks, W1_capn, W1_appz, W1_eqagg, W1_call, W1_calld, callD_func, List.nil_append, List.append_nil, List.map_cons, List.map_nil, Option.map_some, Option.map_none, reduceIte, Option.some.injEq, exists_eq_left', Nat.reduceBEq, iv_ii, postA_ret, postA_normal, resVs_nil, resVs_tmp, resVs_one, resVs_many, Option.bind_some, tupleOf, Int.toNat_natCast, true_and, and_true, Nat.reduceEqDiff, g6, binA_lss, hc]
      exact hq _ _ hle g5

/-- Is the bit b of bytes 1? -/
def bitAt (bs : List UInt8) (b : Nat) : Bool := (bs.getD (b / 8) 0).toNat / 2 ^ (b % 8) % 2 == 1
def hasF (bs : List UInt8) (s : ByteArray) : Bool := decide (1 ≤ bs.length ∧ bs.length ≤ 4096) && decide (s.size = 32) && (bitAt bs (markN bs.length s 0) && bitAt bs (markN bs.length s 1) && bitAt bs (markN bs.length s 2))
theorem bit_op {bs : List UInt8} {b : Nat} {x : UInt8} (hx : bs[b / 8]? = some x) : (UInt8.ofNat (x.toNat / 2 ^ (b % 8)) &&& 1 == 0) = !bitAt bs b := by
  unfold bitAt
  rw [List.getD_eq_getElem?_getD, hx, Option.getD_some]
  have hl : x.toNat / 2 ^ (b % 8) < 256 := Nat.lt_of_le_of_lt (Nat.div_le_self _ _) x.toNat_lt
  have e2 : (UInt8.ofNat (x.toNat / 2 ^ (b % 8)) &&& 1).toNat = x.toNat / 2 ^ (b % 8) % 2 := by
    rw [UInt8.toNat_and, UInt8.toNat_ofNat', Nat.mod_eq_of_lt (by omega)]
    exact Nat.and_one_is_mod _
  rw [Bool.eq_iff_iff]
  simp only [beq_iff_eq, Bool.not_eq_true', beq_eq_false_iff_ne]
  constructor
  · intro h
    rw [h] at e2
    have : (0 : UInt8).toNat = 0 := rfl
    omega
  · intro h
    apply UInt8.toNat_inj.1
    rw [e2]
    have : (0 : UInt8).toNat = 0 := rfl
    omega
/-- The first k marks are there. -/
def firstK (bs : List UInt8) (s : ByteArray) : Nat → Bool
  | 0 => true
  | k + 1 => firstK bs s k && bitAt bs (markN bs.length s k)
theorem firstK_false {bs : List UInt8} {s : ByteArray} {k : Nat} (h : bitAt bs (markN bs.length s k) = false) (hk : k < 3) : firstK bs s 3 = false := by
  have : k = 0 ∨ k = 1 ∨ k = 2 := by omega
  rcases this with rfl | rfl | rfl <;> simp [firstK, h]
theorem hasF_eq {bs : List UInt8} {s : ByteArray} : hasF bs s = (decide (1 ≤ bs.length ∧ bs.length ≤ 4096) && decide (s.size = 32) && firstK bs s 3) := by
  unfold hasF firstK firstK firstK firstK
  simp

theorem fence_Has_spec {A : AH} {v : Value} {bs : List UInt8} {s : ByteArray} {Q : Value → AH → Prop} (hv : Byt A v bs) (hq : ∀ A', Le A A' → Q (.bool (hasF bs s)) A') : ACalls 0 Try.prog fence_Has [v, .string s] Q A := by
  refine ACalls.of_fits mixed fits_fence_Has rfl ?_
  unfold ic_fence_Has
  have i0 : initA [v, .string s] 0 = v := rfl
  have i1 : initA [v, .string s] 1 = .string s := rfl
  generalize initA [v, .string s] = a at i0 i1
  simp only [W_seq, W_ops, W_draw, W_block, W_skip, W_exit, W_ret, sq_normal, sq_ret, sq_exit, W_condv, condW_true, condW_false, thenA_normal, thenA_ret, thenA_exit, if_true, if_false, Bool.false_eq_true, decide_eq_true_eq, inBlockA_normal, inBlockA_ret, inBlockA_same, inBlockA_other, noGotoA_normal, noGotoA_ret, noGotoA_exit, Wops_nil, Wops_cons, Wops_le, Wops_guard, Wops_guardle, ok1_some, okV_some, kont_at, kontL_at, gdB_true, gdB_false, decide_true, decide_false, ev_tmp, ev_const, ev_func, ev_global, put_some, put_none, upd_same, upd_at, gd_bt, gd_bf, Bool.not_true, Bool.not_false, pick_true, pick_false, pick_b, not_b, W1_mov, W1_pick, W1_new, W1_box, W1_build, W1_lit, W1_load1, W1_loadn, W1_store, W1_nilc, W1_bin, W1_un, W1_conv, W1_b2s, W1_s2b, W1_field1, W1_fieldn, W1_faddr, W1_iaddr, W1_iarr, W1_idxs, W1_idxa1, W1_idxan, W1_sls, W1_sll, W1_sla, W1_mk, W1_ext, W1_fn, W1_ifc, W1_lens, W1_lenc, W1_app, W1_apps, W1_copy, W1_mn, W1_mx, W1_isnil, W1_strc, W1_beq, W1_mks, W1_capn, W1_appz, W1_eqagg, W1_call, W1_calld, callD_func, List.nil_append, List.append_nil, List.map_cons, List.map_nil, Option.map_some, Option.map_none, reduceIte, Option.some.injEq, exists_eq_left', Nat.reduceBEq, iv_ii, postA_ret, postA_normal, resVs_nil, resVs_tmp, resVs_one, resVs_many, Option.bind_some, tupleOf, Int.toNat_natCast, true_and, and_true, Nat.reduceEqDiff, i0, hv.len]
  refine fence_may_spec ?_
  by_cases h : 1 ≤ bs.length ∧ bs.length ≤ 4096
  · have c1 : ((1 : Int) ≤ (bs.length : Nat) ∧ ((bs.length : Nat) : Int) ≤ 4096) = True := by simp; omega
    simp only [W_seq, W_ops, W_draw, W_block, W_skip, W_exit, W_ret, sq_normal, sq_ret, sq_exit, W_condv, condW_true, condW_false, thenA_normal, thenA_ret, thenA_exit, if_true, if_false, Bool.false_eq_true, decide_eq_true_eq, inBlockA_normal, inBlockA_ret, inBlockA_same, inBlockA_other, noGotoA_normal, noGotoA_ret, noGotoA_exit, Wops_nil, Wops_cons, Wops_le, Wops_guard, Wops_guardle, ok1_some, okV_some, kont_at, kontL_at, gdB_true, gdB_false, decide_true, decide_false, ev_tmp, ev_const, ev_func, ev_global, put_some, put_none, upd_same, upd_at, gd_bt, gd_bf, Bool.not_true, Bool.not_false, pick_true, pick_false, pick_b, not_b, W1_mov, W1_pick, W1_new, W1_box, W1_build, W1_lit, W1_load1, W1_loadn, W1_store, W1_nilc, W1_bin, W1_un, W1_conv, W1_b2s, W1_s2b, W1_field1, W1_fieldn, W1_faddr, W1_iaddr, W1_iarr, W1_idxs, W1_idxa1, W1_idxan, W1_sls, W1_sll, W1_sla, W1_mk, W1_ext, W1_fn, W1_ifc, W1_lens, W1_lenc, W1_app, W1_apps, W1_copy, W1_mn, W1_mx, W1_isnil, W1_strc, W1_beq, W1_mks, W1_capn, W1_appz, W1_eqagg, W1_call, W1_calld, callD_func, List.nil_append, List.append_nil, List.map_cons, List.map_nil, Option.map_some, Option.map_none, reduceIte, Option.some.injEq, exists_eq_left', Nat.reduceBEq, iv_ii, postA_ret, postA_normal, resVs_nil, resVs_tmp, resVs_one, resVs_many, Option.bind_some, tupleOf, Int.toNat_natCast, true_and, and_true, Nat.reduceEqDiff, c1, i1]
    refine ids_Right_spec ?_
    by_cases h2 : s.size = 32
    · have c2 : (s.size = 32) = True := by simp [h2]
      simp only [W_seq, W_ops, W_draw, W_block, W_skip, W_exit, W_ret, sq_normal, sq_ret, sq_exit, W_condv, condW_true, condW_false, thenA_normal, thenA_ret, thenA_exit, if_true, if_false, Bool.false_eq_true, decide_eq_true_eq, inBlockA_normal, inBlockA_ret, inBlockA_same, inBlockA_other, noGotoA_normal, noGotoA_ret, noGotoA_exit, Wops_nil, Wops_cons, Wops_le, Wops_guard, Wops_guardle, ok1_some, okV_some, kont_at, kontL_at, gdB_true, gdB_false, decide_true, decide_false, ev_tmp, ev_const, ev_func, ev_global, put_some, put_none, upd_same, upd_at, gd_bt, gd_bf, Bool.not_true, Bool.not_false, pick_true, pick_false, pick_b, not_b, W1_mov, W1_pick, W1_new, W1_box, W1_build, W1_lit, W1_load1, W1_loadn, W1_store, W1_nilc, W1_bin, W1_un, W1_conv, W1_b2s, W1_s2b, W1_field1, W1_fieldn, W1_faddr, W1_iaddr, W1_iarr, W1_idxs, W1_idxa1, W1_idxan, W1_sls, W1_sll, W1_sla, W1_mk, W1_ext, W1_fn, W1_ifc, W1_lens, W1_lenc, W1_app, W1_apps, W1_copy, W1_mn, W1_mx, W1_isnil, W1_strc, W1_beq, W1_mks, W1_capn, W1_appz, W1_eqagg, W1_call, W1_calld, callD_func, List.nil_append, List.append_nil, List.map_cons, List.map_nil, Option.map_some, Option.map_none, reduceIte, Option.some.injEq, exists_eq_left', Nat.reduceBEq, iv_ii, postA_ret, postA_normal, resVs_nil, resVs_tmp, resVs_one, resVs_many, Option.bind_some, tupleOf, Int.toNat_natCast, true_and, and_true, Nat.reduceEqDiff, c2, i0, i1, hv.len]
      refine fence_marks_spec h h2 fun A1 hle => ?_
      simp only [W_seq, W_ops, W_draw, W_block, W_skip, W_exit, W_ret, sq_normal, sq_ret, sq_exit, W_condv, condW_true, condW_false, thenA_normal, thenA_ret, thenA_exit, if_true, if_false, Bool.false_eq_true, decide_eq_true_eq, inBlockA_normal, inBlockA_ret, inBlockA_same, inBlockA_other, noGotoA_normal, noGotoA_ret, noGotoA_exit, Wops_nil, Wops_cons, Wops_le, Wops_guard, Wops_guardle, ok1_some, okV_some, kont_at, kontL_at, gdB_true, gdB_false, decide_true, decide_false, ev_tmp, ev_const, ev_func, ev_global, put_some, put_none, upd_same, upd_at, gd_bt, gd_bf, Bool.not_true, Bool.not_false, pick_true, pick_false, pick_b, not_b, W1_mov, W1_pick, W1_new, W1_box, W1_build, W1_lit, W1_load1, W1_loadn, W1_store, W1_nilc, W1_bin, W1_un, W1_conv, W1_b2s, W1_s2b, W1_field1, W1_fieldn, W1_faddr, W1_iaddr, W1_iarr, W1_idxs, W1_idxa1, W1_idxan, W1_sls, W1_sll, W1_sla, W1_mk, W1_ext, W1_fn, W1_ifc, W1_lens, W1_lenc, W1_app, W1_apps, W1_copy, W1_mn, W1_mx, W1_isnil, W1_strc, W1_beq, W1_mks, W1_capn, W1_appz, W1_eqagg, W1_call, W1_calld, callD_func, List.nil_append, List.append_nil, List.map_cons, List.map_nil, Option.map_some, Option.map_none, reduceIte, Option.some.injEq, exists_eq_left', Nat.reduceBEq, iv_ii, postA_ret, postA_normal, resVs_nil, resVs_tmp, resVs_one, resVs_many, Option.bind_some, tupleOf, Int.toNat_natCast, true_and, and_true, Nat.reduceEqDiff]
      refine W_loop (fun a' B => B = A1 ∧ ∃ k : Nat, k ≤ 3 ∧ firstK bs s k = true ∧ a' 0 = v ∧ a' 19 = .agg #[ii (markN bs.length s 0 : Nat), ii (markN bs.length s 1 : Nat), ii (markN bs.length s 2 : Nat)] ∧ a' 20 = ii k) (fun a' _ => 3 - (iv (a' 20)).toNat) ?_ ?_
      · refine ⟨rfl, 0, by omega, rfl, ?_⟩
        simp only [W_seq, W_ops, W_draw, W_block, W_skip, W_exit, W_ret, sq_normal, sq_ret, sq_exit, W_condv, condW_true, condW_false, thenA_normal, thenA_ret, thenA_exit, if_true, if_false, Bool.false_eq_true, decide_eq_true_eq, inBlockA_normal, inBlockA_ret, inBlockA_same, inBlockA_other, noGotoA_normal, noGotoA_ret, noGotoA_exit, Wops_nil, Wops_cons, Wops_le, Wops_guard, Wops_guardle, ok1_some, okV_some, kont_at, kontL_at, gdB_true, gdB_false, decide_true, decide_false, ev_tmp, ev_const, ev_func, ev_global, put_some, put_none, upd_same, upd_at, gd_bt, gd_bf, Bool.not_true, Bool.not_false, pick_true, pick_false, pick_b, not_b, W1_mov, W1_pick, W1_new, W1_box, W1_build, W1_lit, W1_load1, W1_loadn, W1_store, W1_nilc, W1_bin, W1_un, W1_conv, W1_b2s, W1_s2b, W1_field1, W1_fieldn, W1_faddr, W1_iaddr, W1_iarr, W1_idxs, W1_idxa1, W1_idxan, W1_sls, W1_sll, W1_sla, W1_mk, W1_ext, W1_fn, W1_ifc, W1_lens, W1_lenc, W1_app, W1_apps, W1_copy, W1_mn, W1_mx, W1_isnil, W1_strc, W1_beq, W1_mks, W1_capn, W1_appz, W1_eqagg, W1_call, W1_calld, callD_func, List.nil_append, List.append_nil, List.map_cons, List.map_nil, Option.map_some, Option.map_none, reduceIte, Option.some.injEq, exists_eq_left', Nat.reduceBEq, iv_ii, postA_ret, postA_normal, resVs_nil, resVs_tmp, resVs_one, resVs_many, Option.bind_some, tupleOf, Int.toNat_natCast, true_and, and_true, Nat.reduceEqDiff, i0]
        rfl
      · rintro a2 B ⟨rfl, k, hk, hf, g0, g19, g20⟩
        rcases Nat.lt_or_ge k 3 with hlt | hge
        · have hc : ((k : Int) < 3) = True := by simp; omega
          have d1 : sIdxa1 B (.agg #[ii (markN bs.length s 0 : Nat), ii (markN bs.length s 1 : Nat), ii (markN bs.length s 2 : Nat)]) (ii k) 3 = some (ii (markN bs.length s k : Nat), B) := by
            have : k = 0 ∨ k = 1 ∨ k = 2 := by omega
            rcases this with rfl | rfl | rfl <;> rfl
          have hm := markN_lt (n := bs.length) h.1 s k
          have d2 : binA .quo (ii (markN bs.length s k : Nat)) (ii 8) = some (ii ((markN bs.length s k / 8 : Nat) : Int)) := div_ii _ 8 (by omega) (by omega)
          have d3 : binA .rem (ii (markN bs.length s k : Nat)) (ii 8) = some (ii ((markN bs.length s k % 8 : Nat) : Int)) := rem_ii _ 8 (by omega)
          obtain ⟨x, hx⟩ : ∃ b, bs[markN bs.length s k / 8]? = some b := ⟨_, List.getElem?_eq_getElem (by omega)⟩
          obtain ⟨p, hp1, hp2⟩ := (hv.le hle).at1 hx
          have d4 := binA_shr8 x .i64 (markN bs.length s k % 8) (by omega)
          have hbit := bit_op hx
          cases hb : bitAt bs (markN bs.length s k) with
          | true =>
            rw [hb] at hbit
            simp only [W_seq, W_ops, W_draw, W_block, W_skip, W_exit, W_ret, sq_normal, sq_ret, sq_exit, W_condv, condW_true, condW_false, thenA_normal, thenA_ret, thenA_exit, if_true, if_false, Bool.false_eq_true, decide_eq_true_eq, inBlockA_normal, inBlockA_ret, inBlockA_same, inBlockA_other, noGotoA_normal, noGotoA_ret, noGotoA_exit, Wops_nil, Wops_cons, Wops_le, Wops_guard, Wops_guardle, ok1_some, okV_some, kont_at, kontL_at, gdB_true, gdB_false, decide_true, decide_false, ev_tmp, ev_const, ev_func, ev_global, put_some, put_none, upd_same, upd_at, gd_bt, gd_bf, Bool.not_true, Bool.not_false, pick_true, pick_false, pick_b, not_b, W1_mov, W1_pick, W1_new, W1_box, W1_build, W1_lit, W1_load1, W1_loadn, W1_store, W1_nilc, W1_bin, W1_un, W1_conv, W1_b2s, W1_s2b, W1_field1, W1_fieldn, W1_faddr, W1_iaddr, W1_iarr, W1_idxs, W1_idxa1, W1_idxan, W1_sls, W1_sll, W1_sla, W1_mk, W1_ext, W1_fn, W1_ifc, W1_lens, W1_lenc, W1_app, W1_apps, W1_copy, W1_mn, W1_mx, W1_isnil, W1_strc, W1_beq, W1_mks, W1_capn, W1_appz, W1_eqagg, W1_call, W1_calld, callD_func, List.nil_append, List.append_nil, List.map_cons, List.map_nil, Option.map_some, Option.map_none, reduceIte, Option.some.injEq, exists_eq_left', Nat.reduceBEq, iv_ii, postA_ret, postA_normal, resVs_nil, resVs_tmp, resVs_one, resVs_many, Option.bind_some, tupleOf, Int.toNat_natCast, true_and, and_true, Nat.reduceEqDiff, g0, g19, g20, binA_lss, hc, d1, d2, d3, hp1, hp2, d4, b8_0, b8_1, binA_and8, binA_eq8, hbit, binA_add1 k (by omega)]
            exact ⟨⟨k + 1, by omega, by simp only [firstK, hf, hb]; rfl, rfl⟩, by omega⟩
          | false =>
            rw [hb] at hbit
            simp only [W_seq, W_ops, W_draw, W_block, W_skip, W_exit, W_ret, sq_normal, sq_ret, sq_exit, W_condv, condW_true, condW_false, thenA_normal, thenA_ret, thenA_exit, if_true, if_false, Bool.false_eq_true, decide_eq_true_eq, inBlockA_normal, inBlockA_ret, inBlockA_same, inBlockA_other, noGotoA_normal, noGotoA_ret, noGotoA_exit, Wops_nil, Wops_cons, Wops_le, Wops_guard, Wops_guardle, ok1_some, okV_some, kont_at, kontL_at, gdB_true, gdB_false, decide_true, decide_false, ev_tmp, ev_const, ev_func, ev_global, put_some, put_none, upd_same, upd_at, gd_bt, gd_bf, Bool.not_true, Bool.not_false, pick_true, pick_false, pick_b, not_b, W1_mov, W1_pick, W1_new, W1_box, W1_build, W1_lit, W1_load1, W1_loadn, W1_store, W1_nilc, W1_bin, W1_un, W1_conv, W1_b2s, W1_s2b, W1_field1, W1_fieldn, W1_faddr, W1_iaddr, W1_iarr, W1_idxs, W1_idxa1, W1_idxan, W1_sls, W1_sll, W1_sla, W1_mk, W1_ext, W1_fn, W1_ifc, W1_lens, W1_lenc, W1_app, W1_apps, W1_copy, W1_mn, W1_mx, W1_isnil, W1_strc, W1_beq, W1_mks, W1_capn, W1_appz, W1_eqagg, W1_call, W1_calld, callD_func, List.nil_append, List.append_nil, List.map_cons, List.map_nil, Option.map_some, Option.map_none, reduceIte, Option.some.injEq, exists_eq_left', Nat.reduceBEq, iv_ii, postA_ret, postA_normal, resVs_nil, resVs_tmp, resVs_one, resVs_many, Option.bind_some, tupleOf, Int.toNat_natCast, true_and, and_true, Nat.reduceEqDiff, g0, g19, g20, binA_lss, hc, d1, d2, d3, hp1, hp2, d4, b8_0, b8_1, binA_and8, binA_eq8, hbit]
            have hall := firstK_false hb hlt
            have := hq _ hle
            rw [hasF_eq, hall] at this
            simpa using this
        · have hc : ((k : Int) < 3) = False := by simp; omega
          have hk3 : k = 3 := by omega
          subst hk3
          simp only [W_seq, W_ops, W_draw, W_block, W_skip, W_exit, W_ret, sq_normal, sq_ret, sq_exit, W_condv, condW_true, condW_false, thenA_normal, thenA_ret, thenA_exit, if_true, if_false, Bool.false_eq_true, decide_eq_true_eq, inBlockA_normal, inBlockA_ret, inBlockA_same, inBlockA_other, noGotoA_normal, noGotoA_ret, noGotoA_exit, Wops_nil, Wops_cons, Wops_le, Wops_guard, Wops_guardle, ok1_some, okV_some, kont_at, kontL_at, gdB_true, gdB_false, decide_true, decide_false, ev_tmp, ev_const, ev_func, ev_global, put_some, put_none, upd_same, upd_at, gd_bt, gd_bf, Bool.not_true, Bool.not_false, pick_true, pick_false, pick_b, not_b, W1_mov, W1_pick, W1_new, W1_box, W1_build, W1_lit, W1_load1, W1_loadn, W1_store, W1_nilc, W1_bin, W1_un, W1_conv, W1_b2s, W1_s2b, W1_field1, W1_fieldn, W1_faddr, W1_iaddr, W1_iarr, W1_idxs, W1_idxa1, W1_idxan, W1_sls, W1_sll, W1_sla, W1_mk, W1_ext, W1_fn, W1_ifc, W1_lens, W1_lenc, W1_app, W1_apps, W1_copy, W1_mn, W1_mx, W1_isnil, W1_strc, W1_beq, W1_mks, W1_capn, W1_appz, W1_eqagg, W1_call, W1_calld, callD_func, List.nil_append, List.append_nil, List.map_cons, List.map_nil, Option.map_some, Option.map_none, reduceIte, Option.some.injEq, exists_eq_left', Nat.reduceBEq, iv_ii, postA_ret, postA_normal, resVs_nil, resVs_tmp, resVs_one, resVs_many, Option.bind_some, tupleOf, Int.toNat_natCast, true_and, and_true, Nat.reduceEqDiff, g20, binA_lss, hc]
          have := hq _ hle
          rw [hasF_eq, hf] at this
          simpa [h, h2] using this
    · have c2 : (s.size = 32) = False := by simp [h2]
      simp only [W_seq, W_ops, W_draw, W_block, W_skip, W_exit, W_ret, sq_normal, sq_ret, sq_exit, W_condv, condW_true, condW_false, thenA_normal, thenA_ret, thenA_exit, if_true, if_false, Bool.false_eq_true, decide_eq_true_eq, inBlockA_normal, inBlockA_ret, inBlockA_same, inBlockA_other, noGotoA_normal, noGotoA_ret, noGotoA_exit, Wops_nil, Wops_cons, Wops_le, Wops_guard, Wops_guardle, ok1_some, okV_some, kont_at, kontL_at, gdB_true, gdB_false, decide_true, decide_false, ev_tmp, ev_const, ev_func, ev_global, put_some, put_none, upd_same, upd_at, gd_bt, gd_bf, Bool.not_true, Bool.not_false, pick_true, pick_false, pick_b, not_b, W1_mov, W1_pick, W1_new, W1_box, W1_build, W1_lit, W1_load1, W1_loadn, W1_store, W1_nilc, W1_bin, W1_un, W1_conv, W1_b2s, W1_s2b, W1_field1, W1_fieldn, W1_faddr, W1_iaddr, W1_iarr, W1_idxs, W1_idxa1, W1_idxan, W1_sls, W1_sll, W1_sla, W1_mk, W1_ext, W1_fn, W1_ifc, W1_lens, W1_lenc, W1_app, W1_apps, W1_copy, W1_mn, W1_mx, W1_isnil, W1_strc, W1_beq, W1_mks, W1_capn, W1_appz, W1_eqagg, W1_call, W1_calld, callD_func, List.nil_append, List.append_nil, List.map_cons, List.map_nil, Option.map_some, Option.map_none, reduceIte, Option.some.injEq, exists_eq_left', Nat.reduceBEq, iv_ii, postA_ret, postA_normal, resVs_nil, resVs_tmp, resVs_one, resVs_many, Option.bind_some, tupleOf, Int.toNat_natCast, true_and, and_true, Nat.reduceEqDiff, c2]
      have := hq _ (.refl _)
      rw [hasF_eq] at this
      simpa [h2] using this
  · have c1 : ((1 : Int) ≤ (bs.length : Nat) ∧ ((bs.length : Nat) : Int) ≤ 4096) = False := by simp; omega
    simp only [W_seq, W_ops, W_draw, W_block, W_skip, W_exit, W_ret, sq_normal, sq_ret, sq_exit, W_condv, condW_true, condW_false, thenA_normal, thenA_ret, thenA_exit, if_true, if_false, Bool.false_eq_true, decide_eq_true_eq, inBlockA_normal, inBlockA_ret, inBlockA_same, inBlockA_other, noGotoA_normal, noGotoA_ret, noGotoA_exit, Wops_nil, Wops_cons, Wops_le, Wops_guard, Wops_guardle, ok1_some, okV_some, kont_at, kontL_at, gdB_true, gdB_false, decide_true, decide_false, ev_tmp, ev_const, ev_func, ev_global, put_some, put_none, upd_same, upd_at, gd_bt, gd_bf, Bool.not_true, Bool.not_false, pick_true, pick_false, pick_b, not_b, W1_mov, W1_pick, W1_new, W1_box, W1_build, W1_lit, W1_load1, W1_loadn, W1_store, W1_nilc, W1_bin, W1_un, W1_conv, W1_b2s, W1_s2b, W1_field1, W1_fieldn, W1_faddr, W1_iaddr, W1_iarr, W1_idxs, W1_idxa1, W1_idxan, W1_sls, W1_sll, W1_sla, W1_mk, W1_ext, W1_fn, W1_ifc, W1_lens, W1_lenc, W1_app, W1_apps, W1_copy, W1_mn, W1_mx, W1_isnil, W1_strc, W1_beq, W1_mks, W1_capn, W1_appz, W1_eqagg, W1_call, W1_calld, callD_func, List.nil_append, List.append_nil, List.map_cons, List.map_nil, Option.map_some, Option.map_none, reduceIte, Option.some.injEq, exists_eq_left', Nat.reduceBEq, iv_ii, postA_ret, postA_normal, resVs_nil, resVs_tmp, resVs_one, resVs_many, Option.bind_some, tupleOf, Int.toNat_natCast, true_and, and_true, Nat.reduceEqDiff, c1]
    have := hq _ (.refl _)
    rw [hasF_eq] at this
    simpa [h] using this
end Go.AS.C

namespace Go.AS.C
open Go Go.Proofs
set_option linter.unusedVariables false
set_option linter.unusedSimpArgs false
set_option maxRecDepth 10000

theorem ref27_Has_spec {A : AH} {v : Value} {bs : List UInt8} {s : ByteArray} {Q : Value → AH → Prop} (hv : Byt A v bs) (hq : ∀ A', Le A A' → Q (.bool (hasF bs s)) A') : ACalls 0 Try.prog chantryref27_Has [v, .string s] Q A := by
  refine ACalls.of_fits mixed fits_chantryref27_Has rfl ?_
  unfold ic_chantryref27_Has
  have i0 : initA [v, .string s] 0 = v := rfl
  have i1 : initA [v, .string s] 1 = .string s := rfl
  generalize initA [v, .string s] = a at i0 i1
  simp only [W_seq, W_ops, W_draw, W_block, W_skip, W_exit, W_ret, sq_normal, sq_ret, sq_exit, W_condv, condW_true, condW_false, thenA_normal, thenA_ret, thenA_exit, if_true, if_false, Bool.false_eq_true, decide_eq_true_eq, inBlockA_normal, inBlockA_ret, inBlockA_same, inBlockA_other, noGotoA_normal, noGotoA_ret, noGotoA_exit, Wops_nil, Wops_cons, Wops_le, Wops_guard, Wops_guardle, ok1_some, okV_some, kont_at, kontL_at, gdB_true, gdB_false, decide_true, decide_false, ev_tmp, ev_const, ev_func, ev_global, put_some, put_none, upd_same, upd_at, gd_bt, gd_bf, Bool.not_true, Bool.not_false, pick_true, pick_false, pick_b, not_b, W1_mov, W1_pick, W1_new, W1_box, W1_build, W1_lit, W1_load1, W1_loadn, W1_store, W1_nilc, W1_bin, W1_un, W1_conv, W1_b2s, W1_s2b, W1_field1, W1_fieldn, W1_faddr, W1_iaddr, W1_iarr, W1_idxs, W1_idxa1, W1_idxan, W1_sls, W1_sll, W1_sla, W1_mk, W1_ext, W1_fn, W1_ifc, W1_lens, W1_lenc, W1_app, W1_apps, W1_copy, W1_mn, W1_mx, W1_isnil, W1_strc, W1_beq, W1_mks, W1_capn, W1_appz, W1_eqagg, W1_call, W1_calld, callD_func, List.nil_append, List.append_nil, List.map_cons, List.map_nil, Option.map_some, Option.map_none, reduceIte, Option.some.injEq, exists_eq_left', Nat.reduceBEq, iv_ii, postA_ret, postA_normal, resVs_nil, resVs_tmp, resVs_one, resVs_many, Option.bind_some, tupleOf, Int.toNat_natCast, true_and, and_true, Nat.reduceEqDiff, i0]
  refine ref27_may_spec hv ?_
  by_cases h : 1 ≤ bs.length ∧ bs.length ≤ 4096
  · have c1 : (1 ≤ bs.length ∧ bs.length ≤ 4096) = True := by simp only [h]; trivial
    simp only [W_seq, W_ops, W_draw, W_block, W_skip, W_exit, W_ret, sq_normal, sq_ret, sq_exit, W_condv, condW_true, condW_false, thenA_normal, thenA_ret, thenA_exit, if_true, if_false, Bool.false_eq_true, decide_eq_true_eq, inBlockA_normal, inBlockA_ret, inBlockA_same, inBlockA_other, noGotoA_normal, noGotoA_ret, noGotoA_exit, Wops_nil, Wops_cons, Wops_le, Wops_guard, Wops_guardle, ok1_some, okV_some, kont_at, kontL_at, gdB_true, gdB_false, decide_true, decide_false, ev_tmp, ev_const, ev_func, ev_global, put_some, put_none, upd_same, upd_at, gd_bt, gd_bf, Bool.not_true, Bool.not_false, pick_true, pick_false, pick_b, not_b, W1_mov, W1_pick, W1_new, W1_box, W1_build, W1_lit, W1_load1, W1_loadn, W1_store, W1_nilc, W1_bin, W1_un, W1_conv, W1_b2s, W1_s2b, W1_field1, W1_fieldn, W1_faddr, W1_iaddr, W1_iarr, W1_idxs, W1_idxa1, W1_idxan, W1_sls, W1_sll, W1_sla, W1_mk, W1_ext, W1_fn, W1_ifc, W1_lens, W1_lenc, W1_app, W1_apps, W1_copy, W1_mn, W1_mx, W1_isnil, W1_strc, W1_beq, W1_mks, W1_capn, W1_appz, W1_eqagg, W1_call, W1_calld, callD_func, List.nil_append, List.append_nil, List.map_cons, List.map_nil, Option.map_some, Option.map_none, reduceIte, Option.some.injEq, exists_eq_left', Nat.reduceBEq, iv_ii, postA_ret, postA_normal, resVs_nil, resVs_tmp, resVs_one, resVs_many, Option.bind_some, tupleOf, Int.toNat_natCast, true_and, and_true, Nat.reduceEqDiff, c1, i1]
    refine ref04_Right_spec ?_
    by_cases h2 : s.size = 32
    · have c2 : (s.size = 32) = True := by simp [h2]
      simp only [W_seq, W_ops, W_draw, W_block, W_skip, W_exit, W_ret, sq_normal, sq_ret, sq_exit, W_condv, condW_true, condW_false, thenA_normal, thenA_ret, thenA_exit, if_true, if_false, Bool.false_eq_true, decide_eq_true_eq, inBlockA_normal, inBlockA_ret, inBlockA_same, inBlockA_other, noGotoA_normal, noGotoA_ret, noGotoA_exit, Wops_nil, Wops_cons, Wops_le, Wops_guard, Wops_guardle, ok1_some, okV_some, kont_at, kontL_at, gdB_true, gdB_false, decide_true, decide_false, ev_tmp, ev_const, ev_func, ev_global, put_some, put_none, upd_same, upd_at, gd_bt, gd_bf, Bool.not_true, Bool.not_false, pick_true, pick_false, pick_b, not_b, W1_mov, W1_pick, W1_new, W1_box, W1_build, W1_lit, W1_load1, W1_loadn, W1_store, W1_nilc, W1_bin, W1_un, W1_conv, W1_b2s, W1_s2b, W1_field1, W1_fieldn, W1_faddr, W1_iaddr, W1_iarr, W1_idxs, W1_idxa1, W1_idxan, W1_sls, W1_sll, W1_sla, W1_mk, W1_ext, W1_fn, W1_ifc, W1_lens, W1_lenc, W1_app, W1_apps, W1_copy, W1_mn, W1_mx, W1_isnil, W1_strc, W1_beq, W1_mks, W1_capn, W1_appz, W1_eqagg, W1_call, W1_calld, callD_func, List.nil_append, List.append_nil, List.map_cons, List.map_nil, Option.map_some, Option.map_none, reduceIte, Option.some.injEq, exists_eq_left', Nat.reduceBEq, iv_ii, postA_ret, postA_normal, resVs_nil, resVs_tmp, resVs_one, resVs_many, Option.bind_some, tupleOf, Int.toNat_natCast, true_and, and_true, Nat.reduceEqDiff, c2, i0, i1, hv.len]
      refine ref27_marks_spec h h2 fun t A1 hle ho => ?_
      simp only [W_seq, W_ops, W_draw, W_block, W_skip, W_exit, W_ret, sq_normal, sq_ret, sq_exit, W_condv, condW_true, condW_false, thenA_normal, thenA_ret, thenA_exit, if_true, if_false, Bool.false_eq_true, decide_eq_true_eq, inBlockA_normal, inBlockA_ret, inBlockA_same, inBlockA_other, noGotoA_normal, noGotoA_ret, noGotoA_exit, Wops_nil, Wops_cons, Wops_le, Wops_guard, Wops_guardle, ok1_some, okV_some, kont_at, kontL_at, gdB_true, gdB_false, decide_true, decide_false, ev_tmp, ev_const, ev_func, ev_global, put_some, put_none, upd_same, upd_at, gd_bt, gd_bf, Bool.not_true, Bool.not_false, pick_true, pick_false, pick_b, not_b, W1_mov, W1_pick, W1_new, W1_box, W1_build, W1_lit, W1_load1, W1_loadn, W1_store, W1_nilc, W1_bin, W1_un, W1_conv, W1_b2s, W1_s2b, W1_field1, W1_fieldn, W1_faddr, W1_iaddr, W1_iarr, W1_idxs, W1_idxa1, W1_idxan, W1_sls, W1_sll, W1_sla, W1_mk, W1_ext, W1_fn, W1_ifc, W1_lens, W1_lenc, W1_app, W1_apps, W1_copy, W1_mn, W1_mx, W1_isnil, W1_strc, W1_beq, W1_mks, W1_capn, W1_appz, W1_eqagg, W1_call, W1_calld, callD_func, List.nil_append, List.append_nil, List.map_cons, List.map_nil, Option.map_some, Option.map_none, reduceIte, Option.some.injEq, exists_eq_left', Nat.reduceBEq, iv_ii, postA_ret, postA_normal, resVs_nil, resVs_tmp, resVs_one, resVs_many, Option.bind_some, tupleOf, Int.toNat_natCast, true_and, and_true, Nat.reduceEqDiff]
      refine W_loop (fun a' B => B = A1 ∧ ∃ k : Nat, k ≤ 3 ∧ firstK bs s k = true ∧ a' 0 = v ∧ a' 5 = t ∧ a' 6 = ii k) (fun a' _ => 3 - (iv (a' 6)).toNat) ?_ ?_
      · refine ⟨rfl, 0, by omega, rfl, ?_⟩
        simp only [W_seq, W_ops, W_draw, W_block, W_skip, W_exit, W_ret, sq_normal, sq_ret, sq_exit, W_condv, condW_true, condW_false, thenA_normal, thenA_ret, thenA_exit, if_true, if_false, Bool.false_eq_true, decide_eq_true_eq, inBlockA_normal, inBlockA_ret, inBlockA_same, inBlockA_other, noGotoA_normal, noGotoA_ret, noGotoA_exit, Wops_nil, Wops_cons, Wops_le, Wops_guard, Wops_guardle, ok1_some, okV_some, kont_at, kontL_at, gdB_true, gdB_false, decide_true, decide_false, ev_tmp, ev_const, ev_func, ev_global, put_some, put_none, upd_same, upd_at, gd_bt, gd_bf, Bool.not_true, Bool.not_false, pick_true, pick_false, pick_b, not_b, W1_mov, W1_pick, W1_new, W1_box, W1_build, W1_lit, W1_load1, W1_loadn, W1_store, W1_nilc, W1_bin, W1_un, W1_conv, W1_b2s, W1_s2b, W1_field1, W1_fieldn, W1_faddr, W1_iaddr, W1_iarr, W1_idxs, W1_idxa1, W1_idxan, W1_sls, W1_sll, W1_sla, W1_mk, W1_ext, W1_fn, W1_ifc, W1_lens, W1_lenc, W1_app, W1_apps, W1_copy, W1_mn, W1_mx, W1_isnil, W1_strc, W1_beq, W1_mks, W1_capn, W1_appz, W1_eqagg, W1_call, W1_calld, callD_func, List.nil_append, List.append_nil, List.map_cons, List.map_nil, Option.map_some, Option.map_none, reduceIte, Option.some.injEq, exists_eq_left', Nat.reduceBEq, iv_ii, postA_ret, postA_normal, resVs_nil, resVs_tmp, resVs_one, resVs_many, Option.bind_some, tupleOf, Int.toNat_natCast, true_and, and_true, Nat.reduceEqDiff, i0]
        rfl
      · rintro a2 B ⟨rfl, k, hk, hf, g0, g5, g6⟩
        rcases Nat.lt_or_ge k 3 with hlt | hge
        · have hc : ((k : Int) < 3) = True := by simp; omega
          obtain ⟨pm, d0, d1⟩ := ho.sl.at1 (mcells_get (n := bs.length) (s := s) hlt)
          have hm := markN_lt (n := bs.length) h.1 s k
          have d2 : binA .quo (ii (markN bs.length s k : Nat)) (ii 8) = some (ii ((markN bs.length s k / 8 : Nat) : Int)) := div_ii _ 8 (by omega) (by omega)
          have d3 : binA .rem (ii (markN bs.length s k : Nat)) (ii 8) = some (ii ((markN bs.length s k % 8 : Nat) : Int)) := rem_ii _ 8 (by omega)
          obtain ⟨x, hx⟩ : ∃ b, bs[markN bs.length s k / 8]? = some b := ⟨_, List.getElem?_eq_getElem (by omega)⟩
          obtain ⟨p, hp1, hp2⟩ := (hv.le hle).at1 hx
          have d4 := binA_shr8 x .i64 (markN bs.length s k % 8) (by omega)
          have hbit := bit_op hx
          cases hb : bitAt bs (markN bs.length s k) with
          | true =>
            rw [hb] at hbit
            simp only [W_seq, W_ops, W_draw, W_block, W_skip, W_exit, W_ret, sq_normal, sq_ret, sq_exit, W_condv, condW_true, condW_false, thenA_normal, thenA_ret, thenA_exit, if_true, if_false, Bool.false_eq_true, decide_eq_true_eq, inBlockA_normal, inBlockA_ret, inBlockA_same, inBlockA_other, noGotoA_normal, noGotoA_ret, noGotoA_exit, Wops_nil, Wops_cons, Wops_le, Wops_guard, Wops_guardle, ok1_some, okV_some, kont_at, kontL_at, gdB_true, gdB_false, decide_true, decide_false, ev_tmp, ev_const, ev_func, ev_global, put_some, put_none, upd_same, upd_at, gd_bt, gd_bf, Bool.not_true, Bool.not_false, pick_true, pick_false, pick_b, not_b, W1_mov, W1_pick, W1_new, W1_box, W1_build, W1_lit, W1_load1, W1_loadn, W1_store, W1_nilc, W1_bin, W1_un, W1_conv, W1_b2s, W1_s2b, W1_field1, W1_fieldn, W1_faddr, W1_iaddr, W1_iarr, W1_idxs, W1_idxa1, W1_idxan, W1_sls, W1_sll, W1_sla, W1_mk, W1_ext, W1_fn, W1_ifc, W1_lens, W1_lenc, W1_app, W1_apps, W1_copy, W1_mn, W1_mx, W1_isnil, W1_strc, W1_beq, W1_mks, W1_capn, W1_appz, W1_eqagg, W1_call, W1_calld, callD_func, List.nil_append, List.append_nil, List.map_cons, List.map_nil, Option.map_some, Option.map_none, reduceIte, Option.some.injEq, exists_eq_left', Nat.reduceBEq, iv_ii, postA_ret, postA_normal, resVs_nil, resVs_tmp, resVs_one, resVs_many, Option.bind_some, tupleOf, Int.toNat_natCast, true_and, and_true, Nat.reduceEqDiff, g0, g5, g6, binA_lss, hc, d0, d1, d2, d3, hp1, hp2, d4, b8_0, b8_1, binA_and8, binA_eq8, hbit, binA_add1 k (by omega)]
            exact ⟨⟨k + 1, by omega, by simp only [firstK, hf, hb]; rfl, rfl⟩, by omega⟩
          | false =>
            rw [hb] at hbit
            simp only [W_seq, W_ops, W_draw, W_block, W_skip, W_exit, W_ret, sq_normal, sq_ret, sq_exit, W_condv, condW_true, condW_false, thenA_normal, thenA_ret, thenA_exit, if_true, if_false, Bool.false_eq_true, decide_eq_true_eq, inBlockA_normal, inBlockA_ret, inBlockA_same, inBlockA_other, noGotoA_normal, noGotoA_ret, noGotoA_exit, Wops_nil, Wops_cons, Wops_le, Wops_guard, Wops_guardle, ok1_some, okV_some, kont_at, kontL_at, gdB_true, gdB_false, decide_true, decide_false, ev_tmp, ev_const, ev_func, ev_global, put_some, put_none, upd_same, upd_at, gd_bt, gd_bf, Bool.not_true, Bool.not_false, pick_true, pick_false, pick_b, not_b, W1_mov, W1_pick, W1_new, W1_box, W1_build, W1_lit, W1_load1, W1_loadn, W1_store, W1_nilc, W1_bin, W1_un, W1_conv, W1_b2s, W1_s2b, W1_field1, W1_fieldn, W1_faddr, W1_iaddr, W1_iarr, W1_idxs, W1_idxa1, W1_idxan, W1_sls, W1_sll, W1_sla, W1_mk, W1_ext, W1_fn, W1_ifc, W1_lens, W1_lenc, W1_app, W1_apps, W1_copy, W1_mn, W1_mx, W1_isnil, W1_strc, W1_beq, W1_mks, W1_capn, W1_appz, W1_eqagg, W1_call, W1_calld, callD_func, List.nil_append, List.append_nil, List.map_cons, List.map_nil, Option.map_some, Option.map_none, reduceIte, Option.some.injEq, exists_eq_left', Nat.reduceBEq, iv_ii, postA_ret, postA_normal, resVs_nil, resVs_tmp, resVs_one, resVs_many, Option.bind_some, tupleOf, Int.toNat_natCast, true_and, and_true, Nat.reduceEqDiff, g0, g5, g6, binA_lss, hc, d0, d1, d2, d3, hp1, hp2, d4, b8_0, b8_1, binA_and8, binA_eq8, hbit]
            have hall := firstK_false hb hlt
            have := hq _ hle
            rw [hasF_eq, hall] at this
            simpa using this
        · have hc : ((k : Int) < 3) = False := by simp; omega
          have hk3 : k = 3 := by omega
          subst hk3
          simp only [W_seq, W_ops, W_draw, W_block, W_skip, W_exit, W_ret, sq_normal, sq_ret, sq_exit, W_condv, condW_true, condW_false, thenA_normal, thenA_ret, thenA_exit, if_true, if_false, Bool.false_eq_true, decide_eq_true_eq, inBlockA_normal, inBlockA_ret, inBlockA_same, inBlockA_other, noGotoA_normal, noGotoA_ret, noGotoA_exit, Wops_nil, Wops_cons, Wops_le, Wops_guard, Wops_guardle, ok1_some, okV_some, kont_at, kontL_at, gdB_true, gdB_false, decide_true, decide_false, ev_tmp, ev_const, ev_func, ev_global, put_some, put_none, upd_same, upd_at, gd_bt, gd_bf, Bool.not_true, Bool.not_false, pick_true, pick_false, pick_b, not_b, W1_mov, W1_pick, W1_new, W1_box, W1_build, W1_lit, W1_load1, W1_loadn, W1_store, W1_nilc, W1_bin, W1_un, W1_conv, W1_b2s, W1_s2b, W1_field1, W1_fieldn, W1_faddr, W1_iaddr, W1_iarr, W1_idxs, W1_idxa1, W1_idxan, W1_sls, W1_sll, W1_sla, W1_mk, W1_ext, W1_fn, W1_ifc, W1_lens, W1_lenc, W1_app, W1_apps, W1_copy, W1_mn, W1_mx, W1_isnil, W1_strc, W1_beq, W1_mks, W1_capn, W1_appz, W1_eqagg, W1_call, W1_calld, callD_func, List.nil_append, List.append_nil, List.map_cons, List.map_nil, Option.map_some, Option.map_none, reduceIte, Option.some.injEq, exists_eq_left', Nat.reduceBEq, iv_ii, postA_ret, postA_normal, resVs_nil, resVs_tmp, resVs_one, resVs_many, Option.bind_some, tupleOf, Int.toNat_natCast, true_and, and_true, Nat.reduceEqDiff, g6, binA_lss, hc]
          have := hq _ hle
          rw [hasF_eq, hf] at this
          simpa [h, h2] using this
    · have c2 : (s.size = 32) = False := by simp [h2]
      simp only [W_seq, W_ops, W_draw, W_block, W_skip, W_exit, W_ret, sq_normal, sq_ret, sq_exit, W_condv, condW_true, condW_false, thenA_normal, thenA_ret, thenA_exit, if_true, if_false, Bool.false_eq_true, decide_eq_true_eq, inBlockA_normal, inBlockA_ret, inBlockA_same, inBlockA_other, noGotoA_normal, noGotoA_ret, noGotoA_exit, Wops_nil, Wops_cons, Wops_le, Wops_guard, Wops_guardle, ok1_some, okV_some, kont_at, kontL_at, gdB_true, gdB_false, decide_true, decide_false, ev_tmp, ev_const, ev_func, ev_global, put_some, put_none, upd_same, upd_at, gd_bt, gd_bf, Bool.not_true, Bool.not_false, pick_true, pick_false, pick_b, not_b, W1_mov, W1_pick, W1_new, W1_box, W1_build, W1_lit, W1_load1, W1_loadn, W1_store, W1_nilc, W1_bin, W1_un, W1_conv, W1_b2s, W1_s2b, W1_field1, W1_fieldn, W1_faddr, W1_iaddr, W1_iarr, W1_idxs, W1_idxa1, W1_idxan, W1_sls, W1_sll, W1_sla, W1_mk, W1_ext, W1_fn, W1_ifc, W1_lens, W1_lenc, W1_app, W1_apps, W1_copy, W1_mn, W1_mx, W1_isnil, W1_strc, W1_beq, W1_mks, W1_capn, W1_appz, W1_eqagg, W1_call, W1_calld, callD_func, List.nil_append, List.append_nil, List.map_cons, List.map_nil, Option.map_some, Option.map_none, reduceIte, Option.some.injEq, exists_eq_left', Nat.reduceBEq, iv_ii, postA_ret, postA_normal, resVs_nil, resVs_tmp, resVs_one, resVs_many, Option.bind_some, tupleOf, Int.toNat_natCast, true_and, and_true, Nat.reduceEqDiff, c2]
      have := hq _ (.refl _)
      rw [hasF_eq] at this
      simpa [h2] using this
  · have c1 : (1 ≤ bs.length ∧ bs.length ≤ 4096) = False := by simp only [h]
    simp only [W_seq, W_ops, W_draw, W_block, W_skip, W_exit, W_ret, sq_normal, sq_ret, sq_exit, W_condv, condW_true, condW_false, thenA_normal, thenA_ret, thenA_exit, if_true, if_false, Bool.false_eq_true, decide_eq_true_eq, inBlockA_normal, inBlockA_ret, inBlockA_same, inBlockA_other, noGotoA_normal, noGotoA_ret, noGotoA_exit, Wops_nil, Wops_cons, Wops_le, Wops_guard, Wops_guardle, ok1_some, okV_some, kont_at, kontL_at, gdB_true, gdB_false, decide_true, decide_false, ev_tmp, ev_const, ev_func, ev_global, put_some, put_none, upd_same, upd_at, gd_bt, gd_bf, Bool.not_true, Bool.not_false, pick_true, pick_false, pick_b, not_b, W1_mov, W1_pick, W1_new, W1_box, W1_build, W1_lit, W1_load1, W1_loadn, W1_store, W1_nilc, W1_bin, W1_un, W1_conv, W1_b2s, W1_s2b, W1_field1, W1_fieldn, W1_faddr, W1_iaddr, W1_iarr, W1_idxs, W1_idxa1, W1_idxan, W1_sls, W1_sll, W1_sla, W1_mk, W1_ext, W1_fn, W1_ifc, W1_lens, W1_lenc, W1_app, W1_apps, W1_copy, W1_mn, W1_mx, W1_isnil, W1_strc, W1_beq, W1_mks, W1_capn, W1_appz, W1_eqagg, W1_call, W1_calld, callD_func, List.nil_append, List.append_nil, List.map_cons, List.map_nil, Option.map_some, Option.map_none, reduceIte, Option.some.injEq, exists_eq_left', Nat.reduceBEq, iv_ii, postA_ret, postA_normal, resVs_nil, resVs_tmp, resVs_one, resVs_many, Option.bind_some, tupleOf, Int.toNat_natCast, true_and, and_true, Nat.reduceEqDiff, c1]
    have := hq _ (.refl _)
    rw [hasF_eq] at this
    simpa [h] using this
end Go.AS.C

namespace Go.AS.C
open Go Go.Proofs
set_option linter.unusedVariables false
set_option linter.unusedSimpArgs false
set_option maxRecDepth 10000

theorem binA_shl8 (k : IntKind) (m : Nat) (h : m < 8) : binA .shl (.int .u8 1) (.int k m) = some (by8 (UInt8.ofNat (2 ^ m))) := by
  have : m = 0 ∨ m = 1 ∨ m = 2 ∨ m = 3 ∨ m = 4 ∨ m = 5 ∨ m = 6 ∨ m = 7 := by omega
  rcases this with rfl | rfl | rfl | rfl | rfl | rfl | rfl | rfl <;> rfl
/-- One bit set. -/
def setB (bs : List UInt8) (m : Nat) : List UInt8 := bs.set (m / 8) (bs.getD (m / 8) 0 ||| UInt8.ofNat (2 ^ (m % 8)))
def setBs (bs : List UInt8) (l : List Nat) : List UInt8 := l.foldl setB bs
theorem setB_length (bs : List UInt8) (m : Nat) : (setB bs m).length = bs.length := by simp [setB]
theorem setBs_length (l : List Nat) : ∀ bs : List UInt8, (setBs bs l).length = bs.length := by
  induction l with
  | nil => intro bs; rfl
  | cons a l ih => intro bs; show (setBs (setB bs a) l).length = _; rw [ih, setB_length]
theorem setBs_succ {bs : List UInt8} {l : List Nat} {k m : Nat} (h : l[k]? = some m) : setBs bs (l.take (k + 1)) = setB (setBs bs (l.take k)) m := by
  unfold setBs
  rw [List.take_add_one, h, List.foldl_append]
  rfl

theorem fence_set_spec {A A0 : AH} {f w : Value} {bs : List UInt8} {l : List Nat} {Q : Value → AH → Prop} (hl : Le A0 A) (hf : OwnB A0.length A f bs) (hw : SlR A 1 w l.length (l.map fun m => ii (m : Nat))) (hlen : l.length ≤ 2 ^ 40)
    (hap : ∀ i o c o' c', w = .slice (some ⟨i, o, none⟩) l.length c → f ≠ .slice (some ⟨i, o', none⟩) bs.length c') (hlt : ∀ m ∈ l, m < 8 * bs.length ∧ m < 2 ^ 60)
    (hq : ∀ A', Le A0 A' → OwnB A0.length A' f (setBs bs l) → (∀ i b, A[i]? = some b → (∀ o c, f ≠ .slice (some ⟨i, o, none⟩) bs.length c) → A'[i]? = some b) → Q (.tuple #[]) A') : ACalls 0 Try.prog fence_set [f, w] Q A := by
  refine ACalls.of_fits mixed fits_fence_set rfl ?_
  unfold ic_fence_set
  have i0 : initA [f, w] 0 = f := rfl
  have i1 : initA [f, w] 1 = w := rfl
  generalize initA [f, w] = a at i0 i1
  simp only [W_seq, W_ops, W_draw, W_block, W_skip, W_exit, W_ret, sq_normal, sq_ret, sq_exit, W_condv, condW_true, condW_false, thenA_normal, thenA_ret, thenA_exit, if_true, if_false, Bool.false_eq_true, decide_eq_true_eq, inBlockA_normal, inBlockA_ret, inBlockA_same, inBlockA_other, noGotoA_normal, noGotoA_ret, noGotoA_exit, Wops_nil, Wops_cons, Wops_le, Wops_guard, Wops_guardle, ok1_some, okV_some, kont_at, kontL_at, gdB_true, gdB_false, decide_true, decide_false, ev_tmp, ev_const, ev_func, ev_global, put_some, put_none, upd_same, upd_at, gd_bt, gd_bf, Bool.not_true, Bool.not_false, pick_true, pick_false, pick_b, not_b, W1_mov, W1_pick, W1_new, W1_box, W1_build, W1_lit, W1_load1, W1_loadn, W1_store, W1_nilc, W1_bin, W1_un, W1_conv, W1_b2s, W1_s2b, W1_field1, W1_fieldn, W1_faddr, W1_iaddr, W1_iarr, W1_idxs, W1_idxa1, W1_idxan, W1_sls, W1_sll, W1_sla, W1_mk, W1_ext, W1_fn, W1_ifc, W1_lens, W1_lenc, W1_app, W1_apps, W1_copy, W1_mn, W1_mx, W1_isnil, W1_strc, W1_beq, W1_mks, W1_capn, W1_appz, W1_eqagg, W1_call, W1_calld, callD_func, List.nil_append, List.append_nil, List.map_cons, List.map_nil, Option.map_some, Option.map_none, reduceIte, Option.some.injEq, exists_eq_left', Nat.reduceBEq, iv_ii, postA_ret, postA_normal, resVs_nil, resVs_tmp, resVs_one, resVs_many, Option.bind_some, tupleOf, Int.toNat_natCast, true_and, and_true, Nat.reduceEqDiff, i1, hw.len]
  refine W_loop (fun a' B => ∃ k : Nat, k ≤ l.length ∧ Le A0 B ∧ a' 0 = f ∧ a' 6 = w ∧ a' 7 = ii l.length ∧ a' 8 = ii k ∧ OwnB A0.length B f (setBs bs (l.take k)) ∧
      (∀ i b, A[i]? = some b → (∀ o c, f ≠ .slice (some ⟨i, o, none⟩) bs.length c) → B[i]? = some b)) (fun a' _ => l.length - (iv (a' 8)).toNat) ?_ ?_
  · refine ⟨0, by omega, hl, ?_⟩
    simp only [W_seq, W_ops, W_draw, W_block, W_skip, W_exit, W_ret, sq_normal, sq_ret, sq_exit, W_condv, condW_true, condW_false, thenA_normal, thenA_ret, thenA_exit, if_true, if_false, Bool.false_eq_true, decide_eq_true_eq, inBlockA_normal, inBlockA_ret, inBlockA_same, inBlockA_other, noGotoA_normal, noGotoA_ret, noGotoA_exit, Wops_nil, Wops_cons, Wops_le, Wops_guard, Wops_guardle, ok1_some, okV_some, kont_at, kontL_at, gdB_true, gdB_false, decide_true, decide_false, ev_tmp, ev_const, ev_func, ev_global, put_some, put_none, upd_same, upd_at, gd_bt, gd_bf, Bool.not_true, Bool.not_false, pick_true, pick_false, pick_b, not_b, W1_mov, W1_pick, W1_new, W1_box, W1_build, W1_lit, W1_load1, W1_loadn, W1_store, W1_nilc, W1_bin, W1_un, W1_conv, W1_b2s, W1_s2b, W1_field1, W1_fieldn, W1_faddr, W1_iaddr, W1_iarr, W1_idxs, W1_idxa1, W1_idxan, W1_sls, W1_sll, W1_sla, W1_mk, W1_ext, W1_fn, W1_ifc, W1_lens, W1_lenc, W1_app, W1_apps, W1_copy, W1_mn, W1_mx, W1_isnil, W1_strc, W1_beq, W1_mks, W1_capn, W1_appz, W1_eqagg, W1_call, W1_calld, callD_func, List.nil_append, List.append_nil, List.map_cons, List.map_nil, Option.map_some, Option.map_none, reduceIte, Option.some.injEq, exists_eq_left', Nat.reduceBEq, iv_ii, postA_ret, postA_normal, resVs_nil, resVs_tmp, resVs_one, resVs_many, Option.bind_some, tupleOf, Int.toNat_natCast, true_and, and_true, Nat.reduceEqDiff, i0, i1]
    exact ⟨rfl, hf, fun i b hb _ => hb⟩
  · rintro a2 B ⟨k, hk, hleB, g0, g6, g7, g8, go, gk⟩
    rcases Nat.lt_or_ge k l.length with hltk | hge
    · have hc : ((k : Int) < (l.length : Int)) = True := by simp; omega
      obtain ⟨m, hm⟩ : ∃ m, l[k]? = some m := ⟨_, List.getElem?_eq_getElem hltk⟩
      obtain ⟨hm1, hm2⟩ := hlt m (List.mem_of_getElem? hm)
      have hwB : SlR B 1 w l.length (l.map fun m => ii (m : Nat)) := hw.keep fun i b hb ⟨o, c, hwe⟩ => gk i b hb fun o' c' => hap i o c o' c' hwe
      obtain ⟨p, hp1, hp2⟩ := hwB.at1 (j := k) (v0 := ii (m : Nat)) (by rw [List.getElem?_map, hm]; rfl)
      have hcl := setBs_length (l.take k) bs
      have d2 : binA .quo (ii (m : Nat)) (ii 8) = some (ii ((m / 8 : Nat) : Int)) := div_ii _ 8 (by omega) (by omega)
      have d3 : binA .rem (ii (m : Nat)) (ii 8) = some (ii ((m % 8 : Nat) : Int)) := rem_ii _ 8 (by omega)
      have d4 := binA_shl8 .i64 (m % 8) (by omega)
      obtain ⟨x, hx⟩ : ∃ b, (setBs bs (l.take k))[m / 8]? = some b := ⟨_, List.getElem?_eq_getElem (by omega)⟩
      obtain ⟨q, hq1, hq2⟩ := go.byt.at1 hx
      obtain ⟨q2, B2, e1, e2, e3, e4, e5⟩ := own_store (x ||| UInt8.ofNat (2 ^ (m % 8))) hleB go (k := m / 8) (lt_of_get hx)
      have hqq : q2 = q := by
        rw [hq1] at e1
        injection e1 with e1; injection e1 with e1 _; exact e1.symm
      subst hqq
      simp only [W_seq, W_ops, W_draw, W_block, W_skip, W_exit, W_ret, sq_normal, sq_ret, sq_exit, W_condv, condW_true, condW_false, thenA_normal, thenA_ret, thenA_exit, if_true, if_false, Bool.false_eq_true, decide_eq_true_eq, inBlockA_normal, inBlockA_ret, inBlockA_same, inBlockA_other, noGotoA_normal, noGotoA_ret, noGotoA_exit, Wops_nil, Wops_cons, Wops_le, Wops_guard, Wops_guardle, ok1_some, okV_some, kont_at, kontL_at, gdB_true, gdB_false, decide_true, decide_false, ev_tmp, ev_const, ev_func, ev_global, put_some, put_none, upd_same, upd_at, gd_bt, gd_bf, Bool.not_true, Bool.not_false, pick_true, pick_false, pick_b, not_b, W1_mov, W1_pick, W1_new, W1_box, W1_build, W1_lit, W1_load1, W1_loadn, W1_store, W1_nilc, W1_bin, W1_un, W1_conv, W1_b2s, W1_s2b, W1_field1, W1_fieldn, W1_faddr, W1_iaddr, W1_iarr, W1_idxs, W1_idxa1, W1_idxan, W1_sls, W1_sll, W1_sla, W1_mk, W1_ext, W1_fn, W1_ifc, W1_lens, W1_lenc, W1_app, W1_apps, W1_copy, W1_mn, W1_mx, W1_isnil, W1_strc, W1_beq, W1_mks, W1_capn, W1_appz, W1_eqagg, W1_call, W1_calld, callD_func, List.nil_append, List.append_nil, List.map_cons, List.map_nil, Option.map_some, Option.map_none, reduceIte, Option.some.injEq, exists_eq_left', Nat.reduceBEq, iv_ii, postA_ret, postA_normal, resVs_nil, resVs_tmp, resVs_one, resVs_many, Option.bind_some, tupleOf, Int.toNat_natCast, true_and, and_true, Nat.reduceEqDiff, g0, g6, g7, g8, binA_lss, hc, hp1, hp2, d2, d3, d4, hq1, hq2, binA_or8, e2, binA_add1 k (by omega)]
      refine ⟨⟨k + 1, by omega, e4, rfl, ?_, ?_⟩, by omega⟩
      · rw [setBs_succ hm]
        have : setB (setBs bs (l.take k)) m = (setBs bs (l.take k)).set (m / 8) (x ||| UInt8.ofNat (2 ^ (m % 8))) := by
          unfold setB
          rw [List.getD_eq_getElem?_getD, hx, Option.getD_some]
        rw [this]
        exact e3
      · intro i b hb hne
        exact e5 i b (gk i b hb hne) (by rw [hcl]; exact hne)
    · have hc : ((k : Int) < (l.length : Int)) = False := by simp; omega
      simp only [W_seq, W_ops, W_draw, W_block, W_skip, W_exit, W_ret, sq_normal, sq_ret, sq_exit, W_condv, condW_true, condW_false, thenA_normal, thenA_ret, thenA_exit, if_true, if_false, Bool.false_eq_true, decide_eq_true_eq, inBlockA_normal, inBlockA_ret, inBlockA_same, inBlockA_other, noGotoA_normal, noGotoA_ret, noGotoA_exit, Wops_nil, Wops_cons, Wops_le, Wops_guard, Wops_guardle, ok1_some, okV_some, kont_at, kontL_at, gdB_true, gdB_false, decide_true, decide_false, ev_tmp, ev_const, ev_func, ev_global, put_some, put_none, upd_same, upd_at, gd_bt, gd_bf, Bool.not_true, Bool.not_false, pick_true, pick_false, pick_b, not_b, W1_mov, W1_pick, W1_new, W1_box, W1_build, W1_lit, W1_load1, W1_loadn, W1_store, W1_nilc, W1_bin, W1_un, W1_conv, W1_b2s, W1_s2b, W1_field1, W1_fieldn, W1_faddr, W1_iaddr, W1_iarr, W1_idxs, W1_idxa1, W1_idxan, W1_sls, W1_sll, W1_sla, W1_mk, W1_ext, W1_fn, W1_ifc, W1_lens, W1_lenc, W1_app, W1_apps, W1_copy, W1_mn, W1_mx, W1_isnil, W1_strc, W1_beq, W1_mks, W1_capn, W1_appz, W1_eqagg, W1_call, W1_calld, callD_func, List.nil_append, List.append_nil, List.map_cons, List.map_nil, Option.map_some, Option.map_none, reduceIte, Option.some.injEq, exists_eq_left', Nat.reduceBEq, iv_ii, postA_ret, postA_normal, resVs_nil, resVs_tmp, resVs_one, resVs_many, Option.bind_some, tupleOf, Int.toNat_natCast, true_and, and_true, Nat.reduceEqDiff, g8, g7, binA_lss, hc]
      rw [List.take_of_length_le hge] at go
      exact hq _ hleB go gk
end Go.AS.C
