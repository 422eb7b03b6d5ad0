import Derived.Test.YtgeoeagohhojbaaAs21
namespace Go.AS
open Go
set_option linter.unusedVariables false
set_option linter.unusedSimpArgs false

def u32 (c : BitVec 32) : Value := .int .u32 (c.toNat : Int)
def by8 (b : UInt8) : Value := .int .u8 (b.toNat : Int)
abbrev ii (n : Int) : Value := .int .i64 n

theorem wrap_u32 (n : Nat) (h : n < 2 ^ 32) : IntKind.u32.wrap (n : Int) = n := by
  unfold IntKind.wrap; simp [IntKind.bits, IntKind.signed]; omega
theorem wrap_u32_of (n : Nat) : IntKind.u32.wrap (n : Int) = ((BitVec.ofNat 32 n).toNat : Int) := by
  unfold IntKind.wrap; simp [IntKind.bits, IntKind.signed]
theorem ofInt_u32 (c : BitVec 32) : BitVec.ofInt IntKind.u32.bits (c.toNat : Int) = c := by
  show BitVec.ofInt 32 (c.toNat : Int) = c
  simp
theorem wrap_i64 (n : Int) (h1 : -(2 ^ 63) ≤ n) (h2 : n < 2 ^ 63) : IntKind.i64.wrap n = n := by
  unfold IntKind.wrap; simp [IntKind.bits, IntKind.signed]; omega
theorem wrap_u8 (n : Nat) (h : n < 2 ^ 8) : IntKind.u8.wrap (n : Int) = n := by
  unfold IntKind.wrap; simp [IntKind.bits, IntKind.signed]; omega

theorem binA_xor32 (a b : BitVec 32) : binA .xor (u32 a) (u32 b) = some (u32 (a ^^^ b)) := by
  show (if IntKind.u32 = IntKind.u32 then some (Value.int .u32 (IntKind.u32.wrap ((BitVec.ofInt 32 (a.toNat : Int) ^^^ BitVec.ofInt 32 (b.toNat : Int)).toNat : Int))) else none) = _
  rw [if_pos rfl, BitVec.ofInt_natCast, BitVec.ofInt_natCast, BitVec.ofNat_toNat, BitVec.ofNat_toNat, BitVec.setWidth_eq, BitVec.setWidth_eq, wrap_u32 _ (a ^^^ b).isLt]
  rfl
theorem binA_and32 (a b : BitVec 32) : binA .and (u32 a) (u32 b) = some (u32 (a &&& b)) := by
  show (if IntKind.u32 = IntKind.u32 then some (Value.int .u32 (IntKind.u32.wrap ((BitVec.ofInt 32 (a.toNat : Int) &&& BitVec.ofInt 32 (b.toNat : Int)).toNat : Int))) else none) = _
  rw [if_pos rfl, BitVec.ofInt_natCast, BitVec.ofInt_natCast, BitVec.ofNat_toNat, BitVec.ofNat_toNat, BitVec.setWidth_eq, BitVec.setWidth_eq, wrap_u32 _ (a &&& b).isLt]
  rfl
theorem binA_or32 (a b : BitVec 32) : binA .or (u32 a) (u32 b) = some (u32 (a ||| b)) := by
  show (if IntKind.u32 = IntKind.u32 then some (Value.int .u32 (IntKind.u32.wrap ((BitVec.ofInt 32 (a.toNat : Int) ||| BitVec.ofInt 32 (b.toNat : Int)).toNat : Int))) else none) = _
  rw [if_pos rfl, BitVec.ofInt_natCast, BitVec.ofInt_natCast, BitVec.ofNat_toNat, BitVec.ofNat_toNat, BitVec.setWidth_eq, BitVec.setWidth_eq, wrap_u32 _ (a ||| b).isLt]
  rfl
theorem binA_shr32 (a : BitVec 32) (k : IntKind) (n : Nat) (h : n ≤ 32) : binA .shr (u32 a) (.int k n) = some (u32 (a >>> n)) := by
  simp only [binA, u32]
  have hn : ¬ ((n : Int) < 0) := by omega
  rw [if_neg hn]
  have : min ((n : Int).toNat) IntKind.u32.bits = n := by
    show min ((n : Int).toNat) 32 = n
    simp; omega
  rw [this]
  congr 2
  rw [BitVec.toNat_ushiftRight, Nat.shiftRight_eq_div_pow]
  rw [show ((2 : Int) ^ n) = ((2 ^ n : Nat) : Int) by simp]
  rw [Int.fdiv_eq_ediv_of_nonneg _ (Int.natCast_nonneg _)]
  simp
theorem binA_eq32 (a b : BitVec 32) : binA .eql (u32 a) (u32 b) = some (.bool (a == b)) := by
  simp only [binA, u32, if_true]
  congr 2
  rw [Bool.eq_iff_iff]
  simp only [beq_iff_eq]
  exact ⟨fun h => BitVec.eq_of_toNat_eq (by omega), fun h => by rw [h]⟩
theorem unA_xor32 (a : BitVec 32) : unA .xor (u32 a) = some (u32 (~~~ a)) := by
  show some (Value.int .u32 (IntKind.u32.wrap ((BitVec.ofInt 32 (2 ^ 32 - 1) ^^^ BitVec.ofInt 32 (a.toNat : Int)).toNat : Int))) = _
  have : BitVec.ofInt 32 (2 ^ 32 - 1) = BitVec.allOnes 32 := by decide
  rw [this, BitVec.ofInt_natCast, BitVec.ofNat_toNat, BitVec.setWidth_eq, BitVec.allOnes_xor, wrap_u32 _ (~~~ a).isLt]
  rfl
theorem unA_neg32 (a : BitVec 32) : unA .neg (u32 a) = some (u32 (- a)) := by
  simp only [unA, u32]
  congr 2
  unfold IntKind.wrap
  simp [IntKind.bits, IntKind.signed, BitVec.toNat_neg]
  omega
theorem conv_u32_by8 (A : AH) (b : UInt8) : sConv A .u32 (by8 b) = some (u32 (BitVec.ofNat 32 b.toNat), A) := by
  simp only [sConv, by8, u32]
  rw [wrap_u32_of]
theorem conv_u32_u32 (A : AH) (b : BitVec 32) : sConv A .u32 (u32 b) = some (u32 b, A) := by
  simp only [sConv, u32]
  rw [wrap_u32 _ b.isLt]
theorem conv_i64_u32 (A : AH) (b : BitVec 32) : sConv A .i64 (u32 b) = some (ii b.toNat, A) := by
  simp only [sConv, u32, ii]
  rw [wrap_i64 _ (by omega) (by have := b.isLt; omega)]
theorem conv_i64_by8 (A : AH) (b : UInt8) : sConv A .i64 (by8 b) = some (ii b.toNat, A) := by
  simp only [sConv, by8, ii]
  rw [wrap_i64 _ (by omega) (by have := b.toNat_lt; omega)]
theorem conv_u8_u32 (A : AH) (b : BitVec 32) : sConv A .u8 (u32 b) = some (by8 (UInt8.ofNat b.toNat), A) := by
  simp only [sConv, u32, by8]
  congr 3
theorem conv_u8_ii (A : AH) (n : Nat) : sConv A .u8 (ii n) = some (by8 (UInt8.ofNat n), A) := by
  simp only [sConv, ii, by8]
  congr 3
theorem conv_ii_ii (A : AH) (n : Int) (h1 : -(2 ^ 63) ≤ n) (h2 : n < 2 ^ 63) : sConv A .i64 (ii n) = some (ii n, A) := by
  simp only [sConv, ii]
  rw [wrap_i64 _ h1 h2]
theorem binA_rem32 (a b : BitVec 32) (h : b ≠ 0) : binA .rem (u32 a) (u32 b) = some (u32 (a % b)) := by
  simp only [binA, u32]
  have hb : b.toNat ≠ 0 := fun h' => h (BitVec.eq_of_toNat_eq h')
  have hb2 : True ∧ (b.toNat : Int) ≠ 0 := ⟨trivial, by omega⟩
  rw [if_pos hb2]
  congr 2
theorem binA_quo32 (a b : BitVec 32) (h : b ≠ 0) : binA .quo (u32 a) (u32 b) = some (u32 (a / b)) := by
  simp only [binA, u32]
  have hb : b.toNat ≠ 0 := fun h' => h (BitVec.eq_of_toNat_eq h')
  have hb2 : True ∧ (b.toNat : Int) ≠ 0 := ⟨trivial, by omega⟩
  rw [if_pos hb2]
  congr 2
  rw [Int.tdiv_eq_ediv_of_nonneg (by omega), ← Int.natCast_ediv, ← BitVec.toNat_udiv, wrap_u32 _ (a / b).isLt]
theorem ofInt_u8 (c : UInt8) : BitVec.ofInt 8 (c.toNat : Int) = c.toBitVec := by
  rw [BitVec.ofInt_natCast]
  exact BitVec.eq_of_toNat_eq (by simp)
theorem binA_xor8 (a b : UInt8) : binA .xor (by8 a) (by8 b) = some (by8 (a ^^^ b)) := by
  show (if IntKind.u8 = IntKind.u8 then some (Value.int .u8 (IntKind.u8.wrap ((BitVec.ofInt 8 (a.toNat : Int) ^^^ BitVec.ofInt 8 (b.toNat : Int)).toNat : Int))) else none) = _
  rw [if_pos rfl, ofInt_u8, ofInt_u8]
  have h1 : (a.toBitVec ^^^ b.toBitVec).toNat = (a ^^^ b).toNat := by simp
  rw [h1, wrap_u8 _ (a ^^^ b).toNat_lt]
  rfl
theorem binA_eq8 (a b : UInt8) : binA .eql (by8 a) (by8 b) = some (.bool (a == b)) := by
  simp only [binA, by8, if_true]
  congr 2
  rw [Bool.eq_iff_iff]
  simp only [beq_iff_eq]
  exact ⟨fun h => UInt8.toNat_inj.1 (by omega), fun h => by rw [h]⟩
theorem binA_ne8 (a b : UInt8) : binA .neq (by8 a) (by8 b) = some (.bool (a != b)) := by
  simp only [binA, by8, if_true]
  congr 2
  rw [Bool.eq_iff_iff]
  simp only [bne_iff_ne, ne_eq]
  exact ⟨fun h h' => h (by rw [h']), fun h h' => h (UInt8.toNat_inj.1 (by omega))⟩

theorem binA_lss (k : IntKind) (a b : Int) : binA .lss (.int k a) (.int k b) = some (.bool (decide (a < b))) := by simp [binA]
theorem binA_leq (k : IntKind) (a b : Int) : binA .leq (.int k a) (.int k b) = some (.bool (decide (a ≤ b))) := by simp [binA]
theorem binA_gtr (k : IntKind) (a b : Int) : binA .gtr (.int k a) (.int k b) = some (.bool (decide (a > b))) := by simp [binA]
theorem binA_geq (k : IntKind) (a b : Int) : binA .geq (.int k a) (.int k b) = some (.bool (decide (a ≥ b))) := by simp [binA]
theorem binA_eql (k : IntKind) (a b : Int) : binA .eql (.int k a) (.int k b) = some (.bool (a == b)) := by simp [binA]
theorem binA_neq (k : IntKind) (a b : Int) : binA .neq (.int k a) (.int k b) = some (.bool (a != b)) := by simp [binA]
theorem binA_addi (a b : Int) (h1 : -(2 ^ 63) ≤ a + b) (h2 : a + b < 2 ^ 63) : binA .add (ii a) (ii b) = some (ii (a + b)) := by
  simp only [binA, ii, if_true]; rw [wrap_i64 _ h1 h2]
theorem binA_add1 (j : Nat) (h : j < 2 ^ 62) : binA .add (ii j) (ii 1) = some (ii ((j + 1 : Nat) : Int)) := by
  rw [binA_addi _ _ (by omega) (by omega)]; rfl
def iv : Value → Int | .int _ n => n | _ => 0
theorem iv_ii {k : IntKind} {n : Int} : iv (.int k n) = n := id rfl
theorem binA_subi (a b : Int) (h1 : -(2 ^ 63) ≤ a - b) (h2 : a - b < 2 ^ 63) : binA .sub (ii a) (ii b) = some (ii (a - b)) := by
  simp only [binA, ii, if_true]; rw [wrap_i64 _ h1 h2]
theorem binA_muli (a b : Int) (h1 : -(2 ^ 63) ≤ a * b) (h2 : a * b < 2 ^ 63) : binA .mul (ii a) (ii b) = some (ii (a * b)) := by
  simp only [binA, ii, if_true]; rw [wrap_i64 _ h1 h2]

theorem lens_sl {A : AH} {p : Option Addr} {n c : Nat} : sLens A false (.slice p n c) = some (ii n, A) := rfl
theorem pick_true {A : AH} {x y : Value} : sPick A (.bool true) x y = some (x, A) := id rfl
theorem pick_false {A : AH} {x y : Value} : sPick A (.bool false) x y = some (y, A) := id rfl
theorem pick_b {A : AH} {b : Bool} {x y : Value} : sPick A (.bool b) x y = some (if b then x else y, A) := id rfl
theorem not_b {b : Bool} : unA .not (.bool b) = some (.bool (!b)) := id rfl
theorem gd_bt {b : Bool} : gd (.bool b) true = b := by cases b <;> rfl
theorem gd_bf {b : Bool} : gd (.bool b) false = !b := by cases b <;> rfl
theorem u8eq {a b : Nat} (h : a % 256 = b % 256) : UInt8.ofNat a = UInt8.ofNat b := by
  apply UInt8.toNat_inj.1
  simpa using h

/-- Bytes in a slice. -/
def Byt (A : AH) (v : Value) (bs : List UInt8) : Prop := Sl A 1 v bs.length (bs.map by8)

section
variable {A B : AH} {v : Value} {sz n : Nat} {cs : List Value}

theorem Sl.le (h : Sl A sz v n cs) (hl : Le A B) : Sl B sz v n cs := by
  obtain ⟨h0, h⟩ := h
  refine ⟨h0, ?_⟩
  rcases h with h | h | ⟨i, o, c, rc, st, ex, h1, h2, h3, h4, h5, h6⟩
  · exact .inl h
  · exact .inr (.inl h)
  · exact .inr (.inr ⟨i, o, c, rc, st, ex, h1, h2, hl.get h3, h4, h5, h6⟩)
theorem Byt.le {bs : List UInt8} (h : Byt A v bs) (hl : Le A B) : Byt B v bs := Sl.le h hl

theorem Sl.len (h : Sl A sz v n cs) : sLens A false v = some (ii n, A) := by
  obtain ⟨h0, h⟩ := h
  rcases h with ⟨rfl, rfl⟩ | ⟨rfl, rfl⟩ | ⟨i, o, c, rc, st, ex, rfl, h2, h3, h4, h5, h6⟩ <;> simp [sLens, ii]
theorem Byt.len {bs : List UInt8} (h : Byt A v bs) : sLens A false v = some (ii bs.length, A) := Sl.len h

theorem Sl.rd (h : Sl A sz v n cs) : rdSl A sz v = some cs := by
  obtain ⟨h0, h⟩ := h
  rcases h with ⟨rfl, rfl⟩ | ⟨rfl, rfl⟩ | ⟨i, o, c, rc, st, ex, rfl, h2, h3, h4, h5, h6⟩
  · have : cs = [] := by simpa using h0
    subst this; rfl
  · have : cs = [] := by simpa using h0
    subst this; rfl
  · unfold rdSl
    simp only
    split
    · rename_i hn
      subst hn
      have : cs = [] := by simpa using h0
      subst this; rfl
    · unfold getRow
      rw [h3]
      simp only [if_neg h4, Option.bind_some]
      unfold cut
      rw [if_pos h5]
      congr 1
      apply List.ext_getElem?
      intro j
      rcases Nat.lt_or_ge j (n * sz) with hj | hj
      · rw [List.getElem?_take_of_lt hj, List.getElem?_drop, h6 j hj]
      · rw [List.getElem?_eq_none (by simp; omega), List.getElem?_eq_none (by omega)]
theorem Byt.rd {bs : List UInt8} (h : Byt A v bs) : rdSl A 1 v = some (bs.map by8) := Sl.rd h

/-- The j-th element's address, and what is there (elements of one cell). -/
theorem Sl.at1 {v0 : Value} (h : Sl A 1 v n cs) {j : Nat} (hj : cs[j]? = some v0) : ∃ p, sIaddr A v (ii j) 1 = some (p, A) ∧ sLoad1 A p = some (v0, A) := by
  obtain ⟨h0, h⟩ := h
  have hlt := lt_of_get hj
  rcases h with ⟨rfl, rfl⟩ | ⟨rfl, rfl⟩ | ⟨i, o, c, rc, st, ex, rfl, h2, h3, h4, h5, h6⟩
  · omega
  · omega
  · refine ⟨.pointer (some ⟨i, o + j, none⟩), ?_, ?_⟩
    · unfold sIaddr
      simp only [ii, asI, Option.bind_some]
      rw [if_pos ⟨by omega, by omega⟩]
      simp
    · unfold sLoad1 getRow
      simp only [h3, if_neg h4, Option.bind_some]
      rw [h6 j (by omega), hj]
      rfl
theorem Byt.at1 {bs : List UInt8} (h : Byt A v bs) {j : Nat} {b : UInt8} (hj : bs[j]? = some b) : ∃ p, sIaddr A v (ii j) 1 = some (p, A) ∧ sLoad1 A p = some (by8 b, A) :=
  Sl.at1 h (by rw [List.getElem?_map, hj]; rfl)

end
end Go.AS
