import Derived.Test.YtgeoeagohhojbaaAs24
namespace Go.AS
open Go
set_option linter.unusedVariables false
set_option linter.unusedSimpArgs false

theorem wf_u8 {n : Int} (h : (Lit.int .u8 n).wf = true) : by8 (UInt8.ofNat n.toNat) = .int .u8 n := by
  simp [Lit.wf, IntKind.bits, IntKind.signed, IntKind.min, IntKind.max] at h
  unfold by8
  congr 1
  simp
  omega
theorem wf_u32 {n : Int} (h : (Lit.int .u32 n).wf = true) : u32 (BitVec.ofNat 32 n.toNat) = .int .u32 n := by
  simp [Lit.wf, IntKind.bits, IntKind.signed, IntKind.min, IntKind.max] at h
  unfold u32
  congr 1
  simp
  omega
theorem wf_i64 {n : Int} (h : (Lit.int .i64 n).wf = true) : -(2 ^ 63) ≤ n ∧ n < 2 ^ 63 := by
  simp [Lit.wf, IntKind.bits, IntKind.signed, IntKind.min, IntKind.max] at h
  omega

/-- What an argument of bytes is. -/
theorem byt_of {A : AH} {v : Value} {xs : List Int} (h : SlI A .u8 v xs) (hw : ∀ n ∈ xs, (Lit.int .u8 n).wf = true) : ∃ bs : List UInt8, Byt A v bs ∧ bs.length = xs.length := by
  refine ⟨xs.map fun n => UInt8.ofNat n.toNat, ?_, by simp⟩
  unfold Byt
  have e : (xs.map fun n => UInt8.ofNat n.toNat).map by8 = ints .u8 xs := by
    unfold ints
    rw [List.map_map]
    apply List.map_congr_left
    intro n hn
    exact wf_u8 (hw n hn)
  rw [e, List.length_map]
  exact h
theorem arg_bytes {A : AH} {w : World} {v : Value} {a : Option Addr} {len cap : Nat} {zs : List Int} (h : (Arg.row .u8 a len cap zs).says A v) (ho : (Arg.row .u8 a len cap zs).ok w) : ∃ bs : List UInt8, Byt A v bs ∧ bs.length = len := by
  obtain ⟨h1, h2⟩ := h
  obtain ⟨bs, g1, g2⟩ := byt_of h1 (by
    intro n hn
    have hn := List.mem_of_mem_take hn
    rcases ho with ⟨_, _, _, rfl⟩ | ⟨x, _, _, _, _, _, hw⟩
    · cases hn
    · exact hw n hn)
  exact ⟨bs, g1, by omega⟩
end Go.AS
