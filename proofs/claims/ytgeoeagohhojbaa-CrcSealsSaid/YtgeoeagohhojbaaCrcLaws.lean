import Derived.Test.YtgeoeagohhojbaaAs25
import Derived.Test.YtgeoeagohhojbaaCrcRef
namespace Go.AS.C
open Go Go.Proofs

theorem CrcSums_law {A : AH} {w : World} {v0 v1 : Value} {a0 a1 : Option Addr} {n0 c0 n1 c1 : Nat} {z0 z1 : List Int} {a2 : Int} (s0 : (Arg.row .u8 a0 n0 c0 z0).says A v0) (w0 : (Arg.row .u8 a0 n0 c0 z0).ok w) (s1 : (Arg.row .u8 a1 n1 c1 z1).says A v1) (w1 : (Arg.row .u8 a1 n1 c1 z1).ok w) (w2 : (Lit.int .u32 a2).wf = true) :
    ACalls 0 Try.prog chantrylaw02_CrcSums [v0, v1, .int .u32 a2] (fun v _ => v = .bool true) A := by
  obtain ⟨xs, h0, _⟩ := arg_bytes s0 w0
  obtain ⟨ys, h1, _⟩ := arg_bytes s1 w1
  rw [← wf_u32 w2]
  exact CrcSums_spec h0 h1 fun _ => rfl
theorem CrcSeals_law {A : AH} {w : World} {v0 v1 : Value} {a0 a1 : Option Addr} {n0 c0 n1 c1 : Nat} {z0 z1 : List Int} (s0 : (Arg.row .u8 a0 n0 c0 z0).says A v0) (w0 : (Arg.row .u8 a0 n0 c0 z0).ok w) (s1 : (Arg.row .u8 a1 n1 c1 z1).says A v1) (w1 : (Arg.row .u8 a1 n1 c1 z1).ok w) :
    ACalls 0 Try.prog chantrylaw02_CrcSeals [v0, v1] (fun v _ => v = .bool true) A := by
  obtain ⟨xs, h0, _⟩ := arg_bytes s0 w0
  obtain ⟨ys, h1, _⟩ := arg_bytes s1 w1
  exact CrcSeals_spec h0 h1 fun _ => rfl
end Go.AS.C
