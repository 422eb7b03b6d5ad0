/- Proved: the given statement CounterLoadsSaid: the law CounterLoads returns true for every input and changes no argument. Conditions: none. -/
import Derived.Test.YtpaegpjgegcdeaaM5
import Derived.Test.YtpaegpjgegcdeaaRows
import Derived.WalkKit
import Derived.ProofKit
import Derived.OpenShut
import Derived.ShutString
import Derived.ChangeOld
import Derived.Below
import Derived.SizedLaws
namespace Go.Proofs.Ytpaegpjgegcdeaa.counterLoads
open Go.ChangeShapes Go.WideShapes Go.ChangeAt Go.RowKit
open Go.ChangeMaps (open_string shut_string)
set_option linter.unusedVariables false
theorem own : ownKnob Try.prog.godebug = none := by kernel_rfl
theorem laidOut : laidOutB Try.prog = true := by kernel_rfl
set_option maxRecDepth 100000 in
theorem lifted (os : Os) (started : os.Started) (H : Type) (enc : TypeId × Value → H) :
    ReturnsInHanded {} Try.checked os 4 .any (Rows.counterLoadsSpec.pre6 enc Try.prog Try.f4 Rows.counterLoadsRow.domain false) (Rows.counterLoadsSpec.post enc Try.prog Try.f4 false true false false) := by
  refine returnsInHanded_of_change_sized (C := Try.checked) own started (by kernel_rfl) Try.func4
    (ChangeSpec.witness6 (enc := enc) (C := Try.checked) false ⟨#[], #[.slice none 0 0, .slice none 0 0], []⟩ 8 (by kernel_rfl) (by kernel_rfl) (by kernel_rfl) (by kernel_rfl)) ?_
  intro W base args ds gs before hval0 hW hcnd hsz0 _
  have hsz : (DataW.weightsEach Try.prog (Try.f4.params.toList ++ Rows.counterLoadsSpec.plain.varTypes Try.prog) (ds ++ gs)).all (· ≤ reachBytes) = true := hsz0
  have hval : ∀ (j : Nat) t v, Try.f4.params[j]? = some t → args[j]? = some v → Value.okWide Try.prog W .any base t v := hval0
  have hW' := hW
  obtain ⟨p, q, hA0, hV, rfl, hfz, hnd⟩ := hW
  have hA : DataW.TrodAll enc Try.prog W 0 (fun _ => true) true Try.f4.params.toList args.toList ds p := hA0
  rw [Try.params4] at hA hval hsz
  have hwt : ∀ m ∈ DataW.weightsEach Try.prog [38, 22] ds, m ≤ reachBytes := by
    intro m hm
    have hz := List.all_eq_true.1 hsz m
    have hl := Go.AS.weights_each_append (P := Try.prog) [38, 22] (Rows.counterLoadsSpec.plain.varTypes Try.prog) ds gs m hm (Go.AS.trod_len _ _ _ _ hA)
    simpa using hz hl
  have HC := Go.AS.calls_of_trod (F := 9) (f := 4) (ts := [38, 22]) (by kernel_rfl) hA hwt (fun j t v x y => hval j t v (by simpa using x) y) (fun us A hl hg => by
    obtain ⟨u0, hu0⟩ : ∃ v, us[0]? = some v := ⟨_, List.getElem?_eq_getElem (Nat.lt_of_lt_of_eq (by decide : 0 < 2) hl.symm)⟩
    have g0 := hg 0 _ _ rfl hu0
    obtain ⟨u1, hu1⟩ : ∃ v, us[1]? = some v := ⟨_, List.getElem?_eq_getElem (Nat.lt_of_lt_of_eq (by decide : 1 < 2) hl.symm)⟩
    have g1 := hg 1 _ _ rfl hu1
    obtain rfl : us = [u0, u1] := by
      apply List.ext_getElem?
      intro j
      match j with
      | 0 => exact hu0
      | 1 => exact hu1
      | j + 2 => rw [List.getElem?_eq_none (by rw [hl]; simp), List.getElem?_eq_none (by simp)]
    exact Go.AS.C.CounterLoads_law g0 g1)
  obtain ⟨v0, vs0, d0, ds0, p0, q0, hargs, rfl, rfl, h0, r0⟩ := trodAll_cons hA
  obtain ⟨v1, vs1, d1, ds1, p1, q1, rfl, rfl, rfl, h1, r1⟩ := trodAll_cons r0
  obtain ⟨rfl, rfl, rfl⟩ := trodAll_nil r1
  obtain rfl : args = #[v0, v1] := by cases args; simp_all
  obtain ⟨rfl, rfl⟩ := trodVars_none hV
  have lt0 : ∀ x ∈ p0, x.block < W.heap.size := by obtain ⟨m, hm⟩ := h0; exact DataW.trod_lt m _ _ _ hm
  have lt1 : ∀ x ∈ p1, x.block < W.heap.size := by obtain ⟨m, hm⟩ := h1; exact DataW.trod_lt m _ _ _ hm
  clear hA0 hval0 hsz0 hsz
  refine HC.mono fun e W' ⟨he, bel⟩ => ?_
  subst he
  exact ⟨_, rfl, _, _, _, [], _, [], hW', trodAll_mk1 (shut_bool Try.underlying4 _), (trodAll_cons_mk (Below.trod laidOut (by kernel_rfl) (of_decide_eq_true (by kernel_rfl)) h0 bel lt0) (trodAll_cons_mk (Below.trod laidOut (by kernel_rfl) (of_decide_eq_true (by kernel_rfl)) h1 bel lt1) trodAll_mk0)), rfl, bel.frame _, fun h => by cases h⟩
theorem over : Rows.counterLoadsRow.holds Try.pinned (OpenSpec.ofChange Rows.counterLoadsSpec) :=
  OpenClaim.holds_of_wide 4 Try.f4 rfl rfl rfl rfl rfl rfl rfl ⟨rfl, rfl, rfl, rfl, rfl⟩ rfl rfl rfl rfl rfl (by kernel_rfl) Try.func4 (by kernel_rfl)
    (of_decide_eq_true (by kernel_rfl)) (by unfold Func.isWrapper; first | (rw [if_pos (by decide +kernel)]; kernel_rfl) | (rw [if_neg (by decide +kernel)]; exact ⟨rfl, rfl⟩))
    (fun os started H enc _ => lifted os started H enc)
theorem proved : Rows.CounterLoadsSaid := over
#print axioms proved
end Go.Proofs.Ytpaegpjgegcdeaa.counterLoads
namespace Go.Proofs.Ytpaegpjgegcdeaa
/-- The row, under a short name, for the claim. -/
theorem counterLoads_holds : Rows.CounterLoadsSaid := counterLoads.proved
end Go.Proofs.Ytpaegpjgegcdeaa

