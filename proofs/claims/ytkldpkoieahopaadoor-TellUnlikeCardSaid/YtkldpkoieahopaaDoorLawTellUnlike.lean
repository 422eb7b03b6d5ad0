/- Proved: the given statement TellUnlikeSaid: the law TellUnlike returns true for every input and changes no argument. Conditions: none. -/
import Derived.Test.YtkldpkoieahopaaDoorM5
import Derived.Test.YtkldpkoieahopaaDoorRows
import Derived.Test.YtkldpkoieahopaaDoorCards
import Derived.Test.YtkldpkoieahopaaDoorTie
import Derived.SevenTiedAt
import Derived.LaidMore
import Derived.Stop.Joined
import Derived.WalkKit
import Derived.ProofKit
import Derived.OpenShut
import Derived.ShutString
import Derived.ChangeOld
import Derived.Below
import Derived.SizedLaws
namespace Go.Proofs.YtkldpkoieahopaaDoor.tellUnlike
open Go.ChangeShapes Go.WideShapes Go.ChangeAt Go.RowKit
open Go.ChangeMaps (open_string shut_string)
set_option linter.unusedVariables false
theorem own : ownKnob Tryd.prog.godebug = none := by kernel_rfl
theorem laidOut : laidOutB Tryd.prog = true := by kernel_rfl
set_option maxRecDepth 100000 in
theorem door_met (os : Os) (args : Array Value) : laidMetH Tryd.prog Rows.tellUnlikeRow.laid ((World.doorLaid Tryd.prog 400 os).forCall (fun _ _ => 0) ⟨#[], args, []⟩).memory :=
  laidMetH_of_parts3 (fuel := 8) (laidMet_of_run' 8 (by kernel_rfl) (by kernel_rfl)) (by kernel_rfl) (by kernel_rfl)
set_option maxRecDepth 100000 in
theorem lifted (os : Os) (started : os.Started) (H : Type) (enc : TypeId × Value → H) :
    ReturnsInHanded {} Tryd.checked os 5 .any (fun w args => (Rows.tellUnlikeSpec.pre enc Tryd.prog Tryd.f5 [] false w args ∧ laidMetH Tryd.prog Rows.tellUnlikeRow.laid w) ∧ sizedMet enc Tryd.prog Tryd.f5 (OpenSpec.ofChange Rows.tellUnlikeSpec) false w args) (Rows.tellUnlikeSpec.post enc Tryd.prog Tryd.f5 false true false false) := by
  refine returnsInHanded_of_change_and (C := Tryd.checked) (X := (fun w _ => laidMetH Tryd.prog Rows.tellUnlikeRow.laid w)) (fun _ _ _ hh h => h.of_heap hh) own started (by kernel_rfl) Tryd.func5
    (ChangeSpec.witness_shaped (enc := enc) (C := Tryd.checked) (os := os) (X := (fun w _ => laidMetH Tryd.prog Rows.tellUnlikeRow.laid w)) false (World.doorLaid Tryd.prog 400 os) #[.agg #[.slice none 0 0, .slice none 0 0, .slice none 0 0, .slice none 0 0], .agg #[.slice none 0 0, .slice none 0 0, .slice none 0 0, .slice none 0 0], .agg #[.int .i64 0, .slice none 0 0, .slice none 0 0, .int .i64 0, .slice none 0 0, .int .i64 0, .slice none 0 0, .slice none 0 0, .int .i64 0, .slice none 0 0]] 8 rfl (World.shaped_of_RefB (by kernel_rfl) (by kernel_rfl)) (by kernel_rfl) (by kernel_rfl) (by kernel_rfl) (door_met os _)) ?_
  intro W base args ds gs before hval0 hW _ hsz0 hL _
  have hsz : (DataW.weightsEach Tryd.prog (Tryd.f5.params.toList ++ Rows.tellUnlikeSpec.plain.varTypes Tryd.prog) (ds ++ gs)).all (· ≤ reachBytes) = true := hsz0
  have hval : ∀ (j : Nat) t v, Tryd.f5.params[j]? = some t → args[j]? = some v → Value.okWide Tryd.prog W .any base t v := hval0
  have hW' := hW
  obtain ⟨p, q, hA0, hV, rfl, hfz, hnd⟩ := hW
  have hA : DataW.TrodAll enc Tryd.prog W 0 (fun _ => true) true Tryd.f5.params.toList args.toList ds p := hA0
  rw [Tryd.params5] at hA hval hsz
  have hwt : ∀ m ∈ DataW.weightsEach Tryd.prog [31, 31, 46] ds, m ≤ reachBytes := by
    intro m hm
    have hz := List.all_eq_true.1 hsz m
    have hl := Go.AS.weights_each_append (P := Tryd.prog) [31, 31, 46] (Rows.tellUnlikeSpec.plain.varTypes Tryd.prog) ds gs m hm (Go.AS.trod_len _ _ _ _ hA)
    simpa using hz hl
  have hd0 : (Rows.laid_chantry_tell_steps : DataW Unit) = .agg (Go.AS.C.stepsL.map fun s => .lit (.string s.data.toList)) := by kernel_rfl
  have hm0 : ("chantry/tell.steps", (.agg (Go.AS.C.stepsL.map fun s => .lit (.string s.data.toList)) : DataW Unit)) ∈ Rows.tellUnlikeRow.laid := by rw [← hd0]; exact .tail _ (.tail _ (.tail _ ((.head _))))
  obtain ⟨rc0g, tc0g, fr0g, hb0g, hrc0g⟩ := Go.AS.laid_strs_at (g := 0) (t := 56) (by kernel_rfl) (by kernel_rfl) Tryd.underlying56 Tryd.underlying9 (by kernel_rfl) (by kernel_rfl) (by kernel_rfl) hm0 hL
  have hd1 : (Rows.laid_chantry_tell_faults : DataW Unit) = .agg (Go.AS.C.faultsL.map fun s => .lit (.string s.data.toList)) := by kernel_rfl
  have hm1 : ("chantry/tell.faults", (.agg (Go.AS.C.faultsL.map fun s => .lit (.string s.data.toList)) : DataW Unit)) ∈ Rows.tellUnlikeRow.laid := by rw [← hd1]; exact .tail _ (.tail _ (.tail _ (.tail _ ((.head _)))))
  obtain ⟨rc1g, tc1g, fr1g, hb1g, hrc1g⟩ := Go.AS.laid_strs_at (g := 1) (t := 61) (by kernel_rfl) (by kernel_rfl) Tryd.underlying61 Tryd.underlying9 (by kernel_rfl) (by kernel_rfl) (by kernel_rfl) hm1 hL
  have hd2 : (Rows.laid_internal_strconv_uint64pow10 : DataW Unit) = .agg (Go.AS.C.kIn.map fun m => .lit (.int .u64 m)) := by kernel_rfl
  have hm2 : ("internal/strconv.uint64pow10", (.agg (Go.AS.C.kIn.map fun m => .lit (.int .u64 m)) : DataW Unit)) ∈ Rows.tellUnlikeRow.laid := by rw [← hd2]; exact .tail _ (.tail _ ((.head _)))
  obtain ⟨rc2g, tc2g, fr2g, hb2g, hrc2g⟩ := Go.AS.laid_ints_at (g := 2) (t := 91) (by kernel_rfl) (by kernel_rfl) Tryd.underlying91 Tryd.underlying83 (by kernel_rfl) (by kernel_rfl) (by kernel_rfl) hm2 hL
  have hrel : Go.AS.Rel 0 [⟨0, 0, Go.AS.C.kVs.length, 0⟩, ⟨1, 0, Go.AS.C.kVf.length, 0⟩, ⟨2, 0, Go.AS.C.kVn.length, 0⟩] [Go.AS.C.kBs, Go.AS.C.kBf, Go.AS.C.kBn] W := ((((Go.AS.rel_none (w := W)).addGloX (Go.AS.no_own_nil) hb0g (hrc0g.trans Go.AS.C.stepsL_cells) Go.AS.C.stepsL_flat).addGloX (Go.AS.no_own_app (Go.AS.no_own_nil) rfl) hb1g (hrc1g.trans Go.AS.C.faultsL_cells) Go.AS.C.faultsL_flat).addGloX (Go.AS.no_own_app (Go.AS.no_own_app (Go.AS.no_own_nil) rfl) rfl) hb2g (hrc2g.trans Go.AS.C.kIn_cells) Go.AS.C.kIn_flat)
  have hno : ∀ (i : Nat) b, [Go.AS.C.kBs, Go.AS.C.kBf, Go.AS.C.kBn][i]? = some b → b.isOwn = false := Go.AS.no_own_app (Go.AS.no_own_app (Go.AS.no_own_app (Go.AS.no_own_nil) rfl) rfl) rfl
  have hgl : ∀ g, g < 3 → ∃ e : Go.AS.Ent, [(⟨0, 0, Go.AS.C.kVs.length, 0⟩ : Go.AS.Ent), (⟨1, 0, Go.AS.C.kVf.length, 0⟩ : Go.AS.Ent), (⟨2, 0, Go.AS.C.kVn.length, 0⟩ : Go.AS.Ent)][g]? = some e ∧ e.blk = g ∧ e.off = 0 := by
    intro g hg
    match g, hg with
    | 0, _ => exact ⟨_, rfl, rfl, rfl⟩
    | 1, _ => exact ⟨_, rfl, rfl, rfl⟩
    | 2, _ => exact ⟨_, rfl, rfl, rfl⟩
  have HC := Go.AS.calls_of_trodG hrel hno hgl (F := 9) (f := 5) (ts := [31, 31, 46]) (by kernel_rfl) hA hwt (fun j t v x y => hval j t v (by simpa using x) y) (fun us A hl hle hg => by
    obtain ⟨u0, hu0⟩ : ∃ v, us[0]? = some v := ⟨_, List.getElem?_eq_getElem (Nat.lt_of_lt_of_eq (by decide : 0 < 3) hl.symm)⟩
    have g0 := hg 0 _ _ rfl hu0
    obtain ⟨u1, hu1⟩ : ∃ v, us[1]? = some v := ⟨_, List.getElem?_eq_getElem (Nat.lt_of_lt_of_eq (by decide : 1 < 3) hl.symm)⟩
    have g1 := hg 1 _ _ rfl hu1
    obtain ⟨u2, hu2⟩ : ∃ v, us[2]? = some v := ⟨_, List.getElem?_eq_getElem (Nat.lt_of_lt_of_eq (by decide : 2 < 3) hl.symm)⟩
    have g2 := hg 2 _ _ rfl hu2
    obtain rfl : us = [u0, u1, u2] := by
      apply List.ext_getElem?
      intro j
      match j with
      | 0 => exact hu0
      | 1 => exact hu1
      | 2 => exact hu2
      | j + 3 => rw [List.getElem?_eq_none (by rw [hl]; simp), List.getElem?_eq_none (by simp)]
    exact Go.AS.C.TellUnlike_law hle g0 g1 g2)
  obtain ⟨v0, vs0, d0, ds0, p0, q0, hargs, rfl, rfl, h0, r0⟩ := trodAll_cons hA
  obtain ⟨v1, vs1, d1, ds1, p1, q1, rfl, rfl, rfl, h1, r1⟩ := trodAll_cons r0
  obtain ⟨v2, vs2, d2, ds2, p2, q2, rfl, rfl, rfl, h2, r2⟩ := trodAll_cons r1
  obtain ⟨rfl, rfl, rfl⟩ := trodAll_nil r2
  obtain rfl : args = #[v0, v1, v2] := by cases args; simp_all
  obtain ⟨rfl, rfl⟩ := trodVars_none hV
  have lt0 : ∀ x ∈ p0, x.block < W.heap.size := by obtain ⟨m, hm⟩ := h0; exact DataW.trod_lt m _ _ _ hm
  have lt1 : ∀ x ∈ p1, x.block < W.heap.size := by obtain ⟨m, hm⟩ := h1; exact DataW.trod_lt m _ _ _ hm
  have lt2 : ∀ x ∈ p2, x.block < W.heap.size := by obtain ⟨m, hm⟩ := h2; exact DataW.trod_lt m _ _ _ hm
  clear hA0 hval0 hsz0 hsz
  refine HC.mono fun e W' ⟨he, bel⟩ => ?_
  subst he
  exact ⟨_, rfl, _, _, _, [], _, [], hW', trodAll_mk1 (shut_bool Tryd.underlying4 _), (trodAll_cons_mk (Below.trod laidOut (by kernel_rfl) (of_decide_eq_true (by kernel_rfl)) h0 bel lt0) (trodAll_cons_mk (Below.trod laidOut (by kernel_rfl) (of_decide_eq_true (by kernel_rfl)) h1 bel lt1) (trodAll_cons_mk (Below.trod laidOut (by kernel_rfl) (of_decide_eq_true (by kernel_rfl)) h2 bel lt2) trodAll_mk0))), rfl, bel.frame _, fun h => by cases h⟩
theorem over : Rows.tellUnlikeRow.holds Tryd.pinned (OpenSpec.ofChange Rows.tellUnlikeSpec) :=
  OpenClaim.holds_of_wide 5 Tryd.f5 rfl rfl rfl rfl rfl rfl rfl ⟨rfl, rfl, rfl, rfl, rfl⟩ rfl rfl rfl rfl rfl (by kernel_rfl) Tryd.func5 (by kernel_rfl)
    (of_decide_eq_true (by kernel_rfl)) (by unfold Func.isWrapper; first | (rw [if_pos (by decide +kernel)]; kernel_rfl) | (rw [if_neg (by decide +kernel)]; exact ⟨rfl, rfl⟩))
    (fun os started H enc _ => lifted os started H enc)
theorem card : Claim7.holds Tryd.pinned (.plain (OpenSpec.ofChange Rows.tellUnlikeSpec)) Rows.tellUnlikeCard :=
  Claim7.holds_tied_plain_at .later [] [.data, .data, .data, .data, .data] true (true, "67eb04191624dfdfe568894d3c78be0a093b17674466ca91d9c9ec18852b98f9") false
    over (fun _ h => by cases h) (by kernel_rfl) (fun _ h => by cases h) tellUnlike_row_tie rfl ⟨rfl, rfl⟩ (by kernel_rfl) rfl
    (fun f fn hf hfn => by
      obtain rfl : f = 5 := Option.some.inj ((show Tryd.prog.funcNamed "chantry/chantrylaw40.TellUnlike" = some 5 by kernel_rfl).symm.trans hf) |>.symm
      obtain rfl : fn = Tryd.f5 := (Option.some.inj (Tryd.func5.symm.trans hfn)).symm
      exact ⟨by kernel_rfl, fun j t ht => by
        rw [Tryd.params5] at ht
        have hm : t ∈ [31, 31, 46] := by simpa using Array.mem_of_getElem? ht
        have hall : ([31, 31, 46].all fun u => !Tryd.prog.wantsStandIn u) = true := by kernel_rfl
        exact (show Tryd.prog.wantsStandIn t = false by simpa using List.all_eq_true.1 hall t hm)⟩)
    (by kernel_rfl)
theorem proved : Rows.TellUnlikeCardSaid := card
#print axioms proved
end Go.Proofs.YtkldpkoieahopaaDoor.tellUnlike
namespace Go.Proofs.YtkldpkoieahopaaDoor
/-- The card, under a short name, for the claim. -/
theorem tellUnlike_holds : Rows.TellUnlikeCardSaid := tellUnlike.proved
end Go.Proofs.YtkldpkoieahopaaDoor

