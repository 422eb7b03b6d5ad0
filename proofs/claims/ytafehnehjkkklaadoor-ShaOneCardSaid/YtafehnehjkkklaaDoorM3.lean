/- Lemmas for the proof of a given statement; no conditions. -/
import Derived.Test.YtafehnehjkkklaaDoorM2
import Derived.ChangeVars
import Derived.OpenShut
import Derived.MakeChecks
namespace Go.AS
open Go Go.RowKit Go.WideShapes
set_option linter.unusedVariables false
set_option linter.unusedSimpArgs false

/-! Package variables that are only read: the first G blocks. -/

/-- Rows of values that lead nowhere, read only. -/
def gloB : Blk → Bool
  | .row cs .ro 0 false => cs.all fun v => flatV v && v.oneCell'
  | _ => false

theorem gloB_row {b : Blk} (h : gloB b = true) : ∃ cs, b = .row cs .ro 0 false ∧ ∀ v ∈ cs, flatV v = true ∧ v.oneCell' = true := by
  unfold gloB at h
  split at h
  · rw [List.all_eq_true] at h
    exact ⟨_, rfl, fun v hv => by simpa using h v hv⟩
  · cases h

section
variable {G : Nat} {P : Program} {w : World}
/-- One variable more. -/
theorem Rel.addGlo {μ : Mu} {A : AH} (h : Rel 0 μ A w) (hno : ∀ (i : Nat) b, A[i]? = some b → b.isOwn = false) {b : Nat} {cs : List Value} {rc : Array Value} {T : TypeId} {fr : Nat × Nat}
    (hb : w.heap[b]? = some (.cells rc T fr)) (hc : rc.toList = cs) (hf : ∀ v ∈ cs, flatV v = true ∧ v.oneCell' = true) : Rel 0 (μ ++ [⟨b, 0, cs.length, 0⟩]) (A ++ [.row cs .ro 0 false]) w := by
  subst hc
  refine h.addRo hno (o := 0) hb ?_ (Nat.le_refl _)
  intro j v hj
  have := hf v (List.mem_of_getElem? hj)
  exact ⟨this.2, by rw [Nat.zero_add]; simpa using hj, this.1⟩
theorem Rel.glo_up {μ : Mu} {A : AH} (h : Rel 0 μ A w) (hg : ∀ g, g < G → ∃ e : Ent, μ[g]? = some e ∧ e.blk = g ∧ e.off = 0) : Rel G μ A w :=
  ⟨h.len, hg, h.lt, h.row, h.szs, h.sit, h.mp, h.apart⟩

/-- A call with arguments that lead nowhere, that was run in the heap of the package variables alone, does the same in any heap, and leaves it as it is. -/
theorem ACalls.closedG {A0 : AH} (hG : A0.length = G) (hro : A0.all gloB = true) {f : FuncId} {args : List Value} {v : Value} (ha : args.all flatV = true) (hv : flatV v = true) {A : AH} (hle : Le A0 A) {Q : Value → AH → Prop} (h : ACalls G P f args (fun u _ => u = v) A0) (hq : Q v A) : ACalls G P f args Q A := by
  intro μ args' w hr h1 h2
  obtain ⟨s, rfl⟩ := hle
  have hlen := hr.len
  rw [List.length_append] at hlen
  have hall : ∀ (i : Nat) b, A0[i]? = some b → ∃ cs, b = .row cs .ro 0 false ∧ ∀ v ∈ cs, flatV v = true ∧ v.oneCell' = true := fun i b hb => gloB_row (List.all_eq_true.1 hro b (List.mem_of_getElem? hb))
  have up : ∀ {i : Nat} {b : Blk}, A0[i]? = some b → (A0 ++ s)[i]? = some b := fun hb => by
    rw [List.getElem?_append_left (lt_of_get hb), hb]
  have dn : ∀ {i : Nat} {e : Ent}, (μ.take A0.length)[i]? = some e → μ[i]? = some e ∧ i < A0.length := fun he => by
    have := lt_of_get he
    rw [List.length_take] at this
    rw [List.getElem?_take_of_lt (by omega)] at he
    exact ⟨he, by omega⟩
  have hr0 : Rel G (μ.take A0.length) A0 w := by
    refine ⟨by simp; omega, ?_, ?_, ?_, ?_, ?_, ?_, ?_⟩
    · intro g hg
      obtain ⟨e, g1, g2, g3⟩ := hr.glo g hg
      exact ⟨e, by rw [List.getElem?_take_of_lt (by omega)]; exact g1, g2, g3⟩
    · intro i e he; exact hr.lt i e (dn he).1
    · intro i cs st sz ex e hb he hst
      obtain ⟨cs', e1, e2⟩ := hall i _ hb
      obtain ⟨rc, T, fr, g1, g2, g3, g4⟩ := hr.row i cs st sz ex e (up hb) (dn he).1 hst
      injection e1 with e3 e4 e5 e6
      subst e3 e4
      refine ⟨rc, T, fr, g1, fun j v hj => ?_, g3, fun h => by cases h⟩
      obtain ⟨q1, v', q2, q3⟩ := g2 j v hj
      have hf := e2 v (List.mem_of_getElem? hj)
      rw [q3.eq_of_flat hf.1] at q2
      exact ⟨q1, v, q2, .flat hf.1⟩
    · intro i cs st sz ex e hb he; exact hr.szs i cs st sz ex e (up hb) (dn he).1
    · intro i t p e hb he
      obtain ⟨cs', e1, _⟩ := hall i _ hb
      cases e1
    · intro i es e hb he
      obtain ⟨cs', e1, _⟩ := hall i _ hb
      cases e1
    · intro i k b b' e e' hb hb' ho ha2 hne he he'
      obtain ⟨cs', e1, _⟩ := hall i _ hb
      subst e1
      cases ho
  refine (h (μ.take A0.length) args' w hr0 h1 (fun j u u' hu hu' => ?_)).mono ?_
  · have hf := (List.all_eq_true.1 ha) u (List.mem_of_getElem? hu)
    rw [(h2 j u u' hu hu').eq_of_flat hf]
    exact .flat hf
  rintro e w' ⟨u, u', μ', A', rfl, hu, hr', hs, rfl⟩
  have hk : ∀ r, r < w.heap.size → w'.heap[r]? = w.heap[r]? := fun r hr1 => hs.keep r hr1 (by
    intro i b e hb ho
    obtain ⟨cs', e1, _⟩ := hall i _ hb
    subst e1
    cases ho)
  refine ⟨u, u', μ, A0 ++ s, rfl, ?_, ?_, ?_, hq⟩
  · rw [hu.eq_of_flat hv]; exact .flat hv
  · refine ⟨hr.len, hr.glo, ?_, ?_, hr.szs, ?_, ?_, hr.apart⟩
    · intro i e he
      exact Nat.lt_of_lt_of_le (hr.lt i e he) hs.size
    · intro i cs st sz ex e hb he hst
      obtain ⟨rc, T, fr, g1, g2⟩ := hr.row i cs st sz ex e hb he hst
      exact ⟨rc, T, fr, by rw [hk _ (hr.lt i e he)]; exact g1, g2⟩
    · intro i s p e hb he
      rw [hk _ (hr.lt i e he)]; exact hr.sit i s p e hb he
    · intro i es e hb he
      rw [hk _ (hr.lt i e he)]; exact hr.mp i es e hb he
  · exact ⟨⟨[], by simp⟩, hs.os, hs.tape, hs.output, hs.size, fun r hr1 _ => hk r hr1, fun i b e hb ho he _ => ⟨i, b, e, hb, ho, he, rfl⟩⟩
theorem ACalls.runG (hm : P.follows .mixedOrders = true) {A0 : AH} (hG : A0.length = G) (hro : A0.all gloB = true) {tab : List (Nat × CodeE)} (ht : ∀ p ∈ tab, Fits P G p.1 p.2.ic p.2.rs p.2.np) {n d : Nat} {f : FuncId} {args : List Value} {v : Value} (h : (runF P tab n d f args A0).map (·.1) = some v) (ha : args.all flatV = true) (hv : flatV v = true)
    {A : AH} (hle : Le A0 A) {Q : Value → AH → Prop} (hq : Q v A) : ACalls G P f args Q A := by
  rw [Option.map_eq_some_iff] at h
  obtain ⟨⟨u, A'⟩, h, rfl⟩ := h
  exact ACalls.closedG hG hro ha hv hle (runF_ok hm ht n d f args A0 u A' h _ rfl) hq

variable {H : Type} {enc : TypeId × Value → H} {base : Nat} {held : Bool}
/-- A LAW'S ENTRY where there are package variables. -/
theorem calls_of_trodG {F b0 : Nat} {ts : List TypeId} {args : Array Value} {ds : List (DataW H)} {ps : List MemPlace} {f : FuncId} {μ0 : Mu} {A0 : AH} (h0 : Rel 0 μ0 A0 w) (hno : ∀ (i : Nat) b, A0[i]? = some b → b.isOwn = false) (hg : ∀ g, g < G → ∃ e : Ent, μ0[g]? = some e ∧ e.blk = g ∧ e.off = 0)
    (hts : ts.all (fun t => dataT P F t) = true) (ht : DataW.TrodAll enc P w base (fun _ => true) held ts args.toList ds ps) (hw : ∀ n ∈ DataW.weightsEach P ts ds, n ≤ reachBytes)
    (hv : ∀ (j : Nat) t v, ts[j]? = some t → args[j]? = some v → Value.okWide P w .any b0 t v)
    (h : ∀ (us : List Value) (A : AH), us.length = ts.length → Le A0 A → (∀ (j : Nat) t u, ts[j]? = some t → us[j]? = some u → GoodV P A F t u) → ACalls G P f us (fun v _ => v = .bool true) A) :
    Calls P f args w fun e w' => e = .returned (.bool true) ∧ Below w.heap.size w w' := by
  rw [List.all_eq_true] at hts
  obtain ⟨μ, A, us, g1, g2, g3, g4, g5⟩ := open_all ts args.toList ds ps μ0 A0 hts ht hw (fun j t v a b => hv j t v a (by simpa using b)) h0 hno
  have hrel : Rel G μ A w := g1.rel.glo_up (fun g hgg => by
    obtain ⟨e, e1, e2, e3⟩ := hg g hgg
    obtain ⟨r, rfl⟩ := g1.pre
    exact ⟨e, pre_get e1, e2, e3⟩)
  refine (h us A g2 g1.le g5 μ args w hrel (by rw [g2, ← g3, Array.length_toList]) (fun j u v a b => g4 j u v a (by simpa using b))).mono ?_
  rintro e w' ⟨v, v', μ', A', rfl, hv, hr', hs, rfl⟩
  obtain rfl := hv.bool
  refine ⟨rfl, hs.os, hs.tape, hs.output, hs.size, fun k hk => hs.keep k hk ?_⟩
  intro i b e hb ho
  rw [g1.noOwn i b hb] at ho
  cases ho
end
end Go.AS

namespace Go.AS
open Go Go.RowKit Go.WideShapes
set_option linter.unusedVariables false
set_option linter.unusedSimpArgs false

/-! What a laid variable gives: a table of numbers. -/

section
variable {H : Type} {enc : TypeId × Value → H} {P : Program} {w : World}
theorem var_block {n : String} {g : Nat} {cs : Array Value} (hg : P.globalNamed n = some g) (h : w.var? P n = some cs) : ∃ T fr, w.heap[g]? = some (.cells cs T fr) := by
  simp only [World.var?, hg, Option.bind_some] at h
  split at h
  · injection h with h
    subst h
    exact ⟨_, _, by assumption⟩
  · cases h
theorem glo_ints {b0 f : Nat} {sp : Nat → Bool} {held : Bool} {t e : TypeId} {k : IntKind} {l : List Int} {N : Nat} {cs : List Value} {p : List MemPlace} (ht : P.underlying t = some (.array N e)) (he : P.underlying e = some (.int k)) (hce : P.cellsOf e = 1) (hct : P.cellsOf t = N)
    (h : DataW.trod enc P w b0 sp held f t cs = some (.agg (l.map fun n => .lit (.int k n)), p)) : cs = l.map fun n => .int k n := by
  obtain ⟨xs, m, rfl, hx, hlen, hn, hel⟩ := DataW.trod_array ht h
  rw [hce] at hel
  rw [hct] at hlen
  simp only [Prod.mk.injEq, DataW.agg.injEq] at hx
  have hl : l.length = N := by rw [← hn, ← List.length_map (f := fun n => (DataW.lit (.int k n) : DataW H)), hx.1, List.length_map]
  apply List.ext_getElem?
  intro j
  rcases Nat.lt_or_ge j N with hj | hj
  · have h1 := hel j hj
    have h2 : ((cs.drop (j * 1)).take 1) = [cs[j]'(by omega)] := by
      rw [Nat.mul_one, List.drop_eq_getElem_cons (by omega)]
      rfl
    rw [h2] at h1
    have hxj : j < xs.length := by omega
    rw [List.getElem?_eq_getElem hxj] at h1
    obtain ⟨n, e1, e2, _⟩ := DataW.trod_int he h1
    have h3 : (xs.map (·.1))[j]? = some (.lit (.int k n)) := by rw [List.getElem?_map, List.getElem?_eq_getElem hxj, Option.map_some, e2]
    rw [← hx.1, List.getElem?_map, List.getElem?_eq_getElem (by omega)] at h3
    simp only [Option.map_some, Option.some.injEq, DataW.lit.injEq, Lit.int.injEq, true_and] at h3
    rw [List.getElem?_map, List.getElem?_eq_getElem (by omega), List.getElem?_eq_getElem (by omega), Option.map_some, h3]
    rw [List.cons.injEq] at e1
    rw [e1.1]
  · rw [List.getElem?_eq_none (by omega), List.getElem?_eq_none (by simp; omega)]
/-- One table of numbers is laid. -/
theorem laid_ints {n : String} {g : Nat} {t e : TypeId} {k : IntKind} {l : List Int} {N : Nat} (hg : P.globalNamed n = some g) (hgt : (P.globals[g]?).map (·.type) = some t) (ht : P.underlying t = some (.array N e)) (he : P.underlying e = some (.int k)) (hce : P.cellsOf e = 1) (hct : P.cellsOf t = N)
    (h : laidMetH P [(n, .agg (l.map fun m => .lit (.int k m)))] w) : ∃ rc T fr, w.heap[g]? = some (.cells rc T fr) ∧ rc.toList = l.map fun m => .int k m := by
  rw [MakeChecks.laidMetH_plain _ _ _ (by rfl)] at h
  obtain ⟨ps, ⟨g0, t0, cs0, f0, p0, q0, hg0, ht0, hv0, hd0, _⟩, _⟩ := h
  obtain rfl := Option.some.inj (hg.symm.trans hg0)
  obtain rfl := Option.some.inj (hgt.symm.trans ht0)
  obtain ⟨T, fr, hb⟩ := var_block hg hv0
  exact ⟨cs0, T, fr, hb, glo_ints ht he hce hct hd0⟩
theorem rel_none : Rel 0 [] [] w := by
  refine ⟨rfl, fun g hg => by omega, ?_, ?_, ?_, ?_, ?_, ?_⟩ <;> · intros; simp_all
end
end Go.AS
