import Derived.Test.YtgeoeagohhojbaaAs14
import Derived.Scope
namespace Go.AS
open Go
set_option linter.unusedVariables false
set_option linter.unusedSimpArgs false

/-- A call, told of abstract states: it returns, and Q holds of what it returns and of the heap behind it. -/
def ACalls (G : Nat) (P : Program) (f : FuncId) (args : List Value) (Q : Value → AH → Prop) (A : AH) : Prop :=
  ∀ (μ : Mu) (args' : Array Value) (w : World), Rel G μ A w → args'.size = args.length → (∀ (j : Nat) v v', args[j]? = some v → args'[j]? = some v' → VR μ v v') →
    Calls P f args' w fun e w' => ∃ v v' μ' A', e = .returned v' ∧ VR μ' v v' ∧ Rel G μ' A' w' ∧ Stp μ A w μ' A' w' ∧ Q v A'

theorem ACalls.mono {G : Nat} {P : Program} {f : FuncId} {args : List Value} {Q Q' : Value → AH → Prop} {A : AH} (h : ACalls G P f args Q A) (hq : ∀ v A', Q v A' → Q' v A') : ACalls G P f args Q' A :=
  fun μ args' w h1 h2 h3 => (h μ args' w h1 h2 h3).mono fun e w' ⟨v, v', μ', A', a, b, c, d, q⟩ => ⟨v, v', μ', A', a, b, c, d, hq _ _ q⟩

def Le (A A' : AH) : Prop := ∃ r, A' = A ++ r
theorem Le.refl (A : AH) : Le A A := ⟨[], by simp⟩
theorem Le.trans {A B C : AH} (h : Le A B) (k : Le B C) : Le A C := by
  obtain ⟨r, rfl⟩ := h
  obtain ⟨s, rfl⟩ := k
  exact ⟨r ++ s, by simp⟩
theorem Le.get {A B : AH} (h : Le A B) {i : Nat} {b : Blk} (hb : A[i]? = some b) : B[i]? = some b := by
  obtain ⟨r, rfl⟩ := h
  rw [List.getElem?_append_left (lt_of_get hb), hb]
theorem Le.push (A : AH) (b : Blk) : Le A (A ++ [b]) := ⟨[b], rfl⟩
theorem Le.len {A B : AH} (h : Le A B) : A.length ≤ B.length := by
  obtain ⟨r, rfl⟩ := h
  simp

def wantedA (a : AT) : Option (Nat × Bool) → Bool
  | none => true
  | some (t, want) => match a t with
    | .bool b => b == want
    | _ => false

def calleeOk (P : Program) (f : FuncId) : Bool :=
  match P.funcs[f]? with
  | some fn => fn.body.isSome && fn.name != "runtime.NumGoroutine"
  | none => false

/-- What an operation must give: a call by its contract, all else by 'step'. -/
def W1 (G : Nat) (P : Program) (a : AT) (A : AH) (o : AOp) (K : Value → AH → Prop) : Prop :=
  match o with
  | .call f args => ACalls G P f (args.map (ev a)) K A
  | .calld f args => match ev a f with
    | .func (.func g) first captured => calleeOk P g = true ∧ ACalls G P g (first.toList ++ args.map (ev a) ++ captured.toList) K A
    | _ => False
  | o => ∃ v A', step (ev a) A o = some (v, A') ∧ K v A'

def Wops (G : Nat) (P : Program) (Q : AT → AH → Prop) : List IOp → AT → AH → Prop
  | [], a, A => Q a A
  | o :: r, a, A => if wantedA a o.guard then W1 G P a A o.op (fun v A' => (o.le = true → Le A A') ∧ Wops G P Q r (put a o.dst v) A') else Wops G P Q r (put a o.dst undef) A

def thenA (next : AT → AH → Prop) (Q : Exit → AT → AH → Prop) : Exit → AT → AH → Prop
  | .normal, a, A => next a A
  | e, a, A => Q e a A
def inBlockA (id : Nat) (Q : Exit → AT → AH → Prop) : Exit → AT → AH → Prop
  | .exit id', a, A => if id' = id then Q .normal a A else Q (.exit id') a A
  | e, a, A => Q e a A
def noGotoA (Q : Exit → AT → AH → Prop) : Exit → AT → AH → Prop
  | .goto _, _, _ => False
  | e, a, A => Q e a A

/-- The weakest precondition of abstract code. -/
def W (G : Nat) (P : Program) : IC → (Exit → AT → AH → Prop) → AT → AH → Prop
  | .skip, Q, a, A => Q .normal a A
  | .ops l, Q, a, A => Wops G P (Q .normal) l a A
  | .draw l, Q, a, A => Wops G P (Q .normal) l a A
  | .seq x y, Q, a, A => W G P x (thenA (W G P y Q) Q) a A
  | .cond c x y, Q, a, A => match ev a c with
    | .bool b => if b then W G P x Q a A else W G P y Q a A
    | _ => False
  | .block id x, Q, a, A => W G P x (inBlockA id Q) a A
  | .loop x, Q, a, A => ∃ (I : AT → AH → Prop) (m : AT → AH → Nat), I a A ∧ ∀ a A, I a A → W G P x (thenA (fun a' A' => I a' A' ∧ m a' A' < m a A) Q) a A
  | .exit id, Q, a, A => Q (.exit id) a A
  | .ret, Q, a, A => Q .ret a A
  | .scope x, Q, a, A => W G P x (noGotoA Q) a A

/-- The machine's code does what is said of abstract states. -/
def AW (G : Nat) (P : Program) (N : Nat) (c : Code) (Q : Exit → AT → AH → Prop) (a : AT) (A : AH) : Prop :=
  ∀ (μ : Mu) (r : Act) (w : World), Rel G μ A w → ActR μ N a r →
    c.wp P (fun e r' w' => ∃ μ' a' A', Rel G μ' A' w' ∧ ActR μ' N a' r' ∧ Stp μ A w μ' A' w' ∧ Q e a' A' ∧ (e = .normal ∨ e = .ret ∨ ∃ i, e = .exit i)) r w

section
variable {G : Nat} {P : Program} {N : Nat}

theorem ACalls.apply {f : FuncId} {args : List Value} {Q : Value → AH → Prop} {A : AH} (h : ACalls G P f args Q A) {μ : Mu} {w : World} {args' : Array Value} (hr : Rel G μ A w) (h1 : args'.size = args.length)
    (h2 : ∀ (j : Nat) v v', args[j]? = some v → args'[j]? = some v' → VR μ v v') :
    Calls P f args' w fun e w' => ∃ v v' μ' A', e = .returned v' ∧ VR μ' v v' ∧ Rel G μ' A' w' ∧ Stp μ A w μ' A' w' ∧ Q v A' := h μ args' w hr h1 h2

/-- An operation in the machine, by what is said of it. -/
def W1R (P : Program) (o : Oper) (r : Act) (w : World) (K : Value → World → Prop) : Prop :=
  ∀ (next : Act → World → Prop) (Q : Exit → Act → World → Prop), (∀ v w', K v w' → next (r.put o.dst v) w') → o.wp P r w next Q

theorem run_callFunc {f : FuncId} (h : calleeOk P f = true) (args : Array Value) (w : World) : (callFunc f args).run P w = .ok (.enter f args) w := by
  unfold calleeOk at h
  unfold callFunc
  rw [Sem.run_bind, run_program, Result.andThen_ok]
  split at h
  · rename_i fn hf
    rw [Bool.and_eq_true] at h
    obtain ⟨h1, h2⟩ := h
    rw [bne_iff_ne] at h2
    simp only [hf]
    rw [if_neg (by simpa using h2), if_neg (by cases hb : fn.body <;> simp_all)]
    rfl
  · cases h

theorem run_call {o : Oper} {c : Call} {fv : Operand} {ρ' : Operand → Value} {g : FuncId} {first captured : Array Value} (ho : o.op = .call c) (hc : c.callee = .value fv) (hf : ρ' fv = .func (.func g) first captured) (hok : calleeOk P g = true) (w : World) :
    (execOp ρ' o).run P w = .ok (.enter g (first ++ c.args.map ρ' ++ captured)) w := by
  unfold execOp
  simp only [ho]
  unfold resolve
  simp only [hc]
  unfold Deferred.ofValue
  simp only [hf, Sem.run_bind, Sem.run_pure, Result.andThen_ok]
  unfold invoke
  simp only [run_callFunc hok]

theorem getElem?_append3 {α : Type} {a b c a' b' c' : List α} {R : α → α → Prop} (h1 : a.length = a'.length) (h2 : b.length = b'.length) (h3 : c.length = c'.length)
    (k1 : ∀ (j : Nat) x y, a[j]? = some x → a'[j]? = some y → R x y) (k2 : ∀ (j : Nat) x y, b[j]? = some x → b'[j]? = some y → R x y) (k3 : ∀ (j : Nat) x y, c[j]? = some x → c'[j]? = some y → R x y) :
    ∀ (j : Nat) x y, (a ++ b ++ c)[j]? = some x → (a' ++ b' ++ c')[j]? = some y → R x y := by
  intro j x y hx hy
  simp only [List.append_assoc, List.getElem?_append] at hx hy
  rw [h1, h2] at hx
  split at hx
  · rw [if_pos (by assumption)] at hy; exact k1 _ _ _ hx hy
  · rw [if_neg (by assumption)] at hy
    split at hx
    · rw [if_pos (by assumption)] at hy; exact k2 _ _ _ hx hy
    · rw [if_neg (by assumption)] at hy; exact k3 _ _ _ hx hy

/-- An operation, a call too, with its types looked up. -/
def cAny (P : Program) (o : Op) : Option AOp :=
  let other := (cOp P o).bind fun op => if isCall op then none else some op
  match o with
  | .call c => match c.callee with
    | .value (.func g) => if calleeOk P g then some (.call g c.args.toList) else none
    | .value f => some (.calld f c.args.toList)
    | _ => other
  | _ => other

theorem cAny_some {o : Op} {op : AOp} (h : cAny P o = some op) :
    (isCall op = false ∧ cOp P o = some op) ∨ (∃ c g, o = .call c ∧ c.callee = .value (.func g) ∧ calleeOk P g = true ∧ op = .call g c.args.toList) ∨ (∃ c f, o = .call c ∧ c.callee = .value f ∧ op = .calld f c.args.toList) := by
  have hoth : ((cOp P o).bind fun op => if isCall op then none else some op) = some op → isCall op = false ∧ cOp P o = some op := by
    intro h
    rw [Option.bind_eq_some_iff] at h
    obtain ⟨op', h1, h2⟩ := h
    split at h2
    · cases h2
    · rename_i hn
      obtain rfl := Option.some.inj h2
      exact ⟨by simpa using hn, h1⟩
  unfold cAny at h
  cases o with
  | call c =>
    simp only at h
    cases hcal : c.callee with
    | value fv =>
      rw [hcal] at h
      cases fv with
      | func g =>
        simp only at h
        split at h
        · rename_i hok
          exact .inr (.inl ⟨c, g, rfl, hcal, hok, (Option.some.inj h).symm⟩)
        · cases h
      | _ => exact .inr (.inr ⟨c, _, rfl, hcal, (Option.some.inj h).symm⟩)
    | invoke r m => rw [hcal] at h; exact .inl (hoth h)
    | builtin b => rw [hcal] at h; exact .inl (hoth h)
  | _ => exact .inl (hoth h)

theorem args_rel {μ : Mu} {a : AT} {r : Act} (l : Array Operand) (h : ∀ x ∈ l.toList, VR μ (ev a x) (r.eval x)) : (l.toList.map (ev a)).length = (l.map r.eval).toList.length ∧ ∀ (j : Nat) x y, (l.toList.map (ev a))[j]? = some x → (l.map r.eval).toList[j]? = some y → VR μ x y := by
  refine ⟨by simp, fun j x y hx hy => ?_⟩
  simp only [Array.toList_map, List.getElem?_map, Option.map_eq_some_iff] at hx hy
  obtain ⟨p, hp, rfl⟩ := hx
  obtain ⟨q, hq, rfl⟩ := hy
  rw [hp] at hq
  obtain rfl := Option.some.inj hq
  exact h p (List.mem_of_getElem? hp)

theorem W1_sound {a : AT} {A : AH} {o : Oper} {op : AOp} {K : Value → AH → Prop} {μ : Mu} {r : Act} {w : World} (hc : cAny P o.op = some op) (hr : Rel G μ A w)
    (hρ : ∀ x ∈ o.op.operands.toList, VR μ (ev a x) (r.eval x)) (hw : W1 G P a A op K) : W1R P o r w (fun v' w' => ∃ v μ' A', VR μ' v v' ∧ Rel G μ' A' w' ∧ Stp μ A w μ' A' w' ∧ K v A') := by
  intro next Q hnext
  unfold Oper.wp
  rcases cAny_some hc with ⟨h1, h2⟩ | ⟨c, g, h1, h2, h3, rfl⟩ | ⟨c, f, h1, h2, rfl⟩
  · have hw' : ∃ v A', step (ev a) A op = some (v, A') ∧ K v A' := by
      unfold W1 at hw
      split at hw
      · simp [isCall] at h1
      · simp [isCall] at h1
      · exact hw
    obtain ⟨v, A', hs, hK⟩ := hw'
    obtain ⟨v', μ', w', hrun, hv, hr', hst⟩ := cOp_sound h2 hr hρ (fun _ => rfl) h1 hs
    rcases hrun with hrun | ⟨hrun, rfl⟩
    · rw [hrun, Oper.upon_value]
      exact hnext _ _ ⟨v, μ', A', hv, hr', hst, hK⟩
    · rw [hrun, Oper.upon_skip]
      exact hnext _ _ ⟨v, μ', A', hv, hr', hst, hK⟩
  · have hargs : ∀ x ∈ c.args.toList, VR μ (ev a x) (r.eval x) := fun x hx => hρ x (by
      rw [h1]; simp only [Op.operands, Call.operands, Array.toList_append, List.mem_append]; exact .inr hx)
    have hrun := run_call (P := P) (ρ' := r.eval) h1 h2 (g := g) (first := #[]) (captured := #[]) rfl h3 w
    rw [hrun, Oper.upon_enter]
    obtain ⟨k1, k2⟩ := args_rel c.args hargs
    simp only [W1] at hw
    refine (hw.apply (args' := #[] ++ c.args.map r.eval ++ #[]) hr (by simp) (by simpa using k2)).mono ?_
    rintro e w' ⟨v, v', μ', A', rfl, hv, hr', hst, hK⟩
    exact hnext _ _ ⟨v, μ', A', hv, hr', hst, hK⟩
  · have hargs : ∀ x ∈ c.args.toList, VR μ (ev a x) (r.eval x) := fun x hx => hρ x (by
      rw [h1]; simp only [Op.operands, Call.operands, Array.toList_append, List.mem_append]; exact .inr hx)
    have hfv : VR μ (ev a f) (r.eval f) := hρ f (by
      rw [h1]; simp only [Op.operands, Call.operands, h2, Array.toList_append, List.mem_append]; exact .inl (by simp))
    simp only [W1] at hw
    split at hw
    · rename_i g first captured heq
      obtain ⟨hok, hw⟩ := hw
      rw [heq] at hfv
      have : ∃ first' captured', r.eval f = .func (.func g) first' captured' ∧ first.size = first'.size ∧ (∀ (j : Nat) x y, first[j]? = some x → first'[j]? = some y → VR μ x y) ∧
          captured.size = captured'.size ∧ (∀ (j : Nat) x y, captured[j]? = some x → captured'[j]? = some y → VR μ x y) := by
        generalize r.eval f = u at hfv
        cases hfv with
        | flat h => simp [flatV] at h
        | func hf q1 q2 q3 q4 => exact ⟨_, _, rfl, q1, q2, q3, q4⟩
      obtain ⟨first', captured', hev, q1, q2, q3, q4⟩ := this
      have hrun := run_call (P := P) (ρ' := r.eval) h1 h2 hev hok w
      rw [hrun, Oper.upon_enter]
      obtain ⟨k1, k2⟩ := args_rel c.args hargs
      refine (hw.apply (args' := first' ++ c.args.map r.eval ++ captured') hr (by simp; omega) ?_).mono ?_
      · have := getElem?_append3 (R := VR μ) (a := first.toList) (b := c.args.toList.map (ev a)) (c := captured.toList) (a' := first'.toList) (b' := (c.args.map r.eval).toList) (c' := captured'.toList)
          (by simpa using q1) k1 (by simpa using q3) (fun j x y hx hy => q2 j x y (by simpa using hx) (by simpa using hy)) k2 (fun j x y hx hy => q4 j x y (by simpa using hx) (by simpa using hy))
        intro j x y hx hy
        refine this j x y hx ?_
        rw [← hy]
        simp [← Array.getElem?_toList]
      · rintro e w' ⟨v, v', μ', A', rfl, hv, hr', hst, hK⟩
        exact hnext _ _ ⟨v, μ', A', hv, hr', hst, hK⟩
    · exact hw.elim

/-- An operation of a region, with its types looked up. -/
def cIOp (P : Program) (G N : Nat) (ops : Array Oper) (o : Oper) : Option IOp :=
  if o.op.operands.toList.all (opOk G N) then
    (cAny P o.op).bind fun op =>
      match o.guard with
      | none => some ⟨o.dst, none, false, op⟩
      | some (j, want) => match (ops[j]?).bind (·.dst) with
        | some t => if t < N then some ⟨o.dst, some (t, want), false, op⟩ else none
        | none => none
  else none

theorem wanted_rel {ops : Array Oper} {o : Oper} {io : IOp} {a : AT} {r : Act} {μ : Mu} (h : cIOp P G N ops o = some io) (ha : ActR μ N a r) : Region.wanted o (yielded ops r.tmps) = wantedA a io.guard ∧ io.dst = o.dst ∧ io.le = false ∧ cAny P o.op = some io.op ∧ (∀ x ∈ o.op.operands.toList, opOk G N x = true) := by
  unfold cIOp at h
  split at h
  · rename_i hall
    rw [List.all_eq_true] at hall
    rw [Option.bind_eq_some_iff] at h
    obtain ⟨op, h1, h2⟩ := h
    unfold Region.wanted
    split at h2
    · rename_i hg
      injection h2 with h2; subst h2
      rw [hg]
      exact ⟨rfl, rfl, rfl, h1, hall⟩
    · rename_i j want hg
      split at h2
      · rename_i t ht
        split at h2
        · rename_i htN
          injection h2 with h2; subst h2
          rw [hg]
          refine ⟨?_, rfl, rfl, h1, hall⟩
          have hlt : t < r.tmps.size := by rw [ha.size]; exact htN
          have hv := ha.vals t _ (Array.getElem?_eq_getElem hlt)
          simp only [yielded, ht, Option.bind_some, Array.getElem?_eq_getElem hlt, wantedA]
          generalize r.tmps[t] = u at hv
          generalize a t = b at hv
          cases hv with
          | flat h =>
            cases u <;> first | rfl | (rename_i q; cases q <;> cases want <;> rfl)
          | _ => rfl
        · cases h2
      · cases h2
  · cases h

def cIOps (P : Program) (G N : Nat) (ops : Array Oper) : List Oper → Option (List IOp)
  | [] => some []
  | o :: r => (cIOp P G N ops o).bind fun i => (cIOps P G N ops r).map (i :: ·)

/-- The operations in the text's order. -/
theorem Wops_sound {ops : Array Oper} {Q : AT → AH → Prop} {Q' : Exit → Act → World → Prop} {μ0 : Mu} {A0 : AH} {w0 : World}
    (hQ : ∀ μ a A r w, Rel G μ A w → ActR μ N a r → Stp μ0 A0 w0 μ A w → Q a A → Q' .normal r w) :
    ∀ (l : List Oper) (il : List IOp) (k : Nat) (μ : Mu) (a : AT) (A : AH) (r : Act) (w : World), cIOps P G N ops l = some il → ops.toList.drop k = l → Rel G μ A w → ActR μ N a r → Stp μ0 A0 w0 μ A w → Wops G P Q il a A →
      wpOps P ops Q' (List.range' k l.length) r w
  | [], il, k, μ, a, A, r, w, hc, hd, hr, ha, hst, hw => by
    simp only [cIOps, Option.some.injEq] at hc
    subst hc
    exact hQ _ _ _ _ _ hr ha hst hw
  | o :: l, il, k, μ, a, A, r, w, hc, hd, hr, ha, hst, hw => by
    simp only [cIOps, Option.bind_eq_some_iff, Option.map_eq_some_iff] at hc
    obtain ⟨io, h1, il', h2, rfl⟩ := hc
    have hk : ops[k]? = some o := by
      have : ops.toList[k]? = some o := by
        have := congrArg (·[0]?) hd
        simpa using this
      simpa using this
    have hd' : ops.toList.drop (k + 1) = l := by
      have := congrArg (List.drop 1) hd
      simpa [List.drop_drop, Nat.add_comm] using this
    rw [List.length_cons, List.range'_succ]
    simp only [wpOps, hk]
    obtain ⟨g1, g2, g3, g4, g5⟩ := wanted_rel h1 ha
    rw [g1]
    simp only [Wops] at hw
    split at hw
    · rename_i hwa
      rw [hwa]
      simp only [if_true]
      left
      refine W1_sound g4 hr (fun x hx => ha.ev hr (g5 x hx)) hw _ _ ?_
      rintro v' w' ⟨v, μ', A', hv, hr', hst', _, hK⟩
      obtain ⟨q, rfl⟩ := hst'.pre
      refine Wops_sound hQ l il' (k + 1) _ _ A' _ w' h2 hd' hr' ?_ (hst.trans hst') hK
      rw [g2]
      exact (ha.mono).put o.dst hv
    · rename_i hwa
      rw [if_neg hwa]
      refine Wops_sound hQ l il' (k + 1) _ _ A _ w h2 hd' hr ?_ hst hw
      rw [g2]
      exact ha.put o.dst (VR.undef _)

end
end Go.AS
