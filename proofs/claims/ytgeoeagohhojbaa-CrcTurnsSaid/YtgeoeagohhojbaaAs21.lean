import Derived.Test.YtgeoeagohhojbaaAs20
namespace Go.AS
open Go
set_option linter.unusedVariables false
set_option linter.unusedSimpArgs false

section
variable {G : Nat} {P : Program} {a : AT} {A : AH} {K : Value → AH → Prop} {Q : AT → AH → Prop} {R : Exit → AT → AH → Prop}

/-- What is to be done behind an operation, as one word (simp does not look into it before a value stands behind it). -/
def kont (G : Nat) (P : Program) (Q : AT → AH → Prop) (r : List IOp) (a : AT) (d : Option Nat) : Value → AH → Prop := fun v A' => Wops G P Q r (put a d v) A'
def kontL (G : Nat) (P : Program) (Q : AT → AH → Prop) (r : List IOp) (a : AT) (d : Option Nat) (A : AH) : Value → AH → Prop := fun v A' => Le A A' ∧ Wops G P Q r (put a d v) A'
theorem kont_at {r : List IOp} {d : Option Nat} {v : Value} : kont G P Q r a d v A = Wops G P Q r (put a d v) A := id rfl
theorem kontL_at {r : List IOp} {d : Option Nat} {v : Value} {A0 : AH} : kontL G P Q r a d A0 v A = (Le A0 A ∧ Wops G P Q r (put a d v) A) := id rfl
theorem Wops_nil : Wops G P Q [] a A = Q a A := id rfl
theorem Wops_cons {d : Option Nat} {o : AOp} {r : List IOp} : Wops G P Q (⟨d, none, false, o⟩ :: r) a A = W1 G P a A o (kont G P Q r a d) := by
  unfold kont
  simp [Wops, wantedA]
theorem Wops_le {d : Option Nat} {o : AOp} {r : List IOp} : Wops G P Q (⟨d, none, true, o⟩ :: r) a A = W1 G P a A o (kontL G P Q r a d A) := by
  unfold kontL
  simp [Wops, wantedA]
def gd (v : Value) (want : Bool) : Bool := match v with | .bool b => b == want | _ => false
def gdB (b : Bool) (G : Nat) (P : Program) (o : AOp) (K : Value → AH → Prop) (Q : AT → AH → Prop) (r : List IOp) (d : Option Nat) (a : AT) (A : AH) : Prop :=
  if b = true then W1 G P a A o K else Wops G P Q r (put a d undef) A
theorem gdB_true {o : AOp} {r : List IOp} {d : Option Nat} : gdB true G P o K Q r d a A = W1 G P a A o K := id rfl
theorem gdB_false {o : AOp} {r : List IOp} {d : Option Nat} : gdB false G P o K Q r d a A = Wops G P Q r (put a d undef) A := id rfl
theorem Wops_guard {d : Option Nat} {t : Nat} {want : Bool} {o : AOp} {r : List IOp} : Wops G P Q (⟨d, some (t, want), false, o⟩ :: r) a A =
    gdB (gd (a t) want) G P o (kont G P Q r a d) Q r d a A := by
  have e : wantedA a (some (t, want)) = gd (a t) want := rfl
  unfold gdB kont
  simp only [Wops, e, Bool.false_eq_true, false_implies, true_and]
theorem Wops_guardle {d : Option Nat} {t : Nat} {want : Bool} {o : AOp} {r : List IOp} : Wops G P Q (⟨d, some (t, want), true, o⟩ :: r) a A =
    gdB (gd (a t) want) G P o (kontL G P Q r a d A) Q r d a A := by
  have e : wantedA a (some (t, want)) = gd (a t) want := rfl
  unfold gdB kontL
  simp only [Wops, e, true_implies]

theorem ex2 {α β : Type} {p : α} {q : β} {K : α → β → Prop} : (∃ v A', some (p, q) = some (v, A') ∧ K v A') = K p q := by
  apply propext
  constructor
  · rintro ⟨v, A', h, k⟩
    injection h with h; injection h with h1 h2; subst h1 h2; exact k
  · intro k; exact ⟨_, _, rfl, k⟩

/-- What an operation that is no call gives, met by what is asked. -/
def ok1 (r : Option (Value × AH)) (K : Value → AH → Prop) : Prop := ∃ v A', r = some (v, A') ∧ K v A'
def okV (r : Option Value) (K : Value → AH → Prop) (A : AH) : Prop := ∃ v, r = some v ∧ K v A
theorem okV_some {v : Value} : okV (some v) K A = K v A := by
  unfold okV
  simp
theorem okV_of {r : Option Value} {v : Value} (h : r = some v) (k : K v A) : okV r K A := ⟨v, h, k⟩
theorem ok1_some {v : Value} {A' : AH} : ok1 (some (v, A')) K = K v A' := ex2
theorem ok1_of {r : Option (Value × AH)} {v : Value} {A' : AH} (h : r = some (v, A')) (k : K v A') : ok1 r K := ⟨v, A', h, k⟩

theorem W1_mov {x : Operand} : W1 G P a A (.mov x) K = K (ev a x) A := by unfold W1; exact ex2
theorem W1_pick {c x y : Operand} : W1 G P a A (.pick c x y) K = ok1 (sPick A (ev a c) (ev a x) (ev a y)) K := id rfl
theorem W1_new {z : List Value} : W1 G P a A (.new z) K = K (.pointer (some ⟨A.length, 0, none⟩)) (A ++ [.row z .own 0 true]) := by unfold W1; exact ex2
theorem W1_box {x : Operand} : W1 G P a A (.box x) K = ok1 (sBox A (ev a x)) K := id rfl
theorem W1_build {z : List Value} {ps : List (Nat × Nat × Operand)} : W1 G P a A (.build z ps) K = ok1 (sBuild A z (ps.map fun p => (p.1, p.2.1, ev a p.2.2))) K := id rfl
theorem W1_lit {z : List Value} {sz len : Nat} {ps : List (Nat × Nat × Operand)} : W1 G P a A (.lit z sz len ps) K = ok1 (sLit A z sz len (ps.map fun p => (p.1, p.2.1, ev a p.2.2))) K := id rfl
theorem W1_load1 {x : Operand} : W1 G P a A (.load1 x) K = ok1 (sLoad1 A (ev a x)) K := id rfl
theorem W1_loadn {x : Operand} {n : Nat} : W1 G P a A (.loadn x n) K = ok1 (sLoadn A (ev a x) n) K := id rfl
theorem W1_store {x y : Operand} {n : Nat} : W1 G P a A (.store x y n) K = ok1 (sStore A (ev a x) (ev a y) n) K := id rfl
theorem W1_nilc {x : Operand} : W1 G P a A (.nilc x) K = ok1 (sNilc A (ev a x)) K := id rfl
theorem W1_bin {o : BinOp} {x y : Operand} : W1 G P a A (.bin o x y) K = okV (binA o (ev a x) (ev a y)) K A := by
  unfold W1
  simp only [step]
  apply propext
  constructor
  · rintro ⟨v, A', h, k⟩
    rw [Option.map_eq_some_iff] at h
    obtain ⟨u, h1, h2⟩ := h
    injection h2 with h2 h3; subst h2 h3
    exact ⟨_, h1, k⟩
  · rintro ⟨v, h, k⟩; exact ⟨v, A, by rw [h]; rfl, k⟩
theorem W1_un {o : UnOp} {x : Operand} : W1 G P a A (.un o x) K = okV (unA o (ev a x)) K A := by
  unfold W1
  simp only [step]
  apply propext
  constructor
  · rintro ⟨v, A', h, k⟩
    rw [Option.map_eq_some_iff] at h
    obtain ⟨u, h1, h2⟩ := h
    injection h2 with h2 h3; subst h2 h3
    exact ⟨_, h1, k⟩
  · rintro ⟨v, h, k⟩; exact ⟨v, A, by rw [h]; rfl, k⟩
theorem W1_conv {k : IntKind} {x : Operand} : W1 G P a A (.conv k x) K = ok1 (sConv A k (ev a x)) K := id rfl
theorem W1_b2s {x : Operand} : W1 G P a A (.b2s x) K = ok1 (sB2s A (ev a x)) K := id rfl
theorem W1_s2b {x : Operand} : W1 G P a A (.s2b x) K = ok1 (sS2b A (ev a x)) K := id rfl
theorem W1_field1 {x : Operand} {n : Nat} : W1 G P a A (.field1 x n) K = ok1 (sField1 A (ev a x) n) K := id rfl
theorem W1_fieldn {x : Operand} {n m : Nat} : W1 G P a A (.fieldn x n m) K = ok1 (sFieldn A (ev a x) n m) K := id rfl
theorem W1_faddr {x : Operand} {n : Nat} : W1 G P a A (.faddr x n) K = ok1 (sFaddr A (ev a x) n) K := id rfl
theorem W1_iaddr {x i : Operand} {n : Nat} : W1 G P a A (.iaddr x i n) K = ok1 (sIaddr A (ev a x) (ev a i) n) K := id rfl
theorem W1_iarr {x i : Operand} {n m : Nat} : W1 G P a A (.iarr x i n m) K = ok1 (sIarr A (ev a x) (ev a i) n m) K := id rfl
theorem W1_idxs {x i : Operand} : W1 G P a A (.idxs x i) K = ok1 (sIdxs A (ev a x) (ev a i)) K := id rfl
theorem W1_idxa1 {x i : Operand} {n : Nat} : W1 G P a A (.idxa1 x i n) K = ok1 (sIdxa1 A (ev a x) (ev a i) n) K := id rfl
theorem W1_idxan {x i : Operand} {n m : Nat} : W1 G P a A (.idxan x i n m) K = ok1 (sIdxan A (ev a x) (ev a i) n m) K := id rfl
theorem W1_sls {x : Operand} {lo hi : Option Operand} : W1 G P a A (.sls x lo hi) K = ok1 (sSls A (ev a x) (lo.map (ev a)) (hi.map (ev a))) K := id rfl
theorem W1_sll {x : Operand} {lo hi mx : Option Operand} {n : Nat} : W1 G P a A (.sll x lo hi mx n) K = ok1 (sSll A (ev a x) (lo.map (ev a)) (hi.map (ev a)) (mx.map (ev a)) n) K := id rfl
theorem W1_sla {x : Operand} {lo hi mx : Option Operand} {n m : Nat} : W1 G P a A (.sla x lo hi mx n m) K = ok1 (sSla A (ev a x) (lo.map (ev a)) (hi.map (ev a)) (mx.map (ev a)) n m) K := id rfl
theorem W1_mk {z : List Value} {b : Nat} {x y : Operand} : W1 G P a A (.mk z b x y) K = ok1 (sMk A z b (ev a x) (ev a y)) K := id rfl
theorem W1_ext {x : Operand} {i : Nat} : W1 G P a A (.ext x i) K = ok1 (sExt A (ev a x) i) K := id rfl
theorem W1_fn {f : Fn} {x y : List Operand} : W1 G P a A (.fn f x y) K = K (.func f (x.map (ev a)).toArray (y.map (ev a)).toArray) A := by unfold W1; exact ex2
theorem W1_ifc {t : TypeId} {x : Operand} : W1 G P a A (.ifc t x) K = K (.iface t (ev a x)) A := by unfold W1; exact ex2
theorem W1_lens {s : Bool} {x : Operand} : W1 G P a A (.lens s x) K = ok1 (sLens A s (ev a x)) K := id rfl
theorem W1_lenc {n : Nat} : W1 G P a A (.lenc n) K = K (.int .i64 n) A := by unfold W1; exact ex2
theorem W1_app {s x : Operand} {n m : Nat} : W1 G P a A (.app s x n m) K = ok1 (sApp A (ev a s) (ev a x) n m) K := id rfl
theorem W1_apps {s x : Operand} {n : Nat} : W1 G P a A (.apps s x n) K = ok1 (sApps A (ev a s) (ev a x) n) K := id rfl
theorem W1_copy {s x : Operand} {n : Nat} : W1 G P a A (.copy s x n) K = ok1 (sCopy A (ev a s) (ev a x) n) K := id rfl
theorem W1_mn {s x : Operand} : W1 G P a A (.mn s x) K = ok1 (sMn A (ev a s) (ev a x)) K := id rfl
theorem W1_mx {s x : Operand} : W1 G P a A (.mx s x) K = ok1 (sMx A (ev a s) (ev a x)) K := id rfl
theorem W1_isnil {d : TypeDesc} {x : Operand} {n : Bool} : W1 G P a A (.isnil d x n) K = ok1 (if kindOf d (ev a x) then sIsnil A (ev a x) n else none) K := id rfl
theorem W1_strc {x : Operand} : W1 G P a A (.strc x) K = ok1 (sStr A (ev a x)) K := id rfl
theorem W1_beq {x y : Operand} {n : Bool} : W1 G P a A (.beq n x y) K = ok1 (sBeq A n (ev a x) (ev a y)) K := id rfl
theorem W1_mks {x : Operand} : W1 G P a A (.mks x) K = ok1 (sMks A (ev a x)) K := id rfl
theorem W1_capn {x : Operand} : W1 G P a A (.capn x) K = ok1 (sCapn A (ev a x)) K := id rfl
theorem W1_appz {s x : Operand} {z : List Value} {n : Nat} : W1 G P a A (.appz s x z n) K = ok1 (sAppz A (ev a s) (ev a x) z n) K := id rfl
theorem W1_eqagg {x y : Operand} {n : Bool} {L : List Value → Option (List Lit)} : W1 G P a A (.eqagg n L x y) K = ok1 (sEqagg A n L (ev a x) (ev a y)) K := id rfl
theorem W1_call {f : FuncId} {xs : List Operand} : W1 G P a A (.call f xs) K = ACalls G P f (xs.map (ev a)) K A := id rfl

theorem ev_tmp {t : Nat} : ev a (.tmp t) = a t := id rfl
theorem ev_const {v : Value} : ev a (.const v) = v := id rfl
theorem ev_func {f : FuncId} : ev a (.func f) = .func (.func f) #[] #[] := id rfl
theorem ev_global {g : Nat} : ev a (.global g) = .pointer (some ⟨g, 0, none⟩) := id rfl
theorem put_some {d : Nat} {v : Value} : put a (some d) v = upd a d v := id rfl
theorem put_none {v : Value} : put a none v = a := id rfl
theorem upd_same {d : Nat} {v : Value} : upd a d v d = v := by simp [upd]
theorem upd_ne {d k : Nat} {v : Value} (h : (k == d) = false) : upd a d v k = a k := by
  unfold upd
  rw [if_neg]
  simpa using h
theorem upd_at {d k : Nat} {v : Value} : upd a d v k = if k = d then v else a k := id rfl

theorem W_skip : W G P .skip R a A = R .normal a A := id rfl
theorem W_ops {l : List IOp} : W G P (.ops l) R a A = Wops G P (R .normal) l a A := id rfl
theorem W_draw {l : List IOp} : W G P (.draw l) R a A = Wops G P (R .normal) l a A := id rfl
/-- What is to be done behind the first of two codes, as one word. -/
def sq (G : Nat) (P : Program) (y : IC) (R : Exit → AT → AH → Prop) : Exit → AT → AH → Prop := thenA (W G P y R) R
theorem sq_normal {y : IC} : sq G P y R .normal a A = W G P y R a A := id rfl
theorem sq_ret {y : IC} : sq G P y R .ret a A = R .ret a A := id rfl
theorem sq_exit {y : IC} {i : Nat} : sq G P y R (.exit i) a A = R (.exit i) a A := id rfl
theorem W_seq {x y : IC} : W G P (.seq x y) R a A = W G P x (sq G P y R) a A := id rfl
theorem W_cond {c : Operand} {x y : IC} {b : Bool} (h : ev a c = .bool b) : W G P (.cond c x y) R a A = if b then W G P x R a A else W G P y R a A := by simp only [W, h]
def condW (v : Value) (G : Nat) (P : Program) (x y : IC) (R : Exit → AT → AH → Prop) (a : AT) (A : AH) : Prop := match v with | .bool b => if b = true then W G P x R a A else W G P y R a A | _ => False
theorem W_condv {c : Operand} {x y : IC} : W G P (.cond c x y) R a A = condW (ev a c) G P x y R a A := by
  simp only [W]
  cases ev a c <;> rfl
theorem condW_true {x y : IC} : condW (.bool true) G P x y R a A = W G P x R a A := id rfl
theorem condW_false {x y : IC} : condW (.bool false) G P x y R a A = W G P y R a A := id rfl
theorem condW_intro {b : Bool} {x y : IC} (h1 : b = true → W G P x R a A) (h2 : b = false → W G P y R a A) : condW (.bool b) G P x y R a A := by
  cases b
  · exact h2 rfl
  · exact h1 rfl
theorem W_block {i : Nat} {x : IC} : W G P (.block i x) R a A = W G P x (inBlockA i R) a A := id rfl
theorem W_exit {i : Nat} : W G P (.exit i) R a A = R (.exit i) a A := id rfl
theorem W_ret : W G P .ret R a A = R .ret a A := id rfl
theorem thenA_normal {n : AT → AH → Prop} : thenA n R .normal a A = n a A := id rfl
theorem thenA_ret {n : AT → AH → Prop} : thenA n R .ret a A = R .ret a A := id rfl
theorem thenA_exit {n : AT → AH → Prop} {i : Nat} : thenA n R (.exit i) a A = R (.exit i) a A := id rfl
theorem inBlockA_normal {i : Nat} : inBlockA i R .normal a A = R .normal a A := id rfl
theorem inBlockA_ret {i : Nat} : inBlockA i R .ret a A = R .ret a A := id rfl
theorem inBlockA_same {i : Nat} : inBlockA i R (.exit i) a A = R .normal a A := by simp [inBlockA]
theorem inBlockA_other {i j : Nat} (h : (j == i) = false) : inBlockA i R (.exit j) a A = R (.exit j) a A := by
  have : j ≠ i := by simpa using h
  simp [inBlockA, this]
theorem noGotoA_normal : noGotoA R .normal a A = R .normal a A := id rfl
theorem noGotoA_ret : noGotoA R .ret a A = R .ret a A := id rfl
theorem noGotoA_exit {i : Nat} : noGotoA R (.exit i) a A = R (.exit i) a A := id rfl
theorem postA_normal {rs : List RV} {S : Value → AH → Prop} : postA rs S .normal a A = ∃ vs, resVs a A rs = some vs ∧ S (tupleOf vs) A := id rfl
theorem postA_ret {rs : List RV} {S : Value → AH → Prop} : postA rs S .ret a A = ∃ vs, resVs a A rs = some vs ∧ S (tupleOf vs) A := id rfl
theorem resVs_nil : resVs a A [] = some [] := id rfl
theorem resVs_tmp {t : Nat} {r : List RV} : resVs a A (.tmp t :: r) = (resVs a A r).map (a t :: ·) := id rfl

theorem W_loop {x : IC} (I : AT → AH → Prop) (m : AT → AH → Nat) (h0 : I a A) (h : ∀ a A, I a A → W G P x (thenA (fun a' A' => I a' A' ∧ m a' A' < m a A) R) a A) : W G P (.loop x) R a A := ⟨I, m, h0, h⟩

theorem W_mono {x : IC} : ∀ {R R' : Exit → AT → AH → Prop} {a : AT} {A : AH}, (∀ e a A, R e a A → R' e a A) → W G P x R a A → W G P x R' a A := by
  have opsm : ∀ (l : List IOp) {Q Q' : AT → AH → Prop} {a : AT} {A : AH}, (∀ a A, Q a A → Q' a A) → Wops G P Q l a A → Wops G P Q' l a A := by
    have w1m : ∀ {o : AOp} {K K' : Value → AH → Prop} {a : AT} {A : AH}, (∀ v A, K v A → K' v A) → W1 G P a A o K → W1 G P a A o K' := by
      intro o K K' a A hk h
      cases o <;> first
        | exact ACalls.mono h hk
        | (simp only [W1] at h ⊢
           split at h
           · exact ⟨h.1, h.2.mono hk⟩
           · exact h.elim)
        | (obtain ⟨v, A', h1, h2⟩ := h; exact ⟨v, A', h1, hk _ _ h2⟩)
    intro l
    induction l with
    | nil => intro Q Q' a A hq h; exact hq _ _ h
    | cons o r ih =>
      intro Q Q' a A hq h
      simp only [Wops] at h ⊢
      split
      · rename_i hc
        rw [if_pos hc] at h
        exact w1m (fun v A' ⟨h1, h2⟩ => ⟨h1, ih hq h2⟩) h
      · rename_i hc
        rw [if_neg hc] at h
        exact ih hq h
  induction x with
  | skip => intro R R' a A hr h; exact hr _ _ _ h
  | ops l => intro R R' a A hr h; exact opsm l (hr _) h
  | draw l => intro R R' a A hr h; exact opsm l (hr _) h
  | seq x y ihx ihy =>
    intro R R' a A hr h
    refine ihx (fun e a A h => ?_) h
    cases e <;> first | exact ihy hr h | exact hr _ _ _ h
  | cond c x y ihx ihy =>
    intro R R' a A hr h
    simp only [W] at h ⊢
    split at h
    · rename_i b hb
      cases b
      · exact ihy hr h
      · exact ihx hr h
    · exact h.elim
  | block i x ih =>
    intro R R' a A hr h
    refine ih (fun e a A h => ?_) h
    cases e with
    | exit j =>
      simp only [inBlockA] at h ⊢
      by_cases hj : j = i
      · rw [if_pos hj] at h ⊢; exact hr _ _ _ h
      · rw [if_neg hj] at h ⊢; exact hr _ _ _ h
    | _ => exact hr _ _ _ h
  | loop x ih =>
    rintro R R' a A hr ⟨I, m, h0, h1⟩
    refine ⟨I, m, h0, fun a A hi => ih (fun e a A h => ?_) (h1 a A hi)⟩
    cases e <;> first | exact h | exact hr _ _ _ h
  | exit i => intro R R' a A hr h; exact hr _ _ _ h
  | ret => intro R R' a A hr h; exact hr _ _ _ h
  | scope x ih =>
    intro R R' a A hr h
    refine ih (fun e a A h => ?_) h
    cases e <;> first | exact hr _ _ _ h | exact h

/-- A cut: x is seen once, for all that comes behind it. -/
theorem W_cut {x : IC} (R1 : Exit → AT → AH → Prop) (h : W G P x R1 a A) (hr : ∀ e a A, R1 e a A → R e a A) : W G P x R a A := W_mono hr h

end
end Go.AS
