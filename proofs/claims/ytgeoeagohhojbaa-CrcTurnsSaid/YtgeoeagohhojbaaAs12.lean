import Derived.Test.YtgeoeagohhojbaaAs11
import Derived.DeepKeys
import Derived.Laws.StructEq
namespace Go.AS
open Go
set_option linter.unusedVariables false
set_option linter.unusedSimpArgs false

section
variable {G : Nat} {μ : Mu} {A A' : AH} {w : World} {P : Program} {v : Value}

def scal : Value → Bool
  | .int _ _ | .string _ | .bool _ => true
  | _ => false

theorem guard_scal {op : BinOp} {t : TypeId} {x y : Operand} {a b : Value} (ha : scal a = true) : (eqGuard op t x y a b).run P w = .ok () w := by
  unfold eqGuard
  cases op <;> cases a <;> first | rfl | (simp [scal] at ha)

theorem binA_scal {op : BinOp} {x y v : Value} (h : binA op x y = some v) : scal x = true ∧ flatV x = true ∧ flatV y = true := by
  unfold binA at h
  split at h <;> first | exact ⟨rfl, rfl, rfl⟩ | cases h

theorem binA_run {op : BinOp} {t : TypeId} {x y v : Value} (h : binA op x y = some v) : (binOp op t x y).run P w = .ok v w ∧ flatV v = true := by
  unfold binA at h
  split at h <;> first
    | (cases h; done)
    | (split at h <;> first
        | (cases h; done)
        | (injection h with h; subst h
           refine ⟨?_, rfl⟩
           unfold binOp
           simp_all [Op.shift, Op.intArith, Op.intDiv, Op.intBits, Op.intCmp, Op.stringOp] <;> (intro h; omega)))
    | (injection h with h; subst h
       refine ⟨?_, rfl⟩
       unfold binOp
       simp_all [Op.shift, Op.intArith, Op.intDiv, Op.intBits, Op.intCmp, Op.stringOp])

theorem sim_bin {op : BinOp} {t : TypeId} {ox oy : Operand} {x y x' y' : Value} (hr : Rel G μ A w) (hx : VR μ x x') (hy : VR μ y y') (hs : (binA op x y).map (fun v => (v, A)) = some (v, A')) :
    Sim G μ A w v A' ((do pure (.value (← (do eqGuard op t ox oy x' y'; binOp op t x' y'))) : Sem Next).run P w) := by
  rw [Option.map_eq_some_iff] at hs
  obtain ⟨u, hu, hs⟩ := hs
  injection hs with h5 h6; subst h5 h6
  obtain ⟨h1, h2, h3⟩ := binA_scal hu
  obtain rfl := hx.eq_of_flat h2
  obtain rfl := hy.eq_of_flat h3
  obtain ⟨g1, g2⟩ := binA_run (P := P) (w := w) (t := t) hu
  refine Sim.flat hr (run_value ?_) g2
  rw [Sem.run_bind, guard_scal h1, Result.andThen_ok, g1]

theorem sim_un {op : UnOp} {x x' : Value} (hr : Rel G μ A w) (hx : VR μ x x') (hs : (unA op x).map (fun v => (v, A)) = some (v, A')) :
    Sim G μ A w v A' ((do pure (.value (← Op.unary op x')) : Sem Next).run P w) := by
  rw [Option.map_eq_some_iff] at hs
  obtain ⟨u, hu, hs⟩ := hs
  injection hs with h5 h6; subst h5 h6
  unfold unA at hu
  split at hu
  · injection hu with hu; subst hu
    obtain rfl := hx.int
    exact Sim.flat hr (run_value rfl) rfl
  · injection hu with hu; subst hu
    obtain rfl := hx.int
    exact Sim.flat hr (run_value rfl) rfl
  · injection hu with hu; subst hu
    obtain rfl := hx.bool
    exact Sim.flat hr (run_value rfl) rfl
  · cases hu

theorem sim_beq {neg : Bool} {t : TypeId} {ox oy : Operand} {x y x' y' : Value} (hr : Rel G μ A w) (hx : VR μ x x') (hy : VR μ y y') (ht : P.underlying t = some .bool) (hs : sBeq A neg x y = some (v, A')) :
    Sim G μ A w v A' ((do pure (.value (← (do eqGuard (if neg then .neq else .eql) t ox oy x' y'; binOp (if neg then .neq else .eql) t x' y'))) : Sem Next).run P w) := by
  unfold sBeq at hs
  split at hs
  · split at hs
    · rename_i a _ b
      injection hs with hs; injection hs with h5 h6; subst h5 h6
      obtain rfl := hx.bool
      obtain rfl := hy.bool
      refine Sim.flat hr (run_value ?_) rfl
      rw [Sem.run_bind, guard_scal rfl, Result.andThen_ok]
      have heq : (Op.equal t (.bool a) (.bool b)).run P w = .ok (a == b) w := by
        have : ∀ n, (Op.equalIn (n + 1) t (.bool a) (.bool b)).run P w = .ok (a == b) w := by
          intro n
          simp only [Op.equalIn, Sem.run_bind, run_underlying ht, Result.andThen_ok]
          rfl
        exact this 9999
      cases neg
      · simp [binOp, heq]
      · simp [binOp, heq]
    · cases hs
  · cases hs

theorem sim_mn {x y x' y' : Value} {ats : Array TypeId} {ty : TypeId} (hr : Rel G μ A w) (hx : VR μ x x') (hy : VR μ y y') (hs : sMn A x y = some (v, A')) :
    Sim G μ A w v A' ((do pure (.value (← Builtin.min_ ats ty #[x', y'])) : Sem Next).run P w) := by
  unfold sMn at hs
  split at hs
  · rw [Option.map_eq_some_iff] at hs
    obtain ⟨j, hj, hs⟩ := hs
    injection hs with h5 h6; subst h5 h6
    obtain rfl := hx.int
    obtain ⟨k2, rfl⟩ := asI_some hj hy
    exact Sim.flat hr (run_value rfl) rfl
  · cases hs
theorem sim_mx {x y x' y' : Value} {ats : Array TypeId} {ty : TypeId} (hr : Rel G μ A w) (hx : VR μ x x') (hy : VR μ y y') (hs : sMx A x y = some (v, A')) :
    Sim G μ A w v A' ((do pure (.value (← Builtin.max_ ats ty #[x', y'])) : Sem Next).run P w) := by
  unfold sMx at hs
  split at hs
  · rw [Option.map_eq_some_iff] at hs
    obtain ⟨j, hj, hs⟩ := hs
    injection hs with h5 h6; subst h5 h6
    obtain rfl := hx.int
    obtain ⟨k2, rfl⟩ := asI_some hj hy
    exact Sim.flat hr (run_value rfl) rfl
  · cases hs

/-- A type whose values are held against nil. -/
def nilD : TypeDesc → Bool
  | .slice _ | .pointer _ | .map _ _ | .func _ _ _ => true
  | _ => false
/-- Is the value of a type of this kind? -/
def nilOf : TypeDesc → Value → Bool
  | .slice _, .slice none _ _ => true
  | .pointer _, .pointer none => true
  | .map _ _, .map none => true
  | .func _ _ _, .nilFunc => true
  | _, _ => false
theorem guard_nil {op : BinOp} {t : TypeId} {ox oy : Operand} {a b : Value} {d : TypeDesc} (ha : kindOf d a = true) : (eqGuard op t ox oy a b).run P w = .ok () w := by
  unfold eqGuard
  cases op <;> cases d <;> cases a <;> first | rfl | (simp [kindOf] at ha)

set_option maxHeartbeats 1000000 in
theorem isnil_inv {x x' : Value} {neg : Bool} {d : TypeDesc} (hx : VR μ x x') (hs : sIsnil A x neg = some (v, A')) (hk : kindOf d x = true) :
    kindOf d x' = true ∧ A' = A ∧ ∃ b, v = .bool (b != neg) ∧ ∀ (t : TypeId) (y : Value), P.underlying t = some d → nilOf d y = true → ∀ n, (Op.equalIn (n + 1) t x' y).run P w = .ok b w ∧ (Op.equalIn (n + 1) t y x').run P w = .ok b w := by
  unfold sIsnil at hs
  split at hs
  · injection hs with hs; injection hs with h5 h6; subst h5 h6
    obtain ⟨a', c', rfl, han⟩ := hx.sl_inv
    cases d <;> first
      | (simp [kindOf] at hk; done)
      | (refine ⟨rfl, rfl, _, rfl, fun t y ht hy n => ?_⟩
         cases y <;> first
           | (simp [nilOf] at hy; done)
           | (rename_i ya _ _
              cases ya with
              | some q => simp [nilOf] at hy
              | none =>
                simp only [Op.equalIn, Sem.run_bind, run_underlying ht, Result.andThen_ok]
                rename_i a _ _ _ _ _
                cases a' with
                | none => have := han.2 rfl; subst this; exact ⟨rfl, rfl⟩
                | some b =>
                  cases a with
                  | none => have := han.1 rfl; cases this
                  | some q => exact ⟨rfl, rfl⟩))
  · injection hs with hs; injection hs with h5 h6; subst h5 h6
    rename_i a
    have : ∃ a', x' = .pointer a' ∧ (a = none ↔ a' = none) := by
      cases hx with
      | flat h => exact ⟨_, rfl, Iff.rfl⟩
      | ptr h => exact ⟨_, rfl, by simp⟩
    obtain ⟨a', rfl, han⟩ := this
    cases d <;> first
      | (simp [kindOf] at hk; done)
      | (refine ⟨rfl, rfl, _, rfl, fun t y ht hy n => ?_⟩
         cases y <;> first
           | (simp [nilOf] at hy; done)
           | (rename_i ya
              cases ya with
              | some q => simp [nilOf] at hy
              | none =>
                simp only [Op.equalIn, Sem.run_bind, run_underlying ht, Result.andThen_ok]
                cases a' with
                | none => have := han.2 rfl; subst this; exact ⟨rfl, rfl⟩
                | some b =>
                  cases a with
                  | none => have := han.1 rfl; cases this
                  | some q => exact ⟨rfl, rfl⟩))
  · injection hs with hs; injection hs with h5 h6; subst h5 h6
    rename_i a
    have : ∃ a', x' = .map a' ∧ (a = none ↔ a' = none) := by
      cases hx with
      | flat h => exact ⟨_, rfl, Iff.rfl⟩
      | map h => exact ⟨_, rfl, by simp⟩
    obtain ⟨a', rfl, han⟩ := this
    cases d <;> first
      | (simp [kindOf] at hk; done)
      | (refine ⟨rfl, rfl, _, rfl, fun t y ht hy n => ?_⟩
         cases y <;> first
           | (simp [nilOf] at hy; done)
           | (rename_i ya
              cases ya with
              | some q => simp [nilOf] at hy
              | none =>
                simp only [Op.equalIn, Sem.run_bind, run_underlying ht, Result.andThen_ok]
                cases a' with
                | none => have := han.2 rfl; subst this; exact ⟨rfl, rfl⟩
                | some b =>
                  cases a with
                  | none => have := han.1 rfl; cases this
                  | some q => exact ⟨rfl, rfl⟩))
  · injection hs with hs; injection hs with h5 h6; subst h5 h6
    have : ∃ a b c, x' = .func a b c := by
      cases hx with
      | flat h => simp [flatV] at h
      | func _ _ _ _ _ => exact ⟨_, _, _, rfl⟩
    obtain ⟨a, b, c, rfl⟩ := this
    cases d <;> first
      | (simp [kindOf] at hk; done)
      | (refine ⟨rfl, rfl, false, by cases neg <;> rfl, fun t y ht hy n => ?_⟩
         cases y <;> first
           | (simp [nilOf] at hy; done)
           | (simp only [Op.equalIn, Sem.run_bind, run_underlying ht, Result.andThen_ok]
              exact ⟨rfl, rfl⟩))
  · injection hs with hs; injection hs with h5 h6; subst h5 h6
    obtain rfl := hx.eq_of_flat rfl
    cases d <;> first
      | (simp [kindOf] at hk; done)
      | (refine ⟨rfl, rfl, true, by cases neg <;> rfl, fun t y ht hy n => ?_⟩
         cases y <;> first
           | (simp [nilOf] at hy; done)
           | (simp only [Op.equalIn, Sem.run_bind, run_underlying ht, Result.andThen_ok]
              exact ⟨rfl, rfl⟩))
  · cases hs

theorem bin_eq {neg : Bool} {t : TypeId} {x y : Value} {d : TypeDesc} {b : Bool} (hx : kindOf d x = true) (hy : kindOf d y = true) (h : (Op.equal t x y).run P w = .ok b w) :
    (binOp (if neg then .neq else .eql) t x y).run P w = .ok (.bool (b != neg)) w := by
  cases d <;> cases x <;> first
    | (simp [kindOf] at hx; done)
    | (cases y <;> first
        | (simp [kindOf] at hy; done)
        | (cases neg
           · simp only [Bool.false_eq_true, if_false]
             unfold binOp
             simp [h]
           · simp only [if_true]
             unfold binOp
             simp [h]))

theorem kind_of_nil {d : TypeDesc} {y : Value} (h : nilOf d y = true) : kindOf d y = true := by
  cases d <;> cases y <;> first | rfl | (simp [nilOf] at h)

theorem sim_isnil {neg left : Bool} {t : TypeId} {ox oy : Operand} {x x' y : Value} {d : TypeDesc} (hr : Rel G μ A w) (hx : VR μ x x') (ht : P.underlying t = some d) (hy : nilOf d y = true)
    (hk : kindOf d x = true) (hs : sIsnil A x neg = some (v, A')) :
    Sim G μ A w v A' ((do pure (.value (← (do eqGuard (if neg then .neq else .eql) t ox oy x' y; binOp (if neg then .neq else .eql) t x' y))) : Sem Next).run P w) ∧
    Sim G μ A w v A' ((do pure (.value (← (do eqGuard (if neg then .neq else .eql) t oy ox y x'; binOp (if neg then .neq else .eql) t y x'))) : Sem Next).run P w) := by
  obtain ⟨k1, rfl, b, rfl, k2⟩ := isnil_inv (P := P) (w := w) hx hs hk
  obtain ⟨k3, k4⟩ := k2 t y ht hy 9999
  have k3 : (Op.equal t x' y).run P w = .ok b w := k3
  have k4 : (Op.equal t y x').run P w = .ok b w := k4
  constructor
  · refine Sim.flat hr (run_value ?_) rfl
    rw [Sem.run_bind, guard_nil k1, Result.andThen_ok, bin_eq k1 (kind_of_nil hy) k3]
  · refine Sim.flat hr (run_value ?_) rfl
    rw [Sem.run_bind, guard_nil (kind_of_nil hy), Result.andThen_ok, bin_eq (kind_of_nil hy) k1 k4]

/-- A mark behind a block of the call's own. -/
theorem Rel.mark (hr : Rel G μ A w) {i : Nat} {cs : List Value} {sz : Nat} {ex : Bool} {e : Ent} {rc : Array Value} {T : TypeId} {fr fr' : Nat × Nat} {w' : World} (hi : A[i]? = some (.row cs .own sz ex)) (he : μ[i]? = some e)
    (hrc : w.heap[e.blk]? = some (.cells rc T fr)) (h1 : w'.heap[e.blk]? = some (.cells rc T fr')) (h2 : ∀ r, r ≠ e.blk → w'.heap[r]? = w.heap[r]?) (h3 : w'.heap.size = w.heap.size) (h4 : fr'.1 = fr'.2 ∨ rc.size ≤ fr'.1) : Rel G μ A w' := by
  have hother : ∀ (k : Nat) (b : Blk) (e' : Ent), A[k]? = some b → b.alive = true → k ≠ i → μ[k]? = some e' → w'.heap[e'.blk]? = w.heap[e'.blk]? := by
    intro k b e' hk ha hne hk'
    exact h2 _ (fun q => hr.apart i k _ b e e' hi hk rfl ha (Ne.symm hne) he hk' q.symm)
  refine ⟨hr.len, hr.glo, fun k e' hk => by rw [h3]; exact hr.lt k e' hk, ?_, hr.szs, ?_, ?_, hr.apart⟩
  · intro k cs' st' sz' ex' e' hb hk hst
    by_cases hki : k = i
    · subst hki
      rw [he] at hk; obtain rfl := Option.some.inj hk
      rw [hi] at hb; injection hb with hb; injection hb with q1 q2 q3 q4; subst q1 q2 q3 q4
      obtain ⟨rc0, T0, fr0, g1, g2, g3, g4⟩ := hr.row k cs .own _ _ e hi he (by decide)
      rw [hrc] at g1; injection g1 with g1; injection g1 with q1 q2 q3; subst q1 q2 q3
      exact ⟨rc, T, fr', h1, g2, g3, fun _ => ⟨(g4 rfl).1, h4, (g4 rfl).2.2⟩⟩
    · obtain ⟨rc0, T0, fr0, g1, g2⟩ := hr.row k cs' st' sz' ex' e' hb hk hst
      exact ⟨rc0, T0, fr0, by rw [hother k _ e' hb (by cases st' <;> first | rfl | exact absurd rfl hst) hki hk]; exact g1, g2⟩
  · intro k s p e' hb hk
    have hki : k ≠ i := by rintro rfl; rw [hi] at hb; cases hb
    rw [hother k _ e' hb rfl hki hk]; exact hr.sit k s p e' hb hk
  · intro k es e' hb hk
    have hki : k ≠ i := by rintro rfl; rw [hi] at hb; cases hb
    rw [hother k _ e' hb rfl hki hk]; exact hr.mp k es e' hb hk

theorem sim_mks {x x' : Value} {s el : TypeId} (hr : Rel G μ A w) (hx : VR μ x x') (h1 : P.underlying s = some (.slice el)) (h2 : P.underlying el = some (.int .u8)) (hs : sMks A x = some (v, A')) :
    Sim G μ A w v A' ((do pure (.value (← convert s s x')) : Sem Next).run P w) := by
  unfold sMks at hs
  split at hs
  · rename_i i o n c
    split at hs
    · rename_i cs sz ex hrow
      split at hs
      · rename_i hn
        injection hs with hs; injection hs with h5 h6; subst h5 h6
        cases hx with
        | flat h => simp [flatV] at h
        | sle => omega
        | slc he g1 g2 g3 =>
          rename_i c' e
          obtain ⟨rc, T, fr, k1, k2, k3, k4⟩ := hr.row i cs .own sz ex e hrow he (by decide)
          obtain ⟨k5, k6, k7⟩ := k4 rfl
          have hrun : (convert s s (.slice (some ⟨e.blk, e.off + o, none⟩) n c')).run P w = .ok (.slice (some ⟨e.blk, e.off + o, none⟩) n c') (w.freeze ⟨e.blk, rc.size, none⟩ 1) := by
            unfold convert
            rw [Sem.run_bind, run_underlying h1, Result.andThen_ok, Sem.run_bind, run_underlying h1, Result.andThen_ok]
            simp only [Sem.run_bind, run_underlying h2, Result.andThen_ok, beq_self_eq_true]
            unfold markStringish
            simp only [Sem.run_bind, run_shape, World.shape?, k1, Result.andThen_ok, run_freeze, Sem.run_pure]
          have hw : (w.freeze ⟨e.blk, rc.size, none⟩ 1).heap[e.blk]? = some (.cells rc T (if fr.1 == fr.2 then (rc.size, rc.size + 1) else (min fr.1 rc.size, max fr.2 (rc.size + 1)))) := by
            simp only [World.freeze, Nat.one_ne_zero, if_false, Array.getElem?_modify, if_true, k1, Option.map_some]
          refine ⟨_, μ, _, .inl (run_value hrun), .slc he g1 g2 g3, hr.mark hrow he k1 hw ?_ (by simp [World.freeze]) ?_, ?_⟩
          · intro r hne
            simp only [World.freeze, Nat.one_ne_zero, if_false, Array.getElem?_modify]
            rw [if_neg (by omega)]
          · by_cases hq : fr.1 = fr.2
            · simp [hq]
            · have : (fr.1 == fr.2) = false := by simpa using hq
              rw [this]
              simp only [Bool.false_eq_true, if_false]
              omega
          · refine ⟨⟨[], by simp⟩, ?_, ?_, ?_, by simp [World.freeze], ?_, ?_⟩
            · simp [World.freeze]
            · simp [World.freeze]
            · simp [World.freeze]
            · intro r _ hno
              have := hno i _ e hrow rfl he
              simp only [World.freeze, Nat.one_ne_zero, if_false, Array.getElem?_modify]
              rw [if_neg (by omega)]
            · intro k b e' hb ho hk _
              exact ⟨k, b, e', hb, ho, hk, rfl⟩
      · cases hs
    · cases hs
  · cases hs

theorem appz_run {ats : Array TypeId} {ty : TypeId} {s' : Value} {sT xT el : TypeId} {ik k' : IntKind} {base : Option Addr} {sLen sCap : Nat} {l : Int} {inf : TypeInfo} {z : Value} (hs' : s' = .slice base sLen sCap)
    (h1 : ats[0]? = some sT) (h2 : P.underlying sT = some (.slice el)) (h3 : P.info? el = some inf) (h4 : ats[1]? = some xT) (h5 : P.underlying xT = some (.int ik)) (hz : inf.zero = some z) (hzs : z.cells.size = inf.size) (hpos : 0 < inf.size)
    (hl0 : 0 ≤ l) (hl1 : l < 2 ^ 62) (hb : l * inf.bytes ≤ 2 ^ 48) (hok : sCap < sLen + l.toNat → 2 * ((sLen + l.toNat) * inf.bytes) ≤ 2 ^ 48 ∧ 0 < inf.bytes) :
    (Builtin.append_ ats ty #[s', .int k' l]).run P w = (appTail el inf.size s' base sLen sCap l.toNat (pure ()) (pure ((Array.range (l.toNat * inf.size)).map (z.cells[· % z.cells.size]!)))).run P w := by
  subst hs'
  have hwl : IntKind.i64.wrap l = l := by unfold IntKind.wrap; simp [IntKind.bits, IntKind.signed]; omega
  have hneg : ¬ (l < 0) := by omega
  have hbig : ¬ (l * (inf.bytes : Int) > 2 ^ 48) := by omega
  have hzc : Builtin.zeroCells z.cells l.toNat = (Array.range (l.toNat * inf.size)).map (z.cells[· % z.cells.size]!) := by
    unfold Builtin.zeroCells
    rw [hzs]
  have e0 : Array.range 0 = #[] := rfl
  unfold Builtin.append_ appTail
  by_cases hcap : sLen + l.toNat ≤ sCap
  · by_cases h0 : l.toNat * inf.size = 0
    · simp only [h1, h4, List.getElem?_toArray, List.getElem?_cons_zero, List.getElem?_cons_succ, Sem.run_bind, run_underlying h2, run_size h3, run_underlying h5, Result.andThen_ok, Sem.run_pure, if_true, asInt, asIntOf, hwl, if_neg hneg, run_typeInfo _ h3, if_neg hbig, if_pos hcap,
        Bool.not_true, Bool.false_eq_true, if_false, h0, e0, Array.map_empty]
      cases base <;> rfl
    · simp only [h1, h4, List.getElem?_toArray, List.getElem?_cons_zero, List.getElem?_cons_succ, Sem.run_bind, run_underlying h2, run_size h3, run_underlying h5, Result.andThen_ok, Sem.run_pure, if_true, asInt, asIntOf, hwl, if_neg hneg, run_typeInfo _ h3, if_neg hbig, if_pos hcap,
        Bool.not_true, Bool.false_eq_true, if_false, if_neg h0, run_zero h3 hz, hzc]
      cases base <;> rfl
  · obtain ⟨hb1, hb2⟩ := hok (by omega)
    have hn : Builtin.nextslicecap (sLen + l.toNat) sCap * inf.bytes ≤ 2 ^ 48 := by
      have := Nat.mul_le_mul_right inf.bytes (nextcap_le (sLen + l.toNat) sCap inf.bytes (by omega))
      rw [Nat.mul_assoc] at this
      omega
    have hn2 : ¬ (Builtin.nextslicecap (sLen + l.toNat) sCap * inf.bytes > 2 ^ 48) := by omega
    have hn3 : ¬ (((sLen + l.toNat : Nat) : Int) > IntKind.i64.max) := by
      have : (sLen + l.toNat) * 1 ≤ (sLen + l.toNat) * inf.bytes := Nat.mul_le_mul_left _ hb2
      simp only [IntKind.max, IntKind.signed, IntKind.bits, if_true]
      omega
    by_cases h0 : l.toNat * inf.size = 0
    · simp only [h1, h4, List.getElem?_toArray, List.getElem?_cons_zero, List.getElem?_cons_succ, Sem.run_bind, run_underlying h2, run_size h3, run_underlying h5, Result.andThen_ok, Sem.run_pure, if_true, asInt, asIntOf, hwl, if_neg hneg, run_typeInfo _ h3, if_neg hbig, if_neg hcap,
        Bool.not_true, Bool.false_eq_true, if_false, h0, e0, Array.map_empty, hn3, false_and, hn2]
    · simp only [h1, h4, List.getElem?_toArray, List.getElem?_cons_zero, List.getElem?_cons_succ, Sem.run_bind, run_underlying h2, run_size h3, run_underlying h5, Result.andThen_ok, Sem.run_pure, if_true, asInt, asIntOf, hwl, if_neg hneg, run_typeInfo _ h3, if_neg hbig, if_neg hcap,
        Bool.not_true, Bool.false_eq_true, if_false, if_neg h0, run_zero h3 hz, hzc, hn3, false_and, hn2]

theorem sim_appz {s s' n n' : Value} {ats : Array TypeId} {ty sT xT el : TypeId} {ik : IntKind} {inf : TypeInfo} {z : Value} (hr : Rel G μ A w) (hsv : VR μ s s') (hnv : VR μ n n')
    (h1 : ats[0]? = some sT) (h2 : P.underlying sT = some (.slice el)) (h3 : P.info? el = some inf) (h4 : ats[1]? = some xT) (h5 : P.underlying xT = some (.int ik))
    (hz : inf.zero = some z) (hf : z.cells.toList.all flatV = true) (hzs : z.cells.size = inf.size) (hpos : 0 < inf.size) (hs : sAppz A s n z.cells.toList inf.bytes = some (v, A')) :
    Sim G μ A w v A' ((do pure (.value (← Builtin.append_ ats ty #[s', n'])) : Sem Next).run P w) := by
  unfold sAppz at hs
  rw [Option.bind_eq_some_iff] at hs
  obtain ⟨l, hl, hs⟩ := hs
  split at hs
  · rename_i hc
    obtain ⟨k', rfl⟩ := asI_some hl hnv
    obtain ⟨base, sLen, sCap, rfl, hok⟩ := appA_sl hs hsv
    have hlen : z.cells.toList.length = inf.size := by simpa using hzs
    rw [hlen] at hs
    have hb : l * inf.bytes ≤ 2 ^ 48 := by
      unfold appA at hs
      split at hs
      · rename_i h0
        have : l = 0 := by omega
        subst this; omega
      · rw [Option.bind_eq_some_iff] at hs
        obtain ⟨r, _, hs⟩ := hs
        split at hs
        · rename_i hc2
          have h1 := hc2.1
          have h2 : l.toNat * inf.bytes ≤ (r.2.2 + l.toNat) * inf.bytes := Nat.mul_le_mul_right _ (by omega)
          have h3 : ((l.toNat * inf.bytes : Nat) : Int) = l * inf.bytes := by rw [Int.natCast_mul, Int.toNat_of_nonneg hc.1]
          omega
        · cases hs
    have hcr : CR μ ((List.replicate l.toNat z.cells.toList).flatten) ((Array.range (l.toNat * inf.size)).map (z.cells[· % z.cells.size]!)).toList := by
      refine ⟨by rw [rep_length]; simp [hzs], fun j a b ha hb => ?_⟩
      obtain ⟨_, b', q2, q3⟩ := rep_CR (μ := μ) hf (by omega) l.toNat (l.toNat * inf.size) (by rw [hzs]; exact Nat.le_refl _) j a ha
      rw [Array.getElem?_toList, q2] at hb
      obtain rfl := Option.some.inj hb
      exact q3
    refine sim_appTail (bad := pure ()) (appended := pure ((Array.range (l.toNat * inf.size)).map (z.cells[· % z.cells.size]!))) hr hsv h3 hz hzs hpos hcr (ones_flat (rep_flat hf _)) (fun d => by rw [Array.toArray_toList]; rfl) (fun _ _ _ => rfl) hs
      (fun h0 => by rw [h0]; rfl) ?_
    have := appz_run (P := P) (w := w) (ty := ty) (k' := k') rfl h1 h2 h3 h4 h5 hz hzs hpos hc.1 hc.2 hb hok (base := base) (sLen := sLen) (sCap := sCap)
    simp only [Sem.run_bind, this]
  · cases hs

def aggD' (P : Program) (t : TypeId) : Bool := match P.underlying t with | some (.struct _) | some (.array _ _) => true | _ => false
theorem flat_same {a a' : Array Value} (h : VR μ (.agg a) (.agg a')) (hf : a.toList.all flatV = true) : a' = a := by
  cases h with
  | flat h => rfl
  | agg h1 h2 =>
    apply Array.toList_inj.1
    apply List.ext_getElem?
    intro j
    rw [Array.getElem?_toList, Array.getElem?_toList]
    rcases Nat.lt_or_ge j a.size with hj | hj
    · have hx := Array.getElem?_eq_getElem hj
      have hy := Array.getElem?_eq_getElem (h1 ▸ hj : j < a'.size)
      rw [List.all_eq_true] at hf
      have := hf a[j] (by simp)
      rw [hx, hy, (h2 j _ _ hx hy).eq_of_flat this]
    · rw [Array.getElem?_eq_none hj, Array.getElem?_eq_none (by omega)]

theorem keyLits_formed {D : Nat} {t : TypeId} {a : Array Value} {l : List Lit} (hagg : aggD' P t = true) (h : P.keyLits D t a.toList = some l) : (Value.agg a).formed P t = true := by
  unfold aggD' at hagg
  cases D with
  | zero => simp [Program.keyLits] at h
  | succ D =>
    unfold Program.keyLits at h
    unfold Value.formed
    split at hagg
    · rename_i hu
      simp only [hu] at h ⊢
      split at h
      · rename_i hc
        first
          | (have := hc.1; simpa using this)
          | simpa using hc
      · cases h
    · rename_i hu
      simp only [hu] at h ⊢
      split at h
      · rename_i hc
        first
          | (have := hc.1; simpa using this)
          | simpa using hc
      · cases h
    · cases hagg

open Classical in
theorem sim_eqagg {x y x' y' : Value} {xo yo : Operand} {t : TypeId} {neg : Bool} (hr : Rel G μ A w) (hx : VR μ x x') (hy : VR μ y y') (hagg : aggD' P t = true) (hk : P.keyTypeAt 8 t = true) (hg : P.eqGuardType P.depth t = false)
    (hs : sEqagg A neg (P.keyLits 8 t) x y = some (v, A')) :
    Sim G μ A w v A' ((do pure (.value (← (do eqGuard (if neg then .neq else .eql) t xo yo x' y'; binOp (if neg then .neq else .eql) t x' y'))) : Sem Next).run P w) := by
  unfold sEqagg at hs
  split at hs
  · rename_i a
    split at hs
    · rename_i b
      split at hs
      · rename_i hf
        simp only [Option.bind_eq_some_iff, Option.map_eq_some_iff] at hs
        obtain ⟨la, h1, lb, h2, h3⟩ := hs
        injection h3 with h3 h4; subst h3 h4
        have hx2 : ∃ a', x' = .agg a' := by cases hx <;> first | exact ⟨_, rfl⟩ | (rename_i h; simp [flatV] at h)
        have hy2 : ∃ a', y' = .agg a' := by cases hy <;> first | exact ⟨_, rfl⟩ | (rename_i h; simp [flatV] at h)
        obtain ⟨a', rfl⟩ := hx2
        obtain ⟨b', rfl⟩ := hy2
        obtain rfl := flat_same hx hf.1
        obtain rfl := flat_same hy hf.2
        obtain ⟨r, hr1, hr2⟩ := run_equalIn_deep 9992 8 t hk w 8 8 (.agg a') (.agg b') la lb (keyLits_formed hagg h1) (keyLits_formed hagg h2) h1 h2
        have e : 9992 + 8 = 10000 := rfl
        rw [e] at hr1
        have hrb : r = decide (la = lb) := by
          rw [Bool.eq_iff_iff]; simpa using hr2
        subst hrb
        refine Sim.flat hr (run_value ?_) rfl
        have hgd : ∀ op : BinOp, (op = .eql ∨ op = .neq) → (eqGuard op t xo yo (.agg a') (.agg b')).run P w = .ok () w := by
          intro op hop
          unfold eqGuard
          rcases hop with rfl | rfl <;> simp [run_program, hg]
        cases neg
        · simp only [Bool.false_eq_true, if_false, Sem.run_bind, hgd .eql (.inl rfl), Result.andThen_ok, run_eql_struct, hr1, Bool.bne_false]
        · simp only [if_true, Sem.run_bind, hgd .neq (.inr rfl), Result.andThen_ok, run_neq_struct, hr1, Bool.bne_true]
      · cases hs
    · cases hs
  · cases hs

end
end Go.AS
