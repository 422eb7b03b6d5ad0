import Derived.Test.YtgeoeagohhojbaaAs16
namespace Go.AS
open Go
set_option linter.unusedVariables false
set_option linter.unusedSimpArgs false
set_option linter.unusedSectionVars false

/-- The temporaries at which an operation looks. -/
def looks (ops : Array Oper) (o : Oper) : List Nat :=
  (o.op.operands.toList.filterMap fun | .tmp t => some t | _ => none) ++
  (match o.guard with
   | some (g, _) => ((ops[g]?).bind (·.dst)).toList
   | none => [])

/-- What the order of a region must keep to: B i is all that is ahead of i; ord is one order, in which what only looks comes as early as it can. -/
structure DOk (ops : Array Oper) (ios : List IOp) (B : List (List Nat)) (ord : List Nat) (fl : List Bool) : Prop where
  len : ios.length = ops.size
  full : ∀ i, i < ops.size → i ∈ ord
  nodup : ord.Nodup
  edgeLt : ∀ (i : Nat) o, ops[i]? = some o → ∀ e ∈ o.after, Region.binds .any e = true → e.on < ops.size
  edge : ∀ (i : Nat) o, ops[i]? = some o → ∀ e ∈ o.after, Region.binds .any e = true → e.on ∈ B.getD i []
  trans : ∀ i, i < ops.size → ∀ k ∈ B.getD i [], ∃ o, ops[i]? = some o ∧ ∃ e ∈ o.after, Region.binds .any e = true ∧ (k = e.on ∨ k ∈ B.getD e.on [])
  resp : ∀ (p : List Nat) i r, ord = p ++ i :: r → ∀ k ∈ B.getD i [], k ∈ p
  dsts : ∀ (i j : Nat) oi oj t, ops[i]? = some oi → ops[j]? = some oj → oi.dst = some t → oj.dst = some t → i = j
  wr : ∀ (i j : Nat) oi oj t, ops[i]? = some oi → ops[j]? = some oj → oi.dst = some t → t ∈ looks ops oj → i ∈ B.getD j [] ∨ i = j ∨ j ∈ B.getD i []
  loud : ∀ (p : List Nat) i r, ord = p ++ i :: r → ∀ (j : Nat) ioj, j ∈ p → ios[j]? = some ioj → kd ioj.op = 2 → j ∈ B.getD i []
  flag : ∀ (p : List Nat) i r, ord = p ++ i :: r → ∀ ioi, ios[i]? = some ioi → kd ioi.op = 2 → ∀ (q : Nat) ioq, q ∈ p → ios[q]? = some ioq → kd ioq.op = 1 → q ∈ B.getD i [] ∨ fl.getD i false = true

def withFl (ios : List IOp) (fl : List Bool) (i : Nat) : Option IOp := (ios[i]?).map fun io => { io with le := fl.getD i false }

section
variable {G : Nat} {P : Program} {N : Nat} {ops : Array Oper} {ios : List IOp} {B : List (List Nat)} {ord : List Nat} {fl : List Bool}

theorem cIOps_get : ∀ (l : List Oper) (il : List IOp), cIOps P G N ops l = some il → il.length = l.length ∧ ∀ (i : Nat) o, l[i]? = some o → ∃ io, il[i]? = some io ∧ cIOp P G N ops o = some io
  | [], il, h => by simp only [cIOps, Option.some.injEq] at h; subst h; exact ⟨rfl, fun i o ho => by simp at ho⟩
  | o :: l, il, h => by
    simp only [cIOps, Option.bind_eq_some_iff, Option.map_eq_some_iff] at h
    obtain ⟨io, h1, il', h2, rfl⟩ := h
    obtain ⟨g1, g2⟩ := cIOps_get l il' h2
    refine ⟨by simp [g1], fun i o' ho => ?_⟩
    cases i with
    | zero => simp only [List.getElem?_cons_zero, Option.some.injEq] at ho; subst ho; exact ⟨io, rfl, h1⟩
    | succ i => obtain ⟨io', a, b⟩ := g2 i o' (by simpa using ho); exact ⟨io', by simpa using a, b⟩

open Classical in
/-- Who writes a temporary. -/
noncomputable def writer (ops : Array Oper) (t : Nat) : Option Nat :=
  if h : ∃ (i : Nat) (o : Oper), ops[i]? = some o ∧ o.dst = some t then some h.choose else none

theorem writer_of (hd : DOk ops ios B ord fl) {i t : Nat} {o : Oper} (h1 : ops[i]? = some o) (h2 : o.dst = some t) : writer ops t = some i := by
  unfold writer
  have h : ∃ (i : Nat) (o : Oper), ops[i]? = some o ∧ o.dst = some t := ⟨i, o, h1, h2⟩
  rw [dif_pos h]
  obtain ⟨o', h3, h4⟩ := h.choose_spec
  rw [hd.dsts _ _ _ _ _ h3 h1 h4 h2]
theorem writer_some {i t : Nat} (h : writer ops t = some i) : ∃ o, ops[i]? = some o ∧ o.dst = some t := by
  unfold writer at h
  split at h
  · rename_i hx
    obtain rfl := Option.some.inj h
    exact hx.choose_spec
  · cases h

open Classical in
/-- What operation j sees. -/
noncomputable def env (ops : Array Oper) (B : List (List Nat)) (a0 a : AT) (j : Nat) : AT := fun t =>
  match writer ops t with
  | some i => if i ∈ B.getD j [] then a t else a0 t
  | none => a0 t

/-- What the machine's frame is held against. -/
noncomputable def cur (ops : Array Oper) (listed : Array Bool) (a0 a : AT) : AT := fun t =>
  match writer ops t with
  | some i => if listed.getD i false then a t else a0 t
  | none => a0 t

theorem ev_congr {a b : AT} {x : Operand} (h : ∀ t, x = .tmp t → a t = b t) : ev a x = ev b x := by
  cases x with
  | tmp t => exact h t rfl
  | _ => rfl

theorem looks_op {o : Oper} {t : Nat} (h : Operand.tmp t ∈ o.op.operands.toList) : t ∈ looks ops o := by
  unfold looks
  rw [List.mem_append]
  left
  rw [List.mem_filterMap]
  exact ⟨_, h, rfl⟩

theorem wantedA_congr {a b : AT} {o : Oper} {io : IOp} (hc : cIOp P G N ops o = some io) (h : ∀ t ∈ looks ops o, a t = b t) : wantedA a io.guard = wantedA b io.guard := by
  unfold cIOp at hc
  split at hc
  · rw [Option.bind_eq_some_iff] at hc
    obtain ⟨op, h1, h2⟩ := hc
    split at h2
    · injection h2 with h2; subst h2; rfl
    · rename_i j want hg
      split at h2
      · rename_i t ht
        split at h2
        · injection h2 with h2; subst h2
          have : t ∈ looks ops o := by
            unfold looks
            rw [List.mem_append]
            right
            rw [hg]
            simp [ht]
          simp only [wantedA, h t this]
        · cases h2
      · cases h2
  · cases hc

/-- What was worked out of an operation that only looks, ahead of the machine. -/
def Pend (ops : Array Oper) (B : List (List Nat)) (a0 aA : AT) (A : AH) (i : Nat) (o : Oper) (io : IOp) : Prop :=
  ∃ aq : AT, (∀ t ∈ looks ops o, aq t = env ops B a0 aA i t) ∧
    ((wantedA aq io.guard = true ∧ ∃ v Aq, step (ev aq) Aq io.op = some (v, Aq) ∧ (kd io.op = 1 → Le Aq A) ∧ ∀ t, o.dst = some t → aA t = v) ∨
     (wantedA aq io.guard = false ∧ ∀ t, o.dst = some t → aA t = undef))

structure Inv (ops : Array Oper) (ios : List IOp) (B : List (List Nat)) (ord : List Nat) (listed : Array Bool) (dn rest : List Nat) (a0 aA : AT) (A : AH) : Prop where
  split : ord = dn ++ rest
  lsize : listed.size = ops.size
  sub : ∀ i, listed.getD i false = true → i ∈ dn
  loudIn : ∀ (i : Nat) io, i ∈ dn → ios[i]? = some io → kd io.op = 2 → listed.getD i false = true
  closed : ∀ i, listed.getD i false = true → ∀ k ∈ B.getD i [], listed.getD k false = true
  fresh : ∀ t, (∀ i, writer ops t = some i → i ∉ dn) → aA t = a0 t
  pend : ∀ (i : Nat) o io, i ∈ dn → listed.getD i false = false → ops[i]? = some o → ios[i]? = some io → Pend ops B a0 aA A i o io

theorem mem_split {l : List Nat} {i : Nat} (h : i ∈ l) : ∃ p r, l = p ++ i :: r := List.append_of_mem h

section
variable (hd : DOk ops ios B ord fl)
include hd

theorem bef_dn {dn rest : List Nat} (hs : ord = dn ++ rest) {i : Nat} (hi : i ∈ dn) : ∀ k ∈ B.getD i [], k ∈ dn := by
  intro k hk
  obtain ⟨p, r, rfl⟩ := mem_split hi
  have := hd.resp p i (r ++ rest) (by rw [hs]; simp) k hk
  simp [this]

theorem notin {dn rest : List Nat} (hs : ord = dn ++ rest) {i : Nat} (hi : i ∈ rest) : i ∉ dn := by
  intro h
  have hn := hd.nodup
  rw [hs, List.nodup_append] at hn
  exact hn.2.2 i h i hi rfl

theorem lt_of_ord {i : Nat} {o : Oper} (h : ops[i]? = some o) : i < ops.size := by
  rcases Nat.lt_or_ge i ops.size with h' | h'
  · exact h'
  · rw [Array.getElem?_eq_none h'] at h; cases h

/-- What an operation that comes next in the order sees is what is there. -/
theorem sees {dn rest : List Nat} {a0 aA : AT} {i : Nat} {o : Oper} (hs : ord = dn ++ rest) (hfresh : ∀ t, (∀ i, writer ops t = some i → i ∉ dn) → aA t = a0 t) (hi : i ∉ dn) (ho : ops[i]? = some o) :
    ∀ t ∈ looks ops o, aA t = env ops B a0 aA i t := by
  intro t ht
  unfold env
  cases hw : writer ops t with
  | none => exact hfresh t (fun j hj => by rw [hw] at hj; cases hj)
  | some k =>
    simp only
    split
    · rfl
    · rename_i hk
      obtain ⟨ok, h1, h2⟩ := writer_some hw
      refine hfresh t (fun j hj => ?_)
      rw [hw] at hj
      obtain rfl := Option.some.inj hj
      rcases hd.wr k i ok o t h1 ho h2 ht with h | h | h
      · exact absurd h hk
      · subst h; exact hi
      · intro hkd
        exact hi (bef_dn hd hs hkd i h)

/-- A new value changes nothing for those that were worked out. -/
theorem env_put {dn rest : List Nat} {a0 aA : AT} {i q : Nat} {o : Oper} {v : Value} (hs : ord = dn ++ rest) (hi : i ∉ dn) (ho : ops[i]? = some o) (hq : q ∈ dn ∨ q = i) (hself : i ∉ B.getD i []) :
    env ops B a0 (put aA o.dst v) q = env ops B a0 aA q := by
  funext t
  unfold env
  cases hw : writer ops t with
  | none => rfl
  | some k =>
    simp only
    split
    · rename_i hk
      cases hdst : o.dst with
      | none => rfl
      | some d =>
        simp only [put, upd]
        split
        · rename_i hdt
          exfalso
          rw [hdt, writer_of hd ho hdst] at hw
          obtain rfl := Option.some.inj hw
          rcases hq with hq | rfl
          · exact hi (bef_dn hd hs hq _ hk)
          · exact hself hk
        · rfl
    · rfl

theorem self_not {i : Nat} (hi : i < ops.size) : i ∉ B.getD i [] := by
  intro h
  obtain ⟨p, r, hp⟩ := mem_split (hd.full i hi)
  have h1 := hd.resp p i r hp i h
  have hn := hd.nodup
  rw [hp, List.nodup_append] at hn
  exact hn.2.2 i h1 i (by simp) rfl

theorem put_other {i q : Nat} {o oq : Oper} {aA : AT} {v : Value} (ho : ops[i]? = some o) (hoq : ops[q]? = some oq) (hne : q ≠ i) : ∀ t, oq.dst = some t → (put aA o.dst v) t = aA t := by
  intro t ht
  cases hdst : o.dst with
  | none => rfl
  | some d =>
    simp only [put, upd]
    split
    · rename_i hdt
      subst hdt
      exact absurd (hd.dsts _ _ _ _ _ hoq ho ht hdst) hne
    · rfl

/-- What only looks is worked out as far as the next operation that may turn memory. -/
theorem advance (hios : cIOps P G N ops ops.toList = some ios) {listed : Array Bool} {Q : AT → AH → Prop} {a0 : AT} {A : AH} : ∀ (rest dn : List Nat) (aA : AT), Inv ops ios B ord listed dn rest a0 aA A → Wops G P Q (rest.filterMap (withFl ios fl)) aA A →
    ∃ dn' rest' aA', Inv ops ios B ord listed dn' rest' a0 aA' A ∧ Wops G P Q (rest'.filterMap (withFl ios fl)) aA' A ∧ (∀ i r, rest' = i :: r → ∃ io, ios[i]? = some io ∧ kd io.op = 2) ∧
      ∀ t k, writer ops t = some k → k ∈ dn → aA' t = aA t
  | [], dn, aA, h, hw => ⟨dn, [], aA, h, hw, (fun i r hr => by cases hr), fun _ _ _ _ => rfl⟩
  | i :: rest, dn, aA, h, hw => by
    have hmem : i ∈ ord := by rw [h.split]; simp
    by_cases hlt : i < ops.size
    case neg =>
      -- no such operation: it is passed
      have hnone : withFl ios fl i = none := by
        unfold withFl
        rw [List.getElem?_eq_none (by rw [hd.len]; omega)]; rfl
      rw [List.filterMap_cons_none hnone] at hw
      have hnop : ∀ o, ops[i]? ≠ some o := fun o ho => hlt (lt_of_ord hd ho)
      suffices hI' : Inv ops ios B ord listed (dn ++ [i]) rest a0 aA A by
        obtain ⟨dn', rest', aA', r1, r2, r3, r4⟩ := advance hios rest (dn ++ [i]) aA hI' hw
        exact ⟨dn', rest', aA', r1, r2, r3, fun t k hk hkd => r4 t k hk (by simp [hkd])⟩
      refine ⟨by rw [h.split]; simp, h.lsize, fun j hj => by simp [h.sub j hj], ?_, h.closed, ?_, ?_⟩
      · intro j io hj hio hk
        rcases List.mem_append.1 hj with hj | hj
        · exact h.loudIn j io hj hio hk
        · simp only [List.mem_singleton] at hj; subst hj
          rw [List.getElem?_eq_none (by rw [hd.len]; omega)] at hio; cases hio
      · intro t ht
        exact h.fresh t (fun j hj hjd => ht j hj (by simp [hjd]))
      · intro j o io hj hl ho hio
        rcases List.mem_append.1 hj with hj | hj
        · exact h.pend j o io hj hl ho hio
        · simp only [List.mem_singleton] at hj; subst hj
          exact absurd ho (hnop o)
    case pos =>
      obtain ⟨o, ho⟩ : ∃ o, ops[i]? = some o := ⟨ops[i], Array.getElem?_eq_getElem hlt⟩
      obtain ⟨_, hget⟩ := cIOps_get _ _ hios
      obtain ⟨io, hio, hcio⟩ := hget i o (by simpa using ho)
      by_cases hk : kd io.op = 2
      · exact ⟨dn, i :: rest, aA, h, hw, (fun j r hr => by injection hr with h1 h2; subst h1; exact ⟨io, hio, hk⟩), fun _ _ _ _ => rfl⟩
      · have hsome : withFl ios fl i = some { io with le := fl.getD i false } := by unfold withFl; rw [hio]; rfl
        rw [List.filterMap_cons_some hsome] at hw
        have hid : i ∉ dn := notin hd h.split (by simp)
        have hsee := sees hd h.split h.fresh hid ho
        have hself := self_not hd hlt
        have hcal : isCall io.op = false := by
          cases hq : io.op <;> first | rfl | (rw [hq] at hk; simp [kd] at hk)
        obtain ⟨_, gdst, _, _, _⟩ : Region.wanted o (yielded ops #[]) = Region.wanted o (yielded ops #[]) ∧ io.dst = o.dst ∧ True ∧ True ∧ True := by
          refine ⟨rfl, ?_, trivial, trivial, trivial⟩
          unfold cIOp at hcio
          split at hcio
          · rw [Option.bind_eq_some_iff] at hcio
            obtain ⟨op, _, h2⟩ := hcio
            split at h2
            · injection h2 with h2; subst h2; rfl
            · split at h2
              · split at h2
                · injection h2 with h2; subst h2; rfl
                · cases h2
              · cases h2
          · cases hcio
        -- what is common to both ways
        have key : ∀ v : Value, ((wantedA aA io.guard = true ∧ ∃ Aq, step (ev aA) Aq io.op = some (v, Aq) ∧ Le Aq A) ∨ (wantedA aA io.guard = false ∧ v = undef)) → Wops G P Q (rest.filterMap (withFl ios fl)) (put aA o.dst v) A →
            ∃ dn' rest' aA', Inv ops ios B ord listed dn' rest' a0 aA' A ∧ Wops G P Q (rest'.filterMap (withFl ios fl)) aA' A ∧ (∀ i r, rest' = i :: r → ∃ io, ios[i]? = some io ∧ kd io.op = 2) ∧
              ∀ t k, writer ops t = some k → k ∈ dn → aA' t = aA t := by
          intro v hv hw2
          suffices hI' : Inv ops ios B ord listed (dn ++ [i]) rest a0 (put aA o.dst v) A by
            obtain ⟨dn', rest', aA', r1, r2, r3, r4⟩ := advance hios rest (dn ++ [i]) (put aA o.dst v) hI' hw2
            refine ⟨dn', rest', aA', r1, r2, r3, fun t k hk hkd => ?_⟩
            rw [r4 t k hk (by simp [hkd])]
            obtain ⟨ok, h4, h5⟩ := writer_some hk
            exact put_other hd ho h4 (fun e => hid (e ▸ hkd)) t h5
          refine ⟨by rw [h.split]; simp, h.lsize, fun j hj => by simp [h.sub j hj], ?_, h.closed, ?_, ?_⟩
          · intro j io' hj hio' hk'
            rcases List.mem_append.1 hj with hj | hj
            · exact h.loudIn j io' hj hio' hk'
            · simp only [List.mem_singleton] at hj; subst hj
              rw [hio] at hio'; obtain rfl := Option.some.inj hio'
              exact absurd hk' hk
          · intro t ht
            have hne : ∀ d, o.dst = some d → t ≠ d := by
              intro d hd' htd
              subst htd
              exact ht i (writer_of hd ho hd') (by simp)
            have e : (put aA o.dst v) t = aA t := by
              cases hdst : o.dst with
              | none => rfl
              | some d => simp only [put, upd]; rw [if_neg (hne d hdst)]
            rw [e]
            exact h.fresh t (fun j hj hjd => ht j hj (by simp [hjd]))
          · intro j oj ioj hj hl hoj hioj
            rcases List.mem_append.1 hj with hj1 | hj
            · obtain ⟨aq, h1, h2⟩ := h.pend j oj ioj hj1 hl hoj hioj
              have hne : j ≠ i := fun e => hid (e ▸ hj1)
              refine ⟨aq, by rw [env_put hd h.split hid ho (.inl hj1) hself]; exact h1, ?_⟩
              rcases h2 with ⟨w1, v', Aq, w2, w3, w4⟩ | ⟨w1, w2⟩
              · exact .inl ⟨w1, v', Aq, w2, w3, fun t ht => by rw [put_other hd ho hoj hne t ht]; exact w4 t ht⟩
              · exact .inr ⟨w1, fun t ht => by rw [put_other hd ho hoj hne t ht]; exact w2 t ht⟩
            · simp only [List.mem_singleton] at hj; subst hj
              rw [hio] at hioj; obtain rfl := Option.some.inj hioj
              rw [ho] at hoj; obtain rfl := Option.some.inj hoj
              refine ⟨aA, by rw [env_put hd h.split hid ho (.inr rfl) hself]; exact hsee, ?_⟩
              have hput : ∀ t, o.dst = some t → (put aA o.dst v) t = v := by
                intro t ht; rw [ht]; simp [put, upd]
              rcases hv with ⟨w1, Aq, w2, w3⟩ | ⟨w1, w2⟩
              · exact .inl ⟨w1, v, Aq, w2, fun _ => w3, hput⟩
              · exact .inr ⟨w1, fun t ht => by rw [hput t ht, w2]⟩
        simp only [Wops] at hw
        rw [gdst] at hw
        split at hw
        · rename_i hwa
          have hw' : ∃ v A', step (ev aA) A io.op = some (v, A') ∧ ((fl.getD i false = true → Le A A') ∧ Wops G P Q (rest.filterMap (withFl ios fl)) (put aA o.dst v) A') := by
            unfold W1 at hw
            cases hq : io.op <;> rw [hq] at hw hcal <;> first
              | exact hw
              | (simp [isCall] at hcal)
          obtain ⟨v, A', hst, _, hw2⟩ := hw'
          obtain ⟨rfl, _⟩ := step_quiet hk hst
          exact key v (.inl ⟨hwa, A', hst, Le.refl _⟩) hw2
        · rename_i hwa
          exact key undef (.inr ⟨by simpa using hwa, rfl⟩) hw

theorem getD_set (l : Array Bool) (i j : Nat) (hi : i < l.size) : (l.setIfInBounds i true).getD j false = if j = i then true else l.getD j false := by
  simp only [Array.getD_eq_getD_getElem?, Array.getElem?_setIfInBounds]
  by_cases h : i = j
  · subst h; simp [hi]
  · rw [if_neg h, if_neg (fun e => h e.symm)]

/-- What is known of the machine's frame behind an operation. -/
theorem cur_set {listed : Array Bool} {a0 aA : AT} {μ : Mu} {r : Act} {i : Nat} {o : Oper} {v v' : Value} (ho : ops[i]? = some o) (hi : i < listed.size) (h : ActR μ N (cur ops listed a0 aA) r) (hv : VR μ v v')
    (ha : ∀ t, o.dst = some t → aA t = v) : ActR μ N (cur ops (listed.setIfInBounds i true) a0 aA) (r.put o.dst v') := by
  have h2 := h.put o.dst hv
  refine ⟨h2.size, h2.defers, fun j u hu => ?_⟩
  have h3 := h2.vals j u hu
  have : cur ops (listed.setIfInBounds i true) a0 aA j = (put (cur ops listed a0 aA) o.dst v) j := by
    unfold cur
    cases hdst : o.dst with
    | none =>
      simp only [put]
      cases hw : writer ops j with
      | none => rfl
      | some k =>
        simp only [getD_set hd listed i k hi]
        have : k ≠ i := by
          rintro rfl
          obtain ⟨ok, h4, h5⟩ := writer_some hw
          rw [ho] at h4; obtain rfl := Option.some.inj h4
          rw [hdst] at h5; cases h5
        rw [if_neg this]
    | some d =>
      simp only [put, upd]
      by_cases hjd : j = d
      · subst hjd
        rw [if_pos rfl, writer_of hd ho hdst]
        simp only [getD_set hd listed i i hi, if_true]
        exact ha j hdst
      · rw [if_neg hjd]
        cases hw : writer ops j with
        | none => rfl
        | some k =>
          simp only [getD_set hd listed i k hi]
          have : k ≠ i := by
            rintro rfl
            obtain ⟨ok, h4, h5⟩ := writer_some hw
            rw [ho] at h4; obtain rfl := Option.some.inj h4
            rw [hdst] at h5; exact hjd (Option.some.inj h5).symm
          rw [if_neg this]
  rw [this]; exact h3

theorem ready_iff {listed : Array Bool} {i : Nat} (h : i ∈ Region.ready .any ops listed) : listed.getD i true = false ∧ ∃ o, ops[i]? = some o ∧ ∀ e ∈ o.after, Region.binds .any e = true → listed.getD e.on false = true := by
  unfold Region.ready at h
  rw [List.mem_filter] at h
  obtain ⟨h1, h2⟩ := h
  rw [List.mem_range] at h1
  rw [Bool.and_eq_true] at h2
  refine ⟨by simpa using h2.1, ops[i], Array.getElem?_eq_getElem h1, ?_⟩
  have h3 := h2.2
  rw [Array.getElem?_eq_getElem h1] at h3
  simp only [Option.map_some, Option.getD_some] at h3
  rw [Array.all_eq_true_iff_forall_mem] at h3
  intro e he hb
  have := h3 e he
  simpa [hb] using this

theorem bef_listed {listed : Array Bool} (hcl : ∀ i, listed.getD i false = true → ∀ k ∈ B.getD i [], listed.getD k false = true) {i : Nat} {o : Oper} (ho : ops[i]? = some o)
    (he : ∀ e ∈ o.after, Region.binds .any e = true → listed.getD e.on false = true) : ∀ k ∈ B.getD i [], listed.getD k false = true := by
  intro k hk
  obtain ⟨o', h1, e, h2, h3, h4⟩ := hd.trans i (lt_of_ord hd ho) k hk
  rw [ho] at h1; obtain rfl := Option.some.inj h1
  rcases h4 with rfl | h4
  · exact he e h2 h3
  · exact hcl e.on (he e h2 h3) k h4

theorem cur_eq {listed : Array Bool} {a0 aA : AT} (hcl : ∀ i, listed.getD i false = true → ∀ k ∈ B.getD i [], listed.getD k false = true) {i : Nat} {o : Oper} (ho : ops[i]? = some o) (hn : listed.getD i false = false)
    (hb : ∀ k ∈ B.getD i [], listed.getD k false = true) : ∀ t ∈ looks ops o, cur ops listed a0 aA t = env ops B a0 aA i t := by
  intro t ht
  unfold cur env
  cases hw : writer ops t with
  | none => rfl
  | some k =>
    simp only
    obtain ⟨ok, h1, h2⟩ := writer_some hw
    by_cases hk : k ∈ B.getD i []
    · rw [if_pos (hb k hk), if_pos hk]
    · rw [if_neg hk]
      rcases hd.wr k i ok o t h1 ho h2 ht with h | h | h
      · exact absurd h hk
      · subst h; rw [hn]; rfl
      · have : listed.getD k false = false := by
          cases hq : listed.getD k false with
          | false => rfl
          | true => have := hcl k hq i h; rw [hn] at this; cases this
        rw [this]; rfl

/-- EVERY ORDER COMES TO WHAT THE ONE ORDER COMES TO. -/
theorem any_sound (hios : cIOps P G N ops ops.toList = some ios) {Q : AT → AH → Prop} {Q' : Exit → Act → World → Prop} {μ0 : Mu} {A0 : AH} {w0 : World} {a0 : AT}
    (hQ : ∀ μ a A r w, Rel G μ A w → ActR μ N a r → Stp μ0 A0 w0 μ A w → Q a A → Q' .normal r w) :
    ∀ (fuel : Nat) (listed : Array Bool) (dn rest : List Nat) (aA : AT) (A : AH) (μ : Mu) (r : Act) (w : World), Inv ops ios B ord listed dn rest a0 aA A → Wops G P Q (rest.filterMap (withFl ios fl)) aA A →
      (∀ i q, rest = i :: q → ∃ io, ios[i]? = some io ∧ kd io.op = 2) → ((List.range ops.size).filter fun i => !listed.getD i false).length ≤ fuel →
      Rel G μ A w → ActR μ N (cur ops listed a0 aA) r → Stp μ0 A0 w0 μ A w → wpAny P .any ops Q' fuel listed r w := by
  -- when nothing is ready all is done
  have hend : ∀ (listed : Array Bool) (dn rest : List Nat) (aA : AT) (A : AH) (μ : Mu) (r : Act) (w : World), Inv ops ios B ord listed dn rest a0 aA A → Wops G P Q (rest.filterMap (withFl ios fl)) aA A →
      (∀ i q, rest = i :: q → ∃ io, ios[i]? = some io ∧ kd io.op = 2) → Rel G μ A w → ActR μ N (cur ops listed a0 aA) r → Stp μ0 A0 w0 μ A w → Region.ready .any ops listed = [] → (∀ i, i < ops.size → listed.getD i false = true) ∧ Q' .normal r w := by
    intro listed dn rest aA A μ r w hI hw hhead hr ha hst hready
    have hall : ∀ (p r : List Nat), ord = p ++ r → ∀ i ∈ p, i < ops.size → listed.getD i false = true := by
      suffices hn : ∀ (n : Nat) (p r : List Nat), p.length = n → ord = p ++ r → ∀ i ∈ p, i < ops.size → listed.getD i false = true from fun p r => hn p.length p r rfl
      intro n
      induction n with
      | zero => intro p r hp _ i hi; rw [List.length_eq_zero_iff] at hp; subst hp; cases hi
      | succ n ih =>
        intro p0 r hp0 hor i hi hlt
        obtain ⟨p, x, rfl⟩ : ∃ p x, p0 = p ++ [x] := by
          rcases List.eq_nil_or_concat p0 with h | ⟨p, x, h⟩
          · subst h; simp at hp0
          · exact ⟨p, x, by rw [h, List.concat_eq_append]⟩
        have ih' := ih p ([x] ++ r) (by simpa using hp0) (by rw [hor]; simp)
        rcases List.mem_append.1 hi with hi | hi
        · exact ih' i hi hlt
        · simp only [List.mem_singleton] at hi
          subst hi
          cases hl : listed.getD i false with
          | true => rfl
          | false =>
            exfalso
            have hmem : i ∈ Region.ready .any ops listed := by
              unfold Region.ready
              rw [List.mem_filter]
              refine ⟨by rw [List.mem_range]; exact hlt, ?_⟩
              have hl2 : listed.getD i true = false := by
                have : i < listed.size := by rw [hI.lsize]; exact hlt
                simp only [Array.getD_eq_getD_getElem?, Array.getElem?_eq_getElem this, Option.getD_some] at hl ⊢
                exact hl
              rw [hl2, Array.getElem?_eq_getElem hlt]
              simp only [Option.map_some, Option.getD_some, Bool.not_false, Bool.true_and]
              rw [Array.all_eq_true_iff_forall_mem]
              intro e he
              cases hbn : Region.binds .any e with
              | false => rfl
              | true =>
                simp only [Bool.not_true, Bool.false_or]
                have hB := hd.edge i _ (Array.getElem?_eq_getElem hlt) e he hbn
                have hp := hd.resp p i r (by rw [hor]; simp) _ hB
                by_cases hel : e.on < ops.size
                · exact ih' _ hp hel
                · exfalso
                  obtain ⟨o', h1, _⟩ := hd.trans i hlt e.on hB
                  -- an edge to nothing: its place in the order is before i, and it is no operation
                  exact hel (hd.edgeLt i _ (Array.getElem?_eq_getElem hlt) e he hbn)
            rw [hready] at hmem
            cases hmem
    have hlist : ∀ i, i < ops.size → listed.getD i false = true := fun i hi => hall ord [] (by simp) i (hd.full i hi) hi
    refine ⟨hlist, ?_⟩
    have hrest : rest = [] := by
      cases hrs : rest with
      | nil => rfl
      | cons i q =>
        exfalso
        obtain ⟨io, hio, _⟩ := hhead i q hrs
        have hi : i < ops.size := by rw [← hd.len]; exact lt_of_get hio
        exact notin hd hI.split (by rw [hrs]; simp) (hI.sub i (hlist i hi))
    subst hrest
    refine hQ μ aA A r w hr ⟨ha.size, ha.defers, fun j u hu => ?_⟩ hst hw
    have h3 := ha.vals j u hu
    have : cur ops listed a0 aA j = aA j := by
      unfold cur
      cases hwj : writer ops j with
      | none => exact (hI.fresh j (fun i hi => by rw [hwj] at hi; cases hi)).symm
      | some k =>
        obtain ⟨ok, h4, _⟩ := writer_some hwj
        simp only [hlist k (lt_of_ord hd h4), if_true]
    rw [← this]; exact h3
  intro fuel
  induction fuel with
  | zero =>
    intro listed dn rest aA A μ r w hI hw hhead hf hr ha hst
    have hnone : Region.ready .any ops listed = [] := by
      cases hq : Region.ready .any ops listed with
      | nil => rfl
      | cons i q =>
        exfalso
        obtain ⟨h1, o, h2, _⟩ := ready_iff hd (show i ∈ Region.ready .any ops listed by rw [hq]; simp)
        have hlt := lt_of_ord hd h2
        have : i ∈ (List.range ops.size).filter fun i => !listed.getD i false := by
          rw [List.mem_filter, List.mem_range]
          refine ⟨hlt, ?_⟩
          have : i < listed.size := by rw [hI.lsize]; exact hlt
          simp only [Array.getD_eq_getD_getElem?, Array.getElem?_eq_getElem this, Option.getD_some] at h1 ⊢
          simp [h1]
        have := List.length_pos_of_mem this
        omega
    exact ⟨hnone, (hend listed dn rest aA A μ r w hI hw hhead hr ha hst hnone).2⟩
  | succ fuel ih =>
    intro listed dn rest aA A μ r w hI hw hhead hf hr ha hst
    refine ⟨fun hnone => (hend listed dn rest aA A μ r w hI hw hhead hr ha hst hnone).2, fun i hi => ?_⟩
    obtain ⟨hl, o, ho, hedge⟩ := ready_iff hd hi
    have hlt := lt_of_ord hd ho
    have hls : i < listed.size := by rw [hI.lsize]; exact hlt
    have hlf : listed.getD i false = false := by
      simp only [Array.getD_eq_getD_getElem?, Array.getElem?_eq_getElem hls, Option.getD_some] at hl ⊢
      exact hl
    have hbl := bef_listed hd hI.closed ho hedge
    have hcur := cur_eq hd (a0 := a0) (aA := aA) hI.closed ho hlf hbl
    obtain ⟨_, hget⟩ := cIOps_get _ _ hios
    obtain ⟨io, hio, hcio⟩ := hget i o (by simpa using ho)
    have hcount : ((List.range ops.size).filter fun j => !(listed.setIfInBounds i true).getD j false).length ≤ fuel := by
      have hlt2 : ((List.range ops.size).filter fun j => !(listed.setIfInBounds i true).getD j false).length < ((List.range ops.size).filter fun j => !listed.getD j false).length := by
        have e : ((List.range ops.size).filter fun j => !(listed.setIfInBounds i true).getD j false) = ((List.range ops.size).filter fun j => !listed.getD j false).filter fun j => j != i := by
          rw [List.filter_filter]
          congr 1
          funext j
          rw [getD_set hd listed i j hls]
          by_cases hj : j = i
          · subst hj; simp
          · simp [hj]
        rw [e]
        have hm : i ∈ (List.range ops.size).filter fun j => !listed.getD j false := by
          rw [List.mem_filter, List.mem_range]
          exact ⟨hlt, by simp [hlf]⟩
        refine Nat.lt_of_le_of_ne (List.length_filter_le _ _) (fun heq => ?_)
        have := List.length_filter_eq_length_iff.1 heq i hm
        simp at this
      omega
    unfold wpOp
    simp only [ho]
    obtain ⟨g1, g2, g3, g4, g5⟩ := wanted_rel hcio ha
    rw [g1]
    have hclosed' : ∀ j, (listed.setIfInBounds i true).getD j false = true → ∀ k ∈ B.getD j [], (listed.setIfInBounds i true).getD k false = true := by
      intro j hj k hk
      rw [getD_set hd listed i _ hls] at hj ⊢
      split
      · rfl
      · split at hj
        · rename_i hji; subst hji; exact hbl k hk
        · exact hI.closed j hj k hk
    by_cases hdn : i ∈ dn
    · -- it was worked out
      obtain ⟨aq, p1, p2⟩ := hI.pend i o io hdn hlf ho hio
      have hae : ∀ t ∈ looks ops o, cur ops listed a0 aA t = aq t := fun t ht => by rw [hcur t ht, p1 t ht]
      have hwq : wantedA (cur ops listed a0 aA) io.guard = wantedA aq io.guard := wantedA_congr hcio hae
      have hInv' : Inv ops ios B ord (listed.setIfInBounds i true) dn rest a0 aA A := by
        refine ⟨hI.split, by simp [hI.lsize], ?_, ?_, hclosed', hI.fresh, ?_⟩
        · intro j hj
          rw [getD_set hd listed i _ hls] at hj
          split at hj
          · rename_i hji; subst hji; exact hdn
          · exact hI.sub j hj
        · intro j ioj hj h1 h2
          rw [getD_set hd listed i _ hls]
          split
          · rfl
          · exact hI.loudIn j ioj hj h1 h2
        · intro j oj ioj hj h1 h2 h3
          rw [getD_set hd listed i _ hls] at h1
          split at h1
          · cases h1
          · exact hI.pend j oj ioj hj h1 h2 h3
      rw [hwq]
      rcases p2 with ⟨w1, v, Aq, w2, w3, w4⟩ | ⟨w1, w2⟩
      · rw [w1]
        simp only [if_true]
        left
        have hk2 : kd io.op ≠ 2 := by
          intro hk
          have := hI.loudIn i io hdn hio hk
          rw [hlf] at this; cases this
        obtain ⟨_, hs2⟩ := step_quiet hk2 w2
        have hs3 := hs2 A w3
        have hW : W1 G P aq A io.op (fun u A' => u = v ∧ A' = A) := by
          unfold W1
          cases hq : io.op <;> first
            | (rw [hq] at hk2; simp [kd] at hk2; done)
            | (rw [hq] at hs3; exact ⟨v, A, hs3, rfl, rfl⟩)
        refine W1_sound (a := aq) g4 hr (fun x hx => ?_) hW _ _ ?_
        · have : ev aq x = ev (cur ops listed a0 aA) x := ev_congr (fun t ht => (hae t (looks_op (by rw [← ht]; exact hx))).symm)
          rw [this]
          exact ha.ev hr (g5 x hx)
        · rintro v' w' ⟨u, μ', A', hv, hr', hst', rfl, rfl⟩
          obtain ⟨q, rfl⟩ := hst'.pre
          exact ih _ dn rest aA A' _ _ w' hInv' hw hhead hcount hr' (cur_set hd ho hls ha.mono hv w4) (hst.trans hst')
      · rw [w1]
        simp only [Bool.false_eq_true, if_false]
        exact ih _ dn rest aA A _ _ w hInv' hw hhead hcount hr (cur_set hd ho hls ha (VR.undef _) w2) hst
    · -- it may turn memory: it is the next one
      have hir : i ∈ rest := by
        have := hd.full i hlt
        rw [hI.split, List.mem_append] at this
        exact this.resolve_left hdn
      cases hrs : rest with
      | nil => rw [hrs] at hir; cases hir
      | cons h q =>
        obtain ⟨ioh, hioh, hkh⟩ := hhead h q hrs
        have hih : i = h := by
          rw [hrs] at hir
          rcases List.mem_cons.1 hir with hir | hir
          · exact hir
          · exfalso
            obtain ⟨p2, r2, hp2⟩ := mem_split hir
            have hB := hd.loud (dn ++ h :: p2) i r2 (by rw [hI.split, hrs, hp2]; simp) h ioh (by simp) hioh hkh
            exact notin hd hI.split (by rw [hrs]; simp) (hI.sub h (hbl h hB))
        subst hih
        have hid : i ∉ dn := hdn
        rw [hio] at hioh; obtain rfl := Option.some.inj hioh
        have hsee := sees hd hI.split hI.fresh hid ho
        have hself := self_not hd hlt
        have hae : ∀ t ∈ looks ops o, cur ops listed a0 aA t = aA t := fun t ht => by rw [hcur t ht, hsee t ht]
        have hwq : wantedA (cur ops listed a0 aA) io.guard = wantedA aA io.guard := wantedA_congr hcio hae
        rw [hwq]
        rw [hrs] at hw
        have hsome : withFl ios fl i = some { io with le := fl.getD i false } := by unfold withFl; rw [hio]; rfl
        rw [List.filterMap_cons_some hsome] at hw
        simp only [Wops] at hw
        rw [g2] at hw
        -- what is common to both ways
        have key : ∀ (v v' : Value) (A' : AH) (μ' : Mu) (w' : World), (fl.getD i false = true → Le A A') → Wops G P Q (q.filterMap (withFl ios fl)) (put aA o.dst v) A' → VR μ' v v' → Rel G μ' A' w' → Stp μ A w μ' A' w' →
            wpAny P .any ops Q' fuel (listed.setIfInBounds i true) (r.put o.dst v') w' := by
          intro v v' A' μ' w' hle hw2 hv hr' hst'
          obtain ⟨q2, rfl⟩ := hst'.pre
          have hInv' : Inv ops ios B ord (listed.setIfInBounds i true) (dn ++ [i]) q a0 (put aA o.dst v) A' := by
            refine ⟨by rw [hI.split, hrs]; simp, by simp [hI.lsize], ?_, ?_, hclosed', ?_, ?_⟩
            · intro j hj
              rw [getD_set hd listed i _ hls] at hj
              split at hj
              · rename_i hji; subst hji; simp
              · simp [hI.sub j hj]
            · intro j ioj hj h1 h2
              rw [getD_set hd listed i _ hls]
              split
              · rfl
              · rename_i hji
                rcases List.mem_append.1 hj with hj | hj
                · exact hI.loudIn j ioj hj h1 h2
                · simp only [List.mem_singleton] at hj; exact absurd hj hji
            · intro t ht
              have hne : ∀ d, o.dst = some d → t ≠ d := by
                intro d hd' htd
                subst htd
                exact ht i (writer_of hd ho hd') (by simp)
              have e : (put aA o.dst v) t = aA t := by
                cases hdst : o.dst with
                | none => rfl
                | some d => simp only [put, upd]; rw [if_neg (hne d hdst)]
              rw [e]
              exact hI.fresh t (fun j hj hjd => ht j hj (by simp [hjd]))
            · intro j oj ioj hj h1 h2 h3
              rw [getD_set hd listed i _ hls] at h1
              split at h1
              · cases h1
              · rename_i hji
                have hj1 : j ∈ dn := by
                  rcases List.mem_append.1 hj with hj | hj
                  · exact hj
                  · simp only [List.mem_singleton] at hj; exact absurd hj hji
                obtain ⟨aq, k1, k2⟩ := hI.pend j oj ioj hj1 h1 h2 h3
                refine ⟨aq, by rw [env_put hd hI.split hid ho (.inl hj1) hself]; exact k1, ?_⟩
                rcases k2 with ⟨w1, u, Aq, w2, w3, w4⟩ | ⟨w1, w2⟩
                · refine .inl ⟨w1, u, Aq, w2, fun hk1 => ?_, fun t ht => by rw [put_other hd ho h2 hji t ht]; exact w4 t ht⟩
                  refine (w3 hk1).trans (hle ?_)
                  rcases hd.flag dn i q (by rw [hI.split, hrs]) io hio hkh j ioj hj1 h3 hk1 with hB | hB
                  · exfalso
                    have := hbl j hB
                    rw [h1] at this; cases this
                  · exact hB
                · exact .inr ⟨w1, fun t ht => by rw [put_other hd ho h2 hji t ht]; exact w2 t ht⟩
          obtain ⟨dn', rest', aA', hI2, hw3, hh2, hkeep⟩ := advance hd hios q (dn ++ [i]) (put aA o.dst v) hInv' hw2
          refine ih _ dn' rest' aA' A' _ _ w' hI2 hw3 hh2 hcount hr' ?_ (hst.trans hst')
          -- the frame: 'advance' turned what is not listed alone
          have h0 : ActR (μ ++ q2) N (cur ops (listed.setIfInBounds i true) a0 (put aA o.dst v)) (r.put o.dst v') := by
            have h1 := cur_set (N := N) (aA := put aA o.dst v) hd ho hls (μ := μ ++ q2) (r := r) (a0 := a0) (listed := listed) (v := v) (v' := v') ?_ hv (fun t ht => by rw [ht]; simp [put, upd])
            · exact h1
            · have h2 := ha.mono (r := q2)
              refine ⟨h2.size, h2.defers, fun j u hu => ?_⟩
              have h3 := h2.vals j u hu
              have : cur ops listed a0 (put aA o.dst v) j = cur ops listed a0 aA j := by
                unfold cur
                cases hwj : writer ops j with
                | none => rfl
                | some k =>
                  simp only
                  split
                  · rename_i hlk
                    obtain ⟨ok, h4, h5⟩ := writer_some hwj
                    have hki : k ≠ i := by rintro rfl; rw [hlf] at hlk; cases hlk
                    exact put_other hd ho h4 hki j h5
                  · rfl
              rw [this]; exact h3
          refine ⟨h0.size, h0.defers, fun j u hu => ?_⟩
          have h3 := h0.vals j u hu
          have : cur ops (listed.setIfInBounds i true) a0 aA' j = cur ops (listed.setIfInBounds i true) a0 (put aA o.dst v) j := by
            unfold cur
            cases hwj : writer ops j with
            | none => rfl
            | some k =>
              simp only
              split
              · rename_i hlk
                exact hkeep j k hwj (hInv'.sub k hlk)
              · rfl
          rw [this]; exact h3
        split at hw
        · rename_i hwa
          rw [hwa]
          simp only [if_true]
          left
          refine W1_sound g4 hr (fun x hx => ?_) hw _ _ ?_
          · have : ev aA x = ev (cur ops listed a0 aA) x := ev_congr (fun t ht => (hae t (looks_op (by rw [← ht]; exact hx))).symm)
            rw [this]
            exact ha.ev hr (g5 x hx)
          · rintro v' w' ⟨v, μ', A', hv, hr', hst', hle, hw2⟩
            exact key v v' A' μ' w' hle hw2 hv hr' hst'
        · rename_i hwa
          rw [if_neg (by simpa using hwa)]
          exact key undef undef A μ w (fun _ => Le.refl _) hw (VR.undef _) hr (Stp.refl _ _ _)

end
end
end Go.AS
