/- Lemmas for the proof of a given statement; no conditions. -/
import Derived.Test.YtpaegpjgegcdeaaM1
import Derived.DeepKeys3
import Derived.MapKept
import Derived.Scope
import Derived.Orders
import Derived.Deep.LoopGhost
import Derived.Defers
set_option maxHeartbeats 1000000

namespace Go.AS
open Go
set_option linter.unusedVariables false
set_option linter.unusedSimpArgs false

def cflat : Value → Bool
  | .agg cs => cs.toList.all flatV
  | .tuple cs => cs.toList.all flatV
  | v => flatV v
def opOk (G N : Nat) : Operand → Bool
  | .tmp t => decide (t < N)
  | .const v => cflat v
  | .global g => decide (g < G)
  | .func _ => true

theorem VR.cflat {μ : Mu} {v : Value} (h : cflat v = true) : VR μ v v := by
  unfold AS.cflat at h
  split at h
  · refine .agg rfl (fun j x y hx hy => ?_)
    rw [hx] at hy
    obtain rfl := Option.some.inj hy
    rw [List.all_eq_true] at h
    exact .flat (h x (List.mem_of_getElem? (by simpa using hx)))
  · refine .tuple rfl (fun j x y hx hy => ?_)
    rw [hx] at hy
    obtain rfl := Option.some.inj hy
    rw [List.all_eq_true] at h
    exact .flat (h x (List.mem_of_getElem? (by simpa using hx)))
  · exact .flat h

/-- Deferred calls of plain functions, abstract and the machine's. -/
inductive DR (μ : Mu) : List Value → List Deferred → Prop
  | nil : DR μ [] []
  | cons {f : FuncId} {args : List Value} {args' : Array Value} {vs : List Value} {ds : List Deferred} (h1 : args'.size = args.length) (h2 : ∀ (j : Nat) v v', args[j]? = some v → args'[j]? = some v' → VR μ v v')
      (t : DR μ vs ds) : DR μ (.func (.func f) args.toArray #[] :: vs) ({ target := .fn (.func f) #[], args := args' } :: ds)
theorem DR.mono {μ r : Mu} {vs : List Value} {ds : List Deferred} (h : DR μ vs ds) : DR (μ ++ r) vs ds := by
  induction h with
  | nil => exact .nil
  | cons h1 h2 _ ih => exact .cons h1 (fun j v v' a b => (h2 j v v' a b).mono) ih

structure ActR (μ : Mu) (N : Nat) (dm : Bool) (a : AT) (r : Act) : Prop where
  size : r.tmps.size = N
  nod : dm = false → r.defers = []
  dfr : dm = true → ∃ vs : List Value, a dsl = .tuple vs.toArray ∧ DR μ vs r.defers
  vals : ∀ (j : Nat) v', r.tmps[j]? = some v' → VR μ (a j) v'

theorem ActR.mono {μ r : Mu} {N : Nat} {dm : Bool} {a : AT} {b : Act} (h : ActR μ N dm a b) : ActR (μ ++ r) N dm a b :=
  ⟨h.size, h.nod, fun hd => let ⟨vs, h1, h2⟩ := h.dfr hd; ⟨vs, h1, h2.mono⟩, fun j v' hj => (h.vals j v' hj).mono⟩

theorem ActR.ev {G N : Nat} {μ : Mu} {A : AH} {w : World} {dm : Bool} {a : AT} {r : Act} (h : ActR μ N dm a r) (hr : Rel G μ A w) {x : Operand} (hx : opOk G N x = true) : VR μ (ev a x) (r.eval x) := by
  cases x with
  | tmp t =>
    simp only [opOk, decide_eq_true_eq] at hx
    simp only [AS.ev, Act.eval, Array.getD_eq_getD_getElem?]
    have : t < r.tmps.size := by rw [h.size]; exact hx
    rw [Array.getElem?_eq_getElem this, Option.getD_some]
    exact h.vals t _ (Array.getElem?_eq_getElem this)
  | const v => exact VR.cflat hx
  | global g =>
    simp only [opOk, decide_eq_true_eq] at hx
    obtain ⟨e, h1, h2, h3⟩ := hr.glo g hx
    have := VR.ptr (μ := μ) (o := 0) h1
    rw [h2, h3] at this
    exact this
  | func f => exact .func rfl rfl (fun j x y hx => by simp at hx) rfl (fun j x y hx => by simp at hx)

theorem ActR.put {μ : Mu} {N : Nat} {dm : Bool} {a : AT} {r : Act} {v v' : Value} (h : ActR μ N dm a r) (d : Option Nat) (hds : d ≠ some dsl) (hv : VR μ v v') : ActR μ N dm (put a d v) (r.put d v') := by
  cases d with
  | none => exact h
  | some d =>
    refine ⟨by simp [Act.put, h.size], h.nod, fun hd => ?_, fun j u hu => ?_⟩
    · obtain ⟨vs, h1, h2⟩ := h.dfr hd
      refine ⟨vs, ?_, h2⟩
      simp only [AS.put, upd]
      rw [if_neg (fun e => hds (by rw [e]))]
      exact h1
    simp only [Act.put, Array.getElem?_setIfInBounds] at hu
    simp only [AS.put, upd]
    split at hu
    · rename_i hd
      split at hu
      · obtain rfl := Option.some.inj hu; rw [if_pos hd.symm]; exact hv
      · cases hu
    · rename_i hd
      rw [if_neg (fun e => hd e.symm)]
      exact h.vals j u hu

section
variable {G : Nat} {μ : Mu} {A A' : AH} {w : World} {P : Program} {v : Value}

theorem keq1_iff {a b : Value} (ha : keyFlat a = true) (hb : keyFlat b = true) : keq1 a b = true ↔ a = b := by
  cases a <;> cases b <;> simp_all [keyFlat, keq1]
theorem keqL_iff : ∀ (l l' : List Value), l.all keyFlat = true → l'.all keyFlat = true → (keqL l l' = true ↔ l = l')
  | [], [], _, _ => by simp [keqL]
  | [], b :: s, _, _ => by simp [keqL]
  | a :: r, [], _, _ => by simp [keqL]
  | a :: r, b :: s, h, h' => by
    rw [List.all_cons, Bool.and_eq_true] at h h'
    simp only [keqL, Bool.and_eq_true, keq1_iff h.1 h'.1, keqL_iff r s h.2 h'.2, List.cons.injEq]
theorem keyFlat_flat {v : Value} (h : keyFlat v = true) : flatV v = true := by
  cases v <;> first | rfl | (simp [keyFlat] at h)
theorem keyOk_agg {kp : Value → Bool} {k : Value} (h : keyOk (.agg kp) k = true) : ∃ cs, k = .agg cs ∧ kp (.agg cs) = true ∧ cs.toList.all keyFlat = true := by
  cases k <;> simp_all [keyOk]
theorem keyOk_int {q : IntKind} {k : Value} (h : keyOk (.int q) k = true) : ∃ n, k = .int q n := by
  cases k <;> simp_all [keyOk]
theorem keyOk_str {k : Value} (h : keyOk .str k = true) : ∃ s, k = .string s := by
  cases k <;> simp_all [keyOk]
theorem keq_iff {m : KM} {a b : Value} (ha : keyOk m a = true) (hb : keyOk m b = true) : keq a b = true ↔ a = b := by
  cases m with
  | int q =>
    obtain ⟨x, rfl⟩ := keyOk_int ha
    obtain ⟨y, rfl⟩ := keyOk_int hb
    exact keq1_iff (a := .int q x) (b := .int q y) rfl rfl
  | str =>
    obtain ⟨x, rfl⟩ := keyOk_str ha
    obtain ⟨y, rfl⟩ := keyOk_str hb
    exact keq1_iff (a := .string x) (b := .string y) rfl rfl
  | agg kp =>
    obtain ⟨x, rfl, _, h1⟩ := keyOk_agg ha
    obtain ⟨y, rfl, _, h2⟩ := keyOk_agg hb
    simp only [keq, keqL_iff _ _ h1 h2, Value.agg.injEq]
    exact ⟨fun h => Array.toList_inj.1 h, fun h => by rw [h]⟩
theorem keyOk_vr {m : KM} {k k' : Value} (hk : keyOk m k = true) (h : VR μ k k') : k' = k := by
  cases m with
  | int q => obtain ⟨x, rfl⟩ := keyOk_int hk; exact h.int
  | str => obtain ⟨x, rfl⟩ := keyOk_str hk; exact h.string
  | agg kp =>
    obtain ⟨x, rfl, _, h1⟩ := keyOk_agg hk
    cases h with
    | flat h => simp [flatV] at h
    | agg g1 g2 =>
      rename_i y
      congr 1
      apply Array.ext g1.symm
      intro j hj hj'
      rw [List.all_eq_true] at h1
      have := g2 j x[j] y[j] (by simp [hj']) (by simp [hj])
      exact this.eq_of_flat (keyFlat_flat (h1 _ (by simp)))

theorem mk_none {m : KM} {k v : Value} (hk : keyOk m k = true) : ∀ (es : List (Value × Value)), (∀ e ∈ es, keyOk m e.1 = true) → (∀ e ∈ es, e.1 ≠ k) → mget k es = none ∧ mput k v es = es ++ [(k, v)] ∧ mdel k es = es
  | [], _, _ => ⟨rfl, rfl, rfl⟩
  | e :: r, h, hn => by
    have h1 : keq e.1 k = false := by
      have := mt (keq_iff (h e (by simp)) hk).1 (hn e (by simp))
      simpa using this
    obtain ⟨a, b, c⟩ := mk_none (v := v) hk r (fun x hx => h x (by simp [hx])) (fun x hx => hn x (by simp [hx]))
    simp [mget, mput, mdel, h1, a, b, c]
theorem mk_at {m : KM} {k v : Value} (hk : keyOk m k = true) : ∀ (es : List (Value × Value)) (j : Nat) (e : Value × Value), mapOk m es = true → es[j]? = some e → e.1 = k → mget k es = some e.2 ∧ mput k v es = es.set j (k, v) ∧ mdel k es = es.eraseIdx j
  | [], j, e, _, h, _ => by simp at h
  | x :: r, 0, e, h, hj, he => by
    simp only [List.getElem?_cons_zero, Option.some.injEq] at hj
    subst hj
    have : keq x.1 k = true := (keq_iff (by rw [he]; exact hk) hk).2 he
    simp [mget, mput, mdel, this]
  | x :: r, j + 1, e, h, hj, he => by
    simp only [List.getElem?_cons_succ] at hj
    unfold mapOk at h
    simp only [List.all_cons, nodupK, Bool.and_eq_true, List.all_eq_true, Bool.not_eq_true'] at h
    obtain ⟨⟨h1, h2⟩, h3, h4⟩ := h
    have hm := List.mem_of_getElem? hj
    have hx : keq x.1 k = false := by
      have h5 := h3 e hm
      rw [he] at h5
      have : ¬ (x.1 = k) := by
        intro q
        have := (keq_iff (m := m) hk h1).2 q.symm
        rw [this] at h5; cases h5
      have := mt (keq_iff h1 hk).1 this
      simpa using this
    obtain ⟨a, b, c⟩ := mk_at (v := v) hk r j e (by unfold mapOk; simp only [Bool.and_eq_true, List.all_eq_true]; exact ⟨h2, h4⟩) hj he
    simp [mget, mput, mdel, hx, a, b, c]
theorem mapOk_all {m : KM} {es : List (Value × Value)} (h : mapOk m es = true) : ∀ e ∈ es, keyOk m e.1 = true := by
  unfold mapOk at h
  simp only [Bool.and_eq_true, List.all_eq_true] at h
  exact h.1

/-- What is asked of a kind of keys. -/
structure KLaw (P : Program) (kt : TypeId) (m : KM) : Prop where
  check : ∀ (w : World) (em : Bool) (k : Value), keyOk m k = true → (Instr.checkKey em 10000 kt k).run P w = .ok () w
  find : ∀ (w : World) (x : Value), keyOk m x = true → ∀ es : List MapEntry, (∀ e ∈ es, keyOk m e.key = true) →
    ((Instr.findKey kt x es).run P w = .ok none w ∧ ∀ e ∈ es, e.key ≠ x) ∨ ∃ j e, (Instr.findKey kt x es).run P w = .ok (some (j, e.val)) w ∧ es[j]? = some e ∧ e.key = x
  stays : ∀ (w : World) (k : Value), keyOk m k = true → (Instr.keyThatStays k k).run P w = .ok k w

def kmOf (P : Program) (kt : TypeId) : Option KM := match P.underlying kt with
  | some (.int q) => some (.int q)
  | some .string => some .str
  | some (.struct _) => if P.keyTypeAt 8 kt && P.tiled 8 kt then some (.agg fun v => (keyOf P kt v).isSome) else none
  | _ => none

theorem kl_plain {kt : TypeId} {d : TypeDesc} {m : KM} (hd : P.underlying kt = some d) (hm : ∀ k, keyOk m k = true → MapKept.IsKey d k) : KLaw P kt m where
  check := fun w em k hk => MapKept.run_checkKey hd (hm k hk) em 9999
  find := fun w x hx es hes => by
    rcases MapKept.findNow_spec (hm x hx) es 0 (fun e he => hm _ (hes e he)) with ⟨h1, h2⟩ | ⟨j, e, h1, h2, h3⟩
    · exact .inl ⟨MapKept.run_findKey hd h1, h2⟩
    · exact .inr ⟨j, e, by simpa using MapKept.run_findKey hd h1, h2, h3⟩
  stays := fun w k hk => MapKept.run_keyThatStays (hm k hk)

theorem kmOf_law {kt : TypeId} {m : KM} (h : kmOf P kt = some m) : KLaw P kt m := by
  unfold kmOf at h
  split at h
  · rename_i q hu
    injection h with h; subst h
    exact kl_plain hu (fun k hk => by obtain ⟨n, rfl⟩ := keyOk_int hk; exact rfl)
  · rename_i hu
    injection h with h; subst h
    exact kl_plain hu (fun k hk => by obtain ⟨n, rfl⟩ := keyOk_str hk; exact trivial)
  · rename_i fs hu
    split at h
    · rename_i hc
      rw [Bool.and_eq_true] at hc
      injection h with h; subst h
      have L : WideMaps.KeyLaw P kt := deep_law (m := 8) (by decide) hc.1 hc.2 (by rw [hu])
      have hs : ∀ k, keyOk (.agg fun v => (keyOf P kt v).isSome) k = true → ∃ l, keyOf P kt k = some l := by
        intro k hk
        obtain ⟨cs, rfl, h1, _⟩ := keyOk_agg hk
        exact Option.isSome_iff_exists.1 h1
      refine ⟨fun w em k hk => ?_, fun w x hx es hes => ?_, fun w k hk => ?_⟩
      · obtain ⟨l, hl⟩ := hs k hk; exact L.check w em hl
      · obtain ⟨l, hl⟩ := hs x hx; exact L.find w hl es (fun e he => hs _ (hes e he))
      · obtain ⟨l, hl⟩ := hs k hk; exact L.stays w hl
    · cases h
  · cases h

/-- A new map. -/
theorem Rel.pushMp (h : Rel G μ A w) : Rel G (μ ++ [⟨w.heap.size, 0, 0, 0⟩]) (A ++ [.mp []]) (w.alloc (.map #[] 0)) := by
  have hsz := alloc_size w (.map #[] 0)
  refine ⟨by simp [h.len], ?_, ?_, ?_, ?_, ?_, ?_, ?_⟩
  · intro g hg
    obtain ⟨e, h1, h2, h3⟩ := h.glo g hg
    exact ⟨e, pre_get h1, h2, h3⟩
  · intro i e he
    rcases push_get he with ⟨_, he⟩ | ⟨_, rfl⟩
    · have := h.lt i e he; omega
    · simp only; omega
  · intro i cs' st' sz' ex' e' hb he hst
    rcases push_get hb with ⟨hi, hb⟩ | ⟨hi, hb⟩
    · rcases push_get he with ⟨_, he⟩ | ⟨hi', _⟩
      · obtain ⟨rc', T', fr', g1, g2, g3, g4⟩ := h.row i cs' st' sz' ex' e' hb he hst
        exact ⟨rc', T', fr', by rw [alloc_old _ _ (h.lt i e' he)]; exact g1, VR.cellMono g2, g3, g4⟩
      · rw [h.len] at hi'; omega
    · cases hb
  · intro i cs' st' sz' ex' e' hb he
    rcases push_get hb with ⟨hi, hb⟩ | ⟨hi, hb⟩
    · rcases push_get he with ⟨_, he⟩ | ⟨hi', _⟩
      · exact h.szs i cs' st' sz' ex' e' hb he
      · rw [h.len] at hi'; omega
    · cases hb
  · intro i s p e hb he
    rcases push_get hb with ⟨hi, hb⟩ | ⟨hi, hb⟩
    · rcases push_get he with ⟨_, he⟩ | ⟨hi', _⟩
      · rw [alloc_old _ _ (h.lt i e he)]; exact h.sit i s p e hb he
      · rw [h.len] at hi'; omega
    · cases hb
  · intro i es e hb he
    rcases push_get hb with ⟨hi, hb⟩ | ⟨hi, hb⟩
    · rcases push_get he with ⟨_, he⟩ | ⟨hi', _⟩
      · rw [alloc_old _ _ (h.lt i e he)]
        obtain ⟨mes, clock, g1, g2, g3, g4⟩ := h.mp i es e hb he
        exact ⟨mes, clock, g1, g2, fun j m k v a b => let ⟨x, y, z⟩ := g3 j m k v a b; ⟨x.mono, y.mono, z⟩, g4⟩
      · rw [h.len] at hi'; omega
    · injection hb with hb; subst hb
      rcases push_get he with ⟨hi', he⟩ | ⟨_, rfl⟩
      · rw [h.len] at hi'; omega
      · exact ⟨#[], 0, alloc_new w _, rfl, fun j m k v a b => by simp at a, by simp⟩
  · intro i k b b' e e' hb hb' ho ha hne he he'
    rcases push_get he with ⟨hi, he⟩ | ⟨hi, rfl⟩
    · rcases push_get he' with ⟨hk, he'⟩ | ⟨hk, rfl⟩
      · rcases push_get hb with ⟨_, hb⟩ | ⟨hi2, _⟩
        · rcases push_get hb' with ⟨_, hb'⟩ | ⟨hk2, _⟩
          · exact h.apart i k b b' e e' hb hb' ho ha hne he he'
          · rw [h.len] at hk; omega
        · rw [h.len] at hi; omega
      · have := h.lt i e he; simp only; omega
    · rcases push_get he' with ⟨hk, he'⟩ | ⟨hk, rfl⟩
      · have := h.lt k e' he'; simp only; omega
      · omega
theorem Stp.pushB (b : Blk) (l s : Nat) (o : Obj) (hl : μ.length = A.length) : Stp μ A w (μ ++ [⟨w.heap.size, 0, l, s⟩]) (A ++ [b]) (w.alloc o) := by
  refine ⟨⟨_, rfl⟩, rfl, rfl, rfl, by rw [alloc_size]; omega, fun r hr _ => alloc_old _ _ hr, ?_⟩
  intro i b e hb ho he hlt
  rcases push_get he with ⟨hi, he⟩ | ⟨hi, rfl⟩
  · rcases push_get hb with ⟨_, hb⟩ | ⟨hi2, _⟩
    · exact ⟨i, b, e, hb, ho, he, rfl⟩
    · omega
  · simp only at hlt; omega

/-- A map's entries, and the machine's. -/
def EsR (μ : Mu) (es : List (Value × Value)) (mes : Array MapEntry) (clock : Nat) : Prop :=
  mes.size = es.length ∧ (∀ (j : Nat) m k v, mes[j]? = some m → es[j]? = some (k, v) → VR μ k m.key ∧ VR μ v m.val ∧ m.born < clock) ∧ mes.toList.Pairwise (fun a b => a.born < b.born)

theorem setMp_heap {r : Nat} {o o' : Obj} (hb : w.heap[r]? = some o) : ({ w with heap := w.heap.setIfInBounds r o' } : World).heap[r]? = some o' ∧ ∀ r', r' ≠ r → ({ w with heap := w.heap.setIfInBounds r o' } : World).heap[r']? = w.heap[r']? :=
  MapKept.heap_set hb

theorem Rel.setMp (h : Rel G μ A w) {i : Nat} {es es' : List (Value × Value)} {e : Ent} {mes mes' : Array MapEntry} {clock clock' : Nat} (hi : A[i]? = some (.mp es)) (he : μ[i]? = some e) (hm : w.heap[e.blk]? = some (.map mes clock))
    (hr : EsR μ es' mes' clock') : Rel G μ (A.set i (.mp es')) { w with heap := w.heap.setIfInBounds e.blk (.map mes' clock') } := by
  obtain ⟨k1, k2⟩ := setMp_heap (o' := .map mes' clock') hm
  have hother : ∀ (k : Nat) (b : Blk) (e' : Ent), A[k]? = some b → b.alive = true → k ≠ i → μ[k]? = some e' → ({ w with heap := w.heap.setIfInBounds e.blk (.map mes' clock') } : World).heap[e'.blk]? = w.heap[e'.blk]? := by
    intro k b e' hk ha hne hk'
    exact k2 _ (fun q => h.apart i k _ b e e' hi hk rfl ha (Ne.symm hne) he hk' q.symm)
  refine ⟨by simp [h.len], h.glo, fun k e' hk => by simpa using h.lt k e' hk, ?_, ?_, ?_, ?_, ?_⟩
  · intro k cs' st' sz' ex' e' hb hk hst
    rcases get_set hb with ⟨rfl, q, _⟩ | ⟨hne, hb⟩
    · cases q
    · obtain ⟨rc0, T0, fr0, g1, g2⟩ := h.row k cs' st' sz' ex' e' hb hk hst
      exact ⟨rc0, T0, fr0, by rw [hother k _ e' hb (by cases st' <;> first | rfl | exact absurd rfl hst) hne hk]; exact g1, g2⟩
  · intro k cs' st' sz' ex' e' hb hk
    rcases get_set hb with ⟨rfl, q, _⟩ | ⟨_, hb⟩
    · cases q
    · exact h.szs k cs' st' sz' ex' e' hb hk
  · intro k s p e' hb hk
    rcases get_set hb with ⟨rfl, q, _⟩ | ⟨hne, hb⟩
    · cases q
    · rw [hother k _ e' hb rfl hne hk]; exact h.sit k s p e' hb hk
  · intro k es0 e' hb hk
    rcases get_set hb with ⟨rfl, q, _⟩ | ⟨hne, hb⟩
    · injection q with q; subst q
      rw [he] at hk
      obtain rfl := Option.some.inj hk
      exact ⟨mes', clock', k1, hr.1, hr.2.1, hr.2.2⟩
    · rw [hother k _ e' hb rfl hne hk]; exact h.mp k es0 e' hb hk
  · intro k l b b' e1 e2 hb hb' ho ha hne hk hk'
    have hb2 : ∃ b2, A[k]? = some b2 ∧ b2.isOwn = true := by
      rcases get_set hb with ⟨rfl, _, _⟩ | ⟨_, hb⟩
      · exact ⟨_, hi, rfl⟩
      · exact ⟨b, hb, ho⟩
    have hb3 : ∃ b3, A[l]? = some b3 ∧ b3.alive = true := by
      rcases get_set hb' with ⟨rfl, _, _⟩ | ⟨_, hb'⟩
      · exact ⟨_, hi, rfl⟩
      · exact ⟨b', hb', ha⟩
    obtain ⟨b2, p1, p2⟩ := hb2
    obtain ⟨b3, p3, p4⟩ := hb3
    exact h.apart k l b2 b3 e1 e2 p1 p3 p2 p4 hne hk hk'
theorem Stp.setMp {i : Nat} {es es' : List (Value × Value)} {e : Ent} {o o' : Obj} (hi : A[i]? = some (.mp es)) (he : μ[i]? = some e) (hm : w.heap[e.blk]? = some o) :
    Stp μ A w μ (A.set i (.mp es')) { w with heap := w.heap.setIfInBounds e.blk o' } := by
  obtain ⟨k1, k2⟩ := setMp_heap (o' := o') hm
  refine ⟨⟨[], by simp⟩, rfl, rfl, rfl, by simp, ?_, ?_⟩
  · intro r _ hno
    exact k2 r (fun q => hno i _ e hi rfl he q.symm)
  · intro k b e' hb ho hk _
    rcases get_set hb with ⟨rfl, rfl, _⟩ | ⟨_, hb⟩
    · exact ⟨k, _, e', hi, rfl, hk, rfl⟩
    · exact ⟨k, b, e', hb, ho, hk, rfl⟩

theorem EsR.get {es : List (Value × Value)} {mes : Array MapEntry} {clock : Nat} (h : EsR μ es mes clock) {j : Nat} {m : MapEntry} (hm : mes[j]? = some m) : ∃ k v, es[j]? = some (k, v) ∧ VR μ k m.key ∧ VR μ v m.val ∧ m.born < clock := by
  have hj : j < es.length := by
    rw [← h.1]
    exact (Array.getElem?_eq_some_iff.1 hm).1
  obtain ⟨a, b, c⟩ := h.2.1 j m es[j].1 es[j].2 hm (List.getElem?_eq_getElem hj)
  exact ⟨_, _, List.getElem?_eq_getElem hj, a, b, c⟩
theorem EsR.set {es : List (Value × Value)} {mes : Array MapEntry} {clock : Nat} (h : EsR μ es mes clock) {j : Nat} {e0 : MapEntry} (hj : mes[j]? = some e0) {k k' v v' : Value} (hk : VR μ k k') (hv : VR μ v v') :
    EsR μ (es.set j (k, v)) (mes.modify j fun e => { e with key := k', val := v' }) clock := by
  refine ⟨by simp [h.1], ?_, ?_⟩
  · intro i m a b h1 h2
    rw [Array.getElem?_modify] at h1
    by_cases hij : j = i
    · subst hij
      rw [if_pos rfl, hj] at h1
      obtain rfl := Option.some.inj h1
      obtain ⟨_, _, h3, _, _, h4⟩ := h.get hj
      have hl := lt_of_get h3
      simp only [List.getElem?_set_self hl, Option.some.injEq, Prod.mk.injEq] at h2
      obtain ⟨rfl, rfl⟩ := h2
      exact ⟨hk, hv, h4⟩
    · rw [if_neg hij] at h1
      rw [List.getElem?_set_ne hij] at h2
      exact h.2.1 i m a b h1 h2
  · have : (mes.modify j fun e => { e with key := k', val := v' }).toList.map (·.born) = mes.toList.map (·.born) := by
      apply List.ext_getElem?
      intro i
      simp only [List.getElem?_map, Array.getElem?_toList, Array.getElem?_modify]
      split
      · simp [Option.map_map, Function.comp_def]
      · rfl
    have h3 := h.2.2
    rw [← List.pairwise_map (f := fun x : MapEntry => x.born) (R := (· < ·))] at h3 ⊢
    rw [this]; exact h3
theorem EsR.push {es : List (Value × Value)} {mes : Array MapEntry} {clock : Nat} (h : EsR μ es mes clock) {k k' v v' : Value} (hk : VR μ k k') (hv : VR μ v v') :
    EsR μ (es ++ [(k, v)]) (mes.push { key := k', val := v', born := clock }) (clock + 1) := by
  refine ⟨by simp [h.1], ?_, ?_⟩
  · intro i m a b h1 h2
    rw [Array.getElem?_push] at h1
    by_cases hi : i = mes.size
    · rw [if_pos hi] at h1
      obtain rfl := Option.some.inj h1
      rw [hi, h.1] at h2
      simp at h2
      obtain ⟨rfl, rfl⟩ := h2
      exact ⟨hk, hv, Nat.lt_succ_self _⟩
    · rw [if_neg hi] at h1
      have hlt : i < es.length := by
        rw [← h.1]; exact (Array.getElem?_eq_some_iff.1 h1).1
      rw [List.getElem?_append_left hlt] at h2
      obtain ⟨x, y, z⟩ := h.2.1 i m a b h1 h2
      exact ⟨x, y, Nat.lt_succ_of_lt z⟩
  · rw [Array.toList_push, List.pairwise_append]
    refine ⟨h.2.2, by simp, ?_⟩
    intro a ha b hb
    rw [List.mem_singleton] at hb
    subst hb
    obtain ⟨i, hi⟩ := List.getElem?_of_mem ha
    obtain ⟨_, _, _, _, _, h4⟩ := h.get (j := i) (m := a) (by simpa using hi)
    exact h4
theorem EsR.erase {es : List (Value × Value)} {mes : Array MapEntry} {clock : Nat} (h : EsR μ es mes clock) (j : Nat) : EsR μ (es.eraseIdx j) (mes.eraseIdxIfInBounds j) clock := by
  have hl : (mes.eraseIdxIfInBounds j).toList = mes.toList.eraseIdx j := by
    unfold Array.eraseIdxIfInBounds
    split
    · simp
    · rename_i hlt
      rw [List.eraseIdx_of_length_le (by simpa using hlt)]
  have hlen := h.1
  refine ⟨?_, ?_, ?_⟩
  · rw [← Array.length_toList, hl, List.length_eraseIdx, List.length_eraseIdx, Array.length_toList, h.1]
  · intro i m a b h1 h2
    rw [← Array.getElem?_toList, hl, List.getElem?_eraseIdx] at h1
    rw [List.getElem?_eraseIdx] at h2
    split at h1
    · rename_i hc
      rw [if_pos hc] at h2
      exact h.2.1 _ m a b (by simpa using h1) h2
    · rename_i hc
      rw [if_neg hc] at h2
      exact h.2.1 _ m a b (by simpa using h1) h2
  · rw [hl]; exact h.2.2.sublist (List.eraseIdx_sublist _ _)

theorem EsR.keys {m : KM} {es : List (Value × Value)} {mes : Array MapEntry} {clock : Nat} (h : EsR μ es mes clock) (hk : ∀ e ∈ es, keyOk m e.1 = true) : ∀ e ∈ mes.toList, keyOk m e.key = true := by
  intro e he
  obtain ⟨i, hi⟩ := List.getElem?_of_mem he
  obtain ⟨k, v, h1, h2, _⟩ := h.get (j := i) (m := e) (by simpa using hi)
  have h3 := hk (k, v) (List.mem_of_getElem? h1)
  rw [keyOk_vr h3 h2]; exact h3

/-- A key, looked for. -/
theorem EsR.find {kt : TypeId} {m : KM} (L : KLaw P kt m) {es : List (Value × Value)} {mes : Array MapEntry} {clock : Nat} (h : EsR μ es mes clock) (hm : mapOk m es = true) {k : Value} (hk : keyOk m k = true) (w : World) :
    ((Instr.findKey kt k mes.toList).run P w = .ok none w ∧ mget k es = none ∧ (∀ v, mput k v es = es ++ [(k, v)]) ∧ mdel k es = es) ∨
    ∃ j e v, (Instr.findKey kt k mes.toList).run P w = .ok (some (j, e.val)) w ∧ mes[j]? = some e ∧ e.key = k ∧ VR μ v e.val ∧ mget k es = some v ∧ (∀ v, mput k v es = es.set j (k, v)) ∧ mdel k es = es.eraseIdx j := by
  have hall := mapOk_all hm
  have hk2 := h.keys hall
  rcases L.find w k hk mes.toList hk2 with ⟨h1, h2⟩ | ⟨j, e, h1, h2, h3⟩
  · left
    have hn : ∀ e ∈ es, e.1 ≠ k := by
      intro e he hek
      obtain ⟨i, hi⟩ := List.getElem?_of_mem he
      have hlt := lt_of_get hi
      have hlt2 : i < mes.size := by rw [h.1]; exact hlt
      obtain ⟨g1, _, _⟩ := h.2.1 i mes[i] e.1 e.2 (Array.getElem?_eq_getElem hlt2) hi
      have := keyOk_vr (hall e he) g1
      exact h2 mes[i] (by simp) (by rw [this, hek])
    exact ⟨h1, (mk_none (v := k) hk es hall hn).1, fun v => (mk_none hk es hall hn).2.1, (mk_none (v := k) hk es hall hn).2.2⟩
  · right
    have h2' : mes[j]? = some e := by simpa using h2
    obtain ⟨a, v, g1, g2, g3, g4⟩ := h.get h2'
    have hak : a = k := by
      have := keyOk_vr (hall (a, v) (List.mem_of_getElem? g1)) g2
      rw [← h3, this]
    subst hak
    refine ⟨j, e, v, h1, h2', h3, g3, ?_, fun u => ?_, ?_⟩
    · exact (mk_at (v := v) hk es j (a, v) hm g1 rfl).1
    · exact (mk_at (v := u) hk es j (a, v) hm g1 rfl).2.1
    · exact (mk_at (v := v) hk es j (a, v) hm g1 rfl).2.2

theorem Rel.mpOf (hr : Rel G μ A w) {i : Nat} {es : List (Value × Value)} (hi : A[i]? = some (.mp es)) {e : Ent} (he : μ[i]? = some e) : ∃ mes clock, w.heap[e.blk]? = some (.map mes clock) ∧ EsR μ es mes clock := by
  obtain ⟨mes, clock, g1, g2, g3, g4⟩ := hr.mp i es e hi he
  exact ⟨mes, clock, g1, g2, g3, g4⟩

theorem VR.map_inv {i : Nat} {x' : Value} (h : VR μ (.map (some i)) x') : ∃ e : Ent, μ[i]? = some e ∧ x' = .map (some e.blk) := by
  cases h with
  | flat h => simp [flatV] at h
  | map h => exact ⟨_, h, rfl⟩
theorem VR.lookRes {ok : Bool} {z v v' : Value} (hz : AS.cflat z = true) (b : Option Value) (b' : Option Value) (h : match b, b' with | some v, some v' => VR μ v v' | none, none => True | _, _ => False) : VR μ (lookRes ok z b) (lookRes ok z b') := by
  have two : ∀ x y x' y', VR μ x x' → VR μ y y' → VR μ (.tuple #[x, y]) (.tuple #[x', y']) := by
    intro x y x' y' h1 h2
    refine .tuple rfl (fun j a b ha hb => ?_)
    match j with
    | 0 => simp at ha hb; subst ha hb; exact h1
    | 1 => simp at ha hb; subst ha hb; exact h2
    | j + 2 => simp at ha
  cases b <;> cases b' <;> simp only at h <;> cases ok <;> simp only [AS.lookRes, Bool.false_eq_true, if_false, if_true]
  · exact VR.cflat hz
  · exact two _ _ _ _ (VR.cflat hz) (.flat rfl)
  · exact h
  · exact two _ _ _ _ h (.flat rfl)

theorem sim_mlook {x k x' k' : Value} {t kt el : TypeId} {m : KM} {z : Value} {ok : Bool} (hr : Rel G μ A w) (hx : VR μ x x') (hk : VR μ k k') (ht : P.underlying t = some (.map kt el)) (hm : kmOf P kt = some m)
    (hz : (zeroValue el).run P w = .ok z w) (hf : cflat z = true) (hs : sMlook A m z ok x k = some (v, A')) : Sim G μ A w v A' ((do pure (.value (← Instr.lookup t x' k' ok)) : Sem Next).run P w) := by
  have L := kmOf_law hm
  unfold sMlook at hs
  split at hs
  · split at hs
    · rename_i hko
      injection hs with hs; injection hs with h1 h2; subst h1 h2
      obtain rfl := keyOk_vr hko hk
      obtain rfl : x' = .map none := hx.eq_of_flat rfl
      refine Sim.same hr (run_value (v := lookRes ok z none) ?_) (VR.lookRes (v := z) (v' := z) hf none none trivial)
      have hfk : (Instr.findKey kt k' ([] : List MapEntry)).run P w = .ok none w := by
        rcases L.find w k' hko [] (fun e he => by cases he) with ⟨h1, _⟩ | ⟨j, e, _, h2, _⟩
        · exact h1
        · simp at h2
      simp [Instr.lookup, run_underlying ht, L.check w _ k' hko, hfk, hz, Result.andThen, lookRes]
    · cases hs
  · rename_i i
    split at hs
    · rename_i es hi
      split at hs
      · rename_i hc
        injection hs with hs; injection hs with h1 h2; subst h1 h2
        obtain ⟨hko, hmo⟩ := hc
        obtain rfl := keyOk_vr hko hk
        obtain ⟨e, he, rfl⟩ := hx.map_inv
        obtain ⟨mes, clock, g1, g2⟩ := hr.mpOf hi he
        rcases g2.find L hmo hko w with ⟨q1, q2, _, _⟩ | ⟨j, e0, v0, q1, q2, q3, q4, q5, _, _⟩
        · refine Sim.same hr (run_value (v := lookRes ok z none) ?_) (by rw [q2]; exact VR.lookRes (v := z) (v' := z) hf none none trivial)
          simp [Instr.lookup, run_underlying ht, MapKept.run_getObj_map g1, L.check w _ k' hko, q1, hz, Result.andThen, lookRes]
        · refine Sim.same hr (run_value (v := lookRes ok z (some e0.val)) ?_) (by rw [q5]; exact VR.lookRes (v := z) (v' := z) hf (some v0) (some e0.val) q4)
          simp [Instr.lookup, run_underlying ht, MapKept.run_getObj_map g1, L.check w _ k' hko, q1, hz, Result.andThen, lookRes]
      · cases hs
    · cases hs
  · cases hs

theorem sim_mkm {t : TypeId} (hr : Rel G μ A w) : Sim G μ A w (.map (some A.length)) (A ++ [.mp []]) ((do pure (.value (← Instr.makeMap t none)) : Sem Next).run P w) := by
  refine ⟨.map (some w.heap.size), _, w.alloc (.map #[] 0), .inl (run_value ?_), ?_, hr.pushMp, Stp.pushB _ _ _ _ hr.len⟩
  · rfl
  · refine .map (e := ⟨w.heap.size, 0, 0, 0⟩) ?_
    rw [← hr.len]; simp

theorem sim_mupd {x k u x' k' u' : Value} {t kt el : TypeId} {m : KM} (hr : Rel G μ A w) (hx : VR μ x x') (hk : VR μ k k') (hu : VR μ u u') (ht : P.underlying t = some (.map kt el)) (hm : kmOf P kt = some m)
    (hs : sMupd A m x k u = some (v, A')) : Sim G μ A w v A' ((do Instr.mapUpdate t x' k' u'; pure .skip : Sem Next).run P w) := by
  have L := kmOf_law hm
  unfold sMupd at hs
  split at hs
  · rename_i i
    split at hs
    · rename_i es hi
      split at hs
      · rename_i hc
        injection hs with hs; injection hs with h1 h2; subst h1 h2
        obtain ⟨hko, hmo⟩ := hc
        obtain rfl := keyOk_vr hko hk
        obtain ⟨e, he, rfl⟩ := hx.map_inv
        obtain ⟨mes, clock, g1, g2⟩ := hr.mpOf hi he
        rcases g2.find L hmo hko w with ⟨q1, q2, q3, _⟩ | ⟨j, e0, v0, q1, q2, q3, q4, q5, q6, _⟩
        · refine ⟨_, μ, _, .inr ⟨run_skip (w' := { w with heap := w.heap.setIfInBounds e.blk (.map (mes.push { key := k', val := u', born := clock }) (clock + 1)) }) ?_, rfl⟩, .undef _, ?_, Stp.setMp hi he g1⟩
          · simp [Instr.mapUpdate, run_underlying ht, MapKept.run_getObj_map g1, L.check w _ k' hko, q1, MapKept.run_setObj_map _ g1, Result.andThen]
          · rw [q3]; exact hr.setMp hi he g1 (g2.push hk hu)
        · refine ⟨_, μ, _, .inr ⟨run_skip (w' := { w with heap := w.heap.setIfInBounds e.blk (.map (mes.modify j fun e => { e with key := k', val := u' }) clock) }) ?_, rfl⟩, .undef _, ?_, Stp.setMp hi he g1⟩
          · simp [Instr.mapUpdate, run_underlying ht, MapKept.run_getObj_map g1, L.check w _ k' hko, q1, q2, q3, L.stays w k' hko, MapKept.run_setObj_map _ g1, Result.andThen]
          · rw [q6]; exact hr.setMp hi he g1 (g2.set q2 hk hu)
      · cases hs
    · cases hs
  · cases hs

theorem sim_mdl {x k x' k' : Value} {t kt el : TypeId} {m : KM} {ats : Array TypeId} {ty : TypeId} (hr : Rel G μ A w) (hx : VR μ x x') (hk : VR μ k k') (h0 : ats[0]? = some t) (ht : P.underlying t = some (.map kt el)) (hm : kmOf P kt = some m)
    (hs : sMdl A m x k = some (v, A')) : Sim G μ A w v A' ((do pure (.value (← Builtin.delete_ ats ty #[x', k'])) : Sem Next).run P w) := by
  have L := kmOf_law hm
  unfold sMdl at hs
  split at hs
  · split at hs
    · rename_i hko
      injection hs with hs; injection hs with h1 h2; subst h1 h2
      obtain rfl := keyOk_vr hko hk
      obtain rfl : x' = .map none := hx.eq_of_flat rfl
      refine Sim.same hr (run_value (v := undef) ?_) (.undef _)
      simp [Builtin.delete_, h0, run_underlying ht, L.check w _ k' hko, Result.andThen, undef]
    · cases hs
  · rename_i i
    split at hs
    · rename_i es hi
      split at hs
      · rename_i hc
        injection hs with hs; injection hs with h1 h2; subst h1 h2
        obtain ⟨hko, hmo⟩ := hc
        obtain rfl := keyOk_vr hko hk
        obtain ⟨e, he, rfl⟩ := hx.map_inv
        obtain ⟨mes, clock, g1, g2⟩ := hr.mpOf hi he
        rcases g2.find L hmo hko w with ⟨q1, q2, _, q3⟩ | ⟨j, e0, v0, q1, q2, q3, q4, q5, _, q6⟩
        · refine ⟨_, μ, _, .inl (run_value (v := undef) (w' := { w with heap := w.heap.setIfInBounds e.blk (.map mes clock) }) ?_), .undef _, ?_, Stp.setMp hi he g1⟩
          · simp [Builtin.delete_, h0, run_underlying ht, MapKept.run_getObj_map g1, L.check w _ k' hko, q1, MapKept.run_setObj_map _ g1, Result.andThen, undef]
          · rw [q3]; exact hr.setMp hi he g1 g2
        · refine ⟨_, μ, _, .inl (run_value (v := undef) (w' := { w with heap := w.heap.setIfInBounds e.blk (.map (mes.eraseIdxIfInBounds j) clock) }) ?_), .undef _, ?_, Stp.setMp hi he g1⟩
          · simp [Builtin.delete_, h0, run_underlying ht, MapKept.run_getObj_map g1, L.check w _ k' hko, q1, MapKept.run_setObj_map _ g1, Result.andThen, undef]
          · rw [q6]; exact hr.setMp hi he g1 (g2.erase j)
      · cases hs
    · cases hs
  · cases hs

theorem sim_mlen {x x' : Value} {t kt el : TypeId} {ats : Array TypeId} {ty : TypeId} (hr : Rel G μ A w) (hx : VR μ x x') (h0 : ats[0]? = some t) (ht : P.underlying t = some (.map kt el))
    (hs : sMlen A x = some (v, A')) : Sim G μ A w v A' ((do pure (.value (← Builtin.len_ ats ty #[x'])) : Sem Next).run P w) := by
  unfold sMlen at hs
  split at hs
  · injection hs with hs; injection hs with h1 h2; subst h1 h2
    obtain rfl : x' = .map none := hx.eq_of_flat rfl
    refine Sim.flat hr (run_value ?_) rfl
    simp [Builtin.len_, h0, run_underlying ht, Result.andThen, goInt]
  · rename_i i
    split at hs
    · rename_i es hi
      injection hs with hs; injection hs with h1 h2; subst h1 h2
      obtain ⟨e, he, rfl⟩ := hx.map_inv
      obtain ⟨mes, clock, g1, g2⟩ := hr.mpOf hi he
      refine Sim.flat hr (run_value ?_) rfl
      simp [Builtin.len_, h0, run_underlying ht, MapKept.run_getObj_map g1, Result.andThen, goInt, g2.1]
    · cases hs
  · cases hs
end

def zc (P : Program) (t : TypeId) : Option (List Value) :=
  match P.info? t with
  | some i => match i.zero with
    | some z => if z.cells.toList.all flatV = true ∧ z.cells.size = i.size then some z.cells.toList else none
    | none => none
  | none => none

theorem zc_some {P : Program} {t : TypeId} {zl : List Value} (h : zc P t = some zl) : ∃ i z, P.info? t = some i ∧ i.zero = some z ∧ z.cells.toList.all flatV = true ∧ z.cells.size = i.size ∧ zl = z.cells.toList := by
  unfold zc at h
  split at h
  · rename_i i hi
    split at h
    · rename_i z hz
      split at h
      · rename_i hc
        exact ⟨i, z, hi, hz, hc.1, hc.2, (Option.some.inj h).symm⟩
      · cases h
    · cases h
  · cases h

def places (P : Program) : List Field → Option (List (Nat × Nat))
  | [] => some []
  | f :: r => match P.info? f.type with
    | some i => (places P r).map ((f.offset, i.size) :: ·)
    | none => none

theorem places_some {P : Program} : ∀ (fs : List Field) (pl : List (Nat × Nat)), places P fs = some pl → pl.length = fs.length ∧ ∀ (j : Nat) f p, fs[j]? = some f → pl[j]? = some p → ∃ i, P.info? f.type = some i ∧ p = (f.offset, i.size)
  | [], pl, h => by simp only [places, Option.some.injEq] at h; subst h; exact ⟨rfl, fun j f p hf => by simp at hf⟩
  | f :: fs, pl, h => by
    unfold places at h
    split at h
    · rename_i i hi
      rw [Option.map_eq_some_iff] at h
      obtain ⟨pl', h1, rfl⟩ := h
      obtain ⟨h2, h3⟩ := places_some fs pl' h1
      refine ⟨by simp [h2], fun j f' p hf hp => ?_⟩
      cases j with
      | zero => simp only [List.getElem?_cons_zero, Option.some.injEq] at hf hp; subst hf hp; exact ⟨i, hi, rfl⟩
      | succ j => exact h3 j f' p (by simpa using hf) (by simpa using hp)
    · cases h

def partsAt (pl : List (Nat × Nat)) : List (Nat × Operand) → Option (List (Nat × Nat × Operand))
  | [] => some []
  | (j, x) :: r => match pl[j]? with
    | some p => (partsAt pl r).map ((p.1, p.2, x) :: ·)
    | none => none

theorem partsAt_some {pl : List (Nat × Nat)} : ∀ (qs : List (Nat × Operand)) (ps : List (Nat × Nat × Operand)), partsAt pl qs = some ps →
    ps.length = qs.length ∧ ∀ (k : Nat) p q, ps[k]? = some p → qs[k]? = some q → pl[q.1]? = some (p.1, p.2.1) ∧ p.2.2 = q.2
  | [], ps, h => by simp only [partsAt, Option.some.injEq] at h; subst h; exact ⟨rfl, fun j f p hf => by simp at hf⟩
  | (j, x) :: r, ps, h => by
    unfold partsAt at h
    split at h
    · rename_i p hp
      rw [Option.map_eq_some_iff] at h
      obtain ⟨ps', h1, rfl⟩ := h
      obtain ⟨h2, h3⟩ := partsAt_some r ps' h1
      refine ⟨by simp [h2], fun k p' q hk hq => ?_⟩
      cases k with
      | zero => simp only [List.getElem?_cons_zero, Option.some.injEq] at hk hq; subst hk hq; exact ⟨hp, rfl⟩
      | succ k => exact h3 k p' q (by simpa using hk) (by simpa using hq)
    · cases h

def cEq (P : Program) (neg : Bool) (t : TypeId) (x y : Operand) : Option AOp :=
  match P.underlying t with
  | some .bool => some (.beq neg x y)
  | some (.int _) | some .string => some (.bin (if neg then .neq else .eql) x y)
  | some d => if aggD d then (if P.keyTypeAt 8 t && !P.eqGuardType P.depth t then some (.eqagg neg (P.keyLits 8 t) x y) else none) else match y with
    | .const v => if nilOf d v then some (.isnil d x neg) else none
    | _ => match x with
      | .const v => if nilOf d v then some (.isnil d y neg) else none
      | _ => none
  | none => none
def cBin (P : Program) (op : BinOp) (t : TypeId) (x y : Operand) : Option AOp :=
  match op with
  | .eql => cEq P false t x y
  | .neq => cEq P true t x y
  | op => some (.bin op x y)

/-- An operation with its types looked up; none: it isn't served. -/
def cOp (P : Program) (o : Op) : Option AOp :=
  match o with
  | .move x | .assign x => some (.mov x)
  | .pick c a b => some (.pick c a b)
  | .alloc t => (zc P t).map .new
  | .box _ x => some (.box x)
  | .build t ps => match P.underlying t with
    | some (.struct fs) => (zc P t).bind fun z => (places P fs.toList).bind fun pl => (partsAt pl ps.toList).map fun l => .build z l
    | some (.array _ e) => (zc P t).bind fun z => (P.info? e).map fun i => .build z (ps.toList.map fun p => (p.1 * i.size, i.size, p.2))
    | _ => none
  | .buildSlice t len ps => match P.underlying t with
    | some (.slice e) => (P.info? e).bind fun i => (zc P e).bind fun z => if 0 < i.size ∧ len * i.size ≤ 2 ^ 24 then some (.lit z i.size len (ps.toList.map fun p => (p.1 * i.size, i.size, p.2))) else none
    | _ => none
  | .load t a => (P.underlying t).bind fun d => if aggD d then (P.info? t).map fun i => .loadn a i.size else some (.load1 a)
  | .store t a x => (P.info? t).map fun i => .store a x i.size
  | .nilCheck x => some (.nilc x)
  | .binOp op t x y _ => cBin P op t x y
  | .unOp op _ x => some (.un op x)
  | .convert s d x => match P.underlying s, P.underlying d with
    | some (.int _), some (.int k) => some (.conv k x)
    | some .string, some .string => some (.strc x)
    | some (.slice e), some .string => match P.underlying e with | some (.int .u8) => some (.b2s x) | _ => none
    | some (.slice e), some (.slice _) => if s = d then (match P.underlying e with | some (.int .u8) => some (.mks x) | _ => none) else none
    | some .string, some (.slice e) => match P.underlying e with | some (.int .u8) => some (.s2b x) | _ => none
    | _, _ => none
  | .makeInterface t x => match P.underlying t with
    | some (.interface _) => none
    | some _ => some (.ifc t x)
    | none => none
  | .makeMap t none => match P.underlying t with
    | some (.map _ _) => some .mkm
    | _ => none
  | .lookup t x k ok => match P.underlying t with
    | some (.map kt el) => (kmOf P kt).bind fun m => (P.info? el).bind fun i => i.zero.bind fun z => if cflat z then some (.mlook m z ok x k) else none
    | _ => none
  | .mapUpdate t x k u => match P.underlying t with
    | some (.map kt _) => (kmOf P kt).map fun m => .mupd m x k u
    | _ => none
  | .makeFunc fn first captured => if Fn.plain fn then some (.fn fn first.toList captured.toList) else none
  | .makeSlice t l c => match P.underlying t with
    | some (.slice e) => (P.info? e).bind fun i => (zc P e).map fun z => .mk z i.bytes l c
    | _ => none
  | .slice t x lo hi mx => match P.underlying t with
    | some .string => match mx with | none => some (.sls x lo hi) | some _ => none
    | some (.slice e) => (P.info? e).map fun i => .sll x lo hi mx i.size
    | some (.array n e) => (P.info? e).map fun i => .sla x lo hi mx n i.size
    | _ => none
  | .fieldAddr s x f => match P.underlying s with
    | some (.struct fs) => (fs[f]?).bind fun fd => (P.info? fd.type).bind fun i => if i.size ≠ 0 then some (.faddr x fd.offset) else none
    | _ => none
  | .field s x f => match P.underlying s with
    | some (.struct fs) => (fs[f]?).bind fun fd => (P.underlying fd.type).bind fun d => if aggD d then (P.info? fd.type).map fun i => .fieldn x fd.offset i.size else some (.field1 x fd.offset)
    | _ => none
  | .indexAddr t x i => match P.underlying t with
    | some (.slice e) => (P.info? e).map fun inf => .iaddr x i inf.size
    | some (.array n e) => (P.info? e).map fun inf => .iarr x i n inf.size
    | _ => none
  | .index t x i => match P.underlying t with
    | some .string => some (.idxs x i)
    | some (.array n e) => (P.info? e).bind fun inf => (P.underlying e).bind fun d => if aggD d then some (.idxan x i n inf.size) else if inf.size = 1 then some (.idxa1 x i n) else none
    | _ => none
  | .extract x i => some (.ext x i)
  | .panic _ => some .fail
  | .call c => match c.callee with
    | .builtin .len => match c.args.toList, c.argTypes[0]? with
      | [x], some t => match P.underlying t with
        | some .string => some (.lens true x)
        | some (.slice _) => some (.lens false x)
        | some (.array n _) => some (.lenc n)
        | some (.map _ _) => some (.mlen x)
        | _ => none
      | _, _ => none
    | .builtin .delete => match c.args.toList, c.argTypes[0]? with
      | [x, k], some t => match P.underlying t with
        | some (.map kt _) => (kmOf P kt).map fun m => .mdl m x k
        | _ => none
      | _, _ => none
    | .builtin .cap => match c.args.toList, c.argTypes[0]? with
      | [x], some t => match P.underlying t with
        | some (.slice _) => some (.capn x)
        | _ => none
      | _, _ => none
    | .builtin .append => match c.args.toList, c.argTypes[0]?, c.argTypes[1]? with
      | [s, x], some sT, some xT => match P.underlying sT, P.underlying xT with
        | some (.slice e), some (.slice _) => (P.info? e).bind fun i => (zc P e).bind fun _ => if 0 < i.size then some (.app s x i.size i.bytes) else none
        | some (.slice e), some .string => (P.info? e).bind fun i => (zc P e).bind fun _ => if i.size = 1 then some (.apps s x i.bytes) else none
        | some (.slice e), some (.int _) => (P.info? e).bind fun i => (zc P e).bind fun z => if 0 < i.size then some (.appz s x z i.bytes) else none
        | _, _ => none
      | _, _, _ => none
    | .builtin .copy => match c.args.toList, c.argTypes[0]? with
      | [d, s], some dT => match P.underlying dT with
        | some (.slice e) => (P.info? e).map fun i => .copy d s i.size
        | _ => none
      | _, _ => none
    | .builtin .clear => match c.args.toList, c.argTypes[0]? with
      | [x], some t => match P.underlying t with
        | some (.slice e) => if (P.info? e).any (fun i => decide (0 < i.size)) = true then (zc P e).map fun z => .clr x z else none
        | _ => none
      | _, _ => none
    | .builtin .min => match c.args.toList with | [x, y] => some (.mn x y) | _ => none
    | .builtin .max => match c.args.toList with | [x, y] => some (.mx x y) | _ => none
    | .value (.func g) => some (.call g c.args.toList)
    | .value f => some (.calld f c.args.toList)
    | _ => none
  | _ => none

section
variable {G : Nat} {μ : Mu} {A A' : AH} {w : World} {P : Program} {v : Value}

theorem OV.map {ρ ρ' : Operand → Value} {x : Option Operand} (h : ∀ y, x = some y → VR μ (ρ y) (ρ' y)) : OV μ (x.map ρ) (x.map ρ') := by
  cases x with
  | none => trivial
  | some y => exact h y rfl

def isCall : AOp → Bool
  | .call _ _ | .calld _ _ | .callx _ _ => true
  | _ => false

theorem sim_strc {x x' : Value} {s d : TypeId} (hr : Rel G μ A w) (hx : VR μ x x') (h1 : P.underlying s = some .string) (h2 : P.underlying d = some .string) (hs : sStr A x = some (v, A')) :
    Sim G μ A w v A' ((do pure (.value (← convert s d x')) : Sem Next).run P w) := by
  unfold sStr at hs
  split at hs
  · injection hs with hs; injection hs with h3 h4; subst h3 h4
    obtain rfl := hx.string
    refine Sim.flat hr (run_value ?_) rfl
    unfold convert
    rw [Sem.run_bind, run_underlying h1, Result.andThen_ok, Sem.run_bind, run_underlying h2, Result.andThen_ok]
    rfl
  · cases hs

theorem run_builtin {ρ' : Operand → Value} {c : Call} {b : Builtin} {ty : TypeId} {o : Oper} (hc : c.callee = .builtin b) (ho : o.op = .call c) :
    (execOp ρ' o).run P w = (builtin b c.argTypes o.type (c.args.map fun | .const _ => true | _ => false) (c.args.map ρ')).run P w := by
  unfold execOp
  simp only [ho]
  unfold resolve
  simp only [hc]
  rfl

theorem VR.fnarr {ρ ρ' : Operand → Value} (l : List Operand) (h : ∀ x ∈ l, VR μ (ρ x) (ρ' x)) : (l.map ρ).toArray.size = (l.toArray.map ρ').size ∧ ∀ (j : Nat) x y, (l.map ρ).toArray[j]? = some x → (l.toArray.map ρ')[j]? = some y → VR μ x y := by
  refine ⟨by simp, fun j x y hx hy => ?_⟩
  simp only [List.getElem?_toArray, List.getElem?_map, Array.getElem?_map, Option.map_eq_some_iff] at hx hy
  obtain ⟨a, ha, rfl⟩ := hx
  obtain ⟨b, hb, rfl⟩ := hy
  rw [ha] at hb
  obtain rfl := Option.some.inj hb
  exact h a (List.mem_of_getElem? ha)


section
variable {ρ ρ' : Operand → Value} {dst : Option Tmp} {ty : TypeId} {pos : String} {aft : Array Edge} {gd : Option (Nat × Bool)} {op : AOp}


theorem snd_build {t : TypeId} {ps : Array (Nat × Operand)} {qs : Array (Nat × Value)} (hql : qs.toList = ps.toList.map fun p => (p.1, ρ' p.2)) (hc : cOp P (.build t ps) = some op) (hr : Rel G μ A w) (hρ : ∀ p ∈ ps.toList, VR μ (ρ p.2) (ρ' p.2))
    (hs : step ρ A op = some (v, A')) : Sim G μ A w v A' ((do pure (.value (← Instr.build t qs)) : Sem Next).run P w) := by
  simp only [cOp] at hc
  split at hc
  · rename_i fs hu
    simp only [Option.bind_eq_some_iff, Option.map_eq_some_iff] at hc
    obtain ⟨zl, hz, pl, hpl, l, hl, rfl⟩ := hc
    obtain ⟨i, z, h1, h2, h3, h4, rfl⟩ := zc_some hz
    obtain ⟨p1, p2⟩ := places_some _ _ hpl
    obtain ⟨q1, q2⟩ := partsAt_some _ _ hl
    have hs : sBuild A z.cells.toList (l.map fun p => (p.1, p.2.1, ρ p.2.2)) = some (v, A') := hs
    have hpl2 := run_places' (P := P) (w := w) fs pl (by simpa using p1) (fun j f p a b => p2 j f p (by simpa using a) b)
    have hps : ∀ (j : Nat) (p : Nat × Nat × Value) (q : Nat × Value), (l.map fun p => (p.1, p.2.1, ρ p.2.2))[j]? = some p → qs.toList[j]? = some q → pl.toArray[q.1]? = some (p.1, p.2.1) ∧ VR μ p.2.2 q.2 := by
      intro j p q hp hq
      rw [hql] at hq
      simp only [List.getElem?_map, Option.map_eq_some_iff] at hp hq
      obtain ⟨p', hp', rfl⟩ := hp
      obtain ⟨q', hq', rfl⟩ := hq
      obtain ⟨r1, r2⟩ := q2 j p' q' hp' hq'
      refine ⟨by simpa using r1, ?_⟩
      simp only [r2]
      exact hρ _ (List.mem_of_getElem? hq')
    exact sim_build (place := fun j => pl.toArray[j]?) hr h1 h2 h3 (by rw [hql]; simp [q1]) hps (fun cells hcl => run_build_struct h1 h2 hu hpl2 hcl) hs
  · rename_i n e hu
    simp only [Option.bind_eq_some_iff, Option.map_eq_some_iff] at hc
    obtain ⟨zl, hz, ei, hei, rfl⟩ := hc
    obtain ⟨i, z, h1, h2, h3, h4, rfl⟩ := zc_some hz
    have hs : sBuild A z.cells.toList ((ps.toList.map fun p => (p.1 * ei.size, ei.size, p.2)).map fun p => (p.1, p.2.1, ρ p.2.2)) = some (v, A') := hs
    have hps : ∀ (j : Nat) (p : Nat × Nat × Value) (q : Nat × Value), ((ps.toList.map fun p => (p.1 * ei.size, ei.size, p.2)).map fun p => (p.1, p.2.1, ρ p.2.2))[j]? = some p → qs.toList[j]? = some q → some (q.1 * ei.size, ei.size) = some (p.1, p.2.1) ∧ VR μ p.2.2 q.2 := by
      intro j p q hp hq
      rw [hql] at hq
      simp only [List.map_map, List.getElem?_map, Option.map_eq_some_iff] at hp hq
      obtain ⟨p', hp', rfl⟩ := hp
      obtain ⟨q', hq', rfl⟩ := hq
      rw [hp'] at hq'
      obtain rfl := Option.some.inj hq'
      exact ⟨rfl, hρ p' (List.mem_of_getElem? hp')⟩
    exact sim_build (place := fun i => some (i * ei.size, ei.size)) hr h1 h2 h3 (by rw [hql]; simp) hps (fun cells hcl => run_build_array h1 h2 hu hei hcl) hs
  · cases hc

theorem snd_lit {t : TypeId} {len : Nat} {ps : Array (Nat × Operand)} {qs : Array (Nat × Value)} (hql : qs.toList = ps.toList.map fun p => (p.1, ρ' p.2)) (hc : cOp P (.buildSlice t len ps) = some op) (hr : Rel G μ A w) (hρ : ∀ p ∈ ps.toList, VR μ (ρ p.2) (ρ' p.2))
    (hs : step ρ A op = some (v, A')) : Sim G μ A w v A' ((do pure (.value (← Instr.buildSlice t len qs)) : Sem Next).run P w) := by
  simp only [cOp] at hc
  split at hc
  · rename_i e hu
    simp only [Option.bind_eq_some_iff] at hc
    obtain ⟨i, hi, zl, hz, hc⟩ := hc
    split at hc
    · rename_i hcond
      injection hc with hc; subst hc
      obtain ⟨i', z, h1, h2, h3, h4, rfl⟩ := zc_some hz
      rw [hi] at h1
      obtain rfl := Option.some.inj h1
      have hs : sLit A z.cells.toList i.size len ((ps.toList.map fun p => (p.1 * i.size, i.size, p.2)).map fun p => (p.1, p.2.1, ρ p.2.2)) = some (v, A') := hs
      have hps : ∀ (j : Nat) (p : Nat × Nat × Value) (q : Nat × Value), ((ps.toList.map fun p => (p.1 * i.size, i.size, p.2)).map fun p => (p.1, p.2.1, ρ p.2.2))[j]? = some p → qs.toList[j]? = some q → (p.1, p.2.1) = (q.1 * i.size, i.size) ∧ VR μ p.2.2 q.2 := by
        intro j p q hp hq
        rw [hql] at hq
        simp only [List.map_map, List.getElem?_map, Option.map_eq_some_iff] at hp hq
        obtain ⟨p', hp', rfl⟩ := hp
        obtain ⟨q', hq', rfl⟩ := hq
        rw [hp'] at hq'
        obtain rfl := Option.some.inj hq'
        exact ⟨rfl, hρ p' (List.mem_of_getElem? hp')⟩
      exact sim_lit hr hu hi h2 h3 h4 hcond.1 hcond.2 (by rw [hql]; simp) hps hs
    · cases hc
  · cases hc

theorem snd_binOp {o : BinOp} {t yt : TypeId} {x y : Operand} (hc : cOp P (.binOp o t x y yt) = some op) (hr : Rel G μ A w) (hx : VR μ (ρ x) (ρ' x)) (hy : VR μ (ρ y) (ρ' y)) (hconst : ∀ v, ρ' (.const v) = v)
    (hs : step ρ A op = some (v, A')) : Sim G μ A w v A' ((do pure (.value (← (do eqGuard o t x y (ρ' x) (ρ' y); binOp o t (ρ' x) (ρ' y)))) : Sem Next).run P w) := by
  have main : ∀ neg : Bool, cEq P neg t x y = some op → Sim G μ A w v A' ((do pure (.value (← (do eqGuard (if neg then .neq else .eql) t x y (ρ' x) (ρ' y); binOp (if neg then .neq else .eql) t (ρ' x) (ρ' y)))) : Sem Next).run P w) := by
    intro neg h
    unfold cEq at h
    split at h
    · rename_i hu
      injection h with h; subst h
      exact sim_beq hr hx hy hu hs
    · injection h with h; subst h
      exact sim_bin hr hx hy hs
    · injection h with h; subst h
      exact sim_bin hr hx hy hs
    · rename_i d _ _ _ hu
      split at h
      · rename_i hag
        split at h
        · rename_i hk
          rw [Bool.and_eq_true] at hk
          injection h with h; subst h
          refine sim_eqagg hr hx hy ?_ hk.1 (by simpa using hk.2) hs
          unfold aggD'
          rw [hu]
          cases d <;> first | rfl | (simp [aggD] at hag)
        · cases h
      split at h
      · rename_i c
        split at h
        · rename_i hn
          injection h with h; subst h
          simp only [step] at hs
          split at hs
          · rename_i hk
            rw [hconst]
            exact (sim_isnil (left := true) hr hx hu hn hk hs).1
          · cases hs
        · cases h
      · split at h
        · rename_i c _
          split at h
          · rename_i hn
            injection h with h; subst h
            simp only [step] at hs
            split at hs
            · rename_i hk
              rw [hconst]
              exact (sim_isnil (left := true) hr hy hu hn hk hs).2
            · cases hs
          · cases h
        · cases h
    · cases h
  simp only [cOp] at hc
  cases o <;> first
    | exact main false hc
    | exact main true hc
    | (simp only [cBin, Option.some.injEq] at hc; subst hc; exact sim_bin hr hx hy hs)

theorem snd_convert {s d : TypeId} {x : Operand} (hc : cOp P (.convert s d x) = some op) (hr : Rel G μ A w) (hx : VR μ (ρ x) (ρ' x)) (hs : step ρ A op = some (v, A')) :
    Sim G μ A w v A' ((do pure (.value (← convert s d (ρ' x))) : Sem Next).run P w) := by
  simp only [cOp] at hc
  split at hc
  · rename_i h1 h2
    injection hc with hc; subst hc
    exact sim_conv hr hx h1 h2 hs
  · rename_i h1 h2
    injection hc with hc; subst hc
    exact sim_strc hr hx h1 h2 hs
  · rename_i h1 h2
    split at hc
    · rename_i h3
      injection hc with hc; subst hc
      exact sim_b2s hr hx h1 h2 h3 hs
    · cases hc
  · rename_i h1 h2
    split at hc
    · rename_i hsd
      subst hsd
      split at hc
      · rename_i h3
        injection hc with hc; subst hc
        exact sim_mks hr hx h1 h3 hs
      · cases hc
    · cases hc
  · rename_i h1 h2
    split at hc
    · rename_i h3
      injection hc with hc; subst hc
      exact sim_s2b (ds := .string) hr hx h1 h2 h3 hs
    · cases hc
  · cases hc

theorem snd_slice {t : TypeId} {x : Operand} {lo hi mx : Option Operand} (hc : cOp P (.slice t x lo hi mx) = some op) (hr : Rel G μ A w) (hx : VR μ (ρ x) (ρ' x)) (h1 : OV μ (lo.map ρ) (lo.map ρ')) (h2 : OV μ (hi.map ρ) (hi.map ρ')) (h3 : OV μ (mx.map ρ) (mx.map ρ'))
    (hs : step ρ A op = some (v, A')) : Sim G μ A w v A' ((do pure (.value (← Instr.sliceAt t (ρ' x) (lo.map ρ') (hi.map ρ') (mx.map ρ'))) : Sem Next).run P w) := by
  simp only [cOp] at hc
  split at hc
  · rename_i hu
    split at hc
    · injection hc with hc; subst hc
      exact sim_sls hr hx h1 h2 hu hs
    · cases hc
  · rename_i e hu
    rw [Option.map_eq_some_iff] at hc
    obtain ⟨i, hi', rfl⟩ := hc
    exact sim_sll hr hx h1 h2 h3 hu hi' hs
  · rename_i n e hu
    rw [Option.map_eq_some_iff] at hc
    obtain ⟨i, hi', rfl⟩ := hc
    exact sim_sla hr hx h1 h2 h3 hu hi' hs
  · cases hc

theorem snd_fieldAddr {s : TypeId} {x : Operand} {f : Nat} (hc : cOp P (.fieldAddr s x f) = some op) (hr : Rel G μ A w) (hx : VR μ (ρ x) (ρ' x)) (hs : step ρ A op = some (v, A')) :
    Sim G μ A w v A' ((do pure (.value (← Instr.fieldAt s (ρ' x) f)) : Sem Next).run P w) := by
  simp only [cOp] at hc
  split at hc
  · rename_i fs hu
    simp only [Option.bind_eq_some_iff] at hc
    obtain ⟨fd, hf, i, hi, hc⟩ := hc
    split at hc
    · rename_i h0
      injection hc with hc; subst hc
      exact sim_faddr hr hx hu hf hi h0 hs
    · cases hc
  · cases hc

theorem snd_field {s : TypeId} {x : Operand} {f : Nat} (hc : cOp P (.field s x f) = some op) (hr : Rel G μ A w) (hx : VR μ (ρ x) (ρ' x)) (hs : step ρ A op = some (v, A')) :
    Sim G μ A w v A' ((do pure (.value (← Instr.field s (ρ' x) f)) : Sem Next).run P w) := by
  simp only [cOp] at hc
  split at hc
  · rename_i fs hu
    simp only [Option.bind_eq_some_iff] at hc
    obtain ⟨fd, hf, d, hd, hc⟩ := hc
    split at hc
    · rename_i h0
      rw [Option.map_eq_some_iff] at hc
      obtain ⟨i, hi, rfl⟩ := hc
      exact sim_fieldn hr hx hu hf hd h0 hi hs
    · rename_i h0
      injection hc with hc; subst hc
      exact sim_field1 hr hx hu hf hd (by simpa using h0) hs
  · cases hc

theorem snd_indexAddr {t : TypeId} {x i : Operand} (hc : cOp P (.indexAddr t x i) = some op) (hr : Rel G μ A w) (hx : VR μ (ρ x) (ρ' x)) (hi : VR μ (ρ i) (ρ' i)) (hs : step ρ A op = some (v, A')) :
    Sim G μ A w v A' ((do pure (.value (← Instr.indexAt t (ρ' x) (ρ' i))) : Sem Next).run P w) := by
  simp only [cOp] at hc
  split at hc
  · rename_i e hu
    rw [Option.map_eq_some_iff] at hc
    obtain ⟨inf, h1, rfl⟩ := hc
    exact sim_iaddr hr hx hi hu h1 hs
  · rename_i n e hu
    rw [Option.map_eq_some_iff] at hc
    obtain ⟨inf, h1, rfl⟩ := hc
    exact sim_iarr hr hx hi hu h1 hs
  · cases hc

theorem snd_index {t : TypeId} {x i : Operand} (hc : cOp P (.index t x i) = some op) (hr : Rel G μ A w) (hx : VR μ (ρ x) (ρ' x)) (hi : VR μ (ρ i) (ρ' i)) (hs : step ρ A op = some (v, A')) :
    Sim G μ A w v A' ((do pure (.value (← Instr.index t (ρ' x) (ρ' i))) : Sem Next).run P w) := by
  simp only [cOp] at hc
  split at hc
  · rename_i hu
    injection hc with hc; subst hc
    exact sim_idxs hr hx hi hu hs
  · rename_i n e hu
    simp only [Option.bind_eq_some_iff] at hc
    obtain ⟨inf, h1, d, h2, hc⟩ := hc
    split at hc
    · rename_i h3
      injection hc with hc; subst hc
      exact sim_idxan hr hx hi hu h1 h2 h3 hs
    · rename_i h3
      split at hc
      · rename_i h4
        injection hc with hc; subst hc
        exact sim_idxa1 hr hx hi hu h1 h2 (by simpa using h3) h4 hs
      · cases hc
  · cases hc

theorem snd_makeSlice {t : TypeId} {l c : Operand} (hc : cOp P (.makeSlice t l c) = some op) (hr : Rel G μ A w) (hx : VR μ (ρ l) (ρ' l)) (hi : VR μ (ρ c) (ρ' c)) (hs : step ρ A op = some (v, A')) :
    Sim G μ A w v A' ((do pure (.value (← Instr.makeSlice t (ρ' l) (ρ' c))) : Sem Next).run P w) := by
  simp only [cOp] at hc
  split at hc
  · rename_i e hu
    simp only [Option.bind_eq_some_iff, Option.map_eq_some_iff] at hc
    obtain ⟨i, h1, zl, hz, rfl⟩ := hc
    obtain ⟨i', z, h2, h3, h4, h5, rfl⟩ := zc_some hz
    rw [h1] at h2
    obtain rfl := Option.some.inj h2
    exact sim_mk hr hx hi hu h1 h3 h4 h5 hs
  · cases hc

theorem snd_makeInterface {t : TypeId} {x : Operand} (hc : cOp P (.makeInterface t x) = some op) (hr : Rel G μ A w) (hx : VR μ (ρ x) (ρ' x)) (hs : step ρ A op = some (v, A')) :
    Sim G μ A w v A' ((do pure (.value (← Instr.makeInterface t (ρ' x))) : Sem Next).run P w) := by
  simp only [cOp] at hc
  split at hc
  · cases hc
  · rename_i d hne hu
    injection hc with hc; subst hc
    injection hs with hs; injection hs with h1 h2; subst h1 h2
    refine sim_ifc hr hx hu ?_
    cases d <;> first | rfl | (exact absurd rfl (hne _))
  · cases hc

end

theorem snd_len {ρ ρ' : Operand → Value} {c : Call} {op : AOp} {ty : TypeId} {cs : Array Bool} (hb : c.callee = .builtin .len) (hc : cOp P (.call c) = some op) (hr : Rel G μ A w) (hρ : ∀ x ∈ c.args.toList, VR μ (ρ x) (ρ' x)) (hs : step ρ A op = some (v, A')) :
    Sim G μ A w v A' ((builtin .len c.argTypes ty cs (c.args.map ρ')).run P w) := by
  simp only [cOp, hb] at hc
  split at hc
  · rename_i x t ha ht
    have hm : c.args.map ρ' = #[ρ' x] := by
      have : c.args = #[x] := Array.toList_inj.1 (by simpa using ha)
      rw [this]; simp
    rw [hm]
    have hx := hρ x (by rw [ha]; simp)
    split at hc
    · rename_i hu
      injection hc with hc; subst hc
      exact sim_lent hr hx hu _ _ ht hs
    · rename_i hu
      injection hc with hc; subst hc
      exact sim_lens hr hx hu _ _ ht hs
    · rename_i n e hu
      injection hc with hc; subst hc
      injection hs with hs; injection hs with h1 h2; subst h1 h2
      refine Sim.flat hr (run_value (s := Builtin.len_ c.argTypes ty #[ρ' x]) ?_) rfl
      unfold Builtin.len_
      simp [ht, run_underlying hu, goInt]
    · rename_i kt el hu
      injection hc with hc; subst hc
      exact sim_mlen hr hx ht hu hs
    · cases hc
  · cases hc

theorem snd_delete {ρ ρ' : Operand → Value} {c : Call} {op : AOp} {ty : TypeId} {cs : Array Bool} (hb : c.callee = .builtin .delete) (hc : cOp P (.call c) = some op) (hr : Rel G μ A w) (hρ : ∀ x ∈ c.args.toList, VR μ (ρ x) (ρ' x)) (hs : step ρ A op = some (v, A')) :
    Sim G μ A w v A' ((builtin .delete c.argTypes ty cs (c.args.map ρ')).run P w) := by
  simp only [cOp, hb] at hc
  split at hc
  · rename_i x k t ha ht
    have hm : c.args.map ρ' = #[ρ' x, ρ' k] := by
      have : c.args = #[x, k] := Array.toList_inj.1 (by simpa using ha)
      rw [this]; simp
    rw [hm]
    have hx := hρ x (by rw [ha]; simp)
    have hk := hρ k (by rw [ha]; simp)
    split at hc
    · rename_i kt el hu
      rw [Option.map_eq_some_iff] at hc
      obtain ⟨m, hm, rfl⟩ := hc
      exact sim_mdl hr hx hk ht hu hm hs
    · cases hc
  · cases hc

theorem snd_append {ρ ρ' : Operand → Value} {c : Call} {op : AOp} {ty : TypeId} {cs : Array Bool} (hb : c.callee = .builtin .append) (hc : cOp P (.call c) = some op) (hr : Rel G μ A w) (hρ : ∀ x ∈ c.args.toList, VR μ (ρ x) (ρ' x)) (hs : step ρ A op = some (v, A')) :
    Sim G μ A w v A' ((builtin .append c.argTypes ty cs (c.args.map ρ')).run P w) := by
  simp only [cOp, hb] at hc
  split at hc
  · rename_i s x sT xT ha ht1 ht2
    have hm : c.args.map ρ' = #[ρ' s, ρ' x] := by
      have : c.args = #[s, x] := Array.toList_inj.1 (by simpa using ha)
      rw [this]; simp
    rw [hm]
    have hsv := hρ s (by rw [ha]; simp)
    have hx := hρ x (by rw [ha]; simp)
    split at hc
    · rename_i e e2 hu1 hu2
      simp only [Option.bind_eq_some_iff] at hc
      obtain ⟨i, hi, zl, hz, hc⟩ := hc
      split at hc
      · rename_i h0
        injection hc with hc; subst hc
        obtain ⟨i', z, h2, h3, h4, h5, rfl⟩ := zc_some hz
        rw [hi] at h2
        obtain rfl := Option.some.inj h2
        exact sim_app hr hsv hx ht1 hu1 hi ht2 hu2 (.inr ⟨_, rfl⟩) h3 h5 h0 hs
      · cases hc
    · rename_i e hu1 hu2
      simp only [Option.bind_eq_some_iff] at hc
      obtain ⟨i, hi, zl, hz, hc⟩ := hc
      split at hc
      · rename_i h0
        injection hc with hc; subst hc
        obtain ⟨i', z, h2, h3, h4, h5, rfl⟩ := zc_some hz
        rw [hi] at h2
        obtain rfl := Option.some.inj h2
        exact sim_apps hr hsv hx ht1 hu1 hi ht2 hu2 (.inl rfl) h3 h5 h0 hs
      · cases hc
    · rename_i e ik hu1 hu2
      simp only [Option.bind_eq_some_iff] at hc
      obtain ⟨i, hi, zl, hz, hc⟩ := hc
      split at hc
      · rename_i h0
        injection hc with hc; subst hc
        obtain ⟨i', z, h2, h3, h4, h5, rfl⟩ := zc_some hz
        rw [hi] at h2
        obtain rfl := Option.some.inj h2
        exact sim_appz hr hsv hx ht1 hu1 hi ht2 hu2 h3 h4 h5 h0 hs
      · cases hc
    · cases hc
  · cases hc

theorem snd_cap {ρ ρ' : Operand → Value} {c : Call} {op : AOp} {ty : TypeId} {cs : Array Bool} (hb : c.callee = .builtin .cap) (hc : cOp P (.call c) = some op) (hr : Rel G μ A w) (hρ : ∀ x ∈ c.args.toList, VR μ (ρ x) (ρ' x)) (hs : step ρ A op = some (v, A')) :
    Sim G μ A w v A' ((builtin .cap c.argTypes ty cs (c.args.map ρ')).run P w) := by
  simp only [cOp, hb] at hc
  split at hc
  · rename_i x t ha ht
    have hm : c.args.map ρ' = #[ρ' x] := by
      have : c.args = #[x] := Array.toList_inj.1 (by simpa using ha)
      rw [this]; simp
    rw [hm]
    have hx := hρ x (by rw [ha]; simp)
    split at hc
    · rename_i e hu
      injection hc with hc; subst hc
      have hs : sCapn A (ρ x) = some (v, A') := hs
      unfold sCapn at hs
      split at hs
      · rename_i hv
        injection hs with hs; injection hs with h1 h2; subst h1 h2
        rw [hv] at hx
        have hx2 := hx.eq_of_flat rfl
        refine Sim.flat hr (run_value (s := Builtin.cap_ c.argTypes ty #[ρ' x]) ?_) rfl
        unfold Builtin.cap_
        simp [ht, run_underlying hu, goInt, hx2]
      · rename_i i o n c2 hv
        split at hs
        · rename_i cs sz hrow
          split at hs
          · rename_i hcnd
            injection hs with hs; injection hs with h1 h2; subst h1 h2
            rw [hv] at hx
            have hcap : ∃ b, ρ' x = .slice b n n := by
              generalize ρ' x = u at hx
              cases hx with
              | flat h => simp [flatV] at h
              | sle hil => exact ⟨_, rfl⟩
              | slc he g1 g2 g3 g5 =>
                rename_i c' e
                obtain ⟨rc, T, fr, _, _, _, g4⟩ := hr.row _ cs .own sz true e hrow he (by decide)
                have hlim := (g4.1 rfl).2.2 rfl
                have hesz := hr.szs _ cs .own sz true e hrow he
                rw [hesz] at g3
                have hle : c' * sz ≤ n * sz := by omega
                have : c' ≤ n := Nat.le_of_mul_le_mul_right hle hcnd.1
                have : c' = n := by omega
                subst this
                exact ⟨_, rfl⟩
            obtain ⟨b, hb⟩ := hcap
            refine Sim.flat hr (run_value (s := Builtin.cap_ c.argTypes ty #[ρ' x]) ?_) rfl
            unfold Builtin.cap_
            simp [ht, run_underlying hu, goInt, hb]
          · cases hs
        · cases hs
      · cases hs
    · cases hc
  · cases hc

theorem snd_copy {ρ ρ' : Operand → Value} {c : Call} {op : AOp} {ty : TypeId} {cs : Array Bool} (hb : c.callee = .builtin .copy) (hc : cOp P (.call c) = some op) (hr : Rel G μ A w) (hρ : ∀ x ∈ c.args.toList, VR μ (ρ x) (ρ' x)) (hs : step ρ A op = some (v, A')) :
    Sim G μ A w v A' ((builtin .copy c.argTypes ty cs (c.args.map ρ')).run P w) := by
  simp only [cOp, hb] at hc
  split at hc
  · rename_i d s dT ha ht1
    have hm : c.args.map ρ' = #[ρ' d, ρ' s] := by
      have : c.args = #[d, s] := Array.toList_inj.1 (by simpa using ha)
      rw [this]; simp
    rw [hm]
    split at hc
    · rename_i e hu1
      rw [Option.map_eq_some_iff] at hc
      obtain ⟨i, hi, rfl⟩ := hc
      exact sim_copy hr (hρ d (by rw [ha]; simp)) (hρ s (by rw [ha]; simp)) ht1 hu1 hi hs
    · cases hc
  · cases hc

theorem snd_clear {ρ ρ' : Operand → Value} {c : Call} {op : AOp} {ty : TypeId} {cs : Array Bool} (hb : c.callee = .builtin .clear) (hc : cOp P (.call c) = some op) (hr : Rel G μ A w) (hρ : ∀ x ∈ c.args.toList, VR μ (ρ x) (ρ' x)) (hs : step ρ A op = some (v, A')) :
    Sim G μ A w v A' ((builtin .clear c.argTypes ty cs (c.args.map ρ')).run P w) := by
  simp only [cOp, hb] at hc
  split at hc
  · rename_i d dT ha ht1
    have hm : c.args.map ρ' = #[ρ' d] := by
      have : c.args = #[d] := Array.toList_inj.1 (by simpa using ha)
      rw [this]; simp
    rw [hm]
    split at hc
    · rename_i e hu1
      split at hc
      · rename_i hpos
        rw [Option.map_eq_some_iff] at hc
        obtain ⟨z, hz, rfl⟩ := hc
        obtain ⟨i, zv, hi, hzv, hf, hzs, rfl⟩ := zc_some hz
        exact sim_clear hr (hρ d (by rw [ha]; simp)) ht1 hu1 hi hzv hf hzs (by rw [hi] at hpos; simpa using hpos) hs
      · cases hc
    · cases hc
  · cases hc

theorem snd_min {ρ ρ' : Operand → Value} {c : Call} {op : AOp} {ty : TypeId} {cs : Array Bool} (hb : c.callee = .builtin .min) (hc : cOp P (.call c) = some op) (hr : Rel G μ A w) (hρ : ∀ x ∈ c.args.toList, VR μ (ρ x) (ρ' x)) (hs : step ρ A op = some (v, A')) :
    Sim G μ A w v A' ((builtin .min c.argTypes ty cs (c.args.map ρ')).run P w) := by
  simp only [cOp, hb] at hc
  split at hc
  · rename_i d s ha
    have hm : c.args.map ρ' = #[ρ' d, ρ' s] := by
      have : c.args = #[d, s] := Array.toList_inj.1 (by simpa using ha)
      rw [this]; simp
    rw [hm]
    injection hc with hc; subst hc
    exact sim_mn hr (hρ d (by rw [ha]; simp)) (hρ s (by rw [ha]; simp)) hs
  · cases hc
theorem snd_max {ρ ρ' : Operand → Value} {c : Call} {op : AOp} {ty : TypeId} {cs : Array Bool} (hb : c.callee = .builtin .max) (hc : cOp P (.call c) = some op) (hr : Rel G μ A w) (hρ : ∀ x ∈ c.args.toList, VR μ (ρ x) (ρ' x)) (hs : step ρ A op = some (v, A')) :
    Sim G μ A w v A' ((builtin .max c.argTypes ty cs (c.args.map ρ')).run P w) := by
  simp only [cOp, hb] at hc
  split at hc
  · rename_i d s ha
    have hm : c.args.map ρ' = #[ρ' d, ρ' s] := by
      have : c.args = #[d, s] := Array.toList_inj.1 (by simpa using ha)
      rw [this]; simp
    rw [hm]
    injection hc with hc; subst hc
    exact sim_mx hr (hρ d (by rw [ha]; simp)) (hρ s (by rw [ha]; simp)) hs
  · cases hc

end
end Go.AS


namespace Go.AS
open Go
set_option linter.unusedVariables false
set_option linter.unusedSimpArgs false

section
variable {G : Nat} {μ : Mu} {A A' : AH} {w : World} {P : Program} {v : Value}

theorem qs_list {ρ' : Operand → Value} (ps : Array (Nat × Operand)) : (ps.map fun (x : Nat × Operand) => match x with | (i, x) => (i, ρ' x)).toList = ps.toList.map fun p => (p.1, ρ' p.2) := by
  simp

set_option maxHeartbeats 2000000 in
theorem cOp_sound {ρ ρ' : Operand → Value} {o : Oper} {op : AOp} (hc : cOp P o.op = some op) (hr : Rel G μ A w) (hρ : ∀ x ∈ o.op.operands.toList, VR μ (ρ x) (ρ' x)) (hconst : ∀ v, ρ' (.const v) = v) (hn : isCall op = false)
    (hs : step ρ A op = some (v, A')) : Sim G μ A w v A' ((execOp ρ' o).run P w) := by
  obtain ⟨dst, o1, ty, pos, aft, gd⟩ := o
  simp only at hc hρ
  cases o1 with
  | move x =>
    simp only [cOp, Option.some.injEq] at hc; subst hc
    injection hs with hs; injection hs with h1 h2; subst h1 h2
    exact Sim.same hr rfl (hρ x (by simp [Op.operands]))
  | assign x =>
    simp only [cOp, Option.some.injEq] at hc; subst hc
    injection hs with hs; injection hs with h1 h2; subst h1 h2
    exact Sim.same hr rfl (hρ x (by simp [Op.operands]))
  | pick c a b =>
    simp only [cOp, Option.some.injEq] at hc; subst hc
    exact sim_pick hr (hρ c (by simp [Op.operands])) (hρ a (by simp [Op.operands])) (hρ b (by simp [Op.operands])) hs
  | alloc t =>
    simp only [cOp, Option.map_eq_some_iff] at hc
    obtain ⟨zl, hz, rfl⟩ := hc
    obtain ⟨i, z, h1, h2, h3, h4, rfl⟩ := zc_some hz
    injection hs with hs; injection hs with h5 h6; subst h5 h6
    exact sim_alloc hr h1 h2 h3
  | box t x =>
    simp only [cOp, Option.some.injEq] at hc; subst hc
    exact sim_box hr (hρ x (by simp [Op.operands])) hs
  | build t ps =>
    refine snd_build (ρ' := ρ') (qs_list ps) hc hr (fun p hp => hρ _ ?_) hs
    simp only [Op.operands, List.mem_map]
    exact ⟨p, hp, rfl⟩
  | buildSlice t len ps =>
    refine snd_lit (ρ' := ρ') (qs_list ps) hc hr (fun p hp => hρ _ ?_) hs
    simp only [Op.operands, List.mem_map]
    exact ⟨p, hp, rfl⟩
  | load t a =>
    simp only [cOp, Option.bind_eq_some_iff] at hc
    obtain ⟨d, hd, hc⟩ := hc
    split at hc
    · rename_i hagg
      rw [Option.map_eq_some_iff] at hc
      obtain ⟨i, hi, rfl⟩ := hc
      exact sim_loadn hr (hρ a (by simp [Op.operands])) hd hagg hi hs
    · rename_i hagg
      injection hc with hc; subst hc
      exact sim_load1 hr (hρ a (by simp [Op.operands])) hd (by simpa using hagg) hs
  | store t a x =>
    simp only [cOp, Option.map_eq_some_iff] at hc
    obtain ⟨i, hi, rfl⟩ := hc
    exact sim_store hr (hρ a (by simp [Op.operands])) (hρ x (by simp [Op.operands])) hi hs
  | nilCheck x =>
    simp only [cOp, Option.some.injEq] at hc; subst hc
    exact sim_nilc hr (hρ x (by simp [Op.operands])) hs
  | unOp op t x =>
    simp only [cOp, Option.some.injEq] at hc; subst hc
    exact sim_un hr (hρ x (by simp [Op.operands])) hs
  | binOp op t x y yt => exact snd_binOp hc hr (hρ x (by simp [Op.operands])) (hρ y (by simp [Op.operands])) hconst hs
  | convert s d x => exact snd_convert hc hr (hρ x (by simp [Op.operands])) hs
  | makeInterface t x => exact snd_makeInterface hc hr (hρ x (by simp [Op.operands])) hs
  | makeFunc fn first captured =>
    simp only [cOp] at hc
    split at hc
    · rename_i hf
      injection hc with hc; subst hc
      injection hs with hs; injection hs with h1 h2; subst h1 h2
      obtain ⟨a1, a2⟩ := VR.fnarr (μ := μ) (ρ := ρ) (ρ' := ρ') first.toList (fun x hx => hρ x (by simp only [Op.operands, Array.toList_append, List.mem_append]; exact .inl hx))
      obtain ⟨b1, b2⟩ := VR.fnarr (μ := μ) (ρ := ρ) (ρ' := ρ') captured.toList (fun x hx => hρ x (by simp only [Op.operands, Array.toList_append, List.mem_append]; exact .inr hx))
      refine Sim.same hr (v' := .func fn (first.map ρ') (captured.map ρ')) rfl ?_
      exact .func hf (by simp) (by simpa using a2) (by simp) (by simpa using b2)
    · cases hc
  | makeMap t res =>
    cases res with
    | none =>
      simp only [cOp] at hc
      split at hc
      · injection hc with hc; subst hc
        injection hs with hs; injection hs with h1 h2; subst h1 h2
        exact sim_mkm hr
      · cases hc
    | some x => simp [cOp] at hc
  | lookup t x k ok =>
    simp only [cOp] at hc
    split at hc
    · rename_i kt el hu
      simp only [Option.bind_eq_some_iff] at hc
      obtain ⟨m, hm, i, hi, z, hz, hc⟩ := hc
      split at hc
      · rename_i hf
        injection hc with hc; subst hc
        exact sim_mlook hr (hρ x (by simp [Op.operands])) (hρ k (by simp [Op.operands])) hu hm (run_zero hi hz) hf hs
      · cases hc
    · cases hc
  | mapUpdate t x k u =>
    simp only [cOp] at hc
    split at hc
    · rename_i kt el hu
      rw [Option.map_eq_some_iff] at hc
      obtain ⟨m, hm, rfl⟩ := hc
      exact sim_mupd hr (hρ x (by simp [Op.operands])) (hρ k (by simp [Op.operands])) (hρ u (by simp [Op.operands])) hu hm hs
    · cases hc
  | makeSlice t l c => exact snd_makeSlice hc hr (hρ l (by simp [Op.operands])) (hρ c (by simp [Op.operands])) hs
  | slice t x lo hi mx =>
    refine snd_slice hc hr (hρ x (by simp [Op.operands])) (OV.map fun y hy => hρ y ?_) (OV.map fun y hy => hρ y ?_) (OV.map fun y hy => hρ y ?_) hs
    · subst hy; simp [Op.operands]
    · subst hy; simp [Op.operands]
    · subst hy; simp [Op.operands]
  | fieldAddr s x f => exact snd_fieldAddr hc hr (hρ x (by simp [Op.operands])) hs
  | field s x f => exact snd_field hc hr (hρ x (by simp [Op.operands])) hs
  | indexAddr t x i => exact snd_indexAddr hc hr (hρ x (by simp [Op.operands])) (hρ i (by simp [Op.operands])) hs
  | index t x i => exact snd_index hc hr (hρ x (by simp [Op.operands])) (hρ i (by simp [Op.operands])) hs
  | panic x =>
    simp only [cOp, Option.some.injEq] at hc; subst hc
    simp [step] at hs
  | extract x i =>
    simp only [cOp, Option.some.injEq] at hc; subst hc
    exact sim_ext hr (hρ x (by simp [Op.operands])) hs
  | call c =>
    have hargs : ∀ x ∈ c.args.toList, VR μ (ρ x) (ρ' x) := fun x hx => hρ x (by
      simp only [Op.operands, Call.operands, Array.toList_append, List.mem_append]; exact .inr hx)
    cases hcal : c.callee with
    | builtin b =>
      rw [run_builtin (c := c) (b := b) (ty := ty) hcal rfl]
      cases b <;> first
        | exact snd_len hcal hc hr hargs hs
        | exact snd_delete hcal hc hr hargs hs
        | exact snd_cap hcal hc hr hargs hs
        | exact snd_append hcal hc hr hargs hs
        | exact snd_copy hcal hc hr hargs hs
        | exact snd_clear hcal hc hr hargs hs
        | exact snd_min hcal hc hr hargs hs
        | exact snd_max hcal hc hr hargs hs
        | (simp [cOp, hcal] at hc; done)
    | value f =>
      cases f <;> (simp only [cOp, hcal, Option.some.injEq] at hc; subst hc; simp [isCall] at hn)
    | invoke r m => simp [cOp, hcal] at hc
  | _ => simp [cOp] at hc

end
theorem cEq_capn {P : Program} {neg : Bool} {t : TypeId} {x y z : Operand} (h : cEq P neg t x y = some (.capn z)) : False := by
  unfold cEq at h
  repeat' split at h
  all_goals first | (cases h; done) | (simp [Option.bind_eq_some_iff, Option.map_eq_some_iff] at h; done)
theorem cBin_capn {P : Program} {op : BinOp} {t : TypeId} {x y z : Operand} (h : cBin P op t x y = some (.capn z)) : False := by
  unfold cBin at h
  split at h
  · exact cEq_capn h
  · exact cEq_capn h
  · injection h with h; cases h
theorem cOp_capn {P : Program} {o : Op} {x : Operand} (h : cOp P o = some (.capn x)) : ∃ c t e, o = .call c ∧ c.callee = .builtin .cap ∧ c.args.toList = [x] ∧ c.argTypes[0]? = some t ∧ P.underlying t = some (.slice e) := by
  cases o with
  | call c =>
    cases hcal : c.callee with
    | builtin b =>
      cases b with
      | cap =>
        simp only [cOp, hcal] at h
        split at h
        · rename_i y t ha ht
          split at h
          · rename_i e hu
            injection h with h
            injection h with h
            subst h
            exact ⟨c, t, e, rfl, hcal, ha, ht, hu⟩
          · cases h
        · cases h
      | _ =>
        exfalso
        simp only [cOp, hcal] at h
        repeat' split at h
        all_goals first | (cases h; done) | (simp [Option.bind_eq_some_iff, Option.map_eq_some_iff] at h; done)
    | value f => cases f <;> simp [cOp, hcal] at h
    | invoke r m => simp [cOp, hcal] at h
  | binOp op t x y u => exact (cBin_capn (by simpa only [cOp] using h)).elim
  | makeMap t r =>
    exfalso
    cases r <;> simp only [cOp] at h
    · split at h <;> cases h
    · cases h
  | _ =>
    exfalso
    first | simp only [cOp] at h | unfold cOp at h
    repeat' split at h
    all_goals first
      | (cases h; done)
      | (simp [Option.bind_eq_some_iff, Option.map_eq_some_iff] at h; done)
      | (simp only [Option.bind_eq_some_iff, Option.map_eq_some_iff] at h
         obtain ⟨d, hd, h⟩ := h
         split at h <;> first | (simp [Option.bind_eq_some_iff, Option.map_eq_some_iff] at h; done) | (cases h; done))
      | (simp only [Option.bind_eq_some_iff, Option.map_eq_some_iff] at h
         obtain ⟨d, hd, e, he, h⟩ := h
         split at h <;> first | (simp [Option.bind_eq_some_iff, Option.map_eq_some_iff] at h; done) | (split at h <;> simp at h; done) | (cases h; done))
/-- A slice's room, whatever it is. -/
def capW (v : Value) (K : Value → Prop) : Prop := match v with
  | .slice (some ⟨_, _, none⟩) _ c => ∀ c' : Nat, c ≤ c' → K (.int .i64 c')
  | _ => False
/-- What is said of a slice's room: it is known, or whatever it may be. -/
def capQ (A : AH) (v : Value) (K : Value → AH → Prop) : Prop := match sCapn A v with
  | some (u, B) => K u B
  | none => capW v (fun u => K u A)
theorem capW_mono {v : Value} {K K' : Value → Prop} (hk : ∀ u, K u → K' u) (h : capW v K) : capW v K' := by
  unfold capW at h ⊢
  split
  · rename_i he; exact fun c' hc => hk _ (h c' hc)
  · rename_i hne
    split at h
    · exact hne _ _ _ _ rfl
    · exact h
theorem capQ_mono {A : AH} {v : Value} {K K' : Value → AH → Prop} (hk : ∀ u B, K u B → K' u B) (h : capQ A v K) : capQ A v K' := by
  unfold capQ at h ⊢
  split
  · rename_i he; rw [he] at h; exact hk _ _ h
  · rename_i he; rw [he] at h; exact capW_mono (fun u => hk u A) h
theorem capQ_nil {A : AH} {K : Value → AH → Prop} : capQ A (.slice none 0 0) K = K (.int .i64 0) A := id rfl
theorem cap_sound {P : Program} {μ : Mu} {w : World} {ρ ρ' : Operand → Value} {o : Oper} {x : Operand} {K : Value → Prop} (hc : cOp P o.op = some (.capn x)) (hρ : ∀ y ∈ o.op.operands.toList, VR μ (ρ y) (ρ' y)) (hw : capW (ρ x) K) :
    ∃ c' : Nat, (execOp ρ' o).run P w = .ok (.value (.int .i64 c')) w ∧ K (.int .i64 c') := by
  obtain ⟨dst, o1, ty, pos, aft, gd⟩ := o
  simp only at hc hρ
  obtain ⟨c, t, e, rfl, hcal, ha, ht, hu⟩ := cOp_capn hc
  have hx := hρ x (by simp only [Op.operands, Call.operands, Array.toList_append, List.mem_append]; exact .inr (by rw [ha]; simp))
  have hm : c.args.map ρ' = #[ρ' x] := by
    have : c.args = #[x] := Array.toList_inj.1 (by simpa using ha)
    rw [this]; simp
  unfold capW at hw
  split at hw
  · rename_i i o n c0 hv
    rw [hv] at hx
    have hcap : ∃ b c', c0 ≤ c' ∧ ρ' x = .slice b n c' := by
      generalize ρ' x = u at hx
      cases hx with
      | flat h => simp [flatV] at h
      | sle hil => exact ⟨_, 0, Nat.le_refl _, rfl⟩
      | slc he g1 g2 g3 g5 => exact ⟨_, _, g2, rfl⟩
    obtain ⟨b, c', hle, hb⟩ := hcap
    refine ⟨c', ?_, hw c' hle⟩
    rw [run_builtin (c := c) (b := .cap) (ty := ty) hcal rfl, hm]
    refine run_value (s := Builtin.cap_ c.argTypes ty #[ρ' x]) ?_
    unfold Builtin.cap_
    simp [ht, run_underlying hu, goInt, hb]
  · exact hw.elim

end Go.AS


namespace Go.AS
open Go
set_option linter.unusedVariables false
set_option linter.unusedSimpArgs false

/-- A call, told of abstract states: it returns, and Q holds of what it returns and of the heap behind it. -/
def ACalls (G : Nat) (P : Program) (f : FuncId) (args : List Value) (Q : Value → AH → Prop) (A : AH) : Prop :=
  ∀ (μ : Mu) (args' : Array Value) (w : World), Rel G μ A w → args'.size = args.length → (∀ (j : Nat) v v', args[j]? = some v → args'[j]? = some v' → VR μ v v') →
    Calls P f args' w fun e w' => ∃ v v' μ' A', e = .returned v' ∧ VR μ' v v' ∧ Rel G μ' A' w' ∧ Stp μ A w μ' A' w' ∧ Q v A'

theorem ACalls.mono {G : Nat} {P : Program} {f : FuncId} {args : List Value} {Q Q' : Value → AH → Prop} {A : AH} (h : ACalls G P f args Q A) (hq : ∀ v A', Q v A' → Q' v A') : ACalls G P f args Q' A :=
  fun μ args' w h1 h2 h3 => (h μ args' w h1 h2 h3).mono fun e w' ⟨v, v', μ', A', a, b, c, d, q⟩ => ⟨v, v', μ', A', a, b, c, d, hq _ _ q⟩

/-- A call of a function that has no text in Go, the same. -/
def ACallX (G : Nat) (P : Program) (f : FuncId) (args : List Value) (Q : Value → AH → Prop) (A : AH) : Prop :=
  ∀ (μ : Mu) (args' : Array Value) (w : World), Rel G μ A w → args'.size = args.length → (∀ (j : Nat) v v', args[j]? = some v → args'[j]? = some v' → VR μ v v') →
    ∃ v v' μ' A' w', (callFunc f args').run P w = .ok (.value v') w' ∧ VR μ' v v' ∧ Rel G μ' A' w' ∧ Stp μ A w μ' A' w' ∧ Q v A'
theorem ACallX.mono {G : Nat} {P : Program} {f : FuncId} {args : List Value} {Q Q' : Value → AH → Prop} {A : AH} (h : ACallX G P f args Q A) (hq : ∀ v A', Q v A' → Q' v A') : ACallX G P f args Q' A :=
  fun μ args' w h1 h2 h3 => let ⟨v, v', μ', A', w', a, b, c, d, q⟩ := h μ args' w h1 h2 h3; ⟨v, v', μ', A', w', a, b, c, d, hq _ _ q⟩

def Le (A A' : AH) : Prop := ∃ r, A' = A ++ r
theorem Le.refl (A : AH) : Le A A := ⟨[], by simp⟩
theorem Le.trans {A B C : AH} (h : Le A B) (k : Le B C) : Le A C := by
  obtain ⟨r, rfl⟩ := h
  obtain ⟨s, rfl⟩ := k
  exact ⟨r ++ s, by simp⟩
theorem Le.get {A B : AH} (h : Le A B) {i : Nat} {b : Blk} (hb : A[i]? = some b) : B[i]? = some b := by
  obtain ⟨r, rfl⟩ := h
  rw [List.getElem?_append_left (lt_of_get hb), hb]
theorem Le.push (A : AH) (b : Blk) : Le A (A ++ [b]) := ⟨[b], rfl⟩
theorem Le.len {A B : AH} (h : Le A B) : A.length ≤ B.length := by
  obtain ⟨r, rfl⟩ := h
  simp

def wantedA (a : AT) : Option (Nat × Bool) → Bool
  | none => true
  | some (t, want) => match a t with
    | .bool b => b == want
    | _ => false

def calleeOk (P : Program) (f : FuncId) : Bool :=
  match P.funcs[f]? with
  | some fn => fn.body.isSome && fn.name != "runtime.NumGoroutine"
  | none => false

/-- What an operation must give: a call by its contract, all else by 'step'. -/
def W1 (G : Nat) (P : Program) (a : AT) (A : AH) (o : AOp) (K : Value → AH → Prop) : Prop :=
  match o with
  | .call f args => ACalls G P f (args.map (ev a)) K A
  | .calld f args => match ev a f with
    | .func (.func g) first captured => calleeOk P g = true ∧ ACalls G P g (first.toList ++ args.map (ev a) ++ captured.toList) K A
    | _ => False
  | .callx f args => ACallX G P f (args.map (ev a)) K A
  | .capn x => capQ A (ev a x) K
  | o => ∃ v A', step (ev a) A o = some (v, A') ∧ K v A'

/-- The block at which a value leads. -/
def blkOf : Value → List Nat
  | .pointer (some x) => [x.block]
  | .slice (some ⟨b, _, none⟩) _ _ => [b]
  | .map (some i) => [i]
  | _ => []
/-- The block at which an operation that looks at memory looks. -/
def rdB (ρ : Operand → Value) : AOp → List Nat
  | .load1 x => blkOf (ρ x)
  | .loadn x _ => blkOf (ρ x)
  | .b2s x => blkOf (ρ x)
  | .sll x _ _ _ _ => blkOf (ρ x)
  | .sla x _ _ _ _ _ => blkOf (ρ x)
  | .mlook _ _ _ x _ => blkOf (ρ x)
  | .mlen x => blkOf (ρ x)
  | _ => []
/-- What was looked at is as it was. -/
def RdOk (R : List Nat) (A A' : AH) : Prop := ∀ k ∈ R, ∀ b, A[k]? = some b → A'[k]? = some b
theorem Le.rd {A A' : AH} (h : Le A A') (R : List Nat) : RdOk R A A' := fun k _ b hb => h.get hb

/-- Operations in order; R: the blocks at which operations looked that may also come later. -/
def Wops (G : Nat) (P : Program) (Q : AT → AH → Prop) : List IOp → List Nat → AT → AH → Prop
  | [], _, a, A => Q a A
  | o :: r, R, a, A => if wantedA a o.guard then W1 G P a A o.op (fun v A' => (o.le = true → RdOk R A A') ∧ Wops G P Q r (if o.le then rdB (ev a) o.op ++ R else R) (put a o.dst v) A') else Wops G P Q r R (put a o.dst undef) A

/-- Operations in each order of a tree. -/
def Wt (G : Nat) (P : Program) (Q : AT → AH → Prop) : IT → List Nat → AT → AH → Prop
  | .nil, _, a, A => Q a A
  | .op o t, R, a, A => if wantedA a o.guard then W1 G P a A o.op (fun v A' => (o.le = true → RdOk R A A') ∧ Wt G P Q t (if o.le then rdB (ev a) o.op ++ R else R) (put a o.dst v) A') else Wt G P Q t R (put a o.dst undef) A
  | .alt x y, R, a, A => Wt G P Q x R a A ∧ Wt G P Q y R a A

def thenA (next : AT → AH → Prop) (Q : Exit → AT → AH → Prop) : Exit → AT → AH → Prop
  | .normal, a, A => next a A
  | e, a, A => Q e a A
def inBlockA (id : Nat) (Q : Exit → AT → AH → Prop) : Exit → AT → AH → Prop
  | .exit id', a, A => if id' = id then Q .normal a A else Q (.exit id') a A
  | e, a, A => Q e a A
def noGotoA (Q : Exit → AT → AH → Prop) : Exit → AT → AH → Prop
  | .goto _, _, _ => False
  | e, a, A => Q e a A

/-- The weakest precondition of abstract code. -/
def W (G : Nat) (P : Program) : IC → (Exit → AT → AH → Prop) → AT → AH → Prop
  | .skip, Q, a, A => Q .normal a A
  | .ops l, Q, a, A => Wops G P (Q .normal) l [] a A
  | .draw l, Q, a, A => Wops G P (Q .normal) l [] a A
  | .tree t, Q, a, A => Wt G P (Q .normal) t [] a A
  | .seq x y, Q, a, A => W G P x (thenA (W G P y Q) Q) a A
  | .cond c x y, Q, a, A => match ev a c with
    | .bool b => if b then W G P x Q a A else W G P y Q a A
    | _ => False
  | .block id x, Q, a, A => W G P x (inBlockA id Q) a A
  | .loop x, Q, a, A => ∃ (I : AT → AH → Prop) (m : AT → AH → Nat), I a A ∧ ∀ a A, I a A → W G P x (thenA (fun a' A' => I a' A' ∧ m a' A' < m a A) Q) a A
  | .exit id, Q, a, A => Q (.exit id) a A
  | .ret, Q, a, A => Q .ret a A
  | .scope x, Q, a, A => W G P x (noGotoA Q) a A

section
variable {G : Nat} {P : Program} {N : Nat}

theorem ACalls.apply {f : FuncId} {args : List Value} {Q : Value → AH → Prop} {A : AH} (h : ACalls G P f args Q A) {μ : Mu} {w : World} {args' : Array Value} (hr : Rel G μ A w) (h1 : args'.size = args.length)
    (h2 : ∀ (j : Nat) v v', args[j]? = some v → args'[j]? = some v' → VR μ v v') :
    Calls P f args' w fun e w' => ∃ v v' μ' A', e = .returned v' ∧ VR μ' v v' ∧ Rel G μ' A' w' ∧ Stp μ A w μ' A' w' ∧ Q v A' := h μ args' w hr h1 h2

/-- An operation in the machine, by what is said of it. -/
def W1R (P : Program) (o : Oper) (r : Act) (w : World) (K : Value → World → Prop) : Prop :=
  ∀ (next : Act → World → Prop) (Q : Exit → Act → World → Prop), (∀ v w', K v w' → next (r.put o.dst v) w') → o.wp P r w next Q

theorem run_callFunc {f : FuncId} (h : calleeOk P f = true) (args : Array Value) (w : World) : (callFunc f args).run P w = .ok (.enter f args) w := by
  unfold calleeOk at h
  unfold callFunc
  rw [Sem.run_bind, run_program, Result.andThen_ok]
  split at h
  · rename_i fn hf
    rw [Bool.and_eq_true] at h
    obtain ⟨h1, h2⟩ := h
    rw [bne_iff_ne] at h2
    simp only [hf]
    rw [if_neg (by simpa using h2), if_neg (by cases hb : fn.body <;> simp_all)]
    rfl
  · cases h

theorem run_call {o : Oper} {c : Call} {fv : Operand} {ρ' : Operand → Value} {g : FuncId} {first captured : Array Value} (ho : o.op = .call c) (hc : c.callee = .value fv) (hf : ρ' fv = .func (.func g) first captured) (hok : calleeOk P g = true) (w : World) :
    (execOp ρ' o).run P w = .ok (.enter g (first ++ c.args.map ρ' ++ captured)) w := by
  unfold execOp
  simp only [ho]
  unfold resolve
  simp only [hc]
  unfold Deferred.ofValue
  simp only [hf, Sem.run_bind, Sem.run_pure, Result.andThen_ok]
  unfold invoke
  simp only [run_callFunc hok]

theorem getElem?_append3 {α : Type} {a b c a' b' c' : List α} {R : α → α → Prop} (h1 : a.length = a'.length) (h2 : b.length = b'.length) (h3 : c.length = c'.length)
    (k1 : ∀ (j : Nat) x y, a[j]? = some x → a'[j]? = some y → R x y) (k2 : ∀ (j : Nat) x y, b[j]? = some x → b'[j]? = some y → R x y) (k3 : ∀ (j : Nat) x y, c[j]? = some x → c'[j]? = some y → R x y) :
    ∀ (j : Nat) x y, (a ++ b ++ c)[j]? = some x → (a' ++ b' ++ c')[j]? = some y → R x y := by
  intro j x y hx hy
  simp only [List.append_assoc, List.getElem?_append] at hx hy
  rw [h1, h2] at hx
  split at hx
  · rw [if_pos (by assumption)] at hy; exact k1 _ _ _ hx hy
  · rw [if_neg (by assumption)] at hy
    split at hx
    · rw [if_pos (by assumption)] at hy; exact k2 _ _ _ hx hy
    · rw [if_neg (by assumption)] at hy; exact k3 _ _ _ hx hy

/-- An operation, a call too, with its types looked up. -/
def cAny (P : Program) (o : Op) : Option AOp :=
  let other := (cOp P o).bind fun op => if isCall op then none else some op
  match o with
  | .call c => match c.callee with
    | .value (.func g) => if calleeOk P g then some (.call g c.args.toList) else some (.callx g c.args.toList)
    | .value f => some (.calld f c.args.toList)
    | _ => other
  | _ => other

theorem cAny_some {o : Op} {op : AOp} (h : cAny P o = some op) :
    (isCall op = false ∧ cOp P o = some op) ∨ (∃ c g, o = .call c ∧ c.callee = .value (.func g) ∧ calleeOk P g = true ∧ op = .call g c.args.toList) ∨ (∃ c f, o = .call c ∧ c.callee = .value f ∧ op = .calld f c.args.toList) ∨ (∃ c g, o = .call c ∧ c.callee = .value (.func g) ∧ op = .callx g c.args.toList) := by
  have hoth : ((cOp P o).bind fun op => if isCall op then none else some op) = some op → isCall op = false ∧ cOp P o = some op := by
    intro h
    rw [Option.bind_eq_some_iff] at h
    obtain ⟨op', h1, h2⟩ := h
    split at h2
    · cases h2
    · rename_i hn
      obtain rfl := Option.some.inj h2
      exact ⟨by simpa using hn, h1⟩
  unfold cAny at h
  cases o with
  | call c =>
    simp only at h
    cases hcal : c.callee with
    | value fv =>
      rw [hcal] at h
      cases fv with
      | func g =>
        simp only at h
        split at h
        · rename_i hok
          exact .inr (.inl ⟨c, g, rfl, hcal, hok, (Option.some.inj h).symm⟩)
        · exact .inr (.inr (.inr ⟨c, g, rfl, hcal, (Option.some.inj h).symm⟩))
      | _ => exact .inr (.inr (.inl ⟨c, _, rfl, hcal, (Option.some.inj h).symm⟩))
    | invoke r m => rw [hcal] at h; exact .inl (hoth h)
    | builtin b => rw [hcal] at h; exact .inl (hoth h)
  | _ => exact .inl (hoth h)

theorem args_rel {μ : Mu} {a : AT} {r : Act} (l : Array Operand) (h : ∀ x ∈ l.toList, VR μ (ev a x) (r.eval x)) : (l.toList.map (ev a)).length = (l.map r.eval).toList.length ∧ ∀ (j : Nat) x y, (l.toList.map (ev a))[j]? = some x → (l.map r.eval).toList[j]? = some y → VR μ x y := by
  refine ⟨by simp, fun j x y hx hy => ?_⟩
  simp only [Array.toList_map, List.getElem?_map, Option.map_eq_some_iff] at hx hy
  obtain ⟨p, hp, rfl⟩ := hx
  obtain ⟨q, hq, rfl⟩ := hy
  rw [hp] at hq
  obtain rfl := Option.some.inj hq
  exact h p (List.mem_of_getElem? hp)

theorem W1_sound {a : AT} {A : AH} {o : Oper} {op : AOp} {K : Value → AH → Prop} {μ : Mu} {r : Act} {w : World} (hc : cAny P o.op = some op) (hr : Rel G μ A w)
    (hρ : ∀ x ∈ o.op.operands.toList, VR μ (ev a x) (r.eval x)) (hw : W1 G P a A op K) : W1R P o r w (fun v' w' => ∃ v μ' A', VR μ' v v' ∧ Rel G μ' A' w' ∧ Stp μ A w μ' A' w' ∧ K v A') := by
  intro next Q hnext
  unfold Oper.wp
  rcases cAny_some hc with ⟨h1, h2⟩ | ⟨c, g, h1, h2, h3, rfl⟩ | ⟨c, f, h1, h2, rfl⟩ | ⟨c, g, h1, h2, rfl⟩
  · have hw' : (∃ v A', step (ev a) A op = some (v, A') ∧ K v A') ∨ (∃ x, op = .capn x ∧ capW (ev a x) (fun v => K v A)) := by
      unfold W1 at hw
      split at hw
      · simp [isCall] at h1
      · simp [isCall] at h1
      · simp [isCall] at h1
      · unfold capQ at hw
        split at hw
        · rename_i u B hu
          exact .inl ⟨u, B, hu, hw⟩
        · exact .inr ⟨_, rfl, hw⟩
      · exact .inl hw
    rcases hw' with hw' | ⟨x, rfl, hcw⟩
    rotate_left
    · obtain ⟨c', hrun, hK⟩ := cap_sound (w := w) h2 hρ hcw
      rw [hrun, Oper.upon_value]
      exact hnext _ _ ⟨_, μ, A, .flat rfl, hr, Stp.refl _ _ _, hK⟩
    obtain ⟨v, A', hs, hK⟩ := hw'
    obtain ⟨v', μ', w', hrun, hv, hr', hst⟩ := cOp_sound h2 hr hρ (fun _ => rfl) h1 hs
    rcases hrun with hrun | ⟨hrun, rfl⟩
    · rw [hrun, Oper.upon_value]
      exact hnext _ _ ⟨v, μ', A', hv, hr', hst, hK⟩
    · rw [hrun, Oper.upon_skip]
      exact hnext _ _ ⟨v, μ', A', hv, hr', hst, hK⟩
  · have hargs : ∀ x ∈ c.args.toList, VR μ (ev a x) (r.eval x) := fun x hx => hρ x (by
      rw [h1]; simp only [Op.operands, Call.operands, Array.toList_append, List.mem_append]; exact .inr hx)
    have hrun := run_call (P := P) (ρ' := r.eval) h1 h2 (g := g) (first := #[]) (captured := #[]) rfl h3 w
    rw [hrun, Oper.upon_enter]
    obtain ⟨k1, k2⟩ := args_rel c.args hargs
    simp only [W1] at hw
    refine (hw.apply (args' := #[] ++ c.args.map r.eval ++ #[]) hr (by simp) (by simpa using k2)).mono ?_
    rintro e w' ⟨v, v', μ', A', rfl, hv, hr', hst, hK⟩
    exact hnext _ _ ⟨v, μ', A', hv, hr', hst, hK⟩
  · have hargs : ∀ x ∈ c.args.toList, VR μ (ev a x) (r.eval x) := fun x hx => hρ x (by
      rw [h1]; simp only [Op.operands, Call.operands, Array.toList_append, List.mem_append]; exact .inr hx)
    have hfv : VR μ (ev a f) (r.eval f) := hρ f (by
      rw [h1]; simp only [Op.operands, Call.operands, h2, Array.toList_append, List.mem_append]; exact .inl (by simp))
    simp only [W1] at hw
    split at hw
    · rename_i g first captured heq
      obtain ⟨hok, hw⟩ := hw
      rw [heq] at hfv
      have : ∃ first' captured', r.eval f = .func (.func g) first' captured' ∧ first.size = first'.size ∧ (∀ (j : Nat) x y, first[j]? = some x → first'[j]? = some y → VR μ x y) ∧
          captured.size = captured'.size ∧ (∀ (j : Nat) x y, captured[j]? = some x → captured'[j]? = some y → VR μ x y) := by
        generalize r.eval f = u at hfv
        cases hfv with
        | flat h => simp [flatV] at h
        | func hf q1 q2 q3 q4 => exact ⟨_, _, rfl, q1, q2, q3, q4⟩
      obtain ⟨first', captured', hev, q1, q2, q3, q4⟩ := this
      have hrun := run_call (P := P) (ρ' := r.eval) h1 h2 hev hok w
      rw [hrun, Oper.upon_enter]
      obtain ⟨k1, k2⟩ := args_rel c.args hargs
      refine (hw.apply (args' := first' ++ c.args.map r.eval ++ captured') hr (by simp; omega) ?_).mono ?_
      · have := getElem?_append3 (R := VR μ) (a := first.toList) (b := c.args.toList.map (ev a)) (c := captured.toList) (a' := first'.toList) (b' := (c.args.map r.eval).toList) (c' := captured'.toList)
          (by simpa using q1) k1 (by simpa using q3) (fun j x y hx hy => q2 j x y (by simpa using hx) (by simpa using hy)) k2 (fun j x y hx hy => q4 j x y (by simpa using hx) (by simpa using hy))
        intro j x y hx hy
        refine this j x y hx ?_
        rw [← hy]
        simp [← Array.getElem?_toList]
      · rintro e w' ⟨v, v', μ', A', rfl, hv, hr', hst, hK⟩
        exact hnext _ _ ⟨v, μ', A', hv, hr', hst, hK⟩
    · exact hw.elim
  · have hargs : ∀ x ∈ c.args.toList, VR μ (ev a x) (r.eval x) := fun x hx => hρ x (by
      rw [h1]; simp only [Op.operands, Call.operands, Array.toList_append, List.mem_append]; exact .inr hx)
    obtain ⟨k1, k2⟩ := args_rel c.args hargs
    simp only [W1] at hw
    obtain ⟨v, v', μ', A', w', hrun, hv, hr', hst, hK⟩ := hw μ (#[] ++ c.args.map r.eval ++ #[]) w hr (by simp) (by simpa using k2)
    have hex : (execOp r.eval o).run P w = .ok (.value v') w' := by
      unfold execOp
      simp only [h1]
      unfold resolve
      simp only [h2]
      unfold Deferred.ofValue
      have he : r.eval (.func g) = .func (.func g) #[] #[] := rfl
      simp only [he, Sem.run_bind, Sem.run_pure, Result.andThen_ok]
      unfold invoke
      simp only [hrun]
    rw [hex, Oper.upon_value]
    exact hnext _ _ ⟨v, μ', A', hv, hr', hst, hK⟩

/-- An operation of a region, with its types looked up. -/
def cIOp (P : Program) (G N : Nat) (ops : Array Oper) (o : Oper) : Option IOp :=
  if (o.op.operands.toList.all (opOk G N) && o.dst != some dsl) = true then
    (cAny P o.op).bind fun op =>
      match o.guard with
      | none => some ⟨o.dst, none, false, op⟩
      | some (j, want) => match (ops[j]?).bind (·.dst) with
        | some t => if t < N then some ⟨o.dst, some (t, want), false, op⟩ else none
        | none => none
  else none

theorem cIOp_dst {ops : Array Oper} {o : Oper} {io : IOp} (h : cIOp P G N ops o = some io) : o.dst ≠ some dsl := by
  unfold cIOp at h
  split at h
  · rename_i hall
    rw [Bool.and_eq_true] at hall
    simpa using hall.2
  · cases h
theorem wanted_rel {ops : Array Oper} {o : Oper} {io : IOp} {dm : Bool} {a : AT} {r : Act} {μ : Mu} (h : cIOp P G N ops o = some io) (ha : ActR μ N dm a r) : Region.wanted o (yielded ops r.tmps) = wantedA a io.guard ∧ io.dst = o.dst ∧ io.le = false ∧ cAny P o.op = some io.op ∧ (∀ x ∈ o.op.operands.toList, opOk G N x = true) := by
  unfold cIOp at h
  split at h
  · rename_i hall
    rw [Bool.and_eq_true] at hall
    replace hall := hall.1
    rw [List.all_eq_true] at hall
    rw [Option.bind_eq_some_iff] at h
    obtain ⟨op, h1, h2⟩ := h
    unfold Region.wanted
    split at h2
    · rename_i hg
      injection h2 with h2; subst h2
      rw [hg]
      exact ⟨rfl, rfl, rfl, h1, hall⟩
    · rename_i j want hg
      split at h2
      · rename_i t ht
        split at h2
        · rename_i htN
          injection h2 with h2; subst h2
          rw [hg]
          refine ⟨?_, rfl, rfl, h1, hall⟩
          have hlt : t < r.tmps.size := by rw [ha.size]; exact htN
          have hv := ha.vals t _ (Array.getElem?_eq_getElem hlt)
          simp only [yielded, ht, Option.bind_some, Array.getElem?_eq_getElem hlt, wantedA]
          generalize r.tmps[t] = u at hv
          generalize a t = b at hv
          cases hv with
          | flat h =>
            cases u <;> first | rfl | (rename_i q; cases q <;> cases want <;> rfl)
          | _ => rfl
        · cases h2
      · cases h2
  · cases h

def cIOps (P : Program) (G N : Nat) (ops : Array Oper) : List Oper → Option (List IOp)
  | [] => some []
  | o :: r => (cIOp P G N ops o).bind fun i => (cIOps P G N ops r).map (i :: ·)

/-- A deferred call of a plain function. -/
def cDfr (P : Program) (G N : Nat) (o : Oper) : Option IOp :=
  match o.op, o.guard, o.dst with
  | .defer c, none, none => match c.callee with
    | .value (.func g) => if (calleeOk P g && c.args.toList.all (opOk G N)) = true then some ⟨some dsl, none, false, .dfr g c.args.toList⟩ else none
    | _ => none
  | _, _, _ => none
/-- Operations in the text's order, where calls may be deferred (dm). -/
def cIOpsD (P : Program) (G N : Nat) (dm : Bool) (ops : Array Oper) : List Oper → Option (List IOp)
  | [] => some []
  | o :: r => ((cIOp P G N ops o).or (if dm then cDfr P G N o else none)).bind fun i => (cIOpsD P G N dm ops r).map (i :: ·)

theorem cDfr_some {o : Oper} {io : IOp} (h : cDfr P G N o = some io) : ∃ c g, o.op = .defer c ∧ o.guard = none ∧ o.dst = none ∧ c.callee = .value (.func g) ∧ calleeOk P g = true ∧ (∀ x ∈ c.args.toList, opOk G N x = true) ∧ io = ⟨some dsl, none, false, .dfr g c.args.toList⟩ := by
  unfold cDfr at h
  split at h
  · rename_i c h1 h2 h3
    split at h
    · rename_i g h4
      split at h
      · rename_i h5
        rw [Bool.and_eq_true, List.all_eq_true] at h5
        exact ⟨c, g, h1, h2, h3, h4, h5.1, h5.2, (Option.some.inj h).symm⟩
      · cases h
    · cases h
  · cases h

/-- The operations in the text's order. -/
theorem Wops_sound {dm : Bool} (hN : dm = true → N ≤ dsl) {ops : Array Oper} {Q : AT → AH → Prop} {Q' : Exit → Act → World → Prop} {μ0 : Mu} {A0 : AH} {w0 : World}
    (hQ : ∀ μ a A r w, Rel G μ A w → ActR μ N dm a r → Stp μ0 A0 w0 μ A w → Q a A → Q' .normal r w) :
    ∀ (l : List Oper) (il : List IOp) (k : Nat) (R : List Nat) (μ : Mu) (a : AT) (A : AH) (r : Act) (w : World), cIOpsD P G N dm ops l = some il → ops.toList.drop k = l → Rel G μ A w → ActR μ N dm a r → Stp μ0 A0 w0 μ A w → Wops G P Q il R a A →
      wpOps P ops Q' (List.range' k l.length) r w
  | [], il, k, R, μ, a, A, r, w, hc, hd, hr, ha, hst, hw => by
    simp only [cIOpsD, Option.some.injEq] at hc
    subst hc
    exact hQ _ _ _ _ _ hr ha hst hw
  | o :: l, il, k, R, μ, a, A, r, w, hc, hd, hr, ha, hst, hw => by
    simp only [cIOpsD, Option.bind_eq_some_iff, Option.map_eq_some_iff] at hc
    obtain ⟨io, h1, il', h2, rfl⟩ := hc
    have hk : ops[k]? = some o := by
      have : ops.toList[k]? = some o := by
        have := congrArg (·[0]?) hd
        simpa using this
      simpa using this
    have hd' : ops.toList.drop (k + 1) = l := by
      have := congrArg (List.drop 1) hd
      simpa [List.drop_drop, Nat.add_comm] using this
    rw [List.length_cons, List.range'_succ]
    simp only [wpOps, hk]
    rw [Option.or_eq_some_iff] at h1
    rcases h1 with h1 | ⟨_, h1⟩
    · have hds := cIOp_dst h1
      obtain ⟨g1, g2, g3, g4, g5⟩ := wanted_rel h1 ha
      rw [g1]
      simp only [Wops] at hw
      split at hw
      · rename_i hwa
        rw [hwa]
        simp only [if_true]
        left
        refine W1_sound g4 hr (fun x hx => ha.ev hr (g5 x hx)) hw _ _ ?_
        rintro v' w' ⟨v, μ', A', hv, hr', hst', _, hK⟩
        obtain ⟨q, rfl⟩ := hst'.pre
        refine Wops_sound hN hQ l il' (k + 1) _ _ _ A' _ w' h2 hd' hr' ?_ (hst.trans hst') hK
        rw [g2]
        exact (ha.mono).put o.dst hds hv
      · rename_i hwa
        rw [if_neg hwa]
        refine Wops_sound hN hQ l il' (k + 1) _ _ _ A _ w h2 hd' hr ?_ hst hw
        rw [g2]
        exact ha.put o.dst hds (VR.undef _)
    · cases dm with
      | false => cases h1
      | true =>
        simp only [if_true] at h1
        obtain ⟨c, g, e1, e2, e3, e4, e5, e6, rfl⟩ := cDfr_some h1
        have hwt : Region.wanted o (yielded ops r.tmps) = true := by unfold Region.wanted; rw [e2]
        rw [hwt]
        simp only [if_true]
        left
        simp only [Wops, wantedA, if_true, W1, step] at hw
        obtain ⟨v, A1, hs, _, hK⟩ := hw
        have hargs : ∀ x ∈ c.args.toList, VR μ (ev a x) (r.eval x) := fun x hx => ha.ev hr (e6 x hx)
        obtain ⟨k1, k2⟩ := args_rel c.args hargs
        have hex : (execOp r.eval o).run P w = .ok (.defer { target := .fn (.func g) #[], args := #[] ++ c.args.map r.eval }) w := by
          unfold execOp
          simp only [e1]
          unfold resolve
          simp only [e4]
          unfold Deferred.ofValue
          have he : r.eval (.func g) = .func (.func g) #[] #[] := rfl
          simp only [he]
          rfl
        unfold Oper.wp
        rw [hex, Oper.upon_defer, e3]
        obtain ⟨vs, d1, d2⟩ := ha.dfr rfl
        have he : ev a (.tmp dsl) = .tuple vs.toArray := d1
        rw [he] at hs
        simp only [sDfr, List.toList_toArray, Option.some.injEq, Prod.mk.injEq] at hs
        obtain ⟨rfl, rfl⟩ := hs
        refine Wops_sound hN hQ l il' (k + 1) _ _ _ A _ w h2 hd' hr ?_ hst hK
        refine ⟨ha.size, (fun h => by cases h), fun _ => ⟨.func (.func g) (c.args.toList.map (ev a)).toArray #[] :: vs, ?_, ?_⟩, fun j v' hv' => ?_⟩
        · simp [AS.put, upd]
        · exact .cons (by simp) (by simpa using k2) d2
        · have hv2 := ha.vals j v' hv'
          have : put a (some dsl) (.tuple (.func (.func g) (c.args.toList.map (ev a)).toArray #[] :: vs).toArray) j = a j := by
            simp only [AS.put, upd]
            rw [if_neg]
            intro hj
            have h1 := (Array.getElem?_eq_some_iff.1 hv').1
            have h2 := ha.size
            have h3 := hN rfl
            unfold dsl at h3
            unfold dsl at hj
            simp only [Act.put] at h1
            omega
          rw [this]; exact hv2

end
end Go.AS


namespace Go.AS
open Go
set_option linter.unusedVariables false
set_option linter.unusedSimpArgs false

/-- 0: it looks at no memory; 1: it looks at memory; 2: it may turn it. -/
def kd : AOp → Nat
  | .load1 _ | .loadn _ _ | .b2s _ | .sll _ _ _ _ _ | .sla _ _ _ _ _ _ | .mlook _ _ _ _ _ | .mlen _ => 1
  | .new _ | .box _ | .lit _ _ _ _ | .store _ _ _ | .s2b _ | .mk _ _ _ _ | .app _ _ _ _ | .apps _ _ _ | .appz _ _ _ _ | .mks _ | .copy _ _ _ | .clr _ _ | .call _ _ | .calld _ _ | .callx _ _ | .capn _ | .dfr _ _ | .mkm | .mupd _ _ _ _ | .mdl _ _ _ => 2
  | _ => 0

section
variable {ρ : Operand → Value} {A A' B : AH} {v : Value}

theorem map_same {x : Option Value} (h : x.map (fun v => (v, A)) = some (v, A')) : A' = A ∧ ∀ B : AH, x.map (fun v => (v, B)) = some (v, B) := by
  rw [Option.map_eq_some_iff] at h
  obtain ⟨u, hu, h⟩ := h
  injection h with h1 h2; subst h1 h2
  exact ⟨rfl, fun B => by rw [hu]; rfl⟩

theorem step_pure {op : AOp} (hk : kd op = 0) (h : step ρ A op = some (v, A')) : A' = A ∧ ∀ B, step ρ B op = some (v, B) := by
  cases op <;> simp only [kd] at hk <;> first
    | (cases hk; done)
    | (simp only [step] at h ⊢
       first
        | exact map_same h
        | (injection h with h; injection h with h1 h2; subst h1 h2; exact ⟨rfl, fun _ => rfl⟩)
        | (unfold sPick at h ⊢; split at h <;> first | (cases h; done) | (injection h with h; injection h with h1 h2; subst h1 h2; exact ⟨rfl, fun _ => rfl⟩))
        | (unfold sNilc at h ⊢; split at h <;> first | (cases h; done) | (injection h with h; injection h with h1 h2; subst h1 h2; exact ⟨rfl, fun _ => rfl⟩))
        | (unfold sConv at h ⊢; split at h <;> first | (cases h; done) | (injection h with h; injection h with h1 h2; subst h1 h2; exact ⟨rfl, fun _ => rfl⟩))
        | (cases h; done)
        | (unfold sCapn at h ⊢; split at h <;> first | (cases h; done) | (injection h with h; injection h with h1 h2; subst h1 h2; exact ⟨rfl, fun _ => rfl⟩))
        | (unfold sEqagg at h ⊢
           split at h
           · split at h
             · split at h
               · rename_i hc
                 rw [Option.bind_eq_some_iff] at h
                 obtain ⟨u, hu, h⟩ := h
                 rw [Option.map_eq_some_iff] at h
                 obtain ⟨u2, hu2, h⟩ := h
                 injection h with h1 h2; subst h1 h2
                 exact ⟨rfl, fun B => by simp only [hu, hu2]; rw [if_pos hc]; rfl⟩
               · cases h
             · cases h
           · cases h)
        | (unfold sStr at h ⊢; split at h <;> first | (cases h; done) | (injection h with h; injection h with h1 h2; subst h1 h2; exact ⟨rfl, fun _ => rfl⟩))
        | (unfold sFieldn at h ⊢; split at h <;> first | (cases h; done) | (injection h with h; injection h with h1 h2; subst h1 h2; exact ⟨rfl, fun _ => rfl⟩))
        | (unfold sFaddr at h ⊢; split at h <;> first | (cases h; done) | (injection h with h; injection h with h1 h2; subst h1 h2; exact ⟨rfl, fun _ => rfl⟩))
        | (unfold sBuild at h ⊢; rw [Option.map_eq_some_iff] at h; obtain ⟨u, hu, h⟩ := h; injection h with h1 h2; subst h1 h2; exact ⟨rfl, fun B => by rw [hu]; rfl⟩)
        | (unfold sField1 at h ⊢; split at h <;> first | (cases h; done) | (rw [Option.map_eq_some_iff] at h; obtain ⟨u, hu, h⟩ := h; injection h with h1 h2; subst h1 h2; exact ⟨rfl, fun B => by simp only [hu]; rfl⟩))
        | (unfold sExt at h ⊢; split at h <;> first | (cases h; done) | (rw [Option.map_eq_some_iff] at h; obtain ⟨u, hu, h⟩ := h; injection h with h1 h2; subst h1 h2; exact ⟨rfl, fun B => by simp only [hu]; rfl⟩))
        | (unfold sSls at h ⊢; split at h <;> first | (cases h; done) | (rw [Option.map_eq_some_iff] at h; obtain ⟨u, hu, h⟩ := h; injection h with h1 h2; subst h1 h2; exact ⟨rfl, fun B => by simp only [hu]; rfl⟩))
        | (unfold sMn at h ⊢; split at h <;> first | (cases h; done) | (rw [Option.map_eq_some_iff] at h; obtain ⟨u, hu, h⟩ := h; injection h with h1 h2; subst h1 h2; exact ⟨rfl, fun B => by simp only [hu]; rfl⟩))
        | (unfold sMx at h ⊢; split at h <;> first | (cases h; done) | (rw [Option.map_eq_some_iff] at h; obtain ⟨u, hu, h⟩ := h; injection h with h1 h2; subst h1 h2; exact ⟨rfl, fun B => by simp only [hu]; rfl⟩))
        | (unfold sIaddr at h ⊢; split at h <;> first | (cases h; done) | (rw [Option.bind_eq_some_iff] at h; obtain ⟨u, hu, h⟩ := h; split at h <;> first | (cases h; done) | (rename_i hc; injection h with h; injection h with h1 h2; subst h1 h2; exact ⟨rfl, fun B => by simp only [hu, Option.bind_some, hc]; rfl⟩)))
        | (unfold sIarr at h ⊢; split at h <;> first | (cases h; done) | (rw [Option.bind_eq_some_iff] at h; obtain ⟨u, hu, h⟩ := h; split at h <;> first | (cases h; done) | (rename_i hc; injection h with h; injection h with h1 h2; subst h1 h2; exact ⟨rfl, fun B => by simp only [hu, Option.bind_some, hc]; rfl⟩)))
        | (unfold sIdxan at h ⊢; split at h <;> first | (cases h; done) | (rw [Option.bind_eq_some_iff] at h; obtain ⟨u, hu, h⟩ := h; split at h <;> first | (cases h; done) | (rename_i hc; injection h with h; injection h with h1 h2; subst h1 h2; exact ⟨rfl, fun B => by simp only [hu, Option.bind_some, hc]; rfl⟩)))
        | (unfold sIdxs at h ⊢; split at h <;> first | (cases h; done) | (rw [Option.bind_eq_some_iff] at h; obtain ⟨u, hu, h⟩ := h; split at h <;> first | (cases h; done) | (rename_i hc; rw [Option.map_eq_some_iff] at h; obtain ⟨u2, hu2, h⟩ := h; injection h with h1 h2; subst h1 h2; exact ⟨rfl, fun B => by simp only [hu, Option.bind_some, hc, hu2]; rfl⟩)))
        | (unfold sIdxa1 at h ⊢; split at h <;> first | (cases h; done) | (rw [Option.bind_eq_some_iff] at h; obtain ⟨u, hu, h⟩ := h; split at h <;> first | (cases h; done) | (rename_i hc; rw [Option.map_eq_some_iff] at h; obtain ⟨u2, hu2, h⟩ := h; injection h with h1 h2; subst h1 h2; exact ⟨rfl, fun B => by simp only [hu, Option.bind_some, hc, hu2]; rfl⟩)))
        | (unfold sLens at h ⊢; split at h <;> first | (cases h; done) | (split at h <;> first | (cases h; done) | (rename_i hc; injection h with h; injection h with h1 h2; subst h1 h2; exact ⟨rfl, fun B => by simp only [hc]; rfl⟩)))
        | (split at h <;> first | (cases h; done) | (rename_i hc; simp only [hc, if_true]; unfold sIsnil at h ⊢; split at h <;> first | (cases h; done) | (injection h with h; injection h with h1 h2; subst h1 h2; exact ⟨rfl, fun _ => rfl⟩)))
        | (unfold sBeq at h ⊢; split at h <;> first | (cases h; done) | (split at h <;> first | (cases h; done) | (injection h with h; injection h with h1 h2; subst h1 h2; exact ⟨rfl, fun _ => rfl⟩))))

theorem getRow_rd {i : Nat} {r : List Value × St × Nat × Bool} (h : getRow A i = some r) (hl : RdOk [i] A B) : getRow B i = some r := by
  obtain ⟨cs, st, sz, ex⟩ := r
  obtain ⟨h1, h2⟩ := getRow_some h
  unfold getRow
  rw [hl i (by simp) _ h1]
  simp [h2]
theorem rowSz_rd {i n : Nat} (h : rowSz A i = some n) (hl : RdOk [i] A B) : rowSz B i = some n := by
  obtain ⟨cs, st, ex, h1⟩ := rowSz_some h
  unfold rowSz
  rw [hl i (by simp) _ h1]
theorem rdSl_rd {sz : Nat} {x : Value} {l : List Value} (h : rdSl A sz x = some l) (hl : RdOk (blkOf x) A B) : rdSl B sz x = some l := by
  unfold rdSl at h ⊢
  split at h
  · exact h
  · exact h
  · split at h
    · rename_i h0; simp only [h0, if_true]; exact h
    · rename_i h0
      simp only [if_neg h0]
      rw [Option.bind_eq_some_iff] at h
      obtain ⟨r, h1, h2⟩ := h
      rw [getRow_rd h1 hl]
      exact h2
  · cases h

theorem step_read {op : AOp} (hk : kd op = 1) (h : step ρ A op = some (v, A')) : A' = A ∧ ∀ B, RdOk (rdB ρ op) A B → step ρ B op = some (v, B) := by
  cases op <;> simp only [kd] at hk <;> first
    | (cases hk; done)
    | skip
  · rename_i a
    simp only [step, rdB] at h ⊢
    unfold sLoad1 at h ⊢
    split at h
    · rename_i hx
      rw [hx]
      rw [Option.bind_eq_some_iff] at h
      obtain ⟨r, h1, h2⟩ := h
      rw [Option.map_eq_some_iff] at h2
      obtain ⟨u, h2, h3⟩ := h2
      injection h3 with h3 h4; subst h3 h4
      exact ⟨rfl, fun B hl => by simp only [getRow_rd h1 hl, Option.bind_some, h2]; rfl⟩
    · cases h
  · rename_i a n
    simp only [step, rdB] at h ⊢
    unfold sLoadn at h ⊢
    split at h
    · rename_i hx
      rw [hx]
      rw [Option.bind_eq_some_iff] at h
      obtain ⟨r, h1, h2⟩ := h
      rw [Option.map_eq_some_iff] at h2
      obtain ⟨u, h2, h3⟩ := h2
      injection h3 with h3 h4; subst h3 h4
      exact ⟨rfl, fun B hl => by simp only [getRow_rd h1 hl, Option.bind_some, h2]; rfl⟩
    · cases h
  · rename_i x
    simp only [step, rdB] at h ⊢
    unfold sB2s at h ⊢
    rw [Option.bind_eq_some_iff] at h
    obtain ⟨r, h1, h2⟩ := h
    rw [Option.map_eq_some_iff] at h2
    obtain ⟨u, h2, h3⟩ := h2
    injection h3 with h3 h4; subst h3 h4
    exact ⟨rfl, fun B hl => by simp only [rdSl_rd h1 hl, Option.bind_some, h2]; rfl⟩
  · rename_i x lo hi mx sz
    simp only [step, rdB] at h ⊢
    unfold sSll at h ⊢
    split at h
    · rw [Option.map_eq_some_iff] at h
      obtain ⟨r, h1, h3⟩ := h
      injection h3 with h3 h4; subst h3 h4
      exact ⟨rfl, fun B hl => by simp only [h1]; rfl⟩
    · rw [Option.map_eq_some_iff] at h
      obtain ⟨r, h1, h3⟩ := h
      injection h3 with h3 h4; subst h3 h4
      exact ⟨rfl, fun B hl => by simp only [h1]; rfl⟩
    · rename_i hx
      rw [hx]
      rw [Option.bind_eq_some_iff] at h
      obtain ⟨r, h1, h⟩ := h
      rw [Option.bind_eq_some_iff] at h
      obtain ⟨s, h2, h⟩ := h
      split at h
      · rename_i hc
        injection h with h; injection h with h3 h4; subst h3 h4
        exact ⟨rfl, fun B hl => by simp only [h1, Option.bind_some, rowSz_rd h2 hl]; rw [if_pos hc]⟩
      · rename_i hc
        split at h
        · rename_i hc2
          injection h with h; injection h with h3 h4; subst h3 h4
          exact ⟨rfl, fun B hl => by simp only [h1, Option.bind_some, rowSz_rd h2 hl]; rw [if_neg hc, if_pos hc2]⟩
        · rename_i hc2
          split at h
          · rename_i hc3
            injection h with h; injection h with h3 h4; subst h3 h4
            exact ⟨rfl, fun B hl => by simp only [h1, Option.bind_some, rowSz_rd h2 hl]; rw [if_neg hc, if_neg hc2, if_pos hc3]⟩
          · cases h
    · cases h
  · rename_i x lo hi mx n sz
    simp only [step, rdB] at h ⊢
    unfold sSla at h ⊢
    split at h
    · rename_i hx
      rw [hx]
      rw [Option.bind_eq_some_iff] at h
      obtain ⟨r, h1, h⟩ := h
      rw [Option.bind_eq_some_iff] at h
      obtain ⟨s, h2, h⟩ := h
      split at h
      · rename_i hc
        split at h
        · rename_i hc2
          injection h with h; injection h with h3 h4; subst h3 h4
          exact ⟨rfl, fun B hl => by simp only [h1, Option.bind_some, getRow_rd h2 hl]; rw [if_pos hc, if_pos hc2]⟩
        · rename_i hc2
          injection h with h; injection h with h3 h4; subst h3 h4
          exact ⟨rfl, fun B hl => by simp only [h1, Option.bind_some, getRow_rd h2 hl]; rw [if_pos hc, if_neg hc2]⟩
      · cases h
    · cases h

  · rename_i m z ok x k
    simp only [step, rdB] at h ⊢
    unfold sMlook at h ⊢
    split at h
    · rename_i hx
      rw [hx]
      split at h
      · rename_i hc
        injection h with h; injection h with h3 h4; subst h3 h4
        exact ⟨rfl, fun B hl => by rw [if_pos hc]⟩
      · cases h
    · rename_i i hx
      rw [hx]
      split at h
      · rename_i es hi
        split at h
        · rename_i hc
          injection h with h; injection h with h3 h4; subst h3 h4
          exact ⟨rfl, fun B hl => by simp only [hl i (by simp [blkOf]) _ hi]; rw [if_pos hc]⟩
        · cases h
      · cases h
    · cases h
  · rename_i x
    simp only [step, rdB] at h ⊢
    unfold sMlen at h ⊢
    split at h
    · rename_i hx
      rw [hx]
      injection h with h; injection h with h3 h4; subst h3 h4
      exact ⟨rfl, fun B hl => rfl⟩
    · rename_i i hx
      rw [hx]
      split at h
      · rename_i es hi
        injection h with h; injection h with h3 h4; subst h3 h4
        exact ⟨rfl, fun B hl => by simp only [hl i (by simp [blkOf]) _ hi]⟩
      · cases h
    · cases h

/-- What looks at memory alone sees the same in a heap that has grown. -/
theorem step_quiet {op : AOp} (hk : kd op ≠ 2) (h : step ρ A op = some (v, A')) : A' = A ∧ ∀ B, (kd op = 1 → RdOk (rdB ρ op) A B) → step ρ B op = some (v, B) := by
  have h3 : kd op = 0 ∨ kd op = 1 ∨ kd op = 2 := by cases op <;> simp [kd]
  rcases h3 with h0 | h1 | h2
  · obtain ⟨a, b⟩ := step_pure h0 h
    exact ⟨a, fun B _ => b B⟩
  · obtain ⟨a, b⟩ := step_read h1 h
    exact ⟨a, fun B hl => b B (hl h1)⟩
  · exact absurd h2 hk
end
end Go.AS


namespace Go.AS
open Go
set_option linter.unusedVariables false
set_option linter.unusedSimpArgs false
set_option linter.unusedSectionVars false

/-- The temporaries at which an operation looks. -/
def looks (ops : Array Oper) (o : Oper) : List Nat :=
  (o.op.operands.toList.filterMap fun | .tmp t => some t | _ => none) ++
  (match o.guard with
   | some (g, _) => ((ops[g]?).bind (·.dst)).toList
   | none => [])

/-- What the operations of a region keep to: B i is all that is ahead of i. -/
structure DOk (ops : Array Oper) (ios : List IOp) (B : List (List Nat)) : Prop where
  len : ios.length = ops.size
  edgeLt : ∀ (i : Nat) o, ops[i]? = some o → ∀ e ∈ o.after, Region.binds .any e = true → e.on < ops.size
  edge : ∀ (i : Nat) o, ops[i]? = some o → ∀ e ∈ o.after, Region.binds .any e = true → e.on ∈ B.getD i []
  trans : ∀ i, i < ops.size → ∀ k ∈ B.getD i [], ∃ o, ops[i]? = some o ∧ ∃ e ∈ o.after, Region.binds .any e = true ∧ (k = e.on ∨ k ∈ B.getD e.on [])
  dsts : ∀ (i j : Nat) oi oj t, ops[i]? = some oi → ops[j]? = some oj → oi.dst = some t → oj.dst = some t → i = j
  wr : ∀ (i j : Nat) oi oj t, ops[i]? = some oi → ops[j]? = some oj → oi.dst = some t → t ∈ looks ops oj → i ∈ B.getD j [] ∨ i = j ∨ j ∈ B.getD i []

/-- Orders: one behind the other, or either of two. -/
inductive DT where
  | nil
  | op (i : Nat) (t : DT)
  | alt (a b : DT)
def heads : DT → List Nat
  | .nil => []
  | .op i _ => [i]
  | .alt a b => heads a ++ heads b
def loudAt (ios : List IOp) (i : Nat) : Bool := match ios[i]? with | some io => kd io.op == 2 | none => false
def readAt (ios : List IOp) (i : Nat) : Bool := match ios[i]? with | some io => kd io.op == 1 | none => false
/-- What may come next; what was looked at ahead of what may turn memory is flagged. -/
def base (ops : Array Oper) (ios : List IOp) (B : List (List Nat)) (fl : List Bool) (p : List Nat) (i : Nat) : Bool :=
  decide (i < ops.size) && !p.contains i && (B.getD i []).all p.contains && (!loudAt ios i || p.all fun q => !readAt ios q || (B.getD i []).contains q || (fl.getD i false && fl.getD q false))
/-- What may come next is one of these. -/
def complete (ops : Array Oper) (B : List (List Nat)) (p hs : List Nat) : Bool := (List.range ops.size).all fun j => p.contains j || !(B.getD j []).all p.contains || hs.contains j
def tOk (ops : Array Oper) (ios : List IOp) (B : List (List Nat)) (fl : List Bool) : Bool → List Nat → DT → Bool
  | c, p, .nil => !c && (List.range ops.size).all p.contains
  | c, p, .op i t => base ops ios B fl p i && (if loudAt ios i then c || complete ops B p [i] else !c) && tOk ops ios B fl false (p ++ [i]) t
  | c, p, .alt a b => (c || complete ops B p (heads (.alt a b))) && tOk ops ios B fl true p a && tOk ops ios B fl true p b

def withFl (ios : List IOp) (fl : List Bool) (i : Nat) : Option IOp := (ios[i]?).map fun io => { io with le := fl.getD i false }
def toIT (ios : List IOp) (fl : List Bool) : DT → IT
  | .nil => .nil
  | .op i t => match withFl ios fl i with
    | some io => .op io (toIT ios fl t)
    | none => toIT ios fl t
  | .alt a b => .alt (toIT ios fl a) (toIT ios fl b)

section
variable {G : Nat} {P : Program} {N : Nat} {ops : Array Oper} {ios : List IOp} {B : List (List Nat)} {fl : List Bool}

theorem cIOps_get : ∀ (l : List Oper) (il : List IOp), cIOps P G N ops l = some il → il.length = l.length ∧ ∀ (i : Nat) o, l[i]? = some o → ∃ io, il[i]? = some io ∧ cIOp P G N ops o = some io
  | [], il, h => by simp only [cIOps, Option.some.injEq] at h; subst h; exact ⟨rfl, fun i o ho => by simp at ho⟩
  | o :: l, il, h => by
    simp only [cIOps, Option.bind_eq_some_iff, Option.map_eq_some_iff] at h
    obtain ⟨io, h1, il', h2, rfl⟩ := h
    obtain ⟨g1, g2⟩ := cIOps_get l il' h2
    refine ⟨by simp [g1], fun i o' ho => ?_⟩
    cases i with
    | zero => simp only [List.getElem?_cons_zero, Option.some.injEq] at ho; subst ho; exact ⟨io, rfl, h1⟩
    | succ i => obtain ⟨io', a, b⟩ := g2 i o' (by simpa using ho); exact ⟨io', by simpa using a, b⟩

open Classical in
/-- Who writes a temporary. -/
noncomputable def writer (ops : Array Oper) (t : Nat) : Option Nat :=
  if h : ∃ (i : Nat) (o : Oper), ops[i]? = some o ∧ o.dst = some t then some h.choose else none

theorem writer_of (hd : DOk ops ios B) {i t : Nat} {o : Oper} (h1 : ops[i]? = some o) (h2 : o.dst = some t) : writer ops t = some i := by
  unfold writer
  have h : ∃ (i : Nat) (o : Oper), ops[i]? = some o ∧ o.dst = some t := ⟨i, o, h1, h2⟩
  rw [dif_pos h]
  obtain ⟨o', h3, h4⟩ := h.choose_spec
  rw [hd.dsts _ _ _ _ _ h3 h1 h4 h2]
theorem writer_some {i t : Nat} (h : writer ops t = some i) : ∃ o, ops[i]? = some o ∧ o.dst = some t := by
  unfold writer at h
  split at h
  · rename_i hx
    obtain rfl := Option.some.inj h
    exact hx.choose_spec
  · cases h

open Classical in
/-- What operation j sees. -/
noncomputable def env (ops : Array Oper) (B : List (List Nat)) (a0 a : AT) (j : Nat) : AT := fun t =>
  match writer ops t with
  | some i => if i ∈ B.getD j [] then a t else a0 t
  | none => a0 t

/-- What the machine's frame is held against. -/
noncomputable def cur (ops : Array Oper) (listed : Array Bool) (a0 a : AT) : AT := fun t =>
  match writer ops t with
  | some i => if listed.getD i false then a t else a0 t
  | none => a0 t

theorem cur_dsl {listed : Array Bool} {a0 a : AT} (hn : writer ops dsl = none) : cur ops listed a0 a dsl = a0 dsl := by
  unfold cur
  rw [hn]
theorem nodsl (h : cIOps P G N ops ops.toList = some ios) : writer ops dsl = none := by
  cases hw : writer ops dsl with
  | none => rfl
  | some i =>
    obtain ⟨o, h1, h2⟩ := writer_some hw
    obtain ⟨_, hg⟩ := cIOps_get _ _ h
    obtain ⟨io, _, h3⟩ := hg i o (by simpa using h1)
    exact absurd h2 (cIOp_dst h3)
theorem ActR.refr {μ : Mu} {dm : Bool} {a b : AT} {r : Act} (h : ActR μ N dm a r) (hd : b dsl = a dsl) (hv : ∀ (j : Nat) u, r.tmps[j]? = some u → VR μ (b j) u) : ActR μ N dm b r :=
  ⟨h.size, h.nod, fun q => let ⟨vs, h1, h2⟩ := h.dfr q; ⟨vs, hd.trans h1, h2⟩, hv⟩

theorem ev_congr {a b : AT} {x : Operand} (h : ∀ t, x = .tmp t → a t = b t) : ev a x = ev b x := by
  cases x with
  | tmp t => exact h t rfl
  | _ => rfl

theorem looks_op {o : Oper} {t : Nat} (h : Operand.tmp t ∈ o.op.operands.toList) : t ∈ looks ops o := by
  unfold looks
  rw [List.mem_append]
  left
  rw [List.mem_filterMap]
  exact ⟨_, h, rfl⟩

theorem wantedA_congr {a b : AT} {o : Oper} {io : IOp} (hc : cIOp P G N ops o = some io) (h : ∀ t ∈ looks ops o, a t = b t) : wantedA a io.guard = wantedA b io.guard := by
  unfold cIOp at hc
  split at hc
  · rw [Option.bind_eq_some_iff] at hc
    obtain ⟨op, h1, h2⟩ := hc
    split at h2
    · injection h2 with h2; subst h2; rfl
    · rename_i j want hg
      split at h2
      · rename_i t ht
        split at h2
        · injection h2 with h2; subst h2
          have : t ∈ looks ops o := by
            unfold looks
            rw [List.mem_append]
            right
            rw [hg]
            simp [ht]
          simp only [wantedA, h t this]
        · cases h2
      · cases h2
  · cases hc

/-- What was worked out of an operation that only looks, ahead of the machine. -/
def Pend (ops : Array Oper) (B : List (List Nat)) (fl : List Bool) (R : List Nat) (a0 aA : AT) (A : AH) (i : Nat) (o : Oper) (io : IOp) : Prop :=
  ∃ aq : AT, (∀ t ∈ looks ops o, aq t = env ops B a0 aA i t) ∧
    ((wantedA aq io.guard = true ∧ ∃ v Aq, step (ev aq) Aq io.op = some (v, Aq) ∧ (kd io.op = 1 → RdOk (rdB (ev aq) io.op) Aq A ∧ (fl.getD i false = true → ∀ k ∈ rdB (ev aq) io.op, k ∈ R)) ∧ ∀ t, o.dst = some t → aA t = v) ∨
     (wantedA aq io.guard = false ∧ ∀ t, o.dst = some t → aA t = undef))

structure Inv (ops : Array Oper) (ios : List IOp) (B : List (List Nat)) (fl : List Bool) (R : List Nat) (listed : Array Bool) (dn : List Nat) (rest : DT) (a0 aA : AT) (A : AH) : Prop where
  ok : tOk ops ios B fl false dn rest = true
  dnB : ∀ (p : List Nat) i r, dn = p ++ i :: r → ∀ k ∈ B.getD i [], k ∈ p
  dnLt : ∀ i ∈ dn, i < ops.size
  lsize : listed.size = ops.size
  sub : ∀ i, listed.getD i false = true → i ∈ dn
  loudIn : ∀ (i : Nat) io, i ∈ dn → ios[i]? = some io → kd io.op = 2 → listed.getD i false = true
  closed : ∀ i, listed.getD i false = true → ∀ k ∈ B.getD i [], listed.getD k false = true
  fresh : ∀ t, (∀ i, writer ops t = some i → i ∉ dn) → aA t = a0 t
  pend : ∀ (i : Nat) o io, i ∈ dn → listed.getD i false = false → ops[i]? = some o → ios[i]? = some io → Pend ops B fl R a0 aA A i o io

theorem mem_split {l : List Nat} {i : Nat} (h : i ∈ l) : ∃ p r, l = p ++ i :: r := List.append_of_mem h

section
variable (hd : DOk ops ios B)
include hd

omit hd in
theorem bef_dn {dn : List Nat} (hs : ∀ (p : List Nat) i r, dn = p ++ i :: r → ∀ k ∈ B.getD i [], k ∈ p) {i : Nat} (hi : i ∈ dn) : ∀ k ∈ B.getD i [], k ∈ dn := by
  intro k hk
  obtain ⟨p, r, hp⟩ := mem_split hi
  have := hs p i r hp k hk
  rw [hp]
  simp [this]
omit hd in
theorem dnB_snoc {dn : List Nat} (hs : ∀ (p : List Nat) i r, dn = p ++ i :: r → ∀ k ∈ B.getD i [], k ∈ p) {i : Nat} (hi : ∀ k ∈ B.getD i [], k ∈ dn) : ∀ (p : List Nat) j r, dn ++ [i] = p ++ j :: r → ∀ k ∈ B.getD j [], k ∈ p := by
  intro p j r h k hk
  rcases List.eq_nil_or_concat r with hr | ⟨r', x, hr⟩
  · subst hr
    obtain ⟨h1, h2⟩ := List.append_inj' h rfl
    injection h2 with h2
    subst h1 h2
    exact hi k hk
  · rw [hr, List.concat_eq_append] at h
    have h' : dn ++ [i] = (p ++ j :: r') ++ [x] := by rw [h]; simp
    obtain ⟨h1, h2⟩ := List.append_inj' h' rfl
    exact hs p j r' h1 k hk
omit hd in
theorem base_spec {dn : List Nat} {i : Nat} (h : base ops ios B fl dn i = true) : i < ops.size ∧ i ∉ dn ∧ (∀ k ∈ B.getD i [], k ∈ dn) ∧
    (∀ io, ios[i]? = some io → kd io.op = 2 → ∀ (q : Nat) ioq, q ∈ dn → ios[q]? = some ioq → kd ioq.op = 1 → q ∈ B.getD i [] ∨ (fl.getD i false = true ∧ fl.getD q false = true)) := by
  unfold base at h
  simp only [Bool.and_eq_true, decide_eq_true_eq, Bool.not_eq_true', List.all_eq_true, Bool.or_eq_true, List.contains_eq_mem] at h
  obtain ⟨⟨⟨h1, h2⟩, h3⟩, h4⟩ := h
  refine ⟨h1, by simpa using h2, h3, fun io hio hk q ioq hq hioq hkq => ?_⟩
  rcases h4 with h4 | h4
  · unfold loudAt at h4
    rw [hio] at h4
    simp [hk] at h4
  · rcases h4 q hq with (h5 | h5) | h5
    · unfold readAt at h5
      rw [hioq] at h5
      simp [hkq] at h5
    · exact .inl (by simpa using h5)
    · exact .inr h5
omit hd in
theorem complete_spec {dn hs : List Nat} (h : complete ops B dn hs = true) {j : Nat} (hj : j < ops.size) (hn : j ∉ dn) (hb : ∀ k ∈ B.getD j [], k ∈ dn) : j ∈ hs := by
  unfold complete at h
  rw [List.all_eq_true] at h
  have h1 := h j (by rw [List.mem_range]; exact hj)
  simp only [Bool.or_eq_true, List.contains_eq_mem, decide_eq_true_eq, Bool.not_eq_true'] at h1
  rcases h1 with (h1 | h1) | h1
  · exact absurd h1 hn
  · exfalso
    have : (B.getD j []).all dn.contains = true := by
      rw [List.all_eq_true]
      intro k hk
      simpa using hb k hk
    rw [this] at h1
    cases h1
  · exact h1

theorem lt_of_ord {i : Nat} {o : Oper} (h : ops[i]? = some o) : i < ops.size := by
  rcases Nat.lt_or_ge i ops.size with h' | h'
  · exact h'
  · rw [Array.getElem?_eq_none h'] at h; cases h

/-- What an operation that comes next in the order sees is what is there. -/
theorem sees {dn : List Nat} {a0 aA : AT} {i : Nat} {o : Oper} (hs : ∀ (p : List Nat) i r, dn = p ++ i :: r → ∀ k ∈ B.getD i [], k ∈ p) (hfresh : ∀ t, (∀ i, writer ops t = some i → i ∉ dn) → aA t = a0 t) (hi : i ∉ dn) (ho : ops[i]? = some o) :
    ∀ t ∈ looks ops o, aA t = env ops B a0 aA i t := by
  intro t ht
  unfold env
  cases hw : writer ops t with
  | none => exact hfresh t (fun j hj => by rw [hw] at hj; cases hj)
  | some k =>
    simp only
    split
    · rfl
    · rename_i hk
      obtain ⟨ok, h1, h2⟩ := writer_some hw
      refine hfresh t (fun j hj => ?_)
      rw [hw] at hj
      obtain rfl := Option.some.inj hj
      rcases hd.wr k i ok o t h1 ho h2 ht with h | h | h
      · exact absurd h hk
      · subst h; exact hi
      · intro hkd
        exact hi (bef_dn hs hkd i h)

/-- A new value changes nothing for those that were worked out. -/
theorem env_put {dn : List Nat} {a0 aA : AT} {i q : Nat} {o : Oper} {v : Value} (hs : ∀ (p : List Nat) i r, dn = p ++ i :: r → ∀ k ∈ B.getD i [], k ∈ p) (hi : i ∉ dn) (ho : ops[i]? = some o) (hq : q ∈ dn ∨ q = i) (hself : i ∉ B.getD i []) :
    env ops B a0 (put aA o.dst v) q = env ops B a0 aA q := by
  funext t
  unfold env
  cases hw : writer ops t with
  | none => rfl
  | some k =>
    simp only
    split
    · rename_i hk
      cases hdst : o.dst with
      | none => rfl
      | some d =>
        simp only [put, upd]
        split
        · rename_i hdt
          exfalso
          rw [hdt, writer_of hd ho hdst] at hw
          obtain rfl := Option.some.inj hw
          rcases hq with hq | rfl
          · exact hi (bef_dn hs hq _ hk)
          · exact hself hk
        · rfl
    · rfl

theorem put_other {i q : Nat} {o oq : Oper} {aA : AT} {v : Value} (ho : ops[i]? = some o) (hoq : ops[q]? = some oq) (hne : q ≠ i) : ∀ t, oq.dst = some t → (put aA o.dst v) t = aA t := by
  intro t ht
  cases hdst : o.dst with
  | none => rfl
  | some d =>
    simp only [put, upd]
    split
    · rename_i hdt
      subst hdt
      exact absurd (hd.dsts _ _ _ _ _ hoq ho ht hdst) hne
    · rfl

/-- At the end, or where something may turn memory next. -/
def choice (ios : List IOp) : DT → Prop
  | .nil => True
  | .op i _ => loudAt ios i = true
  | .alt _ _ => True

omit hd in
theorem toIT_op {i : Nat} {io : IOp} {t : DT} (h : ios[i]? = some io) : toIT ios fl (.op i t) = .op { io with le := fl.getD i false } (toIT ios fl t) := by
  simp only [toIT, withFl, h, Option.map_some]
/-- What only looks is worked out as far as the next operation that may turn memory. -/
theorem advance (hios : cIOps P G N ops ops.toList = some ios) {listed : Array Bool} {Q : AT → AH → Prop} {a0 : AT} {A : AH} : ∀ (rest : DT) (dn R : List Nat) (aA : AT), Inv ops ios B fl R listed dn rest a0 aA A → Wt G P Q (toIT ios fl rest) R aA A →
    ∃ dn' rest' R' aA', Inv ops ios B fl R' listed dn' rest' a0 aA' A ∧ Wt G P Q (toIT ios fl rest') R' aA' A ∧ choice ios rest' ∧
      ∀ t k, writer ops t = some k → k ∈ dn → aA' t = aA t
  | .nil, dn, R, aA, h, hw => ⟨dn, .nil, R, aA, h, hw, trivial, fun _ _ _ _ => rfl⟩
  | .alt x y, dn, R, aA, h, hw => ⟨dn, .alt x y, R, aA, h, hw, trivial, fun _ _ _ _ => rfl⟩
  | .op i rest, dn, R, aA, h, hw => by
    have hok := h.ok
    simp only [tOk, Bool.and_eq_true] at hok
    obtain ⟨⟨hok1, _⟩, hok2⟩ := hok
    obtain ⟨hlt, hid, hBi, _⟩ := base_spec hok1
    have hself : i ∉ B.getD i [] := fun hm => hid (hBi i hm)
    obtain ⟨o, ho⟩ : ∃ o, ops[i]? = some o := ⟨ops[i], Array.getElem?_eq_getElem hlt⟩
    obtain ⟨_, hget⟩ := cIOps_get _ _ hios
    obtain ⟨io, hio, hcio⟩ := hget i o (by simpa using ho)
    by_cases hk : kd io.op = 2
    · exact ⟨dn, .op i rest, R, aA, h, hw, (by show loudAt ios i = true; unfold loudAt; rw [hio]; simp [hk]), fun _ _ _ _ => rfl⟩
    · rw [toIT_op hio] at hw
      have hsee := sees hd h.dnB h.fresh hid ho
      have hcal : isCall io.op = false := by
        cases hq : io.op <;> first | rfl | (rw [hq] at hk; simp [kd] at hk)
      obtain ⟨_, gdst, _, _, _⟩ : Region.wanted o (yielded ops #[]) = Region.wanted o (yielded ops #[]) ∧ io.dst = o.dst ∧ True ∧ True ∧ True := by
        refine ⟨rfl, ?_, trivial, trivial, trivial⟩
        unfold cIOp at hcio
        split at hcio
        · rw [Option.bind_eq_some_iff] at hcio
          obtain ⟨op, _, h2⟩ := hcio
          split at h2
          · injection h2 with h2; subst h2; rfl
          · split at h2
            · split at h2
              · injection h2 with h2; subst h2; rfl
              · cases h2
            · cases h2
        · cases hcio
      -- what is common to both ways
      have key : ∀ (R2 : List Nat) (v : Value), (∀ k ∈ R, k ∈ R2) → ((wantedA aA io.guard = true ∧ ∃ Aq, step (ev aA) Aq io.op = some (v, Aq) ∧ Le Aq A ∧ (fl.getD i false = true → ∀ k ∈ rdB (ev aA) io.op, k ∈ R2)) ∨ (wantedA aA io.guard = false ∧ v = undef)) → Wt G P Q (toIT ios fl rest) R2 (put aA o.dst v) A →
          ∃ dn' rest' R' aA', Inv ops ios B fl R' listed dn' rest' a0 aA' A ∧ Wt G P Q (toIT ios fl rest') R' aA' A ∧ choice ios rest' ∧
            ∀ t k, writer ops t = some k → k ∈ dn → aA' t = aA t := by
        intro R2 v hR hv hw2
        suffices hI' : Inv ops ios B fl R2 listed (dn ++ [i]) rest a0 (put aA o.dst v) A by
          obtain ⟨dn', rest', R', aA', r1, r2, r3, r4⟩ := advance hios rest (dn ++ [i]) R2 (put aA o.dst v) hI' hw2
          refine ⟨dn', rest', R', aA', r1, r2, r3, fun t k hk hkd => ?_⟩
          rw [r4 t k hk (by simp [hkd])]
          obtain ⟨ok, h4, h5⟩ := writer_some hk
          exact put_other hd ho h4 (fun e => hid (e ▸ hkd)) t h5
        refine ⟨hok2, dnB_snoc h.dnB hBi, (fun j hj => (List.mem_append.1 hj).elim (h.dnLt j) (fun hj => by rw [List.mem_singleton.1 hj]; exact hlt)), h.lsize, fun j hj => by simp [h.sub j hj], ?_, h.closed, ?_, ?_⟩
        · intro j io' hj hio' hk'
          rcases List.mem_append.1 hj with hj | hj
          · exact h.loudIn j io' hj hio' hk'
          · simp only [List.mem_singleton] at hj; subst hj
            rw [hio] at hio'; obtain rfl := Option.some.inj hio'
            exact absurd hk' hk
        · intro t ht
          have hne : ∀ d, o.dst = some d → t ≠ d := by
            intro d hd' htd
            subst htd
            exact ht i (writer_of hd ho hd') (by simp)
          have e : (put aA o.dst v) t = aA t := by
            cases hdst : o.dst with
            | none => rfl
            | some d => simp only [put, upd]; rw [if_neg (hne d hdst)]
          rw [e]
          exact h.fresh t (fun j hj hjd => ht j hj (by simp [hjd]))
        · intro j oj ioj hj hl hoj hioj
          rcases List.mem_append.1 hj with hj1 | hj
          · obtain ⟨aq, h1, h2⟩ := h.pend j oj ioj hj1 hl hoj hioj
            have hne : j ≠ i := fun e => hid (e ▸ hj1)
            refine ⟨aq, by rw [env_put hd h.dnB hid ho (.inl hj1) hself]; exact h1, ?_⟩
            rcases h2 with ⟨w1, v', Aq, w2, w3, w4⟩ | ⟨w1, w2⟩
            · exact .inl ⟨w1, v', Aq, w2, fun hk1 => ⟨(w3 hk1).1, fun hf k hkk => hR k ((w3 hk1).2 hf k hkk)⟩, fun t ht => by rw [put_other hd ho hoj hne t ht]; exact w4 t ht⟩
            · exact .inr ⟨w1, fun t ht => by rw [put_other hd ho hoj hne t ht]; exact w2 t ht⟩
          · simp only [List.mem_singleton] at hj; subst hj
            rw [hio] at hioj; obtain rfl := Option.some.inj hioj
            rw [ho] at hoj; obtain rfl := Option.some.inj hoj
            refine ⟨aA, by rw [env_put hd h.dnB hid ho (.inr rfl) hself]; exact hsee, ?_⟩
            have hput : ∀ t, o.dst = some t → (put aA o.dst v) t = v := by
              intro t ht; rw [ht]; simp [put, upd]
            rcases hv with ⟨w1, Aq, w2, w3, w5⟩ | ⟨w1, w2⟩
            · exact .inl ⟨w1, v, Aq, w2, fun _ => ⟨w3.rd _, w5⟩, hput⟩
            · exact .inr ⟨w1, fun t ht => by rw [hput t ht, w2]⟩
      simp only [Wt] at hw
      rw [gdst] at hw
      split at hw
      · rename_i hwa
        have hw' : ∃ v A', step (ev aA) A io.op = some (v, A') ∧ ((fl.getD i false = true → RdOk R A A') ∧ Wt G P Q (toIT ios fl rest) (if fl.getD i false = true then rdB (ev aA) io.op ++ R else R) (put aA o.dst v) A') := by
          unfold W1 at hw
          cases hq : io.op <;> rw [hq] at hw hcal <;> first
            | exact hw
            | (simp [isCall] at hcal; done)
            | (rw [hq] at hk; simp [kd] at hk)
        obtain ⟨v, A', hst, _, hw2⟩ := hw'
        obtain ⟨rfl, _⟩ := step_quiet hk hst
        refine key _ v ?_ (.inl ⟨hwa, A', hst, Le.refl _, ?_⟩) hw2
        · intro k hk'
          split
          · exact List.mem_append_right _ hk'
          · exact hk'
        · intro hf k hk'
          rw [if_pos hf]
          exact List.mem_append_left _ hk'
      · rename_i hwa
        exact key R undef (fun k hk' => hk') (.inr ⟨by simpa using hwa, rfl⟩) hw

theorem getD_set (l : Array Bool) (i j : Nat) (hi : i < l.size) : (l.setIfInBounds i true).getD j false = if j = i then true else l.getD j false := by
  simp only [Array.getD_eq_getD_getElem?, Array.getElem?_setIfInBounds]
  by_cases h : i = j
  · subst h; simp [hi]
  · rw [if_neg h, if_neg (fun e => h e.symm)]

/-- What is known of the machine's frame behind an operation. -/
theorem cur_set {dm : Bool} (hn : writer ops dsl = none) {listed : Array Bool} {a0 aA : AT} {μ : Mu} {r : Act} {i : Nat} {o : Oper} {v v' : Value} (ho : ops[i]? = some o) (hi : i < listed.size) (h : ActR μ N dm (cur ops listed a0 aA) r) (hv : VR μ v v')
    (ha : ∀ t, o.dst = some t → aA t = v) : ActR μ N dm (cur ops (listed.setIfInBounds i true) a0 aA) (r.put o.dst v') := by
  have hds : o.dst ≠ some dsl := fun e => by have := writer_of hd ho e; rw [hn] at this; cases this
  have h2 := h.put o.dst hds hv
  have : ∀ j, cur ops (listed.setIfInBounds i true) a0 aA j = (put (cur ops listed a0 aA) o.dst v) j := by
    intro j
    unfold cur
    cases hdst : o.dst with
    | none =>
      simp only [put]
      cases hw : writer ops j with
      | none => rfl
      | some k =>
        simp only [getD_set hd listed i k hi]
        have : k ≠ i := by
          rintro rfl
          obtain ⟨ok, h4, h5⟩ := writer_some hw
          rw [ho] at h4; obtain rfl := Option.some.inj h4
          rw [hdst] at h5; cases h5
        rw [if_neg this]
    | some d =>
      simp only [put, upd]
      by_cases hjd : j = d
      · subst hjd
        rw [if_pos rfl, writer_of hd ho hdst]
        simp only [getD_set hd listed i i hi, if_true]
        exact ha j hdst
      · rw [if_neg hjd]
        cases hw : writer ops j with
        | none => rfl
        | some k =>
          simp only [getD_set hd listed i k hi]
          have : k ≠ i := by
            rintro rfl
            obtain ⟨ok, h4, h5⟩ := writer_some hw
            rw [ho] at h4; obtain rfl := Option.some.inj h4
            rw [hdst] at h5; exact hjd (Option.some.inj h5).symm
          rw [if_neg this]
  exact h2.refr (this dsl) (fun j u hu => by rw [this]; exact h2.vals j u hu)

theorem ready_iff {listed : Array Bool} {i : Nat} (h : i ∈ Region.ready .any ops listed) : listed.getD i true = false ∧ ∃ o, ops[i]? = some o ∧ ∀ e ∈ o.after, Region.binds .any e = true → listed.getD e.on false = true := by
  unfold Region.ready at h
  rw [List.mem_filter] at h
  obtain ⟨h1, h2⟩ := h
  rw [List.mem_range] at h1
  rw [Bool.and_eq_true] at h2
  refine ⟨by simpa using h2.1, ops[i], Array.getElem?_eq_getElem h1, ?_⟩
  have h3 := h2.2
  rw [Array.getElem?_eq_getElem h1] at h3
  simp only [Option.map_some, Option.getD_some] at h3
  rw [Array.all_eq_true_iff_forall_mem] at h3
  intro e he hb
  have := h3 e he
  simpa [hb] using this

theorem bef_listed {listed : Array Bool} (hcl : ∀ i, listed.getD i false = true → ∀ k ∈ B.getD i [], listed.getD k false = true) {i : Nat} {o : Oper} (ho : ops[i]? = some o)
    (he : ∀ e ∈ o.after, Region.binds .any e = true → listed.getD e.on false = true) : ∀ k ∈ B.getD i [], listed.getD k false = true := by
  intro k hk
  obtain ⟨o', h1, e, h2, h3, h4⟩ := hd.trans i (lt_of_ord hd ho) k hk
  rw [ho] at h1; obtain rfl := Option.some.inj h1
  rcases h4 with rfl | h4
  · exact he e h2 h3
  · exact hcl e.on (he e h2 h3) k h4

theorem cur_eq {listed : Array Bool} {a0 aA : AT} (hcl : ∀ i, listed.getD i false = true → ∀ k ∈ B.getD i [], listed.getD k false = true) {i : Nat} {o : Oper} (ho : ops[i]? = some o) (hn : listed.getD i false = false)
    (hb : ∀ k ∈ B.getD i [], listed.getD k false = true) : ∀ t ∈ looks ops o, cur ops listed a0 aA t = env ops B a0 aA i t := by
  intro t ht
  unfold cur env
  cases hw : writer ops t with
  | none => rfl
  | some k =>
    simp only
    obtain ⟨ok, h1, h2⟩ := writer_some hw
    by_cases hk : k ∈ B.getD i []
    · rw [if_pos (hb k hk), if_pos hk]
    · rw [if_neg hk]
      rcases hd.wr k i ok o t h1 ho h2 ht with h | h | h
      · exact absurd h hk
      · subst h; rw [hn]; rfl
      · have : listed.getD k false = false := by
          cases hq : listed.getD k false with
          | false => rfl
          | true => have := hcl k hq i h; rw [hn] at this; cases this
        rw [this]; rfl

omit hd in
theorem some_head : ∀ (t : DT) (c : Bool) (dn : List Nat), tOk ops ios B fl c dn t = true → t = .nil ∨ ∃ i, i ∈ heads t ∧ base ops ios B fl dn i = true
  | .nil, c, dn, h => .inl rfl
  | .op i t, c, dn, h => by
    simp only [tOk, Bool.and_eq_true] at h
    exact .inr ⟨i, by simp [heads], h.1.1⟩
  | .alt x y, c, dn, h => by
    simp only [tOk, Bool.and_eq_true] at h
    rcases some_head x true dn h.1.2 with hx | ⟨i, h1, h2⟩
    · subst hx
      have := h.1.2
      simp [tOk] at this
    · exact .inr ⟨i, by simp [heads, h1], h2⟩
omit hd in
theorem choice_complete (t : DT) (dn : List Nat) (h : tOk ops ios B fl false dn t = true) (hc : choice ios t) (hn : t ≠ .nil) : complete ops B dn (heads t) = true := by
  cases t with
  | nil => exact absurd rfl hn
  | op i t =>
    simp only [tOk, Bool.and_eq_true] at h
    have h2 := h.1.2
    rw [if_pos (show loudAt ios i = true from hc)] at h2
    simpa [heads] using h2
  | alt x y =>
    simp only [tOk, Bool.and_eq_true] at h
    simpa using h.1.1
omit hd in
theorem pick {Q : AT → AH → Prop} {R : List Nat} {aA : AT} {A : AH} {i : Nat} : ∀ (t : DT) (c : Bool) (dn : List Nat), tOk ops ios B fl c dn t = true → (c = true ∨ choice ios t) → i ∈ heads t → Wt G P Q (toIT ios fl t) R aA A →
    ∃ t', base ops ios B fl dn i = true ∧ loudAt ios i = true ∧ tOk ops ios B fl false (dn ++ [i]) t' = true ∧ Wt G P Q (toIT ios fl (.op i t')) R aA A
  | .nil, c, dn, h, hc, hi, hw => by cases hi
  | .op j t, c, dn, h, hc, hi, hw => by
    simp only [heads, List.mem_singleton] at hi
    subst hi
    simp only [tOk, Bool.and_eq_true] at h
    refine ⟨t, h.1.1, ?_, h.2, hw⟩
    rcases hc with rfl | hc
    · have h2 := h.1.2
      cases hl : loudAt ios i with
      | true => rfl
      | false => rw [hl] at h2; simp at h2
    · exact hc
  | .alt x y, c, dn, h, hc, hi, hw => by
    simp only [tOk, Bool.and_eq_true] at h
    simp only [toIT, Wt] at hw
    simp only [heads, List.mem_append] at hi
    rcases hi with hi | hi
    · exact pick x true dn h.1.2 (.inl rfl) hi hw.1
    · exact pick y true dn h.2 (.inl rfl) hi hw.2

/-- EVERY ORDER COMES TO WHAT THE ONE ORDER COMES TO. -/
theorem any_sound {dm : Bool} (hios : cIOps P G N ops ops.toList = some ios) {Q : AT → AH → Prop} {Q' : Exit → Act → World → Prop} {μ0 : Mu} {A0 : AH} {w0 : World} {a0 : AT}
    (hQ : ∀ μ a A r w, Rel G μ A w → ActR μ N dm a r → Stp μ0 A0 w0 μ A w → Q a A → Q' .normal r w) :
    ∀ (fuel : Nat) (listed : Array Bool) (dn : List Nat) (rest : DT) (R : List Nat) (aA : AT) (A : AH) (μ : Mu) (r : Act) (w : World), Inv ops ios B fl R listed dn rest a0 aA A → Wt G P Q (toIT ios fl rest) R aA A →
      choice ios rest → ((List.range ops.size).filter fun i => !listed.getD i false).length ≤ fuel →
      Rel G μ A w → ActR μ N dm (cur ops listed a0 aA) r → Stp μ0 A0 w0 μ A w → wpAny P .any ops Q' fuel listed r w := by
  -- when nothing is ready all is done
  have hend : ∀ (listed : Array Bool) (dn : List Nat) (rest : DT) (R : List Nat) (aA : AT) (A : AH) (μ : Mu) (r : Act) (w : World), Inv ops ios B fl R listed dn rest a0 aA A → Wt G P Q (toIT ios fl rest) R aA A →
      choice ios rest → Rel G μ A w → ActR μ N dm (cur ops listed a0 aA) r → Stp μ0 A0 w0 μ A w → Region.ready .any ops listed = [] → (∀ i, i < ops.size → listed.getD i false = true) ∧ Q' .normal r w := by
    intro listed dn rest R aA A μ r w hI hw hhead hr ha hst hready
    have hedgeOk : ∀ i, i < ops.size → (∀ k ∈ B.getD i [], listed.getD k false = true) → listed.getD i false = true := by
      intro i hlt hB
      cases hl : listed.getD i false with
      | true => rfl
      | false =>
        exfalso
        have hmem : i ∈ Region.ready .any ops listed := by
          unfold Region.ready
          rw [List.mem_filter]
          refine ⟨by rw [List.mem_range]; exact hlt, ?_⟩
          have hl2 : listed.getD i true = false := by
            have : i < listed.size := by rw [hI.lsize]; exact hlt
            simp only [Array.getD_eq_getD_getElem?, Array.getElem?_eq_getElem this, Option.getD_some] at hl ⊢
            exact hl
          rw [hl2, Array.getElem?_eq_getElem hlt]
          simp only [Option.map_some, Option.getD_some, Bool.not_false, Bool.true_and]
          rw [Array.all_eq_true_iff_forall_mem]
          intro e he
          cases hbn : Region.binds .any e with
          | false => rfl
          | true =>
            simp only [Bool.not_true, Bool.false_or]
            exact hB _ (hd.edge i _ (Array.getElem?_eq_getElem hlt) e he hbn)
        rw [hready] at hmem
        cases hmem
    have hall : ∀ (n : Nat) (p r : List Nat), p.length = n → dn = p ++ r → ∀ i ∈ p, i < ops.size → listed.getD i false = true := by
      intro n
      induction n with
      | zero => intro p r hp _ i hi; rw [List.length_eq_zero_iff] at hp; subst hp; cases hi
      | succ n ih =>
        intro p0 r hp0 hor i hi hlt
        obtain ⟨p, x, rfl⟩ : ∃ p x, p0 = p ++ [x] := by
          rcases List.eq_nil_or_concat p0 with h | ⟨p, x, h⟩
          · subst h; simp at hp0
          · exact ⟨p, x, by rw [h, List.concat_eq_append]⟩
        have ih' := ih p ([x] ++ r) (by simpa using hp0) (by rw [hor]; simp)
        rcases List.mem_append.1 hi with hi | hi
        · exact ih' i hi hlt
        · simp only [List.mem_singleton] at hi
          subst hi
          refine hedgeOk i hlt fun k hk => ?_
          have hkp := hI.dnB p i r (by rw [hor]; simp) k hk
          exact ih' k hkp (hI.dnLt k (by rw [hor]; simp [hkp]))
    have hdn : ∀ i ∈ dn, i < ops.size → listed.getD i false = true := hall dn.length dn [] rfl (by simp)
    have hrest : rest = .nil := by
      rcases some_head rest false dn hI.ok with h | ⟨i, _, h2⟩
      · exact h
      · exfalso
        obtain ⟨h3, h4, h5, _⟩ := base_spec h2
        exact h4 (hI.sub i (hedgeOk i h3 fun k hk => hdn k (h5 k hk) (hI.dnLt k (h5 k hk))))
    subst hrest
    have hfull := hI.ok
    simp only [tOk, Bool.not_false, Bool.true_and, List.all_eq_true, List.contains_eq_mem, decide_eq_true_eq] at hfull
    have hlist : ∀ i, i < ops.size → listed.getD i false = true := fun i hi => hdn i (hfull i (by rw [List.mem_range]; exact hi)) hi
    refine ⟨hlist, ?_⟩
    refine hQ μ aA A r w hr (ha.refr (by rw [cur_dsl (nodsl hios)]; exact hI.fresh dsl (fun i hi => by rw [nodsl hios] at hi; cases hi)) fun j u hu => ?_) hst hw
    have h3 := ha.vals j u hu
    have : cur ops listed a0 aA j = aA j := by
      unfold cur
      cases hwj : writer ops j with
      | none => exact (hI.fresh j (fun i hi => by rw [hwj] at hi; cases hi)).symm
      | some k =>
        obtain ⟨ok, h4, _⟩ := writer_some hwj
        simp only [hlist k (lt_of_ord hd h4), if_true]
    rw [← this]; exact h3
  intro fuel
  induction fuel with
  | zero =>
    intro listed dn rest R aA A μ r w hI hw hhead hf hr ha hst
    have hnone : Region.ready .any ops listed = [] := by
      cases hq : Region.ready .any ops listed with
      | nil => rfl
      | cons i q =>
        exfalso
        obtain ⟨h1, o, h2, _⟩ := ready_iff hd (show i ∈ Region.ready .any ops listed by rw [hq]; simp)
        have hlt := lt_of_ord hd h2
        have : i ∈ (List.range ops.size).filter fun i => !listed.getD i false := by
          rw [List.mem_filter, List.mem_range]
          refine ⟨hlt, ?_⟩
          have : i < listed.size := by rw [hI.lsize]; exact hlt
          simp only [Array.getD_eq_getD_getElem?, Array.getElem?_eq_getElem this, Option.getD_some] at h1 ⊢
          simp [h1]
        have := List.length_pos_of_mem this
        omega
    exact ⟨hnone, (hend listed dn rest R aA A μ r w hI hw hhead hr ha hst hnone).2⟩
  | succ fuel ih =>
    intro listed dn rest R aA A μ r w hI hw hhead hf hr ha hst
    refine ⟨fun hnone => (hend listed dn rest R aA A μ r w hI hw hhead hr ha hst hnone).2, fun i hi => ?_⟩
    obtain ⟨hl, o, ho, hedge⟩ := ready_iff hd hi
    have hlt := lt_of_ord hd ho
    have hls : i < listed.size := by rw [hI.lsize]; exact hlt
    have hlf : listed.getD i false = false := by
      simp only [Array.getD_eq_getD_getElem?, Array.getElem?_eq_getElem hls, Option.getD_some] at hl ⊢
      exact hl
    have hbl := bef_listed hd hI.closed ho hedge
    have hcur := cur_eq hd (a0 := a0) (aA := aA) hI.closed ho hlf hbl
    obtain ⟨_, hget⟩ := cIOps_get _ _ hios
    obtain ⟨io, hio, hcio⟩ := hget i o (by simpa using ho)
    have hcount : ((List.range ops.size).filter fun j => !(listed.setIfInBounds i true).getD j false).length ≤ fuel := by
      have hlt2 : ((List.range ops.size).filter fun j => !(listed.setIfInBounds i true).getD j false).length < ((List.range ops.size).filter fun j => !listed.getD j false).length := by
        have e : ((List.range ops.size).filter fun j => !(listed.setIfInBounds i true).getD j false) = ((List.range ops.size).filter fun j => !listed.getD j false).filter fun j => j != i := by
          rw [List.filter_filter]
          congr 1
          funext j
          rw [getD_set hd listed i j hls]
          by_cases hj : j = i
          · subst hj; simp
          · simp [hj]
        rw [e]
        have hm : i ∈ (List.range ops.size).filter fun j => !listed.getD j false := by
          rw [List.mem_filter, List.mem_range]
          exact ⟨hlt, by simp [hlf]⟩
        refine Nat.lt_of_le_of_ne (List.length_filter_le _ _) (fun heq => ?_)
        have := List.length_filter_eq_length_iff.1 heq i hm
        simp at this
      omega
    unfold wpOp
    simp only [ho]
    obtain ⟨g1, g2, g3, g4, g5⟩ := wanted_rel hcio ha
    rw [g1]
    have hclosed' : ∀ j, (listed.setIfInBounds i true).getD j false = true → ∀ k ∈ B.getD j [], (listed.setIfInBounds i true).getD k false = true := by
      intro j hj k hk
      rw [getD_set hd listed i _ hls] at hj ⊢
      split
      · rfl
      · split at hj
        · rename_i hji; subst hji; exact hbl k hk
        · exact hI.closed j hj k hk
    by_cases hdn : i ∈ dn
    · -- it was worked out
      obtain ⟨aq, p1, p2⟩ := hI.pend i o io hdn hlf ho hio
      have hae : ∀ t ∈ looks ops o, cur ops listed a0 aA t = aq t := fun t ht => by rw [hcur t ht, p1 t ht]
      have hwq : wantedA (cur ops listed a0 aA) io.guard = wantedA aq io.guard := wantedA_congr hcio hae
      have hInv' : Inv ops ios B fl R (listed.setIfInBounds i true) dn rest a0 aA A := by
        refine ⟨hI.ok, hI.dnB, hI.dnLt, by simp [hI.lsize], ?_, ?_, hclosed', hI.fresh, ?_⟩
        · intro j hj
          rw [getD_set hd listed i _ hls] at hj
          split at hj
          · rename_i hji; subst hji; exact hdn
          · exact hI.sub j hj
        · intro j ioj hj h1 h2
          rw [getD_set hd listed i _ hls]
          split
          · rfl
          · exact hI.loudIn j ioj hj h1 h2
        · intro j oj ioj hj h1 h2 h3
          rw [getD_set hd listed i _ hls] at h1
          split at h1
          · cases h1
          · exact hI.pend j oj ioj hj h1 h2 h3
      rw [hwq]
      rcases p2 with ⟨w1, v, Aq, w2, w3, w4⟩ | ⟨w1, w2⟩
      · rw [w1]
        simp only [if_true]
        left
        have hk2 : kd io.op ≠ 2 := by
          intro hk
          have := hI.loudIn i io hdn hio hk
          rw [hlf] at this; cases this
        obtain ⟨_, hs2⟩ := step_quiet hk2 w2
        have hs3 := hs2 A (fun hk1 => (w3 hk1).1)
        have hW : W1 G P aq A io.op (fun u A' => u = v ∧ A' = A) := by
          unfold W1
          cases hq : io.op <;> first
            | (rw [hq] at hk2; simp [kd] at hk2; done)
            | (rw [hq] at hs3; exact ⟨v, A, hs3, rfl, rfl⟩)
        refine W1_sound (a := aq) g4 hr (fun x hx => ?_) hW _ _ ?_
        · have : ev aq x = ev (cur ops listed a0 aA) x := ev_congr (fun t ht => (hae t (looks_op (by rw [← ht]; exact hx))).symm)
          rw [this]
          exact ha.ev hr (g5 x hx)
        · rintro v' w' ⟨u, μ', A', hv, hr', hst', rfl, rfl⟩
          obtain ⟨q, rfl⟩ := hst'.pre
          exact ih _ dn rest R aA A' _ _ w' hInv' hw hhead hcount hr' (cur_set hd (nodsl hios) ho hls ha.mono hv w4) (hst.trans hst')
      · rw [w1]
        simp only [Bool.false_eq_true, if_false]
        exact ih _ dn rest R aA A _ _ w hInv' hw hhead hcount hr (cur_set hd (nodsl hios) ho hls ha (VR.undef _) w2) hst
    · -- it may turn memory: it is the next one
      have hmem : i ∈ heads rest := by
        refine complete_spec (choice_complete rest dn hI.ok hhead ?_) hlt hdn (fun k hk => hI.sub k (hbl k hk))
        rintro rfl
        have hfull := hI.ok
        simp only [tOk, Bool.not_false, Bool.true_and, List.all_eq_true, List.contains_eq_mem, decide_eq_true_eq] at hfull
        exact hdn (hfull i (by rw [List.mem_range]; exact hlt))
      obtain ⟨q, hbase, hloud, hok2, hw⟩ := pick rest false dn hI.ok (.inr hhead) hmem hw
      obtain ⟨_, hid, hBi, hfl⟩ := base_spec hbase
      have hkh : kd io.op = 2 := by
        unfold loudAt at hloud
        rw [hio] at hloud
        simpa using hloud
      have hself : i ∉ B.getD i [] := fun hm => hid (hBi i hm)
      have hsee := sees hd hI.dnB hI.fresh hid ho
      have hae : ∀ t ∈ looks ops o, cur ops listed a0 aA t = aA t := fun t ht => by rw [hcur t ht, hsee t ht]
      have hwq : wantedA (cur ops listed a0 aA) io.guard = wantedA aA io.guard := wantedA_congr hcio hae
      rw [hwq]
      rw [toIT_op hio] at hw
      simp only [Wt] at hw
      rw [g2] at hw
      -- what is common to both ways
      have key : ∀ (R2 : List Nat) (v v' : Value) (A' : AH) (μ' : Mu) (w' : World), (∀ k ∈ R, k ∈ R2) → (fl.getD i false = true → RdOk R A A') → Wt G P Q (toIT ios fl q) R2 (put aA o.dst v) A' → VR μ' v v' → Rel G μ' A' w' → Stp μ A w μ' A' w' →
          wpAny P .any ops Q' fuel (listed.setIfInBounds i true) (r.put o.dst v') w' := by
        intro R2 v v' A' μ' w' hR hle hw2 hv hr' hst'
        obtain ⟨q2, rfl⟩ := hst'.pre
        have hInv' : Inv ops ios B fl R2 (listed.setIfInBounds i true) (dn ++ [i]) q a0 (put aA o.dst v) A' := by
          refine ⟨hok2, dnB_snoc hI.dnB hBi, (fun j hj => (List.mem_append.1 hj).elim (hI.dnLt j) (fun hj => by rw [List.mem_singleton.1 hj]; exact hlt)), by simp [hI.lsize], ?_, ?_, hclosed', ?_, ?_⟩
          · intro j hj
            rw [getD_set hd listed i _ hls] at hj
            split at hj
            · rename_i hji; subst hji; simp
            · simp [hI.sub j hj]
          · intro j ioj hj h1 h2
            rw [getD_set hd listed i _ hls]
            split
            · rfl
            · rename_i hji
              rcases List.mem_append.1 hj with hj | hj
              · exact hI.loudIn j ioj hj h1 h2
              · simp only [List.mem_singleton] at hj; exact absurd hj hji
          · intro t ht
            have hne : ∀ d, o.dst = some d → t ≠ d := by
              intro d hd' htd
              subst htd
              exact ht i (writer_of hd ho hd') (by simp)
            have e : (put aA o.dst v) t = aA t := by
              cases hdst : o.dst with
              | none => rfl
              | some d => simp only [put, upd]; rw [if_neg (hne d hdst)]
            rw [e]
            exact hI.fresh t (fun j hj hjd => ht j hj (by simp [hjd]))
          · intro j oj ioj hj h1 h2 h3
            rw [getD_set hd listed i _ hls] at h1
            split at h1
            · cases h1
            · rename_i hji
              have hj1 : j ∈ dn := by
                rcases List.mem_append.1 hj with hj | hj
                · exact hj
                · simp only [List.mem_singleton] at hj; exact absurd hj hji
              obtain ⟨aq, k1, k2⟩ := hI.pend j oj ioj hj1 h1 h2 h3
              refine ⟨aq, by rw [env_put hd hI.dnB hid ho (.inl hj1) hself]; exact k1, ?_⟩
              rcases k2 with ⟨w1, u, Aq, w2, w3, w4⟩ | ⟨w1, w2⟩
              · refine .inl ⟨w1, u, Aq, w2, fun hk1 => ?_, fun t ht => by rw [put_other hd ho h2 hji t ht]; exact w4 t ht⟩
                rcases hfl io hio hkh j ioj hj1 h3 hk1 with hB | ⟨hB, hB2⟩
                · exfalso
                  have := hbl j hB
                  rw [h1] at this; cases this
                · refine ⟨fun k hk' b hb => hle hB k ((w3 hk1).2 hB2 k hk') b ((w3 hk1).1 k hk' b hb), fun _ k hk' => hR k ((w3 hk1).2 hB2 k hk')⟩
              · exact .inr ⟨w1, fun t ht => by rw [put_other hd ho h2 hji t ht]; exact w2 t ht⟩
        obtain ⟨dn', rest', R', aA', hI2, hw3, hh2, hkeep⟩ := advance hd hios q (dn ++ [i]) R2 (put aA o.dst v) hInv' hw2
        refine ih _ dn' rest' R' aA' A' _ _ w' hI2 hw3 hh2 hcount hr' ?_ (hst.trans hst')
        -- the frame: 'advance' turned what is not listed alone
        have h0 : ActR (μ ++ q2) N dm (cur ops (listed.setIfInBounds i true) a0 (put aA o.dst v)) (r.put o.dst v') := by
          have h1 := cur_set (N := N) (dm := dm) (aA := put aA o.dst v) hd (nodsl hios) ho hls (μ := μ ++ q2) (r := r) (a0 := a0) (listed := listed) (v := v) (v' := v') ?_ hv (fun t ht => by rw [ht]; simp [put, upd])
          · exact h1
          · have h2 := ha.mono (r := q2)
            refine h2.refr (by rw [cur_dsl (nodsl hios), cur_dsl (nodsl hios)]) fun j u hu => ?_
            have h3 := h2.vals j u hu
            have : cur ops listed a0 (put aA o.dst v) j = cur ops listed a0 aA j := by
              unfold cur
              cases hwj : writer ops j with
              | none => rfl
              | some k =>
                simp only
                split
                · rename_i hlk
                  obtain ⟨ok, h4, h5⟩ := writer_some hwj
                  have hki : k ≠ i := by rintro rfl; rw [hlf] at hlk; cases hlk
                  exact put_other hd ho h4 hki j h5
                · rfl
            rw [this]; exact h3
        refine h0.refr (by rw [cur_dsl (nodsl hios), cur_dsl (nodsl hios)]) fun j u hu => ?_
        have h3 := h0.vals j u hu
        have : cur ops (listed.setIfInBounds i true) a0 aA' j = cur ops (listed.setIfInBounds i true) a0 (put aA o.dst v) j := by
          unfold cur
          cases hwj : writer ops j with
          | none => rfl
          | some k =>
            simp only
            split
            · rename_i hlk
              exact hkeep j k hwj (hInv'.sub k hlk)
            · rfl
        rw [this]; exact h3
      split at hw
      · rename_i hwa
        rw [hwa]
        simp only [if_true]
        left
        refine W1_sound g4 hr (fun x hx => ?_) hw _ _ ?_
        · have : ev aA x = ev (cur ops listed a0 aA) x := ev_congr (fun t ht => (hae t (looks_op (by rw [← ht]; exact hx))).symm)
          rw [this]
          exact ha.ev hr (g5 x hx)
        · rintro v' w' ⟨v, μ', A', hv, hr', hst', hle, hw2⟩
          refine key _ v v' A' μ' w' (fun k hk' => ?_) hle hw2 hv hr' hst'
          split
          · exact List.mem_append_right _ hk'
          · exact hk'
      · rename_i hwa
        rw [if_neg (by simpa using hwa)]
        exact key R undef undef A μ w (fun k hk' => hk') (fun _ => (Le.refl _).rd _) hw (VR.undef _) hr (Stp.refl _ _ _)

end
end
end Go.AS


namespace Go.AS
open Go
set_option linter.unusedVariables false
set_option linter.unusedSimpArgs false

/-- What is ahead of each operation. -/
def befs (ops : Array Oper) : List (List Nat) :=
  ops.toList.foldl (fun acc o => acc ++ [(o.after.toList.filter fun e => Region.binds .any e).foldl (fun s e =>
    let t := if s.contains e.on then s else s ++ [e.on]
    (acc.getD e.on []).foldl (fun s k => if s.contains k then s else s ++ [k]) t) []]) []

def greedy (ios : List IOp) (B : List (List Nat)) : Nat → List Nat → List Nat
  | 0, dn => dn
  | n + 1, dn =>
    let can := (List.range ios.length).filter fun i => !dn.contains i && (B.getD i []).all dn.contains
    match can.find? (fun i => match ios[i]? with | some io => kd io.op != 2 | none => false) with
    | some i => greedy ios B n (dn ++ [i])
    | none => match can.head? with
      | some i => greedy ios B n (dn ++ [i])
      | none => dn

def flags (ios : List IOp) (B : List (List Nat)) (ord : List Nat) : List Bool :=
  (List.range ios.length).map fun i => match ios[i]? with
    | some io => (kd io.op == 2 && (ord.takeWhile (· != i)).any fun q => (match ios[q]? with | some ioq => kd ioq.op == 1 | none => false) && !(B.getD i []).contains q) ||
        (kd io.op == 1 && (ord.dropWhile (· != i)).any fun j => (match ios[j]? with | some ioj => kd ioj.op == 2 | none => false) && !(B.getD j []).contains i)
    | none => false

def straight : List Nat → DT
  | [] => .nil
  | i :: r => .op i (straight r)
def alts : List DT → DT
  | [] => .nil
  | [t] => t
  | t :: r => .alt t (alts r)
/-- All orders of what may turn memory; what only looks as early as it can. -/
def treeG (ios : List IOp) (B : List (List Nat)) : Nat → List Nat → DT
  | 0, _ => .nil
  | n + 1, dn =>
    let can := (List.range ios.length).filter fun i => !dn.contains i && (B.getD i []).all dn.contains
    match can.find? (fun i => !loudAt ios i) with
    | some i => .op i (treeG ios B n (dn ++ [i]))
    | none => alts (can.map fun i => .op i (treeG ios B n (dn ++ [i])))
def flagsT (ios : List IOp) (B : List (List Nat)) : List Bool :=
  (List.range ios.length).map fun i => (List.range ios.length).any fun j => ((loudAt ios i && readAt ios j) || (readAt ios i && loudAt ios j)) && !(B.getD i []).contains j && !(B.getD j []).contains i

def sOk (ops : Array Oper) (ios : List IOp) (B : List (List Nat)) : Bool :=
  ios.length == ops.size &&
  ((List.range ops.size).all fun i => match ops[i]? with
    | some o => o.after.toList.all fun e => !Region.binds .any e || (decide (e.on < ops.size) && (B.getD i []).contains e.on)
    | none => true) &&
  ((List.range ops.size).all fun i => (B.getD i []).all fun k => match ops[i]? with
    | some o => o.after.toList.any fun e => Region.binds .any e && (k == e.on || (B.getD e.on []).contains k)
    | none => false) &&
  ((List.range ops.size).all fun i => (List.range ops.size).all fun j => match ops[i]?, ops[j]? with
    | some oi, some oj => i == j || oi.dst.isNone || oi.dst != oj.dst
    | _, _ => true) &&
  ((List.range ops.size).all fun j => match ops[j]? with
    | some oj => (looks ops oj).all fun t => (List.range ops.size).all fun i => match ops[i]? with
      | some oi => oi.dst != some t || (B.getD j []).contains i || i == j || (B.getD i []).contains j
      | none => true
    | none => true)

theorem sOk_sound {ops : Array Oper} {ios : List IOp} {B : List (List Nat)} (h : sOk ops ios B = true) : DOk ops ios B := by
  unfold sOk at h
  simp only [Bool.and_eq_true] at h
  obtain ⟨⟨⟨⟨h1, h4⟩, h5⟩, h7⟩, h8⟩ := h
  have lt : ∀ {i : Nat} {o : Oper}, ops[i]? = some o → i ∈ List.range ops.size := by
    intro i o ho
    rw [List.mem_range]
    rcases Nat.lt_or_ge i ops.size with h' | h'
    · exact h'
    · rw [Array.getElem?_eq_none h'] at ho; cases ho
  simp only [List.all_eq_true] at h4 h5 h7 h8
  have hedge : ∀ (i : Nat) o, ops[i]? = some o → ∀ e ∈ o.after, Region.binds .any e = true → e.on < ops.size ∧ e.on ∈ B.getD i [] := by
    intro i o ho e he hb
    have := h4 i (lt ho)
    rw [ho] at this
    simp only [List.all_eq_true] at this
    have := this e (by simpa using he)
    simpa [hb] using this
  refine ⟨by simpa using h1, fun i o ho e he hb => (hedge i o ho e he hb).1, fun i o ho e he hb => (hedge i o ho e he hb).2, ?_, ?_, ?_⟩
  · intro i hi k hk
    have := h5 i (by rw [List.mem_range]; exact hi) k hk
    split at this
    · rename_i o ho
      rw [List.any_eq_true] at this
      obtain ⟨e, he, hq⟩ := this
      rw [Bool.and_eq_true, Bool.or_eq_true] at hq
      refine ⟨o, ho, e, by simpa using he, hq.1, ?_⟩
      rcases hq.2 with hq | hq
      · exact .inl (by simpa using hq)
      · exact .inr (by simpa using hq)
    · cases this
  · intro i j oi oj t hi hj hti htj
    have := h7 i (lt hi) j (lt hj)
    rw [hi, hj] at this
    simpa [hti, htj] using this
  · intro i j oi oj t hi hj hti ht
    have := h8 j (lt hj)
    rw [hj] at this
    rw [List.all_eq_true] at this
    have := this t ht
    rw [List.all_eq_true] at this
    have := this i (lt hi)
    rw [hi] at this
    simp only [hti, bne_self_eq_false, Bool.false_or, Bool.or_eq_true, List.contains_eq_mem, decide_eq_true_eq, beq_iff_eq] at this
    rcases this with (h | h) | h
    · exact .inl h
    · exact .inr (.inl h)
    · exact .inr (.inr h)

theorem W1_mono {G : Nat} {P : Program} {o : AOp} {K K' : Value → AH → Prop} {a : AT} {A : AH} (hk : ∀ v A, K v A → K' v A) (h : W1 G P a A o K) : W1 G P a A o K' := by
  cases o <;> first
    | exact ACalls.mono h hk
    | exact ACallX.mono h hk
    | (simp only [W1] at h ⊢
       split at h
       · exact ⟨h.1, h.2.mono hk⟩
       · exact h.elim)
    | (obtain ⟨v, A', h1, h2⟩ := h; exact ⟨v, A', h1, hk _ _ h2⟩)
    | exact capQ_mono hk h
theorem Wt_mono {G : Nat} {P : Program} : ∀ (t : IT) {Rd : List Nat} {Q Q' : AT → AH → Prop} {a : AT} {A : AH}, (∀ a A, Q a A → Q' a A) → Wt G P Q t Rd a A → Wt G P Q' t Rd a A := by
  intro t
  induction t with
  | nil => intro Rd Q Q' a A hq h; exact hq _ _ h
  | op o r ih =>
    intro Rd Q Q' a A hq h
    simp only [Wt] at h ⊢
    split
    · rename_i hc
      rw [if_pos hc] at h
      exact W1_mono (fun v A' ⟨h1, h2⟩ => ⟨h1, ih hq h2⟩) h
    · rename_i hc
      rw [if_neg hc] at h
      exact ih hq h
  | alt x y ihx ihy => intro Rd Q Q' a A hq h; exact ⟨ihx hq h.1, ihy hq h.2⟩
theorem Wt_straight {G : Nat} {P : Program} {Q : AT → AH → Prop} {ios : List IOp} {fl : List Bool} : ∀ (l R : List Nat) (a : AT) (A : AH), Wops G P Q (l.filterMap (withFl ios fl)) R a A → Wt G P Q (toIT ios fl (straight l)) R a A
  | [], R, a, A, h => h
  | i :: l, R, a, A, h => by
    cases hw : withFl ios fl i with
    | none =>
      rw [List.filterMap_cons_none hw] at h
      simp only [straight, toIT, hw]
      exact Wt_straight l R a A h
    | some io =>
      rw [List.filterMap_cons_some hw] at h
      simp only [straight, toIT, hw, Wt]
      simp only [Wops] at h
      split at h
      · rename_i hg
        rw [if_pos hg]
        exact W1_mono (fun v A' k => ⟨k.1, Wt_straight l _ _ _ k.2⟩) h
      · rename_i hg
        rw [if_neg hg]
        exact Wt_straight l _ _ _ h

/-- A region whose order is not told: the one order in which what only looks comes early, or the tree of orders. -/
def cDraw (P : Program) (G N : Nat) (ops : Array Oper) : Option IC :=
  (cIOps P G N ops ops.toList).bind fun ios =>
    let B := befs ops
    if sOk ops ios B then
      let ord := greedy ios B ios.length []
      let fl := flags ios B ord
      if tOk ops ios B fl false [] (straight ord) then some (.draw (ord.filterMap (withFl ios fl))) else
        let t := treeG ios B ios.length []
        let f2 := flagsT ios B
        if tOk ops ios B f2 false [] t then some (.tree (toIT ios f2 t)) else none
    else none

def cCode (P : Program) (G N : Nat) (dm : Bool) : Code → Option IC
  | .skip => some .skip
  | .label _ => some .skip
  | .region _ ops draw => if draw then cDraw P G N ops else (cIOpsD P G N dm ops ops.toList).map .ops
  | .seq x y => (cCode P G N dm x).bind fun a => (cCode P G N dm y).map fun b => .seq a b
  | .cond c x y => if opOk G N c then (cCode P G N dm x).bind fun a => (cCode P G N dm y).map fun b => .cond c a b else none
  | .block id x => (cCode P G N dm x).map fun a => .block id a
  | .loop x => (cCode P G N dm x).map fun a => .loop a
  | .exit id => some (.exit id)
  | .ret => some .ret
  | .scope x => (cCode P G N dm x).map fun a => .scope a
  | _ => none

section
variable {G : Nat} {P : Program} {N : Nat}

def okE (e : Exit) : Prop := e = .normal ∨ e = .ret ∨ ∃ i, e = .exit i

/-- What the machine's code comes to, told from a state. -/
def Post (G N : Nat) (dm : Bool) (μ : Mu) (A : AH) (w : World) (Q : Exit → AT → AH → Prop) : Exit → Act → World → Prop :=
  fun e r' w' => ∃ μ' a' A', Rel G μ' A' w' ∧ ActR μ' N dm a' r' ∧ Stp μ A w μ' A' w' ∧ Q e a' A' ∧ okE e

theorem Post.trans {dm : Bool} {μ μ1 : Mu} {A A1 : AH} {w w1 : World} {Q : Exit → AT → AH → Prop} (h : Stp μ A w μ1 A1 w1) {e : Exit} {r : Act} {w' : World} (k : Post G N dm μ1 A1 w1 Q e r w') : Post G N dm μ A w Q e r w' := by
  obtain ⟨μ', a', A', h1, h2, h3, h4, h5⟩ := k
  exact ⟨μ', a', A', h1, h2, h.trans h3, h4, h5⟩

theorem region_sound {dm : Bool} (hm : P.follows .mixedOrders = true) {id : Nat} {ops : Array Oper} {ios : List IOp} {B : List (List Nat)} {fl : List Bool} {t : DT} (hd : DOk ops ios B) (h2 : cIOps P G N ops ops.toList = some ios) (hok : tOk ops ios B fl false [] t = true) {Q : Exit → AT → AH → Prop} {a : AT} {A : AH}
    (hw : Wt G P (Q .normal) (toIT ios fl t) [] a A) {μ : Mu} {r : Act} {w : World} (hr : Rel G μ A w) (ha : ActR μ N dm a r) : (Code.region id ops true).wp P (Post G N dm μ A w Q) r w := by
  refine wp_region_any hm ?_
  have hI : Inv ops ios B fl [] (Array.replicate ops.size false) [] t a a A := by
    refine ⟨hok, (fun p i r h => by cases p <;> cases h), (fun i hi => by cases hi), by simp, ?_, (fun i io hi => by cases hi), ?_, (fun t _ => rfl), (fun i o io hi => by cases hi)⟩
    · intro i hi
      simp only [Array.getD_eq_getD_getElem?, Array.getElem?_replicate] at hi
      split at hi <;> cases hi
    · intro i hi
      simp only [Array.getD_eq_getD_getElem?, Array.getElem?_replicate] at hi
      split at hi <;> cases hi
  obtain ⟨dn', rest', R', aA', hI2, hw3, hh2, hkeep⟩ := advance hd h2 _ _ _ _ hI hw
  have hcur : ∀ aX : AT, cur ops (Array.replicate ops.size false) a aX = a := by
    intro aX
    funext t
    unfold cur
    cases writer ops t with
    | none => rfl
    | some k =>
      simp only
      rw [if_neg]
      simp only [Array.getD_eq_getD_getElem?, Array.getElem?_replicate]
      split <;> simp
  refine any_sound hd h2 (Q := Q .normal) (Q' := Post G N dm μ A w Q) (μ0 := μ) (A0 := A) (w0 := w) (a0 := a)
    (fun μ' a' A' r' w' h2 h3 h4 h5 => ⟨μ', a', A', h2, h3, h4, h5, .inl rfl⟩) ops.size _ dn' rest' R' aA' A μ r _ hI2 hw3 hh2 ?_ (hr.draw _) (by rw [hcur]; exact ha) (Stp.draw _ _ _ _)
  refine Nat.le_trans (List.length_filter_le _ _) (by simp)

theorem W_sound (hm : P.follows .mixedOrders = true) {dm : Bool} (hN : dm = true → N ≤ dsl) : ∀ (c : Code) (ic : IC) (Q : Exit → AT → AH → Prop) (a : AT) (A : AH), cCode P G N dm c = some ic → W G P ic Q a A →
    ∀ (μ : Mu) (r : Act) (w : World), Rel G μ A w → ActR μ N dm a r → c.wp P (Post G N dm μ A w Q) r w
  | .skip, ic, Q, a, A, hc, hw, μ, r, w, hr, ha => by
    simp only [cCode, Option.some.injEq] at hc; subst hc
    exact wp_skip ⟨μ, a, A, hr, ha, Stp.refl _ _ _, hw, .inl rfl⟩
  | .label l, ic, Q, a, A, hc, hw, μ, r, w, hr, ha => by
    simp only [cCode, Option.some.injEq] at hc; subst hc
    exact wp_label ⟨μ, a, A, hr, ha, Stp.refl _ _ _, hw, .inl rfl⟩
  | .region id ops draw, ic, Q, a, A, hc, hw, μ, r, w, hr, ha => by
    simp only [cCode] at hc
    cases draw with
    | false =>
      simp only [Bool.false_eq_true, if_false, Option.map_eq_some_iff] at hc
      obtain ⟨il, h1, rfl⟩ := hc
      refine wp_region ?_
      have := Wops_sound hN (G := G) (P := P) (N := N) (ops := ops) (Q := Q .normal) (Q' := Post G N dm μ A w Q) (μ0 := μ) (A0 := A) (w0 := w)
        (fun μ' a' A' r' w' h2 h3 h4 h5 => ⟨μ', a', A', h2, h3, h4, h5, .inl rfl⟩) ops.toList il 0 [] μ a A r w h1 rfl hr ha (Stp.refl _ _ _) hw
      rw [List.range_eq_range']
      simpa using this
    | true =>
      simp only [if_true] at hc
      simp only [cDraw, Option.bind_eq_some_iff] at hc
      obtain ⟨ios, h2, h3⟩ := hc
      split at h3
      · rename_i hs
        have hd := sOk_sound hs
        split at h3
        · rename_i hok
          injection h3 with h3; subst h3
          exact region_sound hm hd h2 hok (Wt_straight _ _ _ _ hw) hr ha
        · split at h3
          · rename_i hok
            injection h3 with h3; subst h3
            exact region_sound hm hd h2 hok hw hr ha
          · cases h3
      · cases h3
  | .seq x y, ic, Q, a, A, hc, hw, μ, r, w, hr, ha => by
    simp only [cCode, Option.bind_eq_some_iff, Option.map_eq_some_iff] at hc
    obtain ⟨ix, h1, iy, h2, rfl⟩ := hc
    refine wp_seq (wp_mono (W_sound hm hN x ix _ a A h1 hw μ r w hr ha) ?_)
    rintro e r1 w1 ⟨μ1, a1, A1, g1, g2, g3, g4, g5⟩
    cases e with
    | normal =>
      exact wp_mono (W_sound hm hN y iy Q a1 A1 h2 g4 μ1 r1 w1 g1 g2) (fun e r2 w2 h => Post.trans g3 h)
    | _ => exact ⟨μ1, a1, A1, g1, g2, g3, g4, g5⟩
  | .cond c x y, ic, Q, a, A, hc, hw, μ, r, w, hr, ha => by
    simp only [cCode] at hc
    split at hc
    · rename_i hop
      simp only [Option.bind_eq_some_iff, Option.map_eq_some_iff] at hc
      obtain ⟨ix, h1, iy, h2, rfl⟩ := hc
      have hv := ha.ev hr hop
      simp only [W] at hw
      split at hw
      · rename_i b heq
        rw [heq] at hv
        refine wp_cond (t := b) hv.bool ?_
        cases b with
        | true => exact W_sound hm hN x ix Q a A h1 hw μ r w hr ha
        | false => exact W_sound hm hN y iy Q a A h2 hw μ r w hr ha
      · exact hw.elim
    · cases hc
  | .block id x, ic, Q, a, A, hc, hw, μ, r, w, hr, ha => by
    simp only [cCode, Option.map_eq_some_iff] at hc
    obtain ⟨ix, h1, rfl⟩ := hc
    refine wp_block (wp_mono (W_sound hm hN x ix _ a A h1 hw μ r w hr ha) ?_)
    rintro e r1 w1 ⟨μ1, a1, A1, g1, g2, g3, g4, g5⟩
    cases e with
    | exit id' =>
      simp only [inBlockA] at g4
      simp only [Exit.inBlock]
      split
      · rename_i hid
        rw [if_pos hid] at g4
        exact ⟨μ1, a1, A1, g1, g2, g3, g4, .inl rfl⟩
      · rename_i hid
        rw [if_neg hid] at g4
        exact ⟨μ1, a1, A1, g1, g2, g3, g4, g5⟩
    | _ => exact ⟨μ1, a1, A1, g1, g2, g3, g4, g5⟩
  | .loop x, ic, Q, a, A, hc, hw, μ, r, w, hr, ha => by
    simp only [cCode, Option.map_eq_some_iff] at hc
    obtain ⟨ix, h1, rfl⟩ := hc
    obtain ⟨I, m, hI, hround⟩ := hw
    refine wp_loop_ghost (fun n r' w' => ∃ μ' a' A', Rel G μ' A' w' ∧ ActR μ' N dm a' r' ∧ Stp μ A w μ' A' w' ∧ I a' A' ∧ m a' A' = n) (m a A) ⟨μ, a, A, hr, ha, Stp.refl _ _ _, hI, rfl⟩ ?_
    rintro n r' w' ⟨μ', a', A', k1, k2, k3, k4, rfl⟩
    refine wp_mono (W_sound hm hN x ix _ a' A' h1 (hround a' A' k4) μ' r' w' k1 k2) ?_
    rintro e r1 w1 ⟨μ1, a1, A1, g1, g2, g3, g4, g5⟩
    cases e with
    | normal => exact ⟨_, g4.2, μ1, a1, A1, g1, g2, k3.trans g3, g4.1, rfl⟩
    | _ => exact ⟨μ1, a1, A1, g1, g2, k3.trans g3, g4, g5⟩
  | .exit id, ic, Q, a, A, hc, hw, μ, r, w, hr, ha => by
    simp only [cCode, Option.some.injEq] at hc; subst hc
    exact wp_exit ⟨μ, a, A, hr, ha, Stp.refl _ _ _, hw, .inr (.inr ⟨id, rfl⟩)⟩
  | .ret, ic, Q, a, A, hc, hw, μ, r, w, hr, ha => by
    simp only [cCode, Option.some.injEq] at hc; subst hc
    exact wp_ret ⟨μ, a, A, hr, ha, Stp.refl _ _ _, hw, .inr (.inl rfl)⟩
  | .scope x, ic, Q, a, A, hc, hw, μ, r, w, hr, ha => by
    simp only [cCode, Option.map_eq_some_iff] at hc
    obtain ⟨ix, h1, rfl⟩ := hc
    refine wp_scope_straight (wp_mono (W_sound hm hN x ix _ a A h1 hw μ r w hr ha) ?_)
    rintro e r1 w1 ⟨μ1, a1, A1, g1, g2, g3, g4, g5⟩
    cases e with
    | goto l => exact g4.elim
    | normal => exact ⟨μ1, a1, A1, g1, g2, g3, g4, g5⟩
    | exit i => exact ⟨μ1, a1, A1, g1, g2, g3, g4, g5⟩
    | ret => exact ⟨μ1, a1, A1, g1, g2, g3, g4, g5⟩
    | panic ch => exact ⟨μ1, a1, A1, g1, g2, g3, g4, g5⟩
    | outgrown => exact ⟨μ1, a1, A1, g1, g2, g3, g4, g5⟩
  | .goto _, _, _, _, _, hc, _, _, _, _, _, _ => by simp [cCode] at hc
  | .rangeFunc .., _, _, _, _, hc, _, _, _, _, _, _ => by simp [cCode] at hc
  | .refuse _, _, _, _, _, hc, _, _, _, _, _, _ => by simp [cCode] at hc

end
end Go.AS


namespace Go.AS
open Go
set_option linter.unusedVariables false
set_option linter.unusedSimpArgs false

/-- Where a result stands. -/
inductive RV where
  | tmp (t : Nat)
  | one (t : Nat)
  | many (t n : Nat)

def cRes (P : Program) (N : Nat) : List ResultVar → Option (List RV)
  | [] => some []
  | .tmp t :: r => if t < N then (cRes P N r).map (RV.tmp t :: ·) else none
  | .cell x t :: r => if x < N then (match P.underlying t with
    | some d => if aggD d then (match P.info? t with | some i => (cRes P N r).map (RV.many x i.size :: ·) | none => none) else (cRes P N r).map (RV.one x :: ·)
    | none => none) else none

def resV (a : AT) (A : AH) : RV → Option Value
  | .tmp t => some (a t)
  | .one t => (sLoad1 A (a t)).map (·.1)
  | .many t n => (sLoadn A (a t) n).map (·.1)

def resVs (a : AT) (A : AH) : List RV → Option (List Value)
  | [] => some []
  | r :: l => (resV a A r).bind fun v => (resVs a A l).map (v :: ·)

def tupleOf : List Value → Value
  | [v] => v
  | vs => .tuple vs.toArray

def postA (rs : List RV) (Q : Value → AH → Prop) : Exit → AT → AH → Prop
  | .normal, a, A | .ret, a, A => ∃ vs, resVs a A rs = some vs ∧ Q (tupleOf vs) A
  | _, _, _ => False

def initA (args : List Value) : AT := fun j => args.getD j undef

section
variable {G : Nat} {P : Program} {N : Nat}

def resRun (P : Program) (tmps : Array Value) : ResultVar → Sem Value
  | .tmp t => pure (tmps.getD t undef)
  | .cell a t => do loadVar t (← asAddr (tmps.getD a undef))

theorem resV_run {μ : Mu} {dm : Bool} {a : AT} {A : AH} {r : Act} {w : World} (hr : Rel G μ A w) (ha : ActR μ N dm a r) : ∀ (l : List ResultVar) (rs : List RV) (vs : List Value), cRes P N l = some rs → resVs a A rs = some vs →
    ∃ vs' : List Value, (l.mapM (resRun P r.tmps)).run P w = .ok vs' w ∧ vs'.length = vs.length ∧ ∀ (j : Nat) v v', vs[j]? = some v → vs'[j]? = some v' → VR μ v v'
  | [], rs, vs, h1, h2 => by
    simp only [cRes, Option.some.injEq] at h1; subst h1
    simp only [resVs, Option.some.injEq] at h2; subst h2
    exact ⟨[], rfl, rfl, fun j v v' h => by simp at h⟩
  | rv :: l, rs, vs, h1, h2 => by
    -- one result
    have one : ∀ (k : RV) (rs' : List RV) (v : Value), cRes P N l = some rs' → resV a A k = some v → (∃ v', (resRun P r.tmps rv).run P w = .ok v' w ∧ VR μ v v') → rs = k :: rs' →
        ∃ vs' : List Value, ((rv :: l).mapM (resRun P r.tmps)).run P w = .ok vs' w ∧ vs'.length = vs.length ∧ ∀ (j : Nat) v v', vs[j]? = some v → vs'[j]? = some v' → VR μ v v' := by
      intro k rs' v hl hk hv hrs
      subst hrs
      simp only [resVs, Option.bind_eq_some_iff, Option.map_eq_some_iff] at h2
      obtain ⟨v0, h3, vs0, h4, rfl⟩ := h2
      rw [hk] at h3; obtain rfl := Option.some.inj h3
      obtain ⟨vs', g1, g2, g3⟩ := resV_run hr ha l rs' vs0 hl h4
      obtain ⟨v', g4, g5⟩ := hv
      refine ⟨v' :: vs', ?_, by simp [g2], ?_⟩
      · simp only [List.mapM_cons, Sem.run_bind, g4, Result.andThen_ok, g1, Sem.run_pure]
      · intro j x y hx hy
        cases j with
        | zero => simp only [List.getElem?_cons_zero, Option.some.injEq] at hx hy; subst hx hy; exact g5
        | succ j => exact g3 j x y (by simpa using hx) (by simpa using hy)
    have hget : ∀ t, t < N → VR μ (a t) (r.tmps.getD t undef) := by
      intro t ht
      have : t < r.tmps.size := by rw [ha.size]; exact ht
      rw [Array.getD_eq_getD_getElem?, Array.getElem?_eq_getElem this, Option.getD_some]
      exact ha.vals t _ (Array.getElem?_eq_getElem this)
    cases rv with
    | tmp t =>
      simp only [cRes] at h1
      split at h1
      · rename_i ht
        rw [Option.map_eq_some_iff] at h1
        obtain ⟨rs', h3, rfl⟩ := h1
        exact one _ _ _ h3 rfl ⟨_, rfl, hget t ht⟩ rfl
      · cases h1
    | cell x t =>
      simp only [cRes] at h1
      split at h1
      · rename_i ht
        have hv := hget x ht
        split at h1
        · rename_i d hd
          split at h1
          · rename_i hagg
            split at h1
            · rename_i i hi
              rw [Option.map_eq_some_iff] at h1
              obtain ⟨rs', h3, rfl⟩ := h1
              have hrv : ∃ v, resV a A (.many x i.size) = some v := by
                simp only [resVs, Option.bind_eq_some_iff] at h2
                obtain ⟨v, h4, _⟩ := h2
                exact ⟨v, h4⟩
              obtain ⟨v, hv2⟩ := hrv
              have hv3 := hv2
              simp only [resV, Option.map_eq_some_iff] at hv2
              obtain ⟨⟨u, A1⟩, hl, rfl⟩ := hv2
              refine one _ _ _ h3 hv3 ?_ rfl
              unfold sLoadn at hl
              split at hl
              · rename_i b o heq
                rw [heq] at hv
                rw [Option.bind_eq_some_iff] at hl
                obtain ⟨⟨cs, st, sz, ex⟩, q1, q2⟩ := hl
                rw [Option.map_eq_some_iff] at q2
                obtain ⟨l2, q2, q3⟩ := q2
                injection q3 with q3 q4; subst q3 q4
                obtain ⟨q5, q6⟩ := getRow_some q1
                obtain ⟨e, he, hev⟩ := hv.ptr_inv
                obtain ⟨l', g1, g2, _, _, g3⟩ := hr.cells (P := P) q5 q6 he q2
                have g3 : (loadCells ⟨e.blk, e.off + o, none⟩ i.size).run P w = .ok l'.toArray w := g3 w.drawn
                refine ⟨.agg l'.toArray, ?_, VR.aggOf (by rw [g1, (cut_some q2).2.1]) g2⟩
                show (do loadVar t (← asAddr (r.tmps.getD x undef)) : Sem Value).run P w = _
                rw [hev]
                unfold loadVar
                simp [asAddr, run_isAgg hd, hagg, run_size hi, g3]
              · cases hl
            · cases h1
          · rename_i hagg
            rw [Option.map_eq_some_iff] at h1
            obtain ⟨rs', h3, rfl⟩ := h1
            have hrv : ∃ v, resV a A (.one x) = some v := by
              simp only [resVs, Option.bind_eq_some_iff] at h2
              obtain ⟨v, h4, _⟩ := h2
              exact ⟨v, h4⟩
            obtain ⟨v, hv2⟩ := hrv
            have hv3 := hv2
            simp only [resV, Option.map_eq_some_iff] at hv2
            obtain ⟨⟨u, A1⟩, hl, rfl⟩ := hv2
            refine one _ _ _ h3 hv3 ?_ rfl
            unfold sLoad1 at hl
            split at hl
            · rename_i b o heq
              rw [heq] at hv
              rw [Option.bind_eq_some_iff] at hl
              obtain ⟨⟨cs, st, sz, ex⟩, q1, q2⟩ := hl
              rw [Option.map_eq_some_iff] at q2
              obtain ⟨x2, q2, q3⟩ := q2
              injection q3 with q3 q4; subst q3 q4
              obtain ⟨q5, q6⟩ := getRow_some q1
              obtain ⟨e, he, hev⟩ := hv.ptr_inv
              obtain ⟨v', g1, g2, _⟩ := hr.cell q5 q6 he q2
              refine ⟨v', ?_, g2⟩
              show (do loadVar t (← asAddr (r.tmps.getD x undef)) : Sem Value).run P w = _
              rw [hev]
              unfold loadVar
              have hagg : aggD d = false := by simpa using hagg
              simp [asAddr, run_isAgg hd, hagg, g1]
            · cases hl
        · cases h1
      · cases h1

theorem results_run {fn : Func} {tmps : Array Value} {vs' : List Value} {w : World} (h : (fn.results.toList.mapM (resRun P tmps)).run P w = .ok vs' w) : (results fn tmps).run P w = .ok (tupleOf vs') w := by
  have e : results fn tmps = (do
      let vs ← fn.results.mapM (resRun P tmps)
      pure (if h : vs.size = 1 then vs[0] else .tuple vs)) := rfl
  rw [e, Sem.run_bind]
  rw [← Array.toList_mapM] at h
  simp only [Sem.run_map] at h
  cases hr : (fn.results.mapM (resRun P tmps)).run P w with
  | halt x w' => rw [hr] at h; simp at h
  | ok l w' =>
    rw [hr] at h
    simp only [Result.andThen_ok, Result.ok.injEq] at h
    obtain ⟨rfl, rfl⟩ := h
    simp only [Result.andThen_ok, Sem.run_pure]
    congr 1
    cases hl : l.toList with
    | nil =>
      have : l.size = 0 := by rw [← Array.length_toList, hl]; rfl
      rw [dif_neg (by omega)]
      simp only [tupleOf]
      rw [← hl]
    | cons x r =>
      cases r with
      | nil =>
        have : l.size = 1 := by rw [← Array.length_toList, hl]; rfl
        rw [dif_pos this]
        simp only [tupleOf]
        have : l = #[x] := Array.toList_inj.1 (by simpa using hl)
        subst this
        rfl
      | cons y r =>
        have : l.size ≠ 1 := by rw [← Array.length_toList, hl]; simp
        rw [dif_neg this]
        simp only [tupleOf]
        rw [← hl]

theorem tupleOf_rel {μ : Mu} {vs vs' : List Value} (h1 : vs'.length = vs.length) (h2 : ∀ (j : Nat) v v', vs[j]? = some v → vs'[j]? = some v' → VR μ v v') : VR μ (tupleOf vs) (tupleOf vs') := by
  have gen : VR μ (.tuple vs.toArray) (.tuple vs'.toArray) := .tuple (by simp [h1]) (fun j x y hx hy => h2 j x y (by simpa using hx) (by simpa using hy))
  cases vs with
  | nil =>
    have : vs' = [] := by simpa using h1
    subst this
    exact gen
  | cons v r =>
    cases vs' with
    | nil => simp at h1
    | cons v' r' =>
      cases r with
      | nil =>
        have : r' = [] := by simpa using h1
        subst this
        exact h2 0 v v' rfl rfl
      | cons x r =>
        cases r' with
        | nil => simp at h1
        | cons y r' => exact gen

/-- A CALL, OUT OF ITS BODY. -/
theorem ACalls.of_body (hm : P.follows .mixedOrders = true) {f : FuncId} {fn : Func} {c : Code} {ic : IC} {rs : List RV} {args : List Value} {Q : Value → AH → Prop} {A : AH} (hf : P.funcs[f]? = some fn) (hb : fn.body = some c)
    (hn : args.length ≤ fn.ntmps) (hc : cCode P G fn.ntmps false c = some ic) (hrs : cRes P fn.ntmps fn.results.toList = some rs) (hw : W G P ic (postA rs Q) (initA args) A) : ACalls G P f args Q A := by
  intro μ args' w hr h1 h2
  refine calls_of_wp hf hb (wp_mono (W_sound hm (dm := false) (fun h => by cases h) c ic _ (initA args) A hc hw μ _ w hr ⟨?_, fun _ => rfl, (fun h => by cases h), ?_⟩) ?_)
  · simp only [Array.size_append, Array.size_replicate]
    omega
  · intro j v' hv'
    simp only [Array.getElem?_append] at hv'
    unfold initA
    split at hv'
    · rename_i hj
      rw [h1] at hj
      rw [List.getD_eq_getElem?_getD, List.getElem?_eq_getElem hj, Option.getD_some]
      exact h2 j _ _ (List.getElem?_eq_getElem hj) hv'
    · rename_i hj
      rw [h1] at hj
      rw [List.getD_eq_getElem?_getD, List.getElem?_eq_none (by omega), Option.getD_none]
      rw [Array.getElem?_replicate] at hv'
      split at hv'
      · obtain rfl := Option.some.inj hv'; exact VR.undef _
      · cases hv'
  · rintro e r' w' ⟨μ', a', A', g1, g2, g3, g4, g5⟩
    have fin : (∃ vs, resVs a' A' rs = some vs ∧ Q (tupleOf vs) A') → r'.defers = [] ∧ ∃ v, (results fn r'.tmps).run P w' = .ok v w' ∧ ∃ u v' μ' A', Ending.returned v = .returned v' ∧ VR μ' u v' ∧ Rel G μ' A' w' ∧ Stp μ A w μ' A' w' ∧ Q u A' := by
      rintro ⟨vs, k1, k2⟩
      obtain ⟨vs', k3, k4, k5⟩ := resV_run (P := P) g1 g2 _ _ _ hrs k1
      exact ⟨g2.nod rfl, _, results_run k3, _, _, μ', A', rfl, tupleOf_rel k4 k5, g1, g3, k2⟩
    cases e with
    | normal => exact fin g4
    | ret => exact fin g4
    | exit i => exact g4.elim
    | goto l => exact g4.elim
    | panic ch => exact g4.elim
    | outgrown => exact g4.elim

/-- A deferred call, told of abstract states: it returns, and Q holds of the heap behind it. -/
def ACallsD (G : Nat) (P : Program) (f : FuncId) (args : List Value) (Q : AH → Prop) (A : AH) : Prop :=
  ∀ (μ : Mu) (args' : Array Value) (w : World), Rel G μ A w → args'.size = args.length → (∀ (j : Nat) v v', args[j]? = some v → args'[j]? = some v' → VR μ v v') →
    calleeOk P f = true ∧ CallsD P f args' .returning w fun e u' w' => ∃ v' μ' A', e = .returned v' ∧ u' = .returning ∧ Rel G μ' A' w' ∧ Stp μ A w μ' A' w' ∧ Q A'
/-- Deferred calls, the last one first. -/
def runD (G : Nat) (P : Program) (K : AH → Prop) : List Value → AH → Prop
  | [], A => K A
  | .func (.func f) args _ :: r, A => ACallsD G P f args.toList (runD G P K r) A
  | _ :: _, _ => False
def postD (G : Nat) (P : Program) (rs : List RV) (Q : Value → AH → Prop) : Exit → AT → AH → Prop
  | .normal, a, A | .ret, a, A => ∃ vs, resVs a A rs = some vs ∧ ∃ ds, a dsl = .tuple ds ∧ runD G P (Q (tupleOf vs)) ds.toList A
  | _, _, _ => False

end
end Go.AS


namespace Go.AS
open Go Go.RowKit
set_option linter.unusedVariables false
set_option linter.unusedSimpArgs false

/-- Function f's body is the abstract code ic. -/
def Fits (P : Program) (G : Nat) (f : FuncId) (ic : IC) (rs : List RV) (np : Nat) : Prop :=
  ∃ fn, P.funcs[f]? = some fn ∧ np ≤ fn.ntmps ∧ fn.body.bind (cCode P G fn.ntmps false) = some ic ∧ cRes P fn.ntmps fn.results.toList = some rs

section
variable {G : Nat} {P : Program} {A : AH}

theorem ACalls.of_fits (hm : P.follows .mixedOrders = true) {f : FuncId} {ic : IC} {rs : List RV} {np : Nat} (h : Fits P G f ic rs np) {args : List Value} {Q : Value → AH → Prop} (hn : args.length = np)
    (hw : W G P ic (postA rs Q) (initA args) A) : ACalls G P f args Q A := by
  obtain ⟨fn, h1, h2, h3, h4⟩ := h
  rw [Option.bind_eq_some_iff] at h3
  obtain ⟨c, h5, h6⟩ := h3
  exact ACalls.of_body hm h1 h5 (by omega) h6 h4 hw

/-- A slice in the abstract heap: its elements' cells. -/
def Sl (A : AH) (sz : Nat) (v : Value) (n : Nat) (cs : List Value) : Prop :=
  cs.length = n * sz ∧ ((v = .slice none 0 0 ∧ n = 0) ∨ (v = .slice (some zmk) 0 0 ∧ n = 0) ∨
  ∃ i o c rc st ex, v = .slice (some ⟨i, o, none⟩) n c ∧ n ≤ c ∧ A[i]? = some (.row rc st sz ex) ∧ st ≠ .dead ∧ o + n * sz ≤ rc.length ∧ ∀ j, j < n * sz → rc[o + j]? = cs[j]?)

/-- An argument, as a law's entry tells of it. -/
inductive Arg where
  | val (v : Value)
  | row (k : IntKind) (a : Option Addr) (len cap : Nat) (zs : List Int)

def Arg.real : Arg → Value
  | .val v => v
  | .row _ a n c _ => .slice a n c
def Arg.ok (w : World) : Arg → Prop
  | .val v => cflat v = true
  | .row k a len cap zs => (a = none ∧ len = 0 ∧ cap = 0 ∧ zs = []) ∨
      ∃ x, a = some x ∧ len ≤ cap ∧ cap ≤ maxLen ∧ zs.length = cap ∧ (∀ i, i < zs.length → w.cell? (x.add i) = some (.int k (zs.getD i 0))) ∧ ∀ n ∈ zs, (Lit.int k n).wf = true
/-- A row of the caller's, read only. -/
theorem Rel.addRow {μ : Mu} {w : World} (h : Rel G μ A w) (hno : ∀ (i : Nat) b, A[i]? = some b → b.isOwn = false) {b o : Nat} {cs : List Value} {sz : Nat} {rc : Array Value} {T : TypeId} {fr : Nat × Nat} {lim : Nat}
    (hb : w.heap[b]? = some (.cells rc T fr)) (hc : ∀ (j : Nat) v, cs[j]? = some v → v.oneCell' = true ∧ ∃ v', rc[o + j]? = some v' ∧ VR μ v v') (hl : cs.length ≤ lim) :
    Rel G (μ ++ [⟨b, o, lim, sz⟩]) (A ++ [.row cs .ro sz false]) w := by
  refine ⟨by simp [h.len], ?_, ?_, ?_, ?_, ?_, ?_, ?_⟩
  · intro g hg
    obtain ⟨e, h1, h2, h3⟩ := h.glo g hg
    exact ⟨e, pre_get h1, h2, h3⟩
  · intro i e he
    rcases push_get he with ⟨_, he⟩ | ⟨_, rfl⟩
    · exact h.lt i e he
    · simp only
      rcases Nat.lt_or_ge b w.heap.size with h' | h'
      · exact h'
      · rw [Array.getElem?_eq_none h'] at hb; cases hb
  · intro i cs' st sz' ex' e hb' he hst
    rcases push_get hb' with ⟨hi, hb'⟩ | ⟨hi, hb'⟩
    · rcases push_get he with ⟨_, he⟩ | ⟨hi', _⟩
      · obtain ⟨rc', T', fr', g1, g2, g3, g4⟩ := h.row i cs' st sz' ex' e hb' he hst
        exact ⟨rc', T', fr', g1, VR.cellMono g2, g3, g4⟩
      · rw [h.len] at hi'; omega
    · injection hb' with q1 q2 q3 q4
      subst q1 q2 q3 q4
      rcases push_get he with ⟨hi', he⟩ | ⟨_, rfl⟩
      · rw [h.len] at hi'; omega
      · refine ⟨rc, T, fr, hb, ?_, hl, fun h => (by cases h), fun h => (by cases h)⟩
        exact VR.cellMono hc
  · intro i cs' st sz' ex' e hb' he
    rcases push_get hb' with ⟨hi, hb'⟩ | ⟨hi, hb'⟩
    · rcases push_get he with ⟨_, he⟩ | ⟨hi', _⟩
      · exact h.szs i cs' st sz' ex' e hb' he
      · rw [h.len] at hi'; omega
    · injection hb' with q1 q2 q3 q4
      subst q3
      rcases push_get he with ⟨hi', he⟩ | ⟨_, rfl⟩
      · rw [h.len] at hi'; omega
      · rfl
  · intro i s p e hb' he
    rcases push_get hb' with ⟨hi, hb'⟩ | ⟨hi, hb'⟩
    · have := hno i _ hb'; cases this
    · cases hb'
  · intro i es e hb' he
    rcases push_get hb' with ⟨hi, hb'⟩ | ⟨hi, hb'⟩
    · have := hno i _ hb'; cases this
    · cases hb'
  · intro i k b1 b2 e e' hb1 hb2 ho ha hne he he'
    rcases push_get hb1 with ⟨hi, hb1⟩ | ⟨hi, rfl⟩
    · rw [hno i _ hb1] at ho; cases ho
    · cases ho

theorem addr_add0 (x : Addr) : x.add 0 = x := rfl

end
end Go.AS


namespace Go.AS
open Go
set_option linter.unusedVariables false
set_option linter.unusedSimpArgs false

section
variable {G : Nat} {P : Program} {a : AT} {A : AH} {K : Value → AH → Prop} {Q : AT → AH → Prop} {R : Exit → AT → AH → Prop}

/-- What is to be done behind an operation, as one word (simp does not look into it before a value stands behind it). -/
def kont (G : Nat) (P : Program) (Q : AT → AH → Prop) (r : List IOp) (R : List Nat) (a : AT) (d : Option Nat) : Value → AH → Prop := fun v A' => Wops G P Q r R (put a d v) A'
def kontL (G : Nat) (P : Program) (Q : AT → AH → Prop) (r : List IOp) (R R2 : List Nat) (a : AT) (d : Option Nat) (A : AH) : Value → AH → Prop := fun v A' => RdOk R A A' ∧ Wops G P Q r R2 (put a d v) A'
theorem kont_at {r : List IOp} {R : List Nat} {d : Option Nat} {v : Value} : kont G P Q r R a d v A = Wops G P Q r R (put a d v) A := id rfl
theorem kontL_at {r : List IOp} {R R2 : List Nat} {d : Option Nat} {v : Value} {A0 : AH} : kontL G P Q r R R2 a d A0 v A = (RdOk R A0 A ∧ Wops G P Q r R2 (put a d v) A) := id rfl
theorem Wops_nil {R : List Nat} : Wops G P Q [] R a A = Q a A := id rfl
theorem Wops_cons {R : List Nat} {d : Option Nat} {o : AOp} {r : List IOp} : Wops G P Q (⟨d, none, false, o⟩ :: r) R a A = W1 G P a A o (kont G P Q r R a d) := by
  unfold kont
  simp [Wops, wantedA]
theorem Wops_le {R : List Nat} {d : Option Nat} {o : AOp} {r : List IOp} : Wops G P Q (⟨d, none, true, o⟩ :: r) R a A = W1 G P a A o (kontL G P Q r R (rdB (ev a) o ++ R) a d A) := by
  unfold kontL
  simp [Wops, wantedA]
def gd (v : Value) (want : Bool) : Bool := match v with | .bool b => b == want | _ => false
def gdB (b : Bool) (G : Nat) (P : Program) (o : AOp) (K : Value → AH → Prop) (Q : AT → AH → Prop) (r : List IOp) (R : List Nat) (d : Option Nat) (a : AT) (A : AH) : Prop :=
  if b = true then W1 G P a A o K else Wops G P Q r R (put a d undef) A
theorem gdB_true {R : List Nat} {o : AOp} {r : List IOp} {d : Option Nat} : gdB true G P o K Q r R d a A = W1 G P a A o K := id rfl
theorem gdB_false {R : List Nat} {o : AOp} {r : List IOp} {d : Option Nat} : gdB false G P o K Q r R d a A = Wops G P Q r R (put a d undef) A := id rfl
theorem Wops_guard {R : List Nat} {d : Option Nat} {t : Nat} {want : Bool} {o : AOp} {r : List IOp} : Wops G P Q (⟨d, some (t, want), false, o⟩ :: r) R a A =
    gdB (gd (a t) want) G P o (kont G P Q r R a d) Q r R d a A := by
  have e : wantedA a (some (t, want)) = gd (a t) want := rfl
  unfold gdB kont
  simp only [Wops, e, Bool.false_eq_true, false_implies, true_and, if_false]
theorem Wops_guardle {R : List Nat} {d : Option Nat} {t : Nat} {want : Bool} {o : AOp} {r : List IOp} : Wops G P Q (⟨d, some (t, want), true, o⟩ :: r) R a A =
    gdB (gd (a t) want) G P o (kontL G P Q r R (rdB (ev a) o ++ R) a d A) Q r R d a A := by
  have e : wantedA a (some (t, want)) = gd (a t) want := rfl
  unfold gdB kontL
  simp only [Wops, e, true_implies, if_true]
theorem RdOk_nil {A' : AH} : RdOk [] A A' = True := by
  apply eq_true
  intro k hk
  cases hk
theorem RdOk_refl {R : List Nat} : RdOk R A A = True := eq_true (fun _ _ _ h => h)
theorem rd_load1 {ρ : Operand → Value} {x : Operand} : rdB ρ (.load1 x) = blkOf (ρ x) := id rfl
theorem rd_loadn {ρ : Operand → Value} {x : Operand} {n : Nat} : rdB ρ (.loadn x n) = blkOf (ρ x) := id rfl
theorem rd_b2s {ρ : Operand → Value} {x : Operand} : rdB ρ (.b2s x) = blkOf (ρ x) := id rfl
theorem rd_sll {ρ : Operand → Value} {x : Operand} {l h m : Option Operand} {n : Nat} : rdB ρ (.sll x l h m n) = blkOf (ρ x) := id rfl
theorem rd_sla {ρ : Operand → Value} {x : Operand} {l h m : Option Operand} {n k : Nat} : rdB ρ (.sla x l h m n k) = blkOf (ρ x) := id rfl
theorem rd_call {ρ : Operand → Value} {f : FuncId} {xs : List Operand} : rdB ρ (.call f xs) = [] := id rfl
theorem rd_callx {ρ : Operand → Value} {f : FuncId} {xs : List Operand} : rdB ρ (.callx f xs) = [] := id rfl
theorem rd_calld {ρ : Operand → Value} {f : Operand} {xs : List Operand} : rdB ρ (.calld f xs) = [] := id rfl
theorem rd_new {ρ : Operand → Value} {z : List Value} : rdB ρ (.new z) = [] := id rfl
theorem rd_box {ρ : Operand → Value} {x : Operand} : rdB ρ (.box x) = [] := id rfl
theorem rd_lit {ρ : Operand → Value} {z : List Value} {sz len : Nat} {ps : List (Nat × Nat × Operand)} : rdB ρ (.lit z sz len ps) = [] := id rfl
theorem rd_store {ρ : Operand → Value} {x y : Operand} {n : Nat} : rdB ρ (.store x y n) = [] := id rfl
theorem rd_s2b {ρ : Operand → Value} {x : Operand} : rdB ρ (.s2b x) = [] := id rfl
theorem rd_mk {ρ : Operand → Value} {z : List Value} {b : Nat} {x y : Operand} : rdB ρ (.mk z b x y) = [] := id rfl
theorem rd_app {ρ : Operand → Value} {x y : Operand} {n m : Nat} : rdB ρ (.app x y n m) = [] := id rfl
theorem rd_apps {ρ : Operand → Value} {x y : Operand} {n : Nat} : rdB ρ (.apps x y n) = [] := id rfl
theorem rd_appz {ρ : Operand → Value} {x y : Operand} {z : List Value} {n : Nat} : rdB ρ (.appz x y z n) = [] := id rfl
theorem rd_mks {ρ : Operand → Value} {x : Operand} : rdB ρ (.mks x) = [] := id rfl
theorem rd_clr {ρ : Operand → Value} {x : Operand} {z : List Value} : rdB ρ (.clr x z) = [] := id rfl
theorem rd_copy {ρ : Operand → Value} {x y : Operand} {n : Nat} : rdB ρ (.copy x y n) = [] := id rfl
theorem blk_ptr {x : Addr} : blkOf (.pointer (some x)) = [x.block] := id rfl
theorem blk_sl {i o n c : Nat} : blkOf (.slice (some ⟨i, o, none⟩) n c) = [i] := id rfl
theorem blk_nil {n c : Nat} : blkOf (.slice none n c) = [] := id rfl

theorem ex2 {α β : Type} {p : α} {q : β} {K : α → β → Prop} : (∃ v A', some (p, q) = some (v, A') ∧ K v A') = K p q := by
  apply propext
  constructor
  · rintro ⟨v, A', h, k⟩
    injection h with h; injection h with h1 h2; subst h1 h2; exact k
  · intro k; exact ⟨_, _, rfl, k⟩

/-- What an operation that is no call gives, met by what is asked. -/
def ok1 (r : Option (Value × AH)) (K : Value → AH → Prop) : Prop := ∃ v A', r = some (v, A') ∧ K v A'
def okV (r : Option Value) (K : Value → AH → Prop) (A : AH) : Prop := ∃ v, r = some v ∧ K v A
theorem okV_some {v : Value} : okV (some v) K A = K v A := by
  unfold okV
  simp
theorem ok1_some {v : Value} {A' : AH} : ok1 (some (v, A')) K = K v A' := ex2
theorem W1_mov {x : Operand} : W1 G P a A (.mov x) K = K (ev a x) A := by unfold W1; exact ex2
theorem W1_pick {c x y : Operand} : W1 G P a A (.pick c x y) K = ok1 (sPick A (ev a c) (ev a x) (ev a y)) K := id rfl
theorem W1_new {z : List Value} : W1 G P a A (.new z) K = K (.pointer (some ⟨A.length, 0, none⟩)) (A ++ [.row z .own 0 true]) := by unfold W1; exact ex2
theorem W1_box {x : Operand} : W1 G P a A (.box x) K = ok1 (sBox A (ev a x)) K := id rfl
theorem W1_build {z : List Value} {ps : List (Nat × Nat × Operand)} : W1 G P a A (.build z ps) K = ok1 (sBuild A z (ps.map fun p => (p.1, p.2.1, ev a p.2.2))) K := id rfl
theorem W1_lit {z : List Value} {sz len : Nat} {ps : List (Nat × Nat × Operand)} : W1 G P a A (.lit z sz len ps) K = ok1 (sLit A z sz len (ps.map fun p => (p.1, p.2.1, ev a p.2.2))) K := id rfl
theorem W1_load1 {x : Operand} : W1 G P a A (.load1 x) K = ok1 (sLoad1 A (ev a x)) K := id rfl
theorem W1_loadn {x : Operand} {n : Nat} : W1 G P a A (.loadn x n) K = ok1 (sLoadn A (ev a x) n) K := id rfl
theorem W1_store {x y : Operand} {n : Nat} : W1 G P a A (.store x y n) K = ok1 (sStore A (ev a x) (ev a y) n) K := id rfl
theorem W1_nilc {x : Operand} : W1 G P a A (.nilc x) K = ok1 (sNilc A (ev a x)) K := id rfl
theorem W1_bin {o : BinOp} {x y : Operand} : W1 G P a A (.bin o x y) K = okV (binA o (ev a x) (ev a y)) K A := by
  unfold W1
  simp only [step]
  apply propext
  constructor
  · rintro ⟨v, A', h, k⟩
    rw [Option.map_eq_some_iff] at h
    obtain ⟨u, h1, h2⟩ := h
    injection h2 with h2 h3; subst h2 h3
    exact ⟨_, h1, k⟩
  · rintro ⟨v, h, k⟩; exact ⟨v, A, by rw [h]; rfl, k⟩
theorem W1_un {o : UnOp} {x : Operand} : W1 G P a A (.un o x) K = okV (unA o (ev a x)) K A := by
  unfold W1
  simp only [step]
  apply propext
  constructor
  · rintro ⟨v, A', h, k⟩
    rw [Option.map_eq_some_iff] at h
    obtain ⟨u, h1, h2⟩ := h
    injection h2 with h2 h3; subst h2 h3
    exact ⟨_, h1, k⟩
  · rintro ⟨v, h, k⟩; exact ⟨v, A, by rw [h]; rfl, k⟩
theorem W1_conv {k : IntKind} {x : Operand} : W1 G P a A (.conv k x) K = ok1 (sConv A k (ev a x)) K := id rfl
theorem W1_b2s {x : Operand} : W1 G P a A (.b2s x) K = ok1 (sB2s A (ev a x)) K := id rfl
theorem W1_s2b {x : Operand} : W1 G P a A (.s2b x) K = ok1 (sS2b A (ev a x)) K := id rfl
theorem W1_field1 {x : Operand} {n : Nat} : W1 G P a A (.field1 x n) K = ok1 (sField1 A (ev a x) n) K := id rfl
theorem W1_fieldn {x : Operand} {n m : Nat} : W1 G P a A (.fieldn x n m) K = ok1 (sFieldn A (ev a x) n m) K := id rfl
theorem W1_faddr {x : Operand} {n : Nat} : W1 G P a A (.faddr x n) K = ok1 (sFaddr A (ev a x) n) K := id rfl
theorem W1_iaddr {x i : Operand} {n : Nat} : W1 G P a A (.iaddr x i n) K = ok1 (sIaddr A (ev a x) (ev a i) n) K := id rfl
theorem W1_iarr {x i : Operand} {n m : Nat} : W1 G P a A (.iarr x i n m) K = ok1 (sIarr A (ev a x) (ev a i) n m) K := id rfl
theorem W1_idxs {x i : Operand} : W1 G P a A (.idxs x i) K = ok1 (sIdxs A (ev a x) (ev a i)) K := id rfl
theorem W1_idxa1 {x i : Operand} {n : Nat} : W1 G P a A (.idxa1 x i n) K = ok1 (sIdxa1 A (ev a x) (ev a i) n) K := id rfl
theorem W1_idxan {x i : Operand} {n m : Nat} : W1 G P a A (.idxan x i n m) K = ok1 (sIdxan A (ev a x) (ev a i) n m) K := id rfl
theorem W1_sls {x : Operand} {lo hi : Option Operand} : W1 G P a A (.sls x lo hi) K = ok1 (sSls A (ev a x) (lo.map (ev a)) (hi.map (ev a))) K := id rfl
theorem W1_sll {x : Operand} {lo hi mx : Option Operand} {n : Nat} : W1 G P a A (.sll x lo hi mx n) K = ok1 (sSll A (ev a x) (lo.map (ev a)) (hi.map (ev a)) (mx.map (ev a)) n) K := id rfl
theorem W1_sla {x : Operand} {lo hi mx : Option Operand} {n m : Nat} : W1 G P a A (.sla x lo hi mx n m) K = ok1 (sSla A (ev a x) (lo.map (ev a)) (hi.map (ev a)) (mx.map (ev a)) n m) K := id rfl
theorem W1_mk {z : List Value} {b : Nat} {x y : Operand} : W1 G P a A (.mk z b x y) K = ok1 (sMk A z b (ev a x) (ev a y)) K := id rfl
theorem W1_ext {x : Operand} {i : Nat} : W1 G P a A (.ext x i) K = ok1 (sExt A (ev a x) i) K := id rfl
theorem W1_fn {f : Fn} {x y : List Operand} : W1 G P a A (.fn f x y) K = K (.func f (x.map (ev a)).toArray (y.map (ev a)).toArray) A := by unfold W1; exact ex2
theorem W1_ifc {t : TypeId} {x : Operand} : W1 G P a A (.ifc t x) K = K (.iface t (ev a x)) A := by unfold W1; exact ex2
theorem W1_lens {s : Bool} {x : Operand} : W1 G P a A (.lens s x) K = ok1 (sLens A s (ev a x)) K := id rfl
theorem W1_lenc {n : Nat} : W1 G P a A (.lenc n) K = K (.int .i64 n) A := by unfold W1; exact ex2
theorem W1_app {s x : Operand} {n m : Nat} : W1 G P a A (.app s x n m) K = ok1 (sApp A (ev a s) (ev a x) n m) K := id rfl
theorem W1_apps {s x : Operand} {n : Nat} : W1 G P a A (.apps s x n) K = ok1 (sApps A (ev a s) (ev a x) n) K := id rfl
theorem W1_clr {x : Operand} {z : List Value} : W1 G P a A (.clr x z) K = ok1 (sClr A (ev a x) z) K := id rfl
theorem W1_copy {s x : Operand} {n : Nat} : W1 G P a A (.copy s x n) K = ok1 (sCopy A (ev a s) (ev a x) n) K := id rfl
theorem W1_mn {s x : Operand} : W1 G P a A (.mn s x) K = ok1 (sMn A (ev a s) (ev a x)) K := id rfl
theorem W1_mx {s x : Operand} : W1 G P a A (.mx s x) K = ok1 (sMx A (ev a s) (ev a x)) K := id rfl
theorem W1_isnil {d : TypeDesc} {x : Operand} {n : Bool} : W1 G P a A (.isnil d x n) K = ok1 (if kindOf d (ev a x) then sIsnil A (ev a x) n else none) K := id rfl
theorem W1_strc {x : Operand} : W1 G P a A (.strc x) K = ok1 (sStr A (ev a x)) K := id rfl
theorem W1_beq {x y : Operand} {n : Bool} : W1 G P a A (.beq n x y) K = ok1 (sBeq A n (ev a x) (ev a y)) K := id rfl
theorem W1_mks {x : Operand} : W1 G P a A (.mks x) K = ok1 (sMks A (ev a x)) K := id rfl
theorem W1_callx {f : FuncId} {xs : List Operand} : W1 G P a A (.callx f xs) K = ACallX G P f (xs.map (ev a)) K A := id rfl
theorem W1_capn {x : Operand} : W1 G P a A (.capn x) K = capQ A (ev a x) K := id rfl
theorem W1_appz {s x : Operand} {z : List Value} {n : Nat} : W1 G P a A (.appz s x z n) K = ok1 (sAppz A (ev a s) (ev a x) z n) K := id rfl
theorem W1_eqagg {x y : Operand} {n : Bool} {L : List Value → Option (List Lit)} : W1 G P a A (.eqagg n L x y) K = ok1 (sEqagg A n L (ev a x) (ev a y)) K := id rfl
theorem W1_call {f : FuncId} {xs : List Operand} : W1 G P a A (.call f xs) K = ACalls G P f (xs.map (ev a)) K A := id rfl

def callD (fv : Value) (G : Nat) (P : Program) (xs : List Value) (K : Value → AH → Prop) (A : AH) : Prop := match fv with
  | .func (.func g) first captured => calleeOk P g = true ∧ ACalls G P g (first.toList ++ xs ++ captured.toList) K A
  | _ => False
theorem W1_calld {f : Operand} {xs : List Operand} : W1 G P a A (.calld f xs) K = callD (ev a f) G P (xs.map (ev a)) K A := id rfl
theorem callD_func {g : FuncId} {first captured : Array Value} {xs : List Value} : callD (.func (.func g) first captured) G P xs K A = (calleeOk P g = true ∧ ACalls G P g (first.toList ++ xs ++ captured.toList) K A) := id rfl
theorem ev_tmp {t : Nat} : ev a (.tmp t) = a t := id rfl
theorem ev_const {v : Value} : ev a (.const v) = v := id rfl
theorem ev_func {f : FuncId} : ev a (.func f) = .func (.func f) #[] #[] := id rfl
theorem ev_global {g : Nat} : ev a (.global g) = .pointer (some ⟨g, 0, none⟩) := id rfl
theorem put_some {d : Nat} {v : Value} : put a (some d) v = upd a d v := id rfl
theorem put_none {v : Value} : put a none v = a := id rfl
theorem upd_same {d : Nat} {v : Value} : upd a d v d = v := by simp [upd]
theorem upd_at {d k : Nat} {v : Value} : upd a d v k = if k = d then v else a k := id rfl

theorem W_skip : W G P .skip R a A = R .normal a A := id rfl
theorem W_ops {l : List IOp} : W G P (.ops l) R a A = Wops G P (R .normal) l [] a A := id rfl
theorem W_draw {l : List IOp} : W G P (.draw l) R a A = Wops G P (R .normal) l [] a A := id rfl
/-- What is to be done behind the first of two codes, as one word. -/
def sq (G : Nat) (P : Program) (y : IC) (R : Exit → AT → AH → Prop) : Exit → AT → AH → Prop := thenA (W G P y R) R
theorem sq_normal {y : IC} : sq G P y R .normal a A = W G P y R a A := id rfl
theorem sq_ret {y : IC} : sq G P y R .ret a A = R .ret a A := id rfl
theorem sq_exit {y : IC} {i : Nat} : sq G P y R (.exit i) a A = R (.exit i) a A := id rfl
theorem W_seq {x y : IC} : W G P (.seq x y) R a A = W G P x (sq G P y R) a A := id rfl
def condW (v : Value) (G : Nat) (P : Program) (x y : IC) (R : Exit → AT → AH → Prop) (a : AT) (A : AH) : Prop := match v with | .bool b => if b = true then W G P x R a A else W G P y R a A | _ => False
theorem W_condv {c : Operand} {x y : IC} : W G P (.cond c x y) R a A = condW (ev a c) G P x y R a A := by
  simp only [W]
  cases ev a c <;> rfl
theorem condW_true {x y : IC} : condW (.bool true) G P x y R a A = W G P x R a A := id rfl
theorem condW_false {x y : IC} : condW (.bool false) G P x y R a A = W G P y R a A := id rfl
theorem W_block {i : Nat} {x : IC} : W G P (.block i x) R a A = W G P x (inBlockA i R) a A := id rfl
theorem W_exit {i : Nat} : W G P (.exit i) R a A = R (.exit i) a A := id rfl
theorem W_ret : W G P .ret R a A = R .ret a A := id rfl
theorem thenA_normal {n : AT → AH → Prop} : thenA n R .normal a A = n a A := id rfl
theorem thenA_ret {n : AT → AH → Prop} : thenA n R .ret a A = R .ret a A := id rfl
theorem thenA_exit {n : AT → AH → Prop} {i : Nat} : thenA n R (.exit i) a A = R (.exit i) a A := id rfl
theorem inBlockA_normal {i : Nat} : inBlockA i R .normal a A = R .normal a A := id rfl
theorem inBlockA_ret {i : Nat} : inBlockA i R .ret a A = R .ret a A := id rfl
theorem inBlockA_same {i : Nat} : inBlockA i R (.exit i) a A = R .normal a A := by simp [inBlockA]
theorem inBlockA_other {i j : Nat} (h : (j == i) = false) : inBlockA i R (.exit j) a A = R (.exit j) a A := by
  have : j ≠ i := by simpa using h
  simp [inBlockA, this]
theorem noGotoA_normal : noGotoA R .normal a A = R .normal a A := id rfl
theorem noGotoA_ret : noGotoA R .ret a A = R .ret a A := id rfl
theorem noGotoA_exit {i : Nat} : noGotoA R (.exit i) a A = R (.exit i) a A := id rfl
theorem postA_normal {rs : List RV} {S : Value → AH → Prop} : postA rs S .normal a A = ∃ vs, resVs a A rs = some vs ∧ S (tupleOf vs) A := id rfl
theorem postA_ret {rs : List RV} {S : Value → AH → Prop} : postA rs S .ret a A = ∃ vs, resVs a A rs = some vs ∧ S (tupleOf vs) A := id rfl
theorem resVs_nil : resVs a A [] = some [] := id rfl
theorem resVs_tmp {t : Nat} {r : List RV} : resVs a A (.tmp t :: r) = (resVs a A r).map (a t :: ·) := id rfl

theorem resVs_one {t : Nat} {r : List RV} : resVs a A (.one t :: r) = ((sLoad1 A (a t)).map (·.1)).bind fun v => (resVs a A r).map (v :: ·) := id rfl
theorem resVs_many {t n : Nat} {r : List RV} : resVs a A (.many t n :: r) = ((sLoadn A (a t) n).map (·.1)).bind fun v => (resVs a A r).map (v :: ·) := id rfl

theorem W_loop {x : IC} (I : AT → AH → Prop) (m : AT → AH → Nat) (h0 : I a A) (h : ∀ a A, I a A → W G P x (thenA (fun a' A' => I a' A' ∧ m a' A' < m a A) R) a A) : W G P (.loop x) R a A := ⟨I, m, h0, h⟩

theorem W_mono {x : IC} : ∀ {R R' : Exit → AT → AH → Prop} {a : AT} {A : AH}, (∀ e a A, R e a A → R' e a A) → W G P x R a A → W G P x R' a A := by
  have opsm : ∀ (l : List IOp) {Rd : List Nat} {Q Q' : AT → AH → Prop} {a : AT} {A : AH}, (∀ a A, Q a A → Q' a A) → Wops G P Q l Rd a A → Wops G P Q' l Rd a A := by
    intro l
    induction l with
    | nil => intro Rd Q Q' a A hq h; exact hq _ _ h
    | cons o r ih =>
      intro Rd Q Q' a A hq h
      simp only [Wops] at h ⊢
      split
      · rename_i hc
        rw [if_pos hc] at h
        exact W1_mono (fun v A' ⟨h1, h2⟩ => ⟨h1, ih hq h2⟩) h
      · rename_i hc
        rw [if_neg hc] at h
        exact ih hq h
  induction x with
  | skip => intro R R' a A hr h; exact hr _ _ _ h
  | ops l => intro R R' a A hr h; exact opsm l (hr _) h
  | draw l => intro R R' a A hr h; exact opsm l (hr _) h
  | tree t => intro R R' a A hr h; exact Wt_mono t (hr _) h
  | seq x y ihx ihy =>
    intro R R' a A hr h
    refine ihx (fun e a A h => ?_) h
    cases e <;> first | exact ihy hr h | exact hr _ _ _ h
  | cond c x y ihx ihy =>
    intro R R' a A hr h
    simp only [W] at h ⊢
    split at h
    · rename_i b hb
      cases b
      · exact ihy hr h
      · exact ihx hr h
    · exact h.elim
  | block i x ih =>
    intro R R' a A hr h
    refine ih (fun e a A h => ?_) h
    cases e with
    | exit j =>
      simp only [inBlockA] at h ⊢
      by_cases hj : j = i
      · rw [if_pos hj] at h ⊢; exact hr _ _ _ h
      · rw [if_neg hj] at h ⊢; exact hr _ _ _ h
    | _ => exact hr _ _ _ h
  | loop x ih =>
    rintro R R' a A hr ⟨I, m, h0, h1⟩
    refine ⟨I, m, h0, fun a A hi => ih (fun e a A h => ?_) (h1 a A hi)⟩
    cases e <;> first | exact h | exact hr _ _ _ h
  | exit i => intro R R' a A hr h; exact hr _ _ _ h
  | ret => intro R R' a A hr h; exact hr _ _ _ h
  | scope x ih =>
    intro R R' a A hr h
    refine ih (fun e a A h => ?_) h
    cases e <;> first | exact hr _ _ _ h | exact h

end
end Go.AS


namespace Go.AS
open Go
set_option linter.unusedVariables false
set_option linter.unusedSimpArgs false

def by8 (b : UInt8) : Value := .int .u8 (b.toNat : Int)
abbrev ii (n : Int) : Value := .int .i64 n

theorem wrap_i64 (n : Int) (h1 : -(2 ^ 63) ≤ n) (h2 : n < 2 ^ 63) : IntKind.i64.wrap n = n := by
  unfold IntKind.wrap; simp [IntKind.bits, IntKind.signed]; omega
theorem conv_ii_ii (A : AH) (n : Int) (h1 : -(2 ^ 63) ≤ n) (h2 : n < 2 ^ 63) : sConv A .i64 (ii n) = some (ii n, A) := by
  simp only [sConv, ii]
  rw [wrap_i64 _ h1 h2]
theorem binA_lss (k : IntKind) (a b : Int) : binA .lss (.int k a) (.int k b) = some (.bool (decide (a < b))) := by simp [binA]
theorem binA_leq (k : IntKind) (a b : Int) : binA .leq (.int k a) (.int k b) = some (.bool (decide (a ≤ b))) := by simp [binA]
theorem binA_gtr (k : IntKind) (a b : Int) : binA .gtr (.int k a) (.int k b) = some (.bool (decide (a > b))) := by simp [binA]
theorem binA_geq (k : IntKind) (a b : Int) : binA .geq (.int k a) (.int k b) = some (.bool (decide (a ≥ b))) := by simp [binA]
theorem binA_eql (k : IntKind) (a b : Int) : binA .eql (.int k a) (.int k b) = some (.bool (a == b)) := by simp [binA]
theorem binA_neq (k : IntKind) (a b : Int) : binA .neq (.int k a) (.int k b) = some (.bool (a != b)) := by simp [binA]
theorem binA_addi (a b : Int) (h1 : -(2 ^ 63) ≤ a + b) (h2 : a + b < 2 ^ 63) : binA .add (ii a) (ii b) = some (ii (a + b)) := by
  simp only [binA, ii, if_true]; rw [wrap_i64 _ h1 h2]
def iv : Value → Int | .int _ n => n | _ => 0
theorem iv_ii {k : IntKind} {n : Int} : iv (.int k n) = n := id rfl
theorem binA_subi (a b : Int) (h1 : -(2 ^ 63) ≤ a - b) (h2 : a - b < 2 ^ 63) : binA .sub (ii a) (ii b) = some (ii (a - b)) := by
  simp only [binA, ii, if_true]; rw [wrap_i64 _ h1 h2]
theorem binA_muli (a b : Int) (h1 : -(2 ^ 63) ≤ a * b) (h2 : a * b < 2 ^ 63) : binA .mul (ii a) (ii b) = some (ii (a * b)) := by
  simp only [binA, ii, if_true]; rw [wrap_i64 _ h1 h2]

theorem pick_true {A : AH} {x y : Value} : sPick A (.bool true) x y = some (x, A) := id rfl
theorem pick_false {A : AH} {x y : Value} : sPick A (.bool false) x y = some (y, A) := id rfl
theorem pick_b {A : AH} {b : Bool} {x y : Value} : sPick A (.bool b) x y = some (if b then x else y, A) := id rfl
theorem not_b {b : Bool} : unA .not (.bool b) = some (.bool (!b)) := id rfl
theorem gd_bt {b : Bool} : gd (.bool b) true = b := by cases b <;> rfl
theorem gd_bf {b : Bool} : gd (.bool b) false = !b := by cases b <;> rfl
/-- Bytes in a slice. -/
def Byt (A : AH) (v : Value) (bs : List UInt8) : Prop := Sl A 1 v bs.length (bs.map by8)

section
variable {A B : AH} {v : Value} {sz n : Nat} {cs : List Value}

theorem Sl.le (h : Sl A sz v n cs) (hl : Le A B) : Sl B sz v n cs := by
  obtain ⟨h0, h⟩ := h
  refine ⟨h0, ?_⟩
  rcases h with h | h | ⟨i, o, c, rc, st, ex, h1, h2, h3, h4, h5, h6⟩
  · exact .inl h
  · exact .inr (.inl h)
  · exact .inr (.inr ⟨i, o, c, rc, st, ex, h1, h2, hl.get h3, h4, h5, h6⟩)
theorem Byt.le {bs : List UInt8} (h : Byt A v bs) (hl : Le A B) : Byt B v bs := Sl.le h hl

/-- A slice, of whatever row (a slice of an array's row, too): it may be read. -/
def SlR (A : AH) (sz : Nat) (v : Value) (n : Nat) (cs : List Value) : Prop :=
  cs.length = n * sz ∧ ((v = .slice none 0 0 ∧ n = 0) ∨ (v = .slice (some zmk) 0 0 ∧ n = 0) ∨
  ∃ i o c rc st bsz ex, v = .slice (some ⟨i, o, none⟩) n c ∧ n ≤ c ∧ A[i]? = some (.row rc st bsz ex) ∧ st ≠ .dead ∧ o + n * sz ≤ rc.length ∧ ∀ j, j < n * sz → rc[o + j]? = cs[j]?)
theorem Sl.r (h : Sl A sz v n cs) : SlR A sz v n cs := by
  obtain ⟨h0, h⟩ := h
  refine ⟨h0, ?_⟩
  rcases h with h | h | ⟨i, o, c, rc, st, ex, h1, h2, h3, h4, h5, h6⟩
  · exact .inl h
  · exact .inr (.inl h)
  · exact .inr (.inr ⟨i, o, c, rc, st, sz, ex, h1, h2, h3, h4, h5, h6⟩)
theorem SlR.le (h : SlR A sz v n cs) (hl : Le A B) : SlR B sz v n cs := by
  obtain ⟨h0, h⟩ := h
  refine ⟨h0, ?_⟩
  rcases h with h | h | ⟨i, o, c, rc, st, bsz, ex, h1, h2, h3, h4, h5, h6⟩
  · exact .inl h
  · exact .inr (.inl h)
  · exact .inr (.inr ⟨i, o, c, rc, st, bsz, ex, h1, h2, hl.get h3, h4, h5, h6⟩)
theorem SlR.keep (h : SlR A sz v n cs) (hk : ∀ i b, A[i]? = some b → (∃ o c, v = .slice (some ⟨i, o, none⟩) n c) → B[i]? = some b) : SlR B sz v n cs := by
  obtain ⟨h0, h⟩ := h
  refine ⟨h0, ?_⟩
  rcases h with h | h | ⟨i, o, c, rc, st, bsz, ex, h1, h2, h3, h4, h5, h6⟩
  · exact .inl h
  · exact .inr (.inl h)
  · exact .inr (.inr ⟨i, o, c, rc, st, bsz, ex, h1, h2, hk i _ h3 ⟨o, c, h1⟩, h4, h5, h6⟩)
theorem SlR.len (h : SlR A sz v n cs) : sLens A false v = some (ii n, A) := by
  obtain ⟨h0, h⟩ := h
  rcases h with ⟨rfl, rfl⟩ | ⟨rfl, rfl⟩ | ⟨i, o, c, rc, st, bsz, ex, rfl, h2, h3, h4, h5, h6⟩ <;> simp [sLens, ii]
theorem SlR.at1 {v0 : Value} (h : SlR A 1 v n cs) {j : Nat} (hj : cs[j]? = some v0) : ∃ p, sIaddr A v (ii j) 1 = some (p, A) ∧ sLoad1 A p = some (v0, A) := by
  obtain ⟨h0, h⟩ := h
  have hlt := lt_of_get hj
  rcases h with ⟨rfl, rfl⟩ | ⟨rfl, rfl⟩ | ⟨i, o, c, rc, st, bsz, ex, rfl, h2, h3, h4, h5, h6⟩
  · omega
  · omega
  · refine ⟨.pointer (some ⟨i, o + j, none⟩), ?_, ?_⟩
    · unfold sIaddr
      simp only [ii, asI, Option.bind_some]
      rw [if_pos ⟨by omega, by omega⟩]
      simp
    · unfold sLoad1 getRow
      simp only [h3, if_neg h4, Option.bind_some]
      rw [h6 j (by omega), hj]
      rfl
theorem Sl.len (h : Sl A sz v n cs) : sLens A false v = some (ii n, A) := by
  obtain ⟨h0, h⟩ := h
  rcases h with ⟨rfl, rfl⟩ | ⟨rfl, rfl⟩ | ⟨i, o, c, rc, st, ex, rfl, h2, h3, h4, h5, h6⟩ <;> simp [sLens, ii]
theorem Byt.len {bs : List UInt8} (h : Byt A v bs) : sLens A false v = some (ii bs.length, A) := Sl.len h

theorem Sl.rd (h : Sl A sz v n cs) : rdSl A sz v = some cs := by
  obtain ⟨h0, h⟩ := h
  rcases h with ⟨rfl, rfl⟩ | ⟨rfl, rfl⟩ | ⟨i, o, c, rc, st, ex, rfl, h2, h3, h4, h5, h6⟩
  · have : cs = [] := by simpa using h0
    subst this; rfl
  · have : cs = [] := by simpa using h0
    subst this; rfl
  · unfold rdSl
    simp only
    split
    · rename_i hn
      subst hn
      have : cs = [] := by simpa using h0
      subst this; rfl
    · unfold getRow
      rw [h3]
      simp only [if_neg h4, Option.bind_some]
      unfold cut
      rw [if_pos h5]
      congr 1
      apply List.ext_getElem?
      intro j
      rcases Nat.lt_or_ge j (n * sz) with hj | hj
      · rw [List.getElem?_take_of_lt hj, List.getElem?_drop, h6 j hj]
      · rw [List.getElem?_eq_none (by simp; omega), List.getElem?_eq_none (by omega)]
theorem Byt.rd {bs : List UInt8} (h : Byt A v bs) : rdSl A 1 v = some (bs.map by8) := Sl.rd h

/-- The j-th element's address, and what is there (elements of one cell). -/
theorem Sl.at1 {v0 : Value} (h : Sl A 1 v n cs) {j : Nat} (hj : cs[j]? = some v0) : ∃ p, sIaddr A v (ii j) 1 = some (p, A) ∧ sLoad1 A p = some (v0, A) := by
  obtain ⟨h0, h⟩ := h
  have hlt := lt_of_get hj
  rcases h with ⟨rfl, rfl⟩ | ⟨rfl, rfl⟩ | ⟨i, o, c, rc, st, ex, rfl, h2, h3, h4, h5, h6⟩
  · omega
  · omega
  · refine ⟨.pointer (some ⟨i, o + j, none⟩), ?_, ?_⟩
    · unfold sIaddr
      simp only [ii, asI, Option.bind_some]
      rw [if_pos ⟨by omega, by omega⟩]
      simp
    · unfold sLoad1 getRow
      simp only [h3, if_neg h4, Option.bind_some]
      rw [h6 j (by omega), hj]
      rfl
theorem Byt.at1 {bs : List UInt8} (h : Byt A v bs) {j : Nat} {b : UInt8} (hj : bs[j]? = some b) : ∃ p, sIaddr A v (ii j) 1 = some (p, A) ∧ sLoad1 A p = some (by8 b, A) :=
  Sl.at1 h (by rw [List.getElem?_map, hj]; rfl)

end
end Go.AS


namespace Go.AS
open Go
set_option linter.unusedVariables false
set_option linter.unusedSimpArgs false

/-- A slice whose row is the call's own, and stands behind block a0. -/
def OwnS (a0 : Nat) (A : AH) (sz : Nat) (v : Value) (n : Nat) (cs : List Value) : Prop :=
  cs.length = n * sz ∧ ((v = .slice none 0 0 ∧ n = 0) ∨ (v = .slice (some zmk) 0 0 ∧ n = 0) ∨
  ∃ i o c rc ex, v = .slice (some ⟨i, o, none⟩) n c ∧ n ≤ c ∧ a0 ≤ i ∧ A[i]? = some (.row rc .own sz ex) ∧ o + n * sz ≤ rc.length ∧ ∀ j, j < n * sz → rc[o + j]? = cs[j]?)
def OwnB (a0 : Nat) (A : AH) (v : Value) (bs : List UInt8) : Prop := OwnS a0 A 1 v bs.length (bs.map by8)

section
variable {A A0 B : AH} {v : Value} {sz n a0 : Nat} {cs : List Value}

theorem OwnS.sl (h : OwnS a0 A sz v n cs) : Sl A sz v n cs := by
  obtain ⟨h0, h⟩ := h
  refine ⟨h0, ?_⟩
  rcases h with h | h | ⟨i, o, c, rc, ex, h1, h2, h3, h4, h5, h6⟩
  · exact .inl h
  · exact .inr (.inl h)
  · exact .inr (.inr ⟨i, o, c, rc, .own, ex, h1, h2, h4, by simp, h5, h6⟩)
theorem OwnS.nil (a0 : Nat) (A : AH) (sz : Nat) : OwnS a0 A sz (.slice none 0 0) 0 [] := ⟨by simp, .inl ⟨rfl, rfl⟩⟩
theorem OwnB.nil (a0 : Nat) (A : AH) : OwnB a0 A (.slice none 0 0) [] := OwnS.nil a0 A 1
theorem OwnS.le (h : OwnS a0 A sz v n cs) (hl : Le A B) : OwnS a0 B sz v n cs := by
  obtain ⟨h0, h⟩ := h
  refine ⟨h0, ?_⟩
  rcases h with h | h | ⟨i, o, c, rc, ex, h1, h2, h3, h4, h5, h6⟩
  · exact .inl h
  · exact .inr (.inl h)
  · exact .inr (.inr ⟨i, o, c, rc, ex, h1, h2, h3, hl.get h4, h5, h6⟩)
theorem OwnS.mono {b0 : Nat} (h : OwnS a0 A sz v n cs) (hb : b0 ≤ a0) : OwnS b0 A sz v n cs := by
  obtain ⟨h0, h⟩ := h
  refine ⟨h0, ?_⟩
  rcases h with h | h | ⟨i, o, c, rc, ex, h1, h2, h3, h4, h5, h6⟩
  · exact .inl h
  · exact .inr (.inl h)
  · exact .inr (.inr ⟨i, o, c, rc, ex, h1, h2, by omega, h4, h5, h6⟩)

theorem Le.of_get {A B : AH} (h : ∀ i, i < A.length → B[i]? = A[i]?) (hl : A.length ≤ B.length) : Le A B := by
  refine ⟨B.drop A.length, ?_⟩
  apply List.ext_getElem?
  intro i
  rcases Nat.lt_or_ge i A.length with hi | hi
  · rw [List.getElem?_append_left hi, h i hi]
  · rw [List.getElem?_append_right hi, List.getElem?_drop, Nat.add_sub_cancel' hi]
theorem Le.set {A B : AH} (h : Le A B) {i : Nat} {b : Blk} (hi : A.length ≤ i) : Le A (B.set i b) := by
  refine Le.of_get (fun j hj => ?_) (by rw [List.length_set]; exact h.len)
  rw [List.getElem?_set_ne (by omega)]
  obtain ⟨r, rfl⟩ := h
  rw [List.getElem?_append_left hj]
theorem Le.app {A B : AH} (h : Le A B) (r : AH) : Le A (B ++ r) := h.trans ⟨r, rfl⟩

theorem appA_none {A : AH} {s : Value} {k sz bytes : Nat} {new : List Value} (hk : 0 < k) {r : List Value × AH × Nat} (h : appBase A s sz k = some r) (hb : 2 * ((r.2.2 + k) * bytes) ≤ 2 ^ 48) (hb0 : 0 < bytes)
    (hn : new.length = k * sz) (ho : ones new = true) (hf : appF A s new k sz bytes = none) (hfi : appI A s new k sz bytes = none) : appA A s new k sz bytes = some (.slice (some ⟨r.2.1.length, 0, none⟩) (r.2.2 + k) (r.2.2 + k), r.2.1 ++ [Blk.row (r.1 ++ new) .own sz false]) := by
  unfold appA
  rw [hfi, Option.none_or]
  unfold appA1
  rw [hf, Option.none_or]
  unfold appA0
  rw [if_neg (by omega), h]
  simp only [Option.bind_some]
  rw [if_pos ⟨hb, hb0, hn, ho⟩]

/-- APPEND to a slice of the call's own. -/
theorem app_own (hl : Le A0 A) (h : OwnS A0.length A sz v n cs) {new : List Value} {k bytes : Nat} (hsz : 0 < sz) (hb : 2 * ((n + k) * bytes) ≤ 2 ^ 48) (hb0 : 0 < bytes) (hn : new.length = k * sz) (ho : ones new = true) :
    ∃ v' A', appA A v new k sz bytes = some (v', A') ∧ Le A0 A' ∧ OwnS A0.length A' sz v' (n + k) (cs ++ new) ∧ (∀ i b, A[i]? = some b → (∀ o c, v ≠ .slice (some ⟨i, o, none⟩) n c) → A'[i]? = some b) := by
  obtain ⟨h0, h⟩ := h
  by_cases hk : k = 0
  · subst hk
    have hnew : new = [] := by simpa using hn
    subst hnew
    refine ⟨v, A, ?_, hl, ⟨by simp [h0], ?_⟩, fun i b hb _ => hb⟩
    · unfold appA
      rw [appI_zero, Option.none_or]
      unfold appA1
      rw [appF_zero, Option.none_or]
      unfold appA0
      rw [if_pos rfl]
      rcases h with ⟨rfl, _⟩ | ⟨rfl, _⟩ | ⟨i, o, c, rc, ex, rfl, _⟩ <;> rfl
    · rw [List.append_nil]; exact h
  · have fin : ∀ (old : List Value) (A1 : AH), appF A v new k sz bytes = none → appI A v new k sz bytes = none → appBase A v sz k = some (old, A1, n) → old = cs → Le A0 A1 → A.length ≤ A1.length → (∀ i b, A[i]? = some b → (∀ o c, v ≠ .slice (some ⟨i, o, none⟩) n c) → A1[i]? = some b) →
        ∃ v' A', appA A v new k sz bytes = some (v', A') ∧ Le A0 A' ∧ OwnS A0.length A' sz v' (n + k) (cs ++ new) ∧ (∀ i b, A[i]? = some b → (∀ o c, v ≠ .slice (some ⟨i, o, none⟩) n c) → A'[i]? = some b) := by
      intro old A1 hf hfi hbase ho1 hle hlen hkeep
      subst ho1
      refine ⟨_, _, appA_none (by omega) hbase hb hb0 hn ho hf hfi, hle.app _, ⟨by simp [h0, hn, Nat.add_mul], .inr (.inr ⟨A1.length, 0, n + k, old ++ new, false, rfl, Nat.le_refl _, hle.len, by simp, by simp [h0, hn, Nat.add_mul], fun j _ => by rw [Nat.zero_add]⟩)⟩, ?_⟩
      intro i b hb hv
      have := hkeep i b hb hv
      rw [List.getElem?_append_left (lt_of_get this)]
      exact this
    rcases h with ⟨rfl, rfl⟩ | ⟨rfl, rfl⟩ | ⟨i, o, c, rc, ex, rfl, h1, h2, h3, h4, h5⟩
    · have : cs = [] := by simpa using h0
      exact fin [] A (appF_flat (fun _ _ h => by cases h)) (appI_flat (fun _ _ h => by cases h)) rfl this.symm hl (Nat.le_refl _) (fun i b hb _ => hb)
    · have : cs = [] := by simpa using h0
      exact fin [] A (appF_flat (fun _ _ h => by cases h)) (appI_flat (fun _ _ h => by cases h)) rfl this.symm hl (Nat.le_refl _) (fun i b hb _ => hb)
    · have hold : (rc.drop o).take (n * sz) = cs := by
        apply List.ext_getElem?
        intro j
        rcases Nat.lt_or_ge j (n * sz) with hj | hj
        · rw [List.getElem?_take_of_lt hj, List.getElem?_drop, h5 j hj]
        · rw [List.getElem?_eq_none (by simp; omega), List.getElem?_eq_none (by omega)]
      have hbase : appBase A (.slice (some ⟨i, o, none⟩) n c) sz k = some ((rc.drop o).take (n * sz), (if ex = true ∧ rc.length < o + (n + k) * sz then A else A.set i (Blk.row rc .dead sz ex)), n) := by
        unfold appBase
        simp only [h3]
        rw [if_pos ⟨trivial, hsz, h4⟩]
      by_cases hin : n + k ≤ c ∧ o + (n + k) * sz ≤ rc.length
      · have hI : appI A (.slice (some ⟨i, o, none⟩) n c) new k sz bytes = some (.slice (some ⟨i, o, none⟩) (n + k) c, A.set i (.row (setAll rc (o + n * sz) new) .own sz ex)) := by
          unfold appI
          simp only [h3]
          rw [if_pos ⟨by omega, trivial, hsz, hin.1, hin.2, hb, hb0, hn, ho⟩]
        have hr2 := hin.2
        rw [Nat.add_mul] at hr2
        refine ⟨_, _, by unfold appA; rw [hI]; rfl, hl.set h2, ⟨by simp [h0, hn, Nat.add_mul], .inr (.inr ⟨i, o, c, setAll rc (o + n * sz) new, ex, rfl, hin.1, h2, by rw [List.getElem?_set_self (lt_of_get h3)], by rw [setAll_length _ _ _ (by rw [hn]; omega)]; exact hin.2, ?_⟩)⟩, ?_⟩
        · intro j hj
          rw [setAll_get _ _ _ (by rw [hn]; omega), List.getElem?_append]
          rw [Nat.add_mul] at hj
          by_cases hjn : j < n * sz
          · rw [if_neg (by omega), if_pos (by omega)]
            exact h5 j hjn
          · rw [if_pos (by omega), if_neg (by omega), h0]
            congr 1
            omega
        · intro q b hbq hv
          rw [List.getElem?_set_ne ?_]
          · exact hbq
          · rintro rfl
            exact hv _ _ rfl
      have hInone : appI A (.slice (some ⟨i, o, none⟩) n c) new k sz bytes = none := by
        unfold appI
        simp only [h3]
        rw [if_neg (fun h => hin ⟨h.2.2.2.1, h.2.2.2.2.1⟩)]
      refine fin _ _ (appF_own h3) hInone hbase hold ?_ ?_ ?_
      · split
        · exact hl
        · exact hl.set h2
      · split
        · exact Nat.le_refl _
        · rw [List.length_set]; exact Nat.le_refl _
      · intro k b hb hv
        split
        · exact hb
        · rw [List.getElem?_set_ne ?_]
          · exact hb
          · rintro rfl
            exact hv o c rfl

theorem Byt.ones8 (bs : List UInt8) : ones (bs.map by8) = true := by
  unfold ones
  rw [List.all_eq_true]
  intro v hv
  rw [List.mem_map] at hv
  obtain ⟨b, _, rfl⟩ := hv
  rfl

/-- append(v, x...): bytes. -/
theorem app_bytes {bs xs : List UInt8} {x : Value} (hl : Le A0 A) (h : OwnB A0.length A v bs) (hx : Byt A x xs) (hb : bs.length + xs.length ≤ 2 ^ 47) :
    ∃ v' A', sApp A v x 1 1 = some (v', A') ∧ Le A0 A' ∧ OwnB A0.length A' v' (bs ++ xs) ∧ (∀ i b, A[i]? = some b → (∀ o c, v ≠ .slice (some ⟨i, o, none⟩) bs.length c) → A'[i]? = some b) := by
  obtain ⟨v', A', h1, h2, h3, h4⟩ := app_own (new := xs.map by8) (k := xs.length) (bytes := 1) hl h (by omega) (by omega) (by omega) (by simp) (Byt.ones8 xs)
  refine ⟨v', A', ?_, h2, ?_, h4⟩
  · have hr := hx.rd
    obtain ⟨_, hx⟩ := hx
    have : ∃ p c, x = .slice p xs.length c := by
      rcases hx with ⟨rfl, h⟩ | ⟨rfl, h⟩ | ⟨i, o, c, rc, st, ex, rfl, _⟩
      · exact ⟨_, _, by rw [h]⟩
      · exact ⟨_, _, by rw [h]⟩
      · exact ⟨_, _, rfl⟩
    obtain ⟨p, c, rfl⟩ := this
    unfold sApp
    simp only [hr, Option.bind_some, h1]
  · unfold OwnB
    rw [List.length_append, List.map_append]
    exact h3

theorem set_last (A : AH) (b b' : Blk) : (A ++ [b]).set A.length b' = A ++ [b'] := by
  rw [List.set_append_right _ _ (Nat.le_refl _)]
  simp
theorem get_last (A : AH) (b : Blk) : (A ++ [b])[A.length]? = some b := by simp
end
end Go.AS


namespace Go.AS
open Go
set_option linter.unusedVariables false
set_option linter.unusedSimpArgs false

section
variable {A A0 B : AH} {v : Value} {sz n a0 : Nat} {cs : List Value}

theorem bnd_lo {k c : Nat} (h : k ≤ n) (hc : n ≤ c) : boundsA n c (some (ii k)) none none = some (k, n, c) := by
  unfold boundsA
  simp only [ii, asI, Option.bind_some]
  rw [if_pos (by omega)]
  simp
theorem bnd_hi {k c : Nat} (h : k ≤ c) : boundsA n c none (some (ii k)) none = some (0, k, c) := by
  unfold boundsA
  simp only [ii, asI, Option.bind_some]
  rw [if_pos (by omega)]
  simp
theorem Sl.cut (h : Sl A sz v n cs) {lo hi : Option Value} {l k : Nat} (hlk : l ≤ k) (hk : k ≤ n) (hb : ∀ c, n ≤ c → boundsA n c lo hi none = some (l, k, c)) :
    ∃ u, sSll A v lo hi none sz = some (u, A) ∧ Sl A sz u (k - l) ((cs.drop (l * sz)).take ((k - l) * sz)) := by
  obtain ⟨h0, h⟩ := h
  have hmul : l * sz + (k - l) * sz ≤ n * sz := by rw [← Nat.add_mul]; exact Nat.mul_le_mul_right _ (by omega)
  rcases h with ⟨rfl, rfl⟩ | ⟨rfl, rfl⟩ | ⟨i, o, c, rc, st, ex, rfl, h2, h3, h4, h5, h6⟩
  · have : l = 0 := by omega
    have : k = 0 := by omega
    subst l k
    refine ⟨.slice none 0 0, ?_, ⟨by simp [h0], .inl ⟨rfl, rfl⟩⟩⟩
    unfold sSll
    simp only [hb 0 (Nat.le_refl _)]
    rfl
  · have : l = 0 := by omega
    have : k = 0 := by omega
    subst l k
    refine ⟨.slice (some zmk) 0 0, ?_, ⟨by simp [h0], .inr (.inl ⟨rfl, rfl⟩)⟩⟩
    unfold sSll zmk
    simp only [hb 0 (Nat.le_refl _)]
    rfl
  · refine ⟨.slice (some ⟨i, o + l * sz, none⟩) (k - l) (c - l), ?_, ⟨by rw [List.length_take, List.length_drop]; omega, .inr (.inr ⟨i, o + l * sz, c - l, rc, st, ex, rfl, by omega, h3, h4, by omega, ?_⟩)⟩⟩
    · unfold sSll
      simp only [hb c h2, Option.bind_some]
      unfold rowSz
      rw [h3]
      simp
    · intro j hj
      rw [List.getElem?_take_of_lt hj, List.getElem?_drop, Nat.add_assoc, h6 _ (by omega)]

theorem Byt.cut {bs : List UInt8} (h : Byt A v bs) {lo hi : Option Value} {l k : Nat} (hlk : l ≤ k) (hk : k ≤ bs.length) (hb : ∀ c, bs.length ≤ c → boundsA bs.length c lo hi none = some (l, k, c)) :
    ∃ u, sSll A v lo hi none 1 = some (u, A) ∧ Byt A u ((bs.drop l).take (k - l)) := by
  obtain ⟨u, h1, h2⟩ := Sl.cut h hlk hk hb
  refine ⟨u, h1, ?_⟩
  unfold Byt
  have e : ((bs.drop l).take (k - l)).length = k - l := by rw [List.length_take, List.length_drop]; omega
  rw [e]
  simpa using h2
theorem Byt.from {bs : List UInt8} (h : Byt A v bs) {l : Nat} (hl : l ≤ bs.length) : ∃ u, sSll A v (some (ii l)) none none 1 = some (u, A) ∧ Byt A u (bs.drop l) := by
  obtain ⟨u, h1, h2⟩ := h.cut (lo := some (ii l)) (hi := none) hl (Nat.le_refl _) (fun c hc => bnd_lo hl hc)
  rw [List.take_of_length_le (by simp)] at h2
  exact ⟨u, h1, h2⟩
/-- The places of a literal whose elements are one cell each. -/
def mkP : Nat → List Value → List (Nat × Nat × Value)
  | _, [] => []
  | k, x :: r => (k, 1, x) :: mkP (k + 1) r
def one1 (x : Value) : Prop := x.cells = #[x] ∧ x.oneCell' = true
theorem one1_str (b : ByteArray) : one1 (.string b) := ⟨rfl, rfl⟩
theorem one1_sl (p : Option Addr) (n c : Nat) : one1 (.slice p n c) := ⟨rfl, rfl⟩
theorem fill_mkP : ∀ (xs : List Value) (pre post : List Value), (∀ x ∈ xs, one1 x) → post.length = xs.length → fillA (pre ++ post) (mkP pre.length xs) = some (pre ++ xs)
  | [], pre, post, _, hl => by
    have : post = [] := by simpa using hl
    subst this; rfl
  | x :: r, pre, post, hx, hl => by
    cases post with
    | nil => simp at hl
    | cons y post =>
      obtain ⟨h1, h2⟩ := hx x (by simp)
      simp only [mkP, fillA, h1]
      have ho : ones [x] = true := by simp [ones, h2]
      rw [if_pos ⟨by simp, by simp, by simpa using ho⟩]
      have e : setAll (pre ++ y :: post) pre.length #[x].toList = (pre ++ [x]) ++ post := by
        unfold setAll
        simp
      rw [e]
      have := fill_mkP r (pre ++ [x]) post (fun x hx' => hx x (by simp [hx'])) (by simpa using hl)
      simpa using this
theorem lit1 {z : Value} {len : Nat} {ps : List (Nat × Nat × Value)} (xs : List Value) (hp : ps = mkP 0 xs) (hl : len = xs.length) (hx : ∀ x ∈ xs, one1 x) :
    sLit A [z] 1 len ps = some (.slice (some ⟨A.length, 0, none⟩) xs.length xs.length, A ++ [.row xs .own 1 true]) := by
  subst hp hl
  unfold sLit
  have e : (List.replicate xs.length [z]).flatten = List.replicate xs.length z := by simp
  have := fill_mkP xs [] (List.replicate xs.length z) hx (by simp)
  simp only [List.nil_append, List.length_nil] at this
  rw [e, this]
  rfl

theorem Sl.keep (h : Sl A sz v n cs) (hk : ∀ i b, A[i]? = some b → (∃ o c, v = .slice (some ⟨i, o, none⟩) n c) → B[i]? = some b) : Sl B sz v n cs := by
  obtain ⟨h0, h⟩ := h
  refine ⟨h0, ?_⟩
  rcases h with h | h | ⟨i, o, c, rc, st, ex, h1, h2, h3, h4, h5, h6⟩
  · exact .inl h
  · exact .inr (.inl h)
  · exact .inr (.inr ⟨i, o, c, rc, st, ex, h1, h2, hk i _ h3 ⟨o, c, h1⟩, h4, h5, h6⟩)
/-- append(v, x...): any cells. -/
theorem app_cells {k bytes : Nat} {new : List Value} {x : Value} (hl : Le A0 A) (h : OwnS A0.length A sz v n cs) (hx : Sl A sz x k new) (ho : ones new = true) (hsz : 0 < sz) (hb : 2 * ((n + k) * bytes) ≤ 2 ^ 48) (hb0 : 0 < bytes) :
    ∃ v' A', sApp A v x sz bytes = some (v', A') ∧ Le A0 A' ∧ OwnS A0.length A' sz v' (n + k) (cs ++ new) ∧ (∀ i b, A[i]? = some b → (∀ o c, v ≠ .slice (some ⟨i, o, none⟩) n c) → A'[i]? = some b) := by
  obtain ⟨v', A', h1, h2, h3, h4⟩ := app_own (new := new) (k := k) (bytes := bytes) hl h hsz hb hb0 hx.1 ho
  refine ⟨v', A', ?_, h2, h3, h4⟩
  have hr := hx.rd
  obtain ⟨_, hx⟩ := hx
  have : ∃ p c, x = .slice p k c := by
    rcases hx with ⟨rfl, h⟩ | ⟨rfl, h⟩ | ⟨i, o, c, rc, st, ex, rfl, _⟩
    · exact ⟨_, _, by rw [h]⟩
    · exact ⟨_, _, by rw [h]⟩
    · exact ⟨_, _, rfl⟩
  obtain ⟨p, c, rfl⟩ := this
  unfold sApp
  simp only [hr, Option.bind_some, h1]
theorem sl_last (A : AH) {cs : List Value} {st : St} {ex : Bool} {c : Nat} (h : st ≠ .dead) (hc : cs.length ≤ c) : Sl (A ++ [.row cs st 1 ex]) 1 (.slice (some ⟨A.length, 0, none⟩) cs.length c) cs.length cs :=
  ⟨by simp, .inr (.inr ⟨A.length, 0, c, cs, st, ex, rfl, hc, get_last _ _, h, by simp, fun j _ => by rw [Nat.zero_add]⟩)⟩
theorem ext0 {x y : Value} : sExt A (.tuple #[x, y]) 0 = some (x, A) := id rfl
theorem ext1 {x y : Value} : sExt A (.tuple #[x, y]) 1 = some (y, A) := id rfl

/-- Bytes as a text. -/
theorem bytesA_by8 (bs : List UInt8) : bytesA (bs.map by8) = some bs := by
  induction bs with
  | nil => rfl
  | cons b r ih =>
    simp only [List.map_cons, bytesA, ih, Option.map_some]
    simp [by8, asByte]
theorem Byt.str {bs : List UInt8} (h : Byt A v bs) : sB2s A v = some (.string ⟨bs.toArray⟩, A) := by
  unfold sB2s
  rw [h.rd]
  simp only [Option.bind_some, bytesA_by8]
  rfl
theorem Byt.shape {bs : List UInt8} (h : Byt A v bs) : ∃ p c, v = .slice p bs.length c ∧ (p = none → bs = []) := by
  obtain ⟨_, hx⟩ := h
  rcases hx with ⟨rfl, h⟩ | ⟨rfl, h⟩ | ⟨i, o, c, rc, st, ex, rfl, _⟩
  · exact ⟨_, _, by rw [h], fun _ => by simpa using h⟩
  · exact ⟨_, _, by rw [h], fun h => by cases h⟩
  · exact ⟨_, _, rfl, fun h => by cases h⟩
theorem toList_loop (b : ByteArray) : ∀ (n i : Nat) (r : List UInt8), b.size - i = n → ByteArray.toList.loop b i r = r.reverse ++ b.data.toList.drop i
  | 0, i, r, h => by
    unfold ByteArray.toList.loop
    have hs : b.size = b.data.toList.length := by rw [Array.length_toList]; rfl
    rw [if_neg (by omega), List.drop_of_length_le (by omega), List.append_nil]
  | n + 1, i, r, h => by
    unfold ByteArray.toList.loop
    have hs : b.size = b.data.toList.length := by rw [Array.length_toList]; rfl
    rw [if_pos (by omega), toList_loop b n (i + 1) _ (by omega)]
    have hi : i < b.data.toList.length := by omega
    rw [List.drop_eq_getElem_cons hi]
    have e : b.get! i = b.data.toList[i] := by
      show b.data[i]! = _
      rw [getElem!_pos b.data i (by simpa using hi)]
      simp
    rw [e]
    simp
theorem toList_data (b : ByteArray) : b.toList = b.data.toList := by
  unfold ByteArray.toList
  rw [toList_loop b _ 0 [] rfl]
  simp
end
end Go.AS


namespace Go.AS
open Go
set_option linter.unusedVariables false
set_option linter.unusedSimpArgs false

end Go.AS
