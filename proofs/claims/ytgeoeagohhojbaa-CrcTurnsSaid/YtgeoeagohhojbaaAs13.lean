import Derived.Test.YtgeoeagohhojbaaAs12
namespace Go.AS
open Go
set_option linter.unusedVariables false
set_option linter.unusedSimpArgs false

def cflat : Value → Bool
  | .agg cs => cs.toList.all flatV
  | .tuple cs => cs.toList.all flatV
  | v => flatV v
def opOk (G N : Nat) : Operand → Bool
  | .tmp t => decide (t < N)
  | .const v => cflat v
  | .global g => decide (g < G)
  | .func _ => true

theorem VR.cflat {μ : Mu} {v : Value} (h : cflat v = true) : VR μ v v := by
  unfold AS.cflat at h
  split at h
  · refine .agg rfl (fun j x y hx hy => ?_)
    rw [hx] at hy
    obtain rfl := Option.some.inj hy
    rw [List.all_eq_true] at h
    exact .flat (h x (List.mem_of_getElem? (by simpa using hx)))
  · refine .tuple rfl (fun j x y hx hy => ?_)
    rw [hx] at hy
    obtain rfl := Option.some.inj hy
    rw [List.all_eq_true] at h
    exact .flat (h x (List.mem_of_getElem? (by simpa using hx)))
  · exact .flat h

structure ActR (μ : Mu) (N : Nat) (a : AT) (r : Act) : Prop where
  size : r.tmps.size = N
  defers : r.defers = []
  vals : ∀ (j : Nat) v', r.tmps[j]? = some v' → VR μ (a j) v'

theorem ActR.mono {μ r : Mu} {N : Nat} {a : AT} {b : Act} (h : ActR μ N a b) : ActR (μ ++ r) N a b := ⟨h.size, h.defers, fun j v' hj => (h.vals j v' hj).mono⟩

theorem ActR.ev {G N : Nat} {μ : Mu} {A : AH} {w : World} {a : AT} {r : Act} (h : ActR μ N a r) (hr : Rel G μ A w) {x : Operand} (hx : opOk G N x = true) : VR μ (ev a x) (r.eval x) := by
  cases x with
  | tmp t =>
    simp only [opOk, decide_eq_true_eq] at hx
    simp only [AS.ev, Act.eval, Array.getD_eq_getD_getElem?]
    have : t < r.tmps.size := by rw [h.size]; exact hx
    rw [Array.getElem?_eq_getElem this, Option.getD_some]
    exact h.vals t _ (Array.getElem?_eq_getElem this)
  | const v => exact VR.cflat hx
  | global g =>
    simp only [opOk, decide_eq_true_eq] at hx
    obtain ⟨e, h1, h2, h3⟩ := hr.glo g hx
    have := VR.ptr (μ := μ) (o := 0) h1
    rw [h2, h3] at this
    exact this
  | func f => exact .func rfl rfl (fun j x y hx => by simp at hx) rfl (fun j x y hx => by simp at hx)

theorem ActR.put {μ : Mu} {N : Nat} {a : AT} {r : Act} {v v' : Value} (h : ActR μ N a r) (d : Option Nat) (hv : VR μ v v') : ActR μ N (put a d v) (r.put d v') := by
  cases d with
  | none => exact h
  | some d =>
    refine ⟨by simp [Act.put, h.size], h.defers, fun j u hu => ?_⟩
    simp only [Act.put, Array.getElem?_setIfInBounds] at hu
    simp only [AS.put, upd]
    split at hu
    · rename_i hd
      split at hu
      · obtain rfl := Option.some.inj hu; rw [if_pos hd.symm]; exact hv
      · cases hu
    · rename_i hd
      rw [if_neg (fun e => hd e.symm)]
      exact h.vals j u hu

def zc (P : Program) (t : TypeId) : Option (List Value) :=
  match P.info? t with
  | some i => match i.zero with
    | some z => if z.cells.toList.all flatV = true ∧ z.cells.size = i.size then some z.cells.toList else none
    | none => none
  | none => none

theorem zc_some {P : Program} {t : TypeId} {zl : List Value} (h : zc P t = some zl) : ∃ i z, P.info? t = some i ∧ i.zero = some z ∧ z.cells.toList.all flatV = true ∧ z.cells.size = i.size ∧ zl = z.cells.toList := by
  unfold zc at h
  split at h
  · rename_i i hi
    split at h
    · rename_i z hz
      split at h
      · rename_i hc
        exact ⟨i, z, hi, hz, hc.1, hc.2, (Option.some.inj h).symm⟩
      · cases h
    · cases h
  · cases h

def places (P : Program) : List Field → Option (List (Nat × Nat))
  | [] => some []
  | f :: r => match P.info? f.type with
    | some i => (places P r).map ((f.offset, i.size) :: ·)
    | none => none

theorem places_some {P : Program} : ∀ (fs : List Field) (pl : List (Nat × Nat)), places P fs = some pl → pl.length = fs.length ∧ ∀ (j : Nat) f p, fs[j]? = some f → pl[j]? = some p → ∃ i, P.info? f.type = some i ∧ p = (f.offset, i.size)
  | [], pl, h => by simp only [places, Option.some.injEq] at h; subst h; exact ⟨rfl, fun j f p hf => by simp at hf⟩
  | f :: fs, pl, h => by
    unfold places at h
    split at h
    · rename_i i hi
      rw [Option.map_eq_some_iff] at h
      obtain ⟨pl', h1, rfl⟩ := h
      obtain ⟨h2, h3⟩ := places_some fs pl' h1
      refine ⟨by simp [h2], fun j f' p hf hp => ?_⟩
      cases j with
      | zero => simp only [List.getElem?_cons_zero, Option.some.injEq] at hf hp; subst hf hp; exact ⟨i, hi, rfl⟩
      | succ j => exact h3 j f' p (by simpa using hf) (by simpa using hp)
    · cases h

def partsAt (pl : List (Nat × Nat)) : List (Nat × Operand) → Option (List (Nat × Nat × Operand))
  | [] => some []
  | (j, x) :: r => match pl[j]? with
    | some p => (partsAt pl r).map ((p.1, p.2, x) :: ·)
    | none => none

theorem partsAt_some {pl : List (Nat × Nat)} : ∀ (qs : List (Nat × Operand)) (ps : List (Nat × Nat × Operand)), partsAt pl qs = some ps →
    ps.length = qs.length ∧ ∀ (k : Nat) p q, ps[k]? = some p → qs[k]? = some q → pl[q.1]? = some (p.1, p.2.1) ∧ p.2.2 = q.2
  | [], ps, h => by simp only [partsAt, Option.some.injEq] at h; subst h; exact ⟨rfl, fun j f p hf => by simp at hf⟩
  | (j, x) :: r, ps, h => by
    unfold partsAt at h
    split at h
    · rename_i p hp
      rw [Option.map_eq_some_iff] at h
      obtain ⟨ps', h1, rfl⟩ := h
      obtain ⟨h2, h3⟩ := partsAt_some r ps' h1
      refine ⟨by simp [h2], fun k p' q hk hq => ?_⟩
      cases k with
      | zero => simp only [List.getElem?_cons_zero, Option.some.injEq] at hk hq; subst hk hq; exact ⟨hp, rfl⟩
      | succ k => exact h3 k p' q (by simpa using hk) (by simpa using hq)
    · cases h

def cEq (P : Program) (neg : Bool) (t : TypeId) (x y : Operand) : Option AOp :=
  match P.underlying t with
  | some .bool => some (.beq neg x y)
  | some (.int _) | some .string => some (.bin (if neg then .neq else .eql) x y)
  | some d => if aggD d then (if P.keyTypeAt 8 t && !P.eqGuardType P.depth t then some (.eqagg neg (P.keyLits 8 t) x y) else none) else match y with
    | .const v => if nilOf d v then some (.isnil d x neg) else none
    | _ => match x with
      | .const v => if nilOf d v then some (.isnil d y neg) else none
      | _ => none
  | none => none
def cBin (P : Program) (op : BinOp) (t : TypeId) (x y : Operand) : Option AOp :=
  match op with
  | .eql => cEq P false t x y
  | .neq => cEq P true t x y
  | op => some (.bin op x y)

/-- An operation with its types looked up; none: it isn't served. -/
def cOp (P : Program) (o : Op) : Option AOp :=
  match o with
  | .move x | .assign x => some (.mov x)
  | .pick c a b => some (.pick c a b)
  | .alloc t => (zc P t).map .new
  | .box _ x => some (.box x)
  | .build t ps => match P.underlying t with
    | some (.struct fs) => (zc P t).bind fun z => (places P fs.toList).bind fun pl => (partsAt pl ps.toList).map fun l => .build z l
    | some (.array _ e) => (zc P t).bind fun z => (P.info? e).map fun i => .build z (ps.toList.map fun p => (p.1 * i.size, i.size, p.2))
    | _ => none
  | .buildSlice t len ps => match P.underlying t with
    | some (.slice e) => (P.info? e).bind fun i => (zc P e).bind fun z => if 0 < i.size ∧ len * i.size ≤ 2 ^ 24 then some (.lit z i.size len (ps.toList.map fun p => (p.1 * i.size, i.size, p.2))) else none
    | _ => none
  | .load t a => (P.underlying t).bind fun d => if aggD d then (P.info? t).map fun i => .loadn a i.size else some (.load1 a)
  | .store t a x => (P.info? t).map fun i => .store a x i.size
  | .nilCheck x => some (.nilc x)
  | .binOp op t x y _ => cBin P op t x y
  | .unOp op _ x => some (.un op x)
  | .convert s d x => match P.underlying s, P.underlying d with
    | some (.int _), some (.int k) => some (.conv k x)
    | some .string, some .string => some (.strc x)
    | some (.slice e), some .string => match P.underlying e with | some (.int .u8) => some (.b2s x) | _ => none
    | some (.slice e), some (.slice _) => if s = d then (match P.underlying e with | some (.int .u8) => some (.mks x) | _ => none) else none
    | some .string, some (.slice e) => match P.underlying e with | some (.int .u8) => some (.s2b x) | _ => none
    | _, _ => none
  | .makeInterface t x => match P.underlying t with
    | some (.interface _) => none
    | some _ => some (.ifc t x)
    | none => none
  | .makeFunc fn first captured => if Fn.plain fn then some (.fn fn first.toList captured.toList) else none
  | .makeSlice t l c => match P.underlying t with
    | some (.slice e) => (P.info? e).bind fun i => (zc P e).map fun z => .mk z i.bytes l c
    | _ => none
  | .slice t x lo hi mx => match P.underlying t with
    | some .string => match mx with | none => some (.sls x lo hi) | some _ => none
    | some (.slice e) => (P.info? e).map fun i => .sll x lo hi mx i.size
    | some (.array n e) => (P.info? e).map fun i => .sla x lo hi mx n i.size
    | _ => none
  | .fieldAddr s x f => match P.underlying s with
    | some (.struct fs) => (fs[f]?).bind fun fd => (P.info? fd.type).bind fun i => if i.size ≠ 0 then some (.faddr x fd.offset) else none
    | _ => none
  | .field s x f => match P.underlying s with
    | some (.struct fs) => (fs[f]?).bind fun fd => (P.underlying fd.type).bind fun d => if aggD d then (P.info? fd.type).map fun i => .fieldn x fd.offset i.size else some (.field1 x fd.offset)
    | _ => none
  | .indexAddr t x i => match P.underlying t with
    | some (.slice e) => (P.info? e).map fun inf => .iaddr x i inf.size
    | some (.array n e) => (P.info? e).map fun inf => .iarr x i n inf.size
    | _ => none
  | .index t x i => match P.underlying t with
    | some .string => some (.idxs x i)
    | some (.array n e) => (P.info? e).bind fun inf => (P.underlying e).bind fun d => if aggD d then some (.idxan x i n inf.size) else if inf.size = 1 then some (.idxa1 x i n) else none
    | _ => none
  | .extract x i => some (.ext x i)
  | .panic _ => some .fail
  | .call c => match c.callee with
    | .builtin .len => match c.args.toList, c.argTypes[0]? with
      | [x], some t => match P.underlying t with
        | some .string => some (.lens true x)
        | some (.slice _) => some (.lens false x)
        | some (.array n _) => some (.lenc n)
        | _ => none
      | _, _ => none
    | .builtin .cap => match c.args.toList, c.argTypes[0]? with
      | [x], some t => match P.underlying t with
        | some (.slice _) => some (.capn x)
        | _ => none
      | _, _ => none
    | .builtin .append => match c.args.toList, c.argTypes[0]?, c.argTypes[1]? with
      | [s, x], some sT, some xT => match P.underlying sT, P.underlying xT with
        | some (.slice e), some (.slice _) => (P.info? e).bind fun i => (zc P e).bind fun _ => if 0 < i.size then some (.app s x i.size i.bytes) else none
        | some (.slice e), some .string => (P.info? e).bind fun i => (zc P e).bind fun _ => if i.size = 1 then some (.apps s x i.bytes) else none
        | some (.slice e), some (.int _) => (P.info? e).bind fun i => (zc P e).bind fun z => if 0 < i.size then some (.appz s x z i.bytes) else none
        | _, _ => none
      | _, _, _ => none
    | .builtin .copy => match c.args.toList, c.argTypes[0]? with
      | [d, s], some dT => match P.underlying dT with
        | some (.slice e) => (P.info? e).map fun i => .copy d s i.size
        | _ => none
      | _, _ => none
    | .builtin .min => match c.args.toList with | [x, y] => some (.mn x y) | _ => none
    | .builtin .max => match c.args.toList with | [x, y] => some (.mx x y) | _ => none
    | .value (.func g) => some (.call g c.args.toList)
    | .value f => some (.calld f c.args.toList)
    | _ => none
  | _ => none

section
variable {G : Nat} {μ : Mu} {A A' : AH} {w : World} {P : Program} {v : Value}

theorem OV.map {ρ ρ' : Operand → Value} {x : Option Operand} (h : ∀ y, x = some y → VR μ (ρ y) (ρ' y)) : OV μ (x.map ρ) (x.map ρ') := by
  cases x with
  | none => trivial
  | some y => exact h y rfl

def isCall : AOp → Bool
  | .call _ _ | .calld _ _ => true
  | _ => false

theorem sim_strc {x x' : Value} {s d : TypeId} (hr : Rel G μ A w) (hx : VR μ x x') (h1 : P.underlying s = some .string) (h2 : P.underlying d = some .string) (hs : sStr A x = some (v, A')) :
    Sim G μ A w v A' ((do pure (.value (← convert s d x')) : Sem Next).run P w) := by
  unfold sStr at hs
  split at hs
  · injection hs with hs; injection hs with h3 h4; subst h3 h4
    obtain rfl := hx.string
    refine Sim.flat hr (run_value ?_) rfl
    unfold convert
    rw [Sem.run_bind, run_underlying h1, Result.andThen_ok, Sem.run_bind, run_underlying h2, Result.andThen_ok]
    rfl
  · cases hs

theorem run_builtin {ρ' : Operand → Value} {c : Call} {b : Builtin} {ty : TypeId} {o : Oper} (hc : c.callee = .builtin b) (ho : o.op = .call c) :
    (execOp ρ' o).run P w = (builtin b c.argTypes o.type (c.args.map fun | .const _ => true | _ => false) (c.args.map ρ')).run P w := by
  unfold execOp
  simp only [ho]
  unfold resolve
  simp only [hc]
  rfl

theorem VR.fnarr {ρ ρ' : Operand → Value} (l : List Operand) (h : ∀ x ∈ l, VR μ (ρ x) (ρ' x)) : (l.map ρ).toArray.size = (l.toArray.map ρ').size ∧ ∀ (j : Nat) x y, (l.map ρ).toArray[j]? = some x → (l.toArray.map ρ')[j]? = some y → VR μ x y := by
  refine ⟨by simp, fun j x y hx hy => ?_⟩
  simp only [List.getElem?_toArray, List.getElem?_map, Array.getElem?_map, Option.map_eq_some_iff] at hx hy
  obtain ⟨a, ha, rfl⟩ := hx
  obtain ⟨b, hb, rfl⟩ := hy
  rw [ha] at hb
  obtain rfl := Option.some.inj hb
  exact h a (List.mem_of_getElem? ha)


section
variable {ρ ρ' : Operand → Value} {dst : Option Tmp} {ty : TypeId} {pos : String} {aft : Array Edge} {gd : Option (Nat × Bool)} {op : AOp}


theorem snd_build {t : TypeId} {ps : Array (Nat × Operand)} {qs : Array (Nat × Value)} (hql : qs.toList = ps.toList.map fun p => (p.1, ρ' p.2)) (hc : cOp P (.build t ps) = some op) (hr : Rel G μ A w) (hρ : ∀ p ∈ ps.toList, VR μ (ρ p.2) (ρ' p.2))
    (hs : step ρ A op = some (v, A')) : Sim G μ A w v A' ((do pure (.value (← Instr.build t qs)) : Sem Next).run P w) := by
  simp only [cOp] at hc
  split at hc
  · rename_i fs hu
    simp only [Option.bind_eq_some_iff, Option.map_eq_some_iff] at hc
    obtain ⟨zl, hz, pl, hpl, l, hl, rfl⟩ := hc
    obtain ⟨i, z, h1, h2, h3, h4, rfl⟩ := zc_some hz
    obtain ⟨p1, p2⟩ := places_some _ _ hpl
    obtain ⟨q1, q2⟩ := partsAt_some _ _ hl
    have hs : sBuild A z.cells.toList (l.map fun p => (p.1, p.2.1, ρ p.2.2)) = some (v, A') := hs
    have hpl2 := run_places' (P := P) (w := w) fs pl (by simpa using p1) (fun j f p a b => p2 j f p (by simpa using a) b)
    have hps : ∀ (j : Nat) (p : Nat × Nat × Value) (q : Nat × Value), (l.map fun p => (p.1, p.2.1, ρ p.2.2))[j]? = some p → qs.toList[j]? = some q → pl.toArray[q.1]? = some (p.1, p.2.1) ∧ VR μ p.2.2 q.2 := by
      intro j p q hp hq
      rw [hql] at hq
      simp only [List.getElem?_map, Option.map_eq_some_iff] at hp hq
      obtain ⟨p', hp', rfl⟩ := hp
      obtain ⟨q', hq', rfl⟩ := hq
      obtain ⟨r1, r2⟩ := q2 j p' q' hp' hq'
      refine ⟨by simpa using r1, ?_⟩
      simp only [r2]
      exact hρ _ (List.mem_of_getElem? hq')
    exact sim_build (place := fun j => pl.toArray[j]?) hr h1 h2 h3 (by rw [hql]; simp [q1]) hps (fun cells hcl => run_build_struct h1 h2 hu hpl2 hcl) hs
  · rename_i n e hu
    simp only [Option.bind_eq_some_iff, Option.map_eq_some_iff] at hc
    obtain ⟨zl, hz, ei, hei, rfl⟩ := hc
    obtain ⟨i, z, h1, h2, h3, h4, rfl⟩ := zc_some hz
    have hs : sBuild A z.cells.toList ((ps.toList.map fun p => (p.1 * ei.size, ei.size, p.2)).map fun p => (p.1, p.2.1, ρ p.2.2)) = some (v, A') := hs
    have hps : ∀ (j : Nat) (p : Nat × Nat × Value) (q : Nat × Value), ((ps.toList.map fun p => (p.1 * ei.size, ei.size, p.2)).map fun p => (p.1, p.2.1, ρ p.2.2))[j]? = some p → qs.toList[j]? = some q → some (q.1 * ei.size, ei.size) = some (p.1, p.2.1) ∧ VR μ p.2.2 q.2 := by
      intro j p q hp hq
      rw [hql] at hq
      simp only [List.map_map, List.getElem?_map, Option.map_eq_some_iff] at hp hq
      obtain ⟨p', hp', rfl⟩ := hp
      obtain ⟨q', hq', rfl⟩ := hq
      rw [hp'] at hq'
      obtain rfl := Option.some.inj hq'
      exact ⟨rfl, hρ p' (List.mem_of_getElem? hp')⟩
    exact sim_build (place := fun i => some (i * ei.size, ei.size)) hr h1 h2 h3 (by rw [hql]; simp) hps (fun cells hcl => run_build_array h1 h2 hu hei hcl) hs
  · cases hc

theorem snd_lit {t : TypeId} {len : Nat} {ps : Array (Nat × Operand)} {qs : Array (Nat × Value)} (hql : qs.toList = ps.toList.map fun p => (p.1, ρ' p.2)) (hc : cOp P (.buildSlice t len ps) = some op) (hr : Rel G μ A w) (hρ : ∀ p ∈ ps.toList, VR μ (ρ p.2) (ρ' p.2))
    (hs : step ρ A op = some (v, A')) : Sim G μ A w v A' ((do pure (.value (← Instr.buildSlice t len qs)) : Sem Next).run P w) := by
  simp only [cOp] at hc
  split at hc
  · rename_i e hu
    simp only [Option.bind_eq_some_iff] at hc
    obtain ⟨i, hi, zl, hz, hc⟩ := hc
    split at hc
    · rename_i hcond
      injection hc with hc; subst hc
      obtain ⟨i', z, h1, h2, h3, h4, rfl⟩ := zc_some hz
      rw [hi] at h1
      obtain rfl := Option.some.inj h1
      have hs : sLit A z.cells.toList i.size len ((ps.toList.map fun p => (p.1 * i.size, i.size, p.2)).map fun p => (p.1, p.2.1, ρ p.2.2)) = some (v, A') := hs
      have hps : ∀ (j : Nat) (p : Nat × Nat × Value) (q : Nat × Value), ((ps.toList.map fun p => (p.1 * i.size, i.size, p.2)).map fun p => (p.1, p.2.1, ρ p.2.2))[j]? = some p → qs.toList[j]? = some q → (p.1, p.2.1) = (q.1 * i.size, i.size) ∧ VR μ p.2.2 q.2 := by
        intro j p q hp hq
        rw [hql] at hq
        simp only [List.map_map, List.getElem?_map, Option.map_eq_some_iff] at hp hq
        obtain ⟨p', hp', rfl⟩ := hp
        obtain ⟨q', hq', rfl⟩ := hq
        rw [hp'] at hq'
        obtain rfl := Option.some.inj hq'
        exact ⟨rfl, hρ p' (List.mem_of_getElem? hp')⟩
      exact sim_lit hr hu hi h2 h3 h4 hcond.1 hcond.2 (by rw [hql]; simp) hps hs
    · cases hc
  · cases hc

theorem snd_binOp {o : BinOp} {t yt : TypeId} {x y : Operand} (hc : cOp P (.binOp o t x y yt) = some op) (hr : Rel G μ A w) (hx : VR μ (ρ x) (ρ' x)) (hy : VR μ (ρ y) (ρ' y)) (hconst : ∀ v, ρ' (.const v) = v)
    (hs : step ρ A op = some (v, A')) : Sim G μ A w v A' ((do pure (.value (← (do eqGuard o t x y (ρ' x) (ρ' y); binOp o t (ρ' x) (ρ' y)))) : Sem Next).run P w) := by
  have main : ∀ neg : Bool, cEq P neg t x y = some op → Sim G μ A w v A' ((do pure (.value (← (do eqGuard (if neg then .neq else .eql) t x y (ρ' x) (ρ' y); binOp (if neg then .neq else .eql) t (ρ' x) (ρ' y)))) : Sem Next).run P w) := by
    intro neg h
    unfold cEq at h
    split at h
    · rename_i hu
      injection h with h; subst h
      exact sim_beq hr hx hy hu hs
    · injection h with h; subst h
      exact sim_bin hr hx hy hs
    · injection h with h; subst h
      exact sim_bin hr hx hy hs
    · rename_i d _ _ _ hu
      split at h
      · rename_i hag
        split at h
        · rename_i hk
          rw [Bool.and_eq_true] at hk
          injection h with h; subst h
          refine sim_eqagg hr hx hy ?_ hk.1 (by simpa using hk.2) hs
          unfold aggD'
          rw [hu]
          cases d <;> first | rfl | (simp [aggD] at hag)
        · cases h
      split at h
      · rename_i c
        split at h
        · rename_i hn
          injection h with h; subst h
          simp only [step] at hs
          split at hs
          · rename_i hk
            rw [hconst]
            exact (sim_isnil (left := true) hr hx hu hn hk hs).1
          · cases hs
        · cases h
      · split at h
        · rename_i c _
          split at h
          · rename_i hn
            injection h with h; subst h
            simp only [step] at hs
            split at hs
            · rename_i hk
              rw [hconst]
              exact (sim_isnil (left := true) hr hy hu hn hk hs).2
            · cases hs
          · cases h
        · cases h
    · cases h
  simp only [cOp] at hc
  cases o <;> first
    | exact main false hc
    | exact main true hc
    | (simp only [cBin, Option.some.injEq] at hc; subst hc; exact sim_bin hr hx hy hs)

theorem snd_convert {s d : TypeId} {x : Operand} (hc : cOp P (.convert s d x) = some op) (hr : Rel G μ A w) (hx : VR μ (ρ x) (ρ' x)) (hs : step ρ A op = some (v, A')) :
    Sim G μ A w v A' ((do pure (.value (← convert s d (ρ' x))) : Sem Next).run P w) := by
  simp only [cOp] at hc
  split at hc
  · rename_i h1 h2
    injection hc with hc; subst hc
    exact sim_conv hr hx h1 h2 hs
  · rename_i h1 h2
    injection hc with hc; subst hc
    exact sim_strc hr hx h1 h2 hs
  · rename_i h1 h2
    split at hc
    · rename_i h3
      injection hc with hc; subst hc
      exact sim_b2s hr hx h1 h2 h3 hs
    · cases hc
  · rename_i h1 h2
    split at hc
    · rename_i hsd
      subst hsd
      split at hc
      · rename_i h3
        injection hc with hc; subst hc
        exact sim_mks hr hx h1 h3 hs
      · cases hc
    · cases hc
  · rename_i h1 h2
    split at hc
    · rename_i h3
      injection hc with hc; subst hc
      exact sim_s2b (ds := .string) hr hx h1 h2 h3 hs
    · cases hc
  · cases hc

theorem snd_slice {t : TypeId} {x : Operand} {lo hi mx : Option Operand} (hc : cOp P (.slice t x lo hi mx) = some op) (hr : Rel G μ A w) (hx : VR μ (ρ x) (ρ' x)) (h1 : OV μ (lo.map ρ) (lo.map ρ')) (h2 : OV μ (hi.map ρ) (hi.map ρ')) (h3 : OV μ (mx.map ρ) (mx.map ρ'))
    (hs : step ρ A op = some (v, A')) : Sim G μ A w v A' ((do pure (.value (← Instr.sliceAt t (ρ' x) (lo.map ρ') (hi.map ρ') (mx.map ρ'))) : Sem Next).run P w) := by
  simp only [cOp] at hc
  split at hc
  · rename_i hu
    split at hc
    · injection hc with hc; subst hc
      exact sim_sls hr hx h1 h2 hu hs
    · cases hc
  · rename_i e hu
    rw [Option.map_eq_some_iff] at hc
    obtain ⟨i, hi', rfl⟩ := hc
    exact sim_sll hr hx h1 h2 h3 hu hi' hs
  · rename_i n e hu
    rw [Option.map_eq_some_iff] at hc
    obtain ⟨i, hi', rfl⟩ := hc
    exact sim_sla hr hx h1 h2 h3 hu hi' hs
  · cases hc

theorem snd_fieldAddr {s : TypeId} {x : Operand} {f : Nat} (hc : cOp P (.fieldAddr s x f) = some op) (hr : Rel G μ A w) (hx : VR μ (ρ x) (ρ' x)) (hs : step ρ A op = some (v, A')) :
    Sim G μ A w v A' ((do pure (.value (← Instr.fieldAt s (ρ' x) f)) : Sem Next).run P w) := by
  simp only [cOp] at hc
  split at hc
  · rename_i fs hu
    simp only [Option.bind_eq_some_iff] at hc
    obtain ⟨fd, hf, i, hi, hc⟩ := hc
    split at hc
    · rename_i h0
      injection hc with hc; subst hc
      exact sim_faddr hr hx hu hf hi h0 hs
    · cases hc
  · cases hc

theorem snd_field {s : TypeId} {x : Operand} {f : Nat} (hc : cOp P (.field s x f) = some op) (hr : Rel G μ A w) (hx : VR μ (ρ x) (ρ' x)) (hs : step ρ A op = some (v, A')) :
    Sim G μ A w v A' ((do pure (.value (← Instr.field s (ρ' x) f)) : Sem Next).run P w) := by
  simp only [cOp] at hc
  split at hc
  · rename_i fs hu
    simp only [Option.bind_eq_some_iff] at hc
    obtain ⟨fd, hf, d, hd, hc⟩ := hc
    split at hc
    · rename_i h0
      rw [Option.map_eq_some_iff] at hc
      obtain ⟨i, hi, rfl⟩ := hc
      exact sim_fieldn hr hx hu hf hd h0 hi hs
    · rename_i h0
      injection hc with hc; subst hc
      exact sim_field1 hr hx hu hf hd (by simpa using h0) hs
  · cases hc

theorem snd_indexAddr {t : TypeId} {x i : Operand} (hc : cOp P (.indexAddr t x i) = some op) (hr : Rel G μ A w) (hx : VR μ (ρ x) (ρ' x)) (hi : VR μ (ρ i) (ρ' i)) (hs : step ρ A op = some (v, A')) :
    Sim G μ A w v A' ((do pure (.value (← Instr.indexAt t (ρ' x) (ρ' i))) : Sem Next).run P w) := by
  simp only [cOp] at hc
  split at hc
  · rename_i e hu
    rw [Option.map_eq_some_iff] at hc
    obtain ⟨inf, h1, rfl⟩ := hc
    exact sim_iaddr hr hx hi hu h1 hs
  · rename_i n e hu
    rw [Option.map_eq_some_iff] at hc
    obtain ⟨inf, h1, rfl⟩ := hc
    exact sim_iarr hr hx hi hu h1 hs
  · cases hc

theorem snd_index {t : TypeId} {x i : Operand} (hc : cOp P (.index t x i) = some op) (hr : Rel G μ A w) (hx : VR μ (ρ x) (ρ' x)) (hi : VR μ (ρ i) (ρ' i)) (hs : step ρ A op = some (v, A')) :
    Sim G μ A w v A' ((do pure (.value (← Instr.index t (ρ' x) (ρ' i))) : Sem Next).run P w) := by
  simp only [cOp] at hc
  split at hc
  · rename_i hu
    injection hc with hc; subst hc
    exact sim_idxs hr hx hi hu hs
  · rename_i n e hu
    simp only [Option.bind_eq_some_iff] at hc
    obtain ⟨inf, h1, d, h2, hc⟩ := hc
    split at hc
    · rename_i h3
      injection hc with hc; subst hc
      exact sim_idxan hr hx hi hu h1 h2 h3 hs
    · rename_i h3
      split at hc
      · rename_i h4
        injection hc with hc; subst hc
        exact sim_idxa1 hr hx hi hu h1 h2 (by simpa using h3) h4 hs
      · cases hc
  · cases hc

theorem snd_makeSlice {t : TypeId} {l c : Operand} (hc : cOp P (.makeSlice t l c) = some op) (hr : Rel G μ A w) (hx : VR μ (ρ l) (ρ' l)) (hi : VR μ (ρ c) (ρ' c)) (hs : step ρ A op = some (v, A')) :
    Sim G μ A w v A' ((do pure (.value (← Instr.makeSlice t (ρ' l) (ρ' c))) : Sem Next).run P w) := by
  simp only [cOp] at hc
  split at hc
  · rename_i e hu
    simp only [Option.bind_eq_some_iff, Option.map_eq_some_iff] at hc
    obtain ⟨i, h1, zl, hz, rfl⟩ := hc
    obtain ⟨i', z, h2, h3, h4, h5, rfl⟩ := zc_some hz
    rw [h1] at h2
    obtain rfl := Option.some.inj h2
    exact sim_mk hr hx hi hu h1 h3 h4 h5 hs
  · cases hc

theorem snd_makeInterface {t : TypeId} {x : Operand} (hc : cOp P (.makeInterface t x) = some op) (hr : Rel G μ A w) (hx : VR μ (ρ x) (ρ' x)) (hs : step ρ A op = some (v, A')) :
    Sim G μ A w v A' ((do pure (.value (← Instr.makeInterface t (ρ' x))) : Sem Next).run P w) := by
  simp only [cOp] at hc
  split at hc
  · cases hc
  · rename_i d hne hu
    injection hc with hc; subst hc
    injection hs with hs; injection hs with h1 h2; subst h1 h2
    refine sim_ifc hr hx hu ?_
    cases d <;> first | rfl | (exact absurd rfl (hne _))
  · cases hc

end

theorem snd_len {ρ ρ' : Operand → Value} {c : Call} {op : AOp} {ty : TypeId} {cs : Array Bool} (hb : c.callee = .builtin .len) (hc : cOp P (.call c) = some op) (hr : Rel G μ A w) (hρ : ∀ x ∈ c.args.toList, VR μ (ρ x) (ρ' x)) (hs : step ρ A op = some (v, A')) :
    Sim G μ A w v A' ((builtin .len c.argTypes ty cs (c.args.map ρ')).run P w) := by
  simp only [cOp, hb] at hc
  split at hc
  · rename_i x t ha ht
    have hm : c.args.map ρ' = #[ρ' x] := by
      have : c.args = #[x] := Array.toList_inj.1 (by simpa using ha)
      rw [this]; simp
    rw [hm]
    have hx := hρ x (by rw [ha]; simp)
    split at hc
    · rename_i hu
      injection hc with hc; subst hc
      exact sim_lent hr hx hu _ _ ht hs
    · rename_i hu
      injection hc with hc; subst hc
      exact sim_lens hr hx hu _ _ ht hs
    · rename_i n e hu
      injection hc with hc; subst hc
      injection hs with hs; injection hs with h1 h2; subst h1 h2
      refine Sim.flat hr (run_value (s := Builtin.len_ c.argTypes ty #[ρ' x]) ?_) rfl
      unfold Builtin.len_
      simp [ht, run_underlying hu, goInt]
    · cases hc
  · cases hc

theorem snd_append {ρ ρ' : Operand → Value} {c : Call} {op : AOp} {ty : TypeId} {cs : Array Bool} (hb : c.callee = .builtin .append) (hc : cOp P (.call c) = some op) (hr : Rel G μ A w) (hρ : ∀ x ∈ c.args.toList, VR μ (ρ x) (ρ' x)) (hs : step ρ A op = some (v, A')) :
    Sim G μ A w v A' ((builtin .append c.argTypes ty cs (c.args.map ρ')).run P w) := by
  simp only [cOp, hb] at hc
  split at hc
  · rename_i s x sT xT ha ht1 ht2
    have hm : c.args.map ρ' = #[ρ' s, ρ' x] := by
      have : c.args = #[s, x] := Array.toList_inj.1 (by simpa using ha)
      rw [this]; simp
    rw [hm]
    have hsv := hρ s (by rw [ha]; simp)
    have hx := hρ x (by rw [ha]; simp)
    split at hc
    · rename_i e e2 hu1 hu2
      simp only [Option.bind_eq_some_iff] at hc
      obtain ⟨i, hi, zl, hz, hc⟩ := hc
      split at hc
      · rename_i h0
        injection hc with hc; subst hc
        obtain ⟨i', z, h2, h3, h4, h5, rfl⟩ := zc_some hz
        rw [hi] at h2
        obtain rfl := Option.some.inj h2
        exact sim_app hr hsv hx ht1 hu1 hi ht2 hu2 (.inr ⟨_, rfl⟩) h3 h5 h0 hs
      · cases hc
    · rename_i e hu1 hu2
      simp only [Option.bind_eq_some_iff] at hc
      obtain ⟨i, hi, zl, hz, hc⟩ := hc
      split at hc
      · rename_i h0
        injection hc with hc; subst hc
        obtain ⟨i', z, h2, h3, h4, h5, rfl⟩ := zc_some hz
        rw [hi] at h2
        obtain rfl := Option.some.inj h2
        exact sim_apps hr hsv hx ht1 hu1 hi ht2 hu2 (.inl rfl) h3 h5 h0 hs
      · cases hc
    · rename_i e ik hu1 hu2
      simp only [Option.bind_eq_some_iff] at hc
      obtain ⟨i, hi, zl, hz, hc⟩ := hc
      split at hc
      · rename_i h0
        injection hc with hc; subst hc
        obtain ⟨i', z, h2, h3, h4, h5, rfl⟩ := zc_some hz
        rw [hi] at h2
        obtain rfl := Option.some.inj h2
        exact sim_appz hr hsv hx ht1 hu1 hi ht2 hu2 h3 h4 h5 h0 hs
      · cases hc
    · cases hc
  · cases hc

theorem snd_cap {ρ ρ' : Operand → Value} {c : Call} {op : AOp} {ty : TypeId} {cs : Array Bool} (hb : c.callee = .builtin .cap) (hc : cOp P (.call c) = some op) (hr : Rel G μ A w) (hρ : ∀ x ∈ c.args.toList, VR μ (ρ x) (ρ' x)) (hs : step ρ A op = some (v, A')) :
    Sim G μ A w v A' ((builtin .cap c.argTypes ty cs (c.args.map ρ')).run P w) := by
  simp only [cOp, hb] at hc
  split at hc
  · rename_i x t ha ht
    have hm : c.args.map ρ' = #[ρ' x] := by
      have : c.args = #[x] := Array.toList_inj.1 (by simpa using ha)
      rw [this]; simp
    rw [hm]
    have hx := hρ x (by rw [ha]; simp)
    split at hc
    · rename_i e hu
      injection hc with hc; subst hc
      have hs : sCapn A (ρ x) = some (v, A') := hs
      unfold sCapn at hs
      split at hs
      · rename_i hv
        injection hs with hs; injection hs with h1 h2; subst h1 h2
        rw [hv] at hx
        have hx2 := hx.eq_of_flat rfl
        refine Sim.flat hr (run_value (s := Builtin.cap_ c.argTypes ty #[ρ' x]) ?_) rfl
        unfold Builtin.cap_
        simp [ht, run_underlying hu, goInt, hx2]
      · cases hs
    · cases hc
  · cases hc

theorem snd_copy {ρ ρ' : Operand → Value} {c : Call} {op : AOp} {ty : TypeId} {cs : Array Bool} (hb : c.callee = .builtin .copy) (hc : cOp P (.call c) = some op) (hr : Rel G μ A w) (hρ : ∀ x ∈ c.args.toList, VR μ (ρ x) (ρ' x)) (hs : step ρ A op = some (v, A')) :
    Sim G μ A w v A' ((builtin .copy c.argTypes ty cs (c.args.map ρ')).run P w) := by
  simp only [cOp, hb] at hc
  split at hc
  · rename_i d s dT ha ht1
    have hm : c.args.map ρ' = #[ρ' d, ρ' s] := by
      have : c.args = #[d, s] := Array.toList_inj.1 (by simpa using ha)
      rw [this]; simp
    rw [hm]
    split at hc
    · rename_i e hu1
      rw [Option.map_eq_some_iff] at hc
      obtain ⟨i, hi, rfl⟩ := hc
      exact sim_copy hr (hρ d (by rw [ha]; simp)) (hρ s (by rw [ha]; simp)) ht1 hu1 hi hs
    · cases hc
  · cases hc

theorem snd_min {ρ ρ' : Operand → Value} {c : Call} {op : AOp} {ty : TypeId} {cs : Array Bool} (hb : c.callee = .builtin .min) (hc : cOp P (.call c) = some op) (hr : Rel G μ A w) (hρ : ∀ x ∈ c.args.toList, VR μ (ρ x) (ρ' x)) (hs : step ρ A op = some (v, A')) :
    Sim G μ A w v A' ((builtin .min c.argTypes ty cs (c.args.map ρ')).run P w) := by
  simp only [cOp, hb] at hc
  split at hc
  · rename_i d s ha
    have hm : c.args.map ρ' = #[ρ' d, ρ' s] := by
      have : c.args = #[d, s] := Array.toList_inj.1 (by simpa using ha)
      rw [this]; simp
    rw [hm]
    injection hc with hc; subst hc
    exact sim_mn hr (hρ d (by rw [ha]; simp)) (hρ s (by rw [ha]; simp)) hs
  · cases hc
theorem snd_max {ρ ρ' : Operand → Value} {c : Call} {op : AOp} {ty : TypeId} {cs : Array Bool} (hb : c.callee = .builtin .max) (hc : cOp P (.call c) = some op) (hr : Rel G μ A w) (hρ : ∀ x ∈ c.args.toList, VR μ (ρ x) (ρ' x)) (hs : step ρ A op = some (v, A')) :
    Sim G μ A w v A' ((builtin .max c.argTypes ty cs (c.args.map ρ')).run P w) := by
  simp only [cOp, hb] at hc
  split at hc
  · rename_i d s ha
    have hm : c.args.map ρ' = #[ρ' d, ρ' s] := by
      have : c.args = #[d, s] := Array.toList_inj.1 (by simpa using ha)
      rw [this]; simp
    rw [hm]
    injection hc with hc; subst hc
    exact sim_mx hr (hρ d (by rw [ha]; simp)) (hρ s (by rw [ha]; simp)) hs
  · cases hc

end
end Go.AS
