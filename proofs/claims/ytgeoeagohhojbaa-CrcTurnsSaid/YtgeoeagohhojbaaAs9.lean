import Derived.Test.YtgeoeagohhojbaaAs8
namespace Go.AS
open Go
set_option linter.unusedVariables false
set_option linter.unusedSimpArgs false

section
variable {G : Nat} {μ : Mu} {A A' : AH} {w : World} {P : Program} {v : Value}

theorem sim_build {t : TypeId} {ps : List (Nat × Nat × Value)} {qs : Array (Nat × Value)} {z : Value} {inf : TypeInfo} {place : Nat → Option (Nat × Nat)} (hr : Rel G μ A w)
    (hi : P.info? t = some inf) (hz : inf.zero = some z) (hf : z.cells.toList.all flatV = true) (hlen : ps.length = qs.toList.length)
    (hp : ∀ (j : Nat) p q, ps[j]? = some p → qs.toList[j]? = some q → place q.1 = some (p.1, p.2.1) ∧ VR μ p.2.2 q.2)
    (hrun : ∀ cells, Instr.fill place z.cells qs.toList = some cells → (Instr.build t qs).run P w = .ok (.agg cells) w)
    (hs : sBuild A z.cells.toList ps = some (v, A')) : Sim G μ A w v A' ((do pure (.value (← Instr.build t qs)) : Sem Next).run P w) := by
  unfold sBuild at hs
  rw [Option.map_eq_some_iff] at hs
  obtain ⟨cs, hfill, hs⟩ := hs
  injection hs with h5 h6; subst h5 h6
  obtain ⟨cs', g1, g2, _⟩ := fill_rel (μ := μ) ps qs.toList _ cs z.cells hfill (CR.flat hf) hlen hp (ones_flat hf)
  refine Sim.same hr (run_value (hrun cs' g1)) ?_
  have := VR.aggOf (l := cs) (l' := cs'.toList) g2.1 g2.2
  simpa using this

theorem run_build_struct {t : TypeId} {fs : Array Field} {qs : Array (Nat × Value)} {z : Value} {inf : TypeInfo} {pl : Array (Nat × Nat)} (hi : P.info? t = some inf) (hz : inf.zero = some z)
    (ht : P.underlying t = some (.struct fs)) (hpl : (fs.mapM fun f => (do pure (f.offset, ← sizeOf f.type) : Sem (Nat × Nat))).run P w = .ok pl w)
    {cells : Array Value} (hc : Instr.fill (pl[·]?) z.cells qs.toList = some cells) : (Instr.build t qs).run P w = .ok (.agg cells) w := by
  unfold Instr.build
  rw [Sem.run_bind, run_zero hi hz, Result.andThen_ok]
  simp only [Sem.run_bind, run_underlying ht, Result.andThen_ok, hpl, hc, Sem.run_pure]

theorem run_build_array {t el : TypeId} {n : Nat} {qs : Array (Nat × Value)} {z : Value} {inf einf : TypeInfo} (hi : P.info? t = some inf) (hz : inf.zero = some z)
    (ht : P.underlying t = some (.array n el)) (he : P.info? el = some einf)
    {cells : Array Value} (hc : Instr.fill (fun i => some (i * einf.size, einf.size)) z.cells qs.toList = some cells) : (Instr.build t qs).run P w = .ok (.agg cells) w := by
  unfold Instr.build
  rw [Sem.run_bind, run_zero hi hz, Result.andThen_ok]
  simp only [Sem.run_bind, run_underlying ht, Result.andThen_ok, run_size he, hc, Sem.run_pure]

theorem run_places : ∀ (fs : List Field) (pl : List (Nat × Nat)), pl.length = fs.length → (∀ (j : Nat) f p, fs[j]? = some f → pl[j]? = some p → ∃ i, P.info? f.type = some i ∧ p = (f.offset, i.size)) →
    (fs.mapM fun f => (do pure (f.offset, ← sizeOf f.type) : Sem (Nat × Nat))).run P w = .ok pl w
  | [], [], _, _ => rfl
  | [], _ :: _, h, _ => by simp at h
  | _ :: _, [], h, _ => by simp at h
  | f :: fs, p :: pl, h, hp => by
    obtain ⟨i, h1, rfl⟩ := hp 0 f p rfl rfl
    have ih := run_places fs pl (by simpa using h) (fun j f p a b => hp (j + 1) f p (by simpa using a) (by simpa using b))
    simp only [List.mapM_cons, Sem.run_bind, run_size h1, Result.andThen_ok, Sem.run_pure, ih]

theorem run_places' (fs : Array Field) (pl : List (Nat × Nat)) (h : pl.length = fs.size) (hp : ∀ (j : Nat) f p, fs[j]? = some f → pl[j]? = some p → ∃ i, P.info? f.type = some i ∧ p = (f.offset, i.size)) :
    (fs.mapM fun f => (do pure (f.offset, ← sizeOf f.type) : Sem (Nat × Nat))).run P w = .ok pl.toArray w := by
  have := run_places (P := P) (w := w) fs.toList pl (by simpa using h) (fun j f p a b => hp j f p (by simpa using a) b)
  rw [← Array.toList_mapM] at this
  simp only [Sem.run_map] at this
  cases hr : (fs.mapM fun f => (do pure (f.offset, ← sizeOf f.type) : Sem (Nat × Nat))).run P w with
  | halt h w' => rw [hr] at this; simp at this
  | ok a w' =>
    rw [hr] at this
    simp only [Result.andThen_ok, Result.ok.injEq] at this
    obtain ⟨h1, rfl⟩ := this
    rw [← h1]

theorem sim_lit {t el : TypeId} {len : Nat} {ps : List (Nat × Nat × Value)} {qs : Array (Nat × Value)} {z : Value} {inf : TypeInfo} (hr : Rel G μ A w)
    (ht : P.underlying t = some (.slice el)) (hi : P.info? el = some inf) (hz : inf.zero = some z) (hf : z.cells.toList.all flatV = true) (hsz : z.cells.size = inf.size) (hpos : 0 < inf.size) (hbig : len * inf.size ≤ 2 ^ 24)
    (hlen : ps.length = qs.toList.length)
    (hp : ∀ (j : Nat) p q, ps[j]? = some p → qs.toList[j]? = some q → (p.1, p.2.1) = (q.1 * inf.size, inf.size) ∧ VR μ p.2.2 q.2)
    (hs : sLit A z.cells.toList inf.size len ps = some (v, A')) : Sim G μ A w v A' ((do pure (.value (← Instr.buildSlice t len qs)) : Sem Next).run P w) := by
  unfold sLit at hs
  rw [Option.map_eq_some_iff] at hs
  obtain ⟨cs, hfill, hs⟩ := hs
  injection hs with h5 h6; subst h5 h6
  have hzs : 0 < z.cells.size := by omega
  have hz0 : CR μ ((List.replicate len z.cells.toList).flatten) ((Array.range (len * inf.size)).map (z.cells[· % z.cells.size]!)).toList := by
    refine ⟨by rw [rep_length]; simp [hsz], fun j a b ha hb => ?_⟩
    obtain ⟨_, b', h2, h3⟩ := rep_CR (μ := μ) hf hzs len (len * inf.size) (by rw [hsz]; exact Nat.le_refl _) j a ha
    rw [Array.getElem?_toList, h2] at hb
    obtain rfl := Option.some.inj hb
    exact h3
  obtain ⟨cs', g1, g2, g3⟩ := fill_rel (μ := μ) (place := fun i => some (i * inf.size, inf.size)) ps qs.toList _ cs _ hfill hz0 hlen (fun j p q a b => ⟨by rw [(hp j p q a b).1], (hp j p q a b).2⟩) (ones_flat (rep_flat hf len))
  have hcl : cs.length = len * inf.size := by
    have hfl : ∀ (ps : List (Nat × Nat × Value)) (z cs : List Value), fillA z ps = some cs → cs.length = z.length := by
      intro ps
      induction ps with
      | nil => intro z cs h; simp only [fillA, Option.some.injEq] at h; rw [h]
      | cons p ps ih =>
        intro z cs h
        obtain ⟨off, n, u⟩ := p
        simp only [fillA] at h
        split at h
        · rename_i hc
          rw [ih _ _ h, setAll_length _ _ _ (by simp; omega)]
        · cases h
    rw [hfl _ _ _ hfill, rep_length]; simp [hsz]
  have hrun : (Instr.buildSlice t len qs).run P w = .ok (.slice (some ⟨w.heap.size, 0, none⟩) len len) (w.alloc (.cells cs' el)) := by
    unfold Instr.buildSlice
    simp only [Sem.run_bind, run_underlying ht, Result.andThen_ok, run_size hi]
    rw [if_neg (by omega)]
    by_cases h0 : len * inf.size = 0
    · have e0 : Array.range 0 = #[] := rfl
      rw [h0] at g1
      simp only [e0, Array.map_empty] at g1
      simp only [h0, e0, if_true, Sem.run_pure, Result.andThen_ok, Sem.run_bind, Array.map_empty, g1, newRow, run_newObj, World.alloc_eq]
    · simp only [if_neg h0, run_zero hi hz, Sem.run_bind, Sem.run_pure, Result.andThen_ok, g1, newRow, run_newObj, World.alloc_eq]
  have hcs' : cs'.size = cs.length := by have := g2.1; simpa using this
  refine sim_newSl (d := w.drawn) (c' := len) (fr := (0, 0)) (T := el) hr ?_ (by omega) (by simp) (fun _ => hcs') (Nat.le_refl _) (Nat.le_refl _) (by rw [hcs', hcl]; exact Nat.le_refl _) (run_value hrun)
  intro j u hu
  obtain ⟨u', h1, h2⟩ := g2.get hu
  exact ⟨ones_get g3 hu, u', by simpa using h1, h2⟩

theorem rdSl_rel {x x' : Value} {sz : Nat} {l : List Value} {a : Option Addr} {k c : Nat} (hr : Rel G μ A w) (hx : VR μ x x') (hk : x = .slice a k c) (hs : rdSl A sz x = some l) :
    l.length = k * sz ∧ ∃ l' : List Value, CR μ l l' ∧ ones l = true ∧ ∀ d, (Builtin.firstCells sz k x').run P { w with drawn := d } = .ok l'.toArray { w with drawn := d } := by
  subst hk
  obtain ⟨a', c', rfl, han⟩ := hx.sl_inv
  unfold rdSl at hs
  split at hs
  · rename_i heq
    injection heq with q1 q2 q3; subst q1 q2
    obtain rfl := Option.some.inj hs
    refine ⟨by simp, [], CR.nil, rfl, ?_⟩
    cases a' with
    | none => exact fun _ => rfl
    | some b => simp at han
  · rename_i heq
    injection heq with q1 q2 q3; subst q1 q2
    obtain rfl := Option.some.inj hs
    refine ⟨by simp, [], CR.nil, rfl, ?_⟩
    cases a' with
    | none => exact fun _ => rfl
    | some b => intro d; unfold Builtin.firstCells; rw [Nat.zero_mul]; rfl
  · rename_i i o n c1 heq
    injection heq with q1 q2 q3; subst q1 q2 q3
    split at hs
    · rename_i h0
      obtain rfl := Option.some.inj hs
      subst h0
      refine ⟨by simp, [], CR.nil, rfl, ?_⟩
      cases a' with
      | none => exact fun _ => rfl
      | some b => intro d; unfold Builtin.firstCells; rw [Nat.zero_mul]; rfl
    · rename_i h0
      rw [Option.bind_eq_some_iff] at hs
      obtain ⟨⟨cs, st, bsz, ex⟩, h1, h2⟩ := hs
      obtain ⟨h3, h4⟩ := getRow_some h1
      cases hx with
      | flat h => simp [flatV] at h
      | slc he g1 g2 g3 =>
        obtain ⟨l', k1, k2, k3, k4, k5⟩ := hr.cells (P := P) h3 h4 he h2
        have := (cut_some h2).2.1
        exact ⟨this, l', ⟨by rw [k1, this], k2⟩, k4, k5⟩
      | sle => exact absurd rfl h0
  · cases hs

theorem u8s_flat (s : ByteArray) : (u8s s).all flatV = true := by
  unfold u8s
  rw [List.all_eq_true]
  intro x hx
  rw [List.mem_map] at hx
  obtain ⟨b, _, rfl⟩ := hx
  rfl
theorem u8s_length (s : ByteArray) : (u8s s).length = s.size := by unfold u8s; simp

theorem push_modify {α : Type} (h : Array α) (o : α) (f : α → α) : (h.push o).modify h.size f = h.push (f o) := by
  apply Array.ext_getElem?
  intro j
  rw [Array.getElem?_modify, Array.getElem?_push, Array.getElem?_push]
  by_cases hj : h.size = j
  · subst hj; simp
  · rw [if_neg hj, if_neg (fun e => hj e.symm), if_neg (fun e => hj e.symm)]

theorem sim_s2b {x x' : Value} {s d el : TypeId} {ds : TypeDesc} (hr : Rel G μ A w) (hx : VR μ x x') (h1 : P.underlying s = some .string) (h2 : P.underlying d = some (.slice el)) (h3 : P.underlying el = some (.int .u8))
    (hs : sS2b A x = some (v, A')) : Sim G μ A w v A' ((do pure (.value (← convert s d x')) : Sem Next).run P w) := by
  unfold sS2b at hs
  split at hs
  · rename_i str
    injection hs with hs; injection hs with h5 h6; subst h5 h6
    obtain rfl := hx.string
    have hq : (Question.appendCap str.size 0 el).forced = false := rfl
    generalize hcap : (Question.appendCap str.size 0 el).cut (w.tape w.drawn (.appendCap str.size 0 el)) = cap
    have hge : str.size ≤ cap := by rw [← hcap]; simp [Question.cut]
    have hrun : (convert s d (.string str)).run P w = .ok (.slice (some ⟨w.heap.size, 0, none⟩) str.size cap)
        ({ w with drawn := w.drawn + 1 }.alloc (.cells ((u8s str).toArray ++ Array.replicate (cap - str.size) (Value.int .u8 0)) el (cap, cap + 1))) := by
      unfold convert
      rw [Sem.run_bind, run_underlying h1, Result.andThen_ok, Sem.run_bind, run_underlying h2, Result.andThen_ok]
      simp only [Sem.run_bind, run_underlying h3, Result.andThen_ok]
      unfold Conv.stringToBytes
      simp only [Sem.run_bind, run_choose, hq, Result.andThen_ok, Bool.false_eq_true, if_false, hcap, newRow, run_newObj, Sem.run_pure]
      unfold markStringish
      have hsz : ((Array.map (fun b => Value.int IntKind.u8 (b.toNat : Int)) str.data) ++ Array.replicate (cap - str.size) (Value.int IntKind.u8 0)).size = cap := by
        simp only [Array.size_append, Array.size_map, Array.size_replicate]
        show str.size + (cap - str.size) = cap
        omega
      have e : (u8s str).toArray = Array.map (fun b => Value.int IntKind.u8 (b.toNat : Int)) str.data := by
        unfold u8s
        apply Array.ext'
        rw [Array.toList_map]
      rw [e]
      simp only [Sem.run_bind, run_shape, Result.andThen_ok, World.shape?, Array.getElem?_push_size, run_freeze, World.freeze, hsz, Nat.one_ne_zero, if_false, World.alloc]
      rw [push_modify]
      simp
    have hu : (u8s str).length = str.size := u8s_length str
    refine sim_newSl (d := w.drawn + 1) (sz := 1) (c' := cap) hr ?_ ?_ ?_ (by simp) (Nat.le_refl _) hge ?_ (run_value hrun)
    · intro j u hju
      have hf := u8s_flat str
      have hfl : flatV u = true := by
        rw [List.all_eq_true] at hf
        exact hf u (List.mem_of_getElem? hju)
      refine ⟨flat_one hfl, u, ?_, .flat hfl⟩
      rw [Array.getElem?_append]
      have := lt_of_get hju
      rw [if_pos (by simpa using this)]
      simpa using hju
    · simp [hu]
    · right
      simp [hu]
      omega
    · simp [hu]; omega
  · cases hs

end
end Go.AS
