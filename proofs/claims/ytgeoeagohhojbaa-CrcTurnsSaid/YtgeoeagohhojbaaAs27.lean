import Derived.Test.YtgeoeagohhojbaaAs26
import Derived.WideShapes
namespace Go.AS
open Go Go.RowKit Go.WideShapes
set_option linter.unusedVariables false
set_option linter.unusedSimpArgs false

/-- An abstract value of a type of plain data. -/
def GoodV (P : Program) (A : AH) (F : Nat) (t : TypeId) (v : Value) : Prop :=
  match P.underlying t with
  | some (.struct _) | some (.array _ _) => ∃ cs, v = .agg cs ∧ Good P A F t cs.toList
  | _ => Good P A F t [v]

/-- A type whose values are rows of cells. -/
def aggU (P : Program) (t : TypeId) : Bool := match P.underlying t with | some (.struct _) | some (.array _ _) => true | _ => false
theorem GoodV.le {P : Program} {A B : AH} {F : Nat} {t : TypeId} {v : Value} (h : GoodV P A F t v) (hl : Le A B) : GoodV P B F t v := by
  unfold GoodV at h ⊢
  split
  · rename_i hu; rw [hu] at h; obtain ⟨cs, h1, h2⟩ := h; exact ⟨cs, h1, Good.le hl _ _ _ h2⟩
  · rename_i hu; rw [hu] at h; obtain ⟨cs, h1, h2⟩ := h; exact ⟨cs, h1, Good.le hl _ _ _ h2⟩
  · rename_i hu1 hu2
    split at h
    · rename_i hu; exact absurd hu (hu1 _)
    · rename_i hu; exact absurd hu (hu2 _ _)
    · exact Good.le hl _ _ _ h

section
variable {H : Type} {enc : TypeId × Value → H} {P : Program} {w : World} {base : Nat} {held : Bool}

theorem open_one {F : Nat} {t : TypeId} {v : Value} {d : DataW H} {ps : List MemPlace} {μ : Mu} {A : AH} {b0 : Nat} (hd : dataT P F t = true) (ht : DataW.Trod enc P w base (fun _ => true) held t v d ps) (hw : ∀ n ∈ d.weights P t, n ≤ reachBytes) (hv : Value.okWide P w .any b0 t v)
    (hr : Rel 0 μ A w) (hn : ∀ (i : Nat) b, A[i]? = some b → b.isOwn = false) : ∃ μ' A' v', Opens w μ A μ' A' ∧ VR μ' v' v ∧ GoodV P A' F t v' := by
  obtain ⟨fuel, hf⟩ := ht
  obtain ⟨μ', A', cs', g1, g2, g3⟩ := open_data F t v.cells.toList fuel _ μ A hd hf hw hr hn
  have agg : (∃ cs, v = .agg cs) → ∃ v', VR μ' v' v ∧ ∃ cs, v' = .agg cs ∧ Good P A' F t cs.toList := by
    rintro ⟨cs, rfl⟩
    have e : (Value.agg cs).cells = cs := rfl
    rw [e] at g2
    refine ⟨.agg cs'.toArray, .agg (by simpa using g2.1) (fun j x y hx hy => (g2.2 j x y (by simpa using hx) (by simpa using hy)).1), cs'.toArray, rfl, by simpa using g3⟩
  have one : v.cells = #[v] → ∃ v', VR μ' v' v ∧ Good P A' F t [v'] := by
    intro e
    rw [e] at g2
    obtain ⟨h1, h2⟩ := g2
    cases cs' with
    | nil => simp at h1
    | cons x r =>
      cases r with
      | nil => exact ⟨x, (h2 0 x v rfl rfl).1, g3⟩
      | cons y r => simp at h1
  cases F with
  | zero => simp [dataT] at hd
  | succ F =>
    unfold dataT at hd
    unfold GoodV
    split at hd
    · rename_i hu
      obtain ⟨b, rfl⟩ := okWide_bool hu hv
      obtain ⟨v', q1, q2⟩ := one rfl
      refine ⟨μ', A', v', g1, q1, ?_⟩
      rw [hu]; exact q2
    · rename_i hu
      obtain ⟨b, rfl⟩ := okWide_string hu hv
      obtain ⟨v', q1, q2⟩ := one rfl
      refine ⟨μ', A', v', g1, q1, ?_⟩
      rw [hu]; exact q2
    · rename_i hu
      obtain ⟨b, rfl⟩ := okWide_int hu hv
      obtain ⟨v', q1, q2⟩ := one rfl
      refine ⟨μ', A', v', g1, q1, ?_⟩
      rw [hu]; exact q2
    · rename_i hu
      obtain ⟨a, l, c, rfl⟩ := okWide_slice hu hv
      obtain ⟨v', q1, q2⟩ := one rfl
      refine ⟨μ', A', v', g1, q1, ?_⟩
      rw [hu]; exact q2
    · rename_i fs hu
      obtain ⟨cs, rfl, _⟩ := okWide_struct hu hv
      obtain ⟨v', q1, q2⟩ := agg ⟨_, rfl⟩
      refine ⟨μ', A', v', g1, q1, ?_⟩
      rw [hu]; exact q2
    · rename_i n e hu
      have : ∃ cs, v = .agg cs := by
        unfold Value.okWide at hv
        rw [hu] at hv
        obtain ⟨cs, h, _⟩ := hv
        exact ⟨cs, h⟩
      obtain ⟨v', q1, q2⟩ := agg this
      refine ⟨μ', A', v', g1, q1, ?_⟩
      rw [hu]; exact q2
    · cases hd

theorem open_all {F b0 : Nat} : ∀ (ts : List TypeId) (vs : List Value) (ds : List (DataW H)) (ps : List MemPlace) (μ : Mu) (A : AH), (∀ t ∈ ts, dataT P F t = true) → DataW.TrodAll enc P w base (fun _ => true) held ts vs ds ps → (∀ n ∈ DataW.weightsEach P ts ds, n ≤ reachBytes) →
    (∀ (j : Nat) t v, ts[j]? = some t → vs[j]? = some v → Value.okWide P w .any b0 t v) → Rel 0 μ A w → (∀ (i : Nat) b, A[i]? = some b → b.isOwn = false) →
    ∃ (μ' : Mu) (A' : AH) (us : List Value), Opens w μ A μ' A' ∧ us.length = ts.length ∧ vs.length = ts.length ∧ (∀ (j : Nat) u v, us[j]? = some u → vs[j]? = some v → VR μ' u v) ∧ (∀ (j : Nat) t u, ts[j]? = some t → us[j]? = some u → GoodV P A' F t u)
  | [], [], [], _, μ, A, _, _, _, _, hr, hn => ⟨μ, A, [], ⟨hr, hn, .refl _, ⟨[], by simp⟩⟩, rfl, rfl, fun j u v h => by simp at h, fun j t u h => by simp at h⟩
  | t :: ts, v :: vs, d :: ds, ps, μ, A, hts, ht, hw, hv, hr, hn => by
    unfold DataW.TrodAll at ht
    obtain ⟨p, q, h1, h2, _⟩ := ht
    obtain ⟨μ1, A1, u, g1, g2, g3⟩ := open_one (hts t (by simp)) h1 (fun n hn => hw n (by simp only [DataW.weightsEach, List.mem_append]; exact .inl hn)) (hv 0 t v rfl rfl) hr hn
    obtain ⟨μ2, A2, us, k1, k2, k3, k4, k5⟩ := open_all ts vs ds q μ1 A1 (fun t ht => hts t (by simp [ht])) h2 (fun n hn => hw n (by simp only [DataW.weightsEach, List.mem_append]; exact .inr hn)) (fun j t v a b => hv (j + 1) t v (by simpa using a) (by simpa using b)) g1.rel g1.noOwn
    obtain ⟨r, rfl⟩ := k1.pre
    refine ⟨_, A2, u :: us, g1.trans k1, by simp [k2], by simp [k3], ?_, ?_⟩
    · intro j x y hx hy
      cases j with
      | zero => simp only [List.getElem?_cons_zero, Option.some.injEq] at hx hy; subst hx hy; exact g2.mono
      | succ j => exact k4 j x y (by simpa using hx) (by simpa using hy)
    · intro j x y hx hy
      cases j with
      | zero => simp only [List.getElem?_cons_zero, Option.some.injEq] at hx hy; subst hx hy; exact g3.le k1.le
      | succ j => exact k5 j x y (by simpa using hx) (by simpa using hy)
  | [], [], _ :: _, _, _, _, _, ht, _, _, _, _ => by simp [DataW.TrodAll] at ht
  | [], _ :: _, _, _, _, _, _, ht, _, _, _, _ => by simp [DataW.TrodAll] at ht
  | _ :: _, [], _, _, _, _, _, ht, _, _, _, _ => by simp [DataW.TrodAll] at ht
  | _ :: _, _ :: _, [], _, _, _, _, ht, _, _, _, _ => by simp [DataW.TrodAll] at ht

theorem weights_each_append : ∀ (ts ts' : List TypeId) (ds ds' : List (DataW H)) (n : Nat), n ∈ DataW.weightsEach P ts ds → ds.length = ts.length → n ∈ DataW.weightsEach P (ts ++ ts') (ds ++ ds')
  | [], _, [], _, n, h, _ => by simp [DataW.weightsEach] at h
  | [], _, _ :: _, _, n, _, h => by simp at h
  | _ :: _, _, [], _, n, _, h => by simp at h
  | t :: ts, ts', d :: ds, ds', n, h, hl => by
    simp only [List.cons_append, DataW.weightsEach, List.mem_append] at h ⊢
    rcases h with h | h
    · exact .inl h
    · exact .inr (weights_each_append ts ts' ds ds' n h (by simpa using hl))
theorem trod_len : ∀ (ts : List TypeId) (vs : List Value) (ds : List (DataW H)) (ps : List MemPlace), DataW.TrodAll enc P w base (fun _ => true) held ts vs ds ps → ds.length = ts.length
  | [], [], [], _, _ => rfl
  | t :: ts, v :: vs, d :: ds, ps, h => by
    unfold DataW.TrodAll at h
    obtain ⟨p, q, _, h2, _⟩ := h
    simp [trod_len ts vs ds q h2]
  | [], [], _ :: _, _, ht => by simp [DataW.TrodAll] at ht
  | [], _ :: _, _, _, ht => by simp [DataW.TrodAll] at ht
  | _ :: _, [], _, _, ht => by simp [DataW.TrodAll] at ht
  | _ :: _, _ :: _, [], _, ht => by simp [DataW.TrodAll] at ht
/-- A LAW'S ENTRY, whatever plain data it takes. -/
theorem calls_of_trod {F b0 : Nat} {ts : List TypeId} {args : Array Value} {ds : List (DataW H)} {ps : List MemPlace} {f : FuncId} (hts : ts.all (fun t => dataT P F t) = true) (ht : DataW.TrodAll enc P w base (fun _ => true) held ts args.toList ds ps) (hw : ∀ n ∈ DataW.weightsEach P ts ds, n ≤ reachBytes)
    (hv : ∀ (j : Nat) t v, ts[j]? = some t → args[j]? = some v → Value.okWide P w .any b0 t v)
    (h : ∀ (us : List Value) (A : AH), us.length = ts.length → (∀ (j : Nat) t u, ts[j]? = some t → us[j]? = some u → GoodV P A F t u) → ACalls 0 P f us (fun v _ => v = .bool true) A) :
    Calls P f args w fun e w' => e = .returned (.bool true) ∧ Below w.heap.size w w' := by
  have hr0 : Rel 0 [] [] w := by
    refine ⟨rfl, fun g hg => by omega, ?_, ?_, ?_, ?_, ?_, ?_⟩ <;> · intros; simp_all
  rw [List.all_eq_true] at hts
  obtain ⟨μ, A, us, g1, g2, g3, g4, g5⟩ := open_all ts args.toList ds ps [] [] hts ht hw (fun j t v a b => hv j t v a (by simpa using b)) hr0 (fun i b hb => by simp at hb)
  refine (h us A g2 g5 μ args w g1.rel (by rw [g2, ← g3, Array.length_toList]) (fun j u v a b => g4 j u v a (by simpa using b))).mono ?_
  rintro e w' ⟨v, v', μ', A', rfl, hv, hr', hs, rfl⟩
  obtain rfl := hv.bool
  refine ⟨rfl, hs.os, hs.tape, hs.output, hs.size, fun k hk => hs.keep k hk ?_⟩
  intro i b e hb ho
  rw [g1.noOwn i b hb] at ho
  cases ho
end

section
variable {P : Program} {A : AH} {F : Nat} {t e e2 : TypeId} {v : Value}
theorem good_int {k : IntKind} (hu : P.underlying t = some (.int k)) (h : GoodV P A (F + 1) t v) : ∃ n, v = .int k n ∧ (Lit.int k n).wf = true := by
  unfold GoodV Good at h
  rw [hu] at h
  obtain ⟨n, h1, h2⟩ := h
  exact ⟨n, by simpa using h1, h2⟩
theorem good_bool (hu : P.underlying t = some .bool) (h : GoodV P A (F + 1) t v) : ∃ b, v = .bool b := by
  unfold GoodV Good at h
  rw [hu] at h
  obtain ⟨n, h1⟩ := h
  exact ⟨n, by simpa using h1⟩
theorem good_str (hu : P.underlying t = some .string) (h : GoodV P A (F + 1) t v) : ∃ s : ByteArray, v = .string s ∧ s.size ≤ reachBytes := by
  unfold GoodV Good at h
  rw [hu] at h
  obtain ⟨n, h1, h2⟩ := h
  exact ⟨n, by simpa using h1, h2⟩
theorem good_slice (hu : P.underlying t = some (.slice e)) (h : GoodV P A (F + 1) t v) : ∃ n rc, Sl A (P.cellsOf e) v n rc ∧ n * P.bytesOf e ≤ reachBytes ∧ ∀ j, j < n → Good P A F e ((rc.drop (j * P.cellsOf e)).take (P.cellsOf e)) := by
  unfold GoodV Good at h
  rw [hu] at h
  obtain ⟨u, n, rc, h1, h2, h3, h4⟩ := h
  obtain rfl : v = u := by simpa using h1
  exact ⟨n, rc, h2, h3, h4⟩
theorem good_cell (h1 : aggU P e = false) (h : Good P A F e [v]) : GoodV P A F e v := by
  unfold GoodV
  unfold aggU at h1
  split
  · rename_i hu; rw [hu] at h1; cases h1
  · rename_i hu; rw [hu] at h1; cases h1
  · exact h
/-- A slice whose elements are one cell each. -/
theorem good_slice1 (hu : P.underlying t = some (.slice e)) (hc : P.cellsOf e = 1) (h1 : aggU P e = false) (h : GoodV P A (F + 1) t v) : ∃ rc, Sl A 1 v rc.length rc ∧ rc.length * P.bytesOf e ≤ reachBytes ∧ ∀ x ∈ rc, GoodV P A F e x := by
  obtain ⟨n, rc, h2, h3, h4⟩ := good_slice hu h
  rw [hc] at h2 h4
  have hn : rc.length = n := by simpa using h2.1
  subst hn
  refine ⟨rc, h2, h3, fun x hx => ?_⟩
  obtain ⟨j, hj⟩ := List.mem_iff_getElem?.1 hx
  have := h4 j (lt_of_get hj)
  rw [Nat.mul_one] at this
  have e1 : (rc.drop j).take 1 = [x] := by
    rw [List.take_one, List.head?_drop, hj]
    rfl
  rw [e1] at this
  exact good_cell h1 this
theorem good_list {α : Type} {R : Value → α → Prop} : ∀ (rc : List Value), (∀ x ∈ rc, ∃ a, R x a) → ∃ l : List α, All2 R rc l
  | [], _ => ⟨[], trivial⟩
  | x :: rc, h => by
    obtain ⟨a, ha⟩ := h x (by simp)
    obtain ⟨l, hl⟩ := good_list rc (fun y hy => h y (by simp [hy]))
    exact ⟨a :: l, ha, hl⟩
theorem all2_map {α : Type} {f : α → Value} : ∀ (rc : List Value) (l : List α), All2 (fun x a => x = f a) rc l → rc = l.map f
  | [], [], _ => rfl
  | x :: rc, a :: l, h => by rw [List.map_cons, ← h.1, all2_map rc l h.2]
  | [], _ :: _, k => k.elim
  | _ :: _, [], k => k.elim
theorem good_bytes (hu : P.underlying t = some (.slice e)) (he : P.underlying e = some (.int .u8)) (hc : P.cellsOf e = 1) (h : GoodV P A (F + 2) t v) : ∃ bs : List UInt8, Byt A v bs ∧ bs.length * P.bytesOf e ≤ reachBytes := by
  obtain ⟨rc, h1, h2, h3⟩ := good_slice1 hu hc (by unfold aggU; rw [he]) h
  obtain ⟨l, hl⟩ := good_list (R := fun x (b : UInt8) => x = by8 b) rc (fun x hx => by
    obtain ⟨n, rfl, hw⟩ := good_int he (h3 x hx)
    exact ⟨_, (wf_u8 hw).symm⟩)
  have := all2_map _ _ hl
  subst this
  exact ⟨l, by simpa [Byt] using h1, by simpa using h2⟩
theorem good_strs (hu : P.underlying t = some (.slice e)) (he : P.underlying e = some .string) (hc : P.cellsOf e = 1) (h : GoodV P A (F + 2) t v) : ∃ l : List ByteArray, Sl A 1 v l.length (l.map .string) ∧ l.length * P.bytesOf e ≤ reachBytes ∧ ∀ s ∈ l, s.size ≤ reachBytes := by
  obtain ⟨rc, h1, h2, h3⟩ := good_slice1 hu hc (by unfold aggU; rw [he]) h
  obtain ⟨l, hl⟩ := good_list (R := fun x (b : ByteArray) => x = .string b ∧ b.size ≤ reachBytes) rc (fun x hx => good_str he (h3 x hx))
  have := all2_map _ _ (All2.imp (fun _ _ h => h.1) _ _ hl)
  subst this
  refine ⟨l, by simpa using h1, by simpa using h2, fun s hs => ?_⟩
  obtain ⟨j, hj⟩ := List.mem_iff_getElem?.1 hs
  exact (All2.get _ _ hl j (.string s) s (by rw [List.getElem?_map, hj]; rfl) hj).2
theorem good_ints {k : IntKind} (hu : P.underlying t = some (.slice e)) (he : P.underlying e = some (.int k)) (hc : P.cellsOf e = 1) (h : GoodV P A (F + 2) t v) : ∃ l : List Int, Sl A 1 v l.length (ints k l) ∧ l.length * P.bytesOf e ≤ reachBytes ∧ ∀ n ∈ l, (Lit.int k n).wf = true := by
  obtain ⟨rc, h1, h2, h3⟩ := good_slice1 hu hc (by unfold aggU; rw [he]) h
  obtain ⟨l, hl⟩ := good_list (R := fun x (b : Int) => x = .int k b ∧ (Lit.int k b).wf = true) rc (fun x hx => good_int he (h3 x hx))
  have := all2_map _ _ (All2.imp (fun _ _ h => h.1) _ _ hl)
  subst this
  refine ⟨l, by simpa [ints] using h1, by simpa using h2, fun s hs => ?_⟩
  obtain ⟨j, hj⟩ := List.mem_iff_getElem?.1 hs
  exact (All2.get _ _ hl j (.int k s) s (by rw [List.getElem?_map, hj]; rfl) hj).2
/-- An array whose elements are one cell each. -/
theorem good_array1 {n : Nat} (hu : P.underlying t = some (.array n e)) (hc : P.cellsOf e = 1) (ht : P.cellsOf t = n) (h1 : aggU P e = false) (h : GoodV P A (F + 1) t v) : ∃ rc : List Value, v = .agg rc.toArray ∧ rc.length = n ∧ ∀ x ∈ rc, GoodV P A F e x := by
  unfold GoodV at h
  simp only [hu] at h
  obtain ⟨cs, rfl, h⟩ := h
  unfold Good at h
  simp only [hu, hc, ht] at h
  obtain ⟨h2, h3⟩ := h
  refine ⟨cs.toList, by simp, h2, fun x hx => ?_⟩
  obtain ⟨j, hj⟩ := List.mem_iff_getElem?.1 hx
  have := h3 j (by rw [← h2]; exact lt_of_get hj)
  rw [Nat.mul_one] at this
  have e1 : (cs.toList.drop j).take 1 = [x] := by
    rw [List.take_one, List.head?_drop, hj]
    rfl
  rw [e1] at this
  exact good_cell h1 this
theorem good_abytes {n : Nat} (hu : P.underlying t = some (.array n e)) (he : P.underlying e = some (.int .u8)) (hc : P.cellsOf e = 1) (ht : P.cellsOf t = n) (h : GoodV P A (F + 2) t v) : ∃ bs : List UInt8, v = .agg (bs.map by8).toArray ∧ bs.length = n := by
  obtain ⟨rc, rfl, h2, h3⟩ := good_array1 hu hc ht (by unfold aggU; rw [he]) h
  obtain ⟨l, hl⟩ := good_list (R := fun x (b : UInt8) => x = by8 b) rc (fun x hx => by
    obtain ⟨n, rfl, hw⟩ := good_int he (h3 x hx)
    exact ⟨_, (wf_u8 hw).symm⟩)
  have := all2_map _ _ hl
  subst this
  exact ⟨l, rfl, by simpa using h2⟩
/-- Texts as slices of bytes. -/
def Byts (A : AH) (v : Value) (bss : List (List UInt8)) : Prop := ∃ vs : List Value, Sl A 1 v vs.length vs ∧ All2 (fun x bs => Byt A x bs) vs bss
theorem good_bytess (hu : P.underlying t = some (.slice e)) (he : P.underlying e = some (.slice e2)) (he2 : P.underlying e2 = some (.int .u8)) (hc : P.cellsOf e = 1) (hc2 : P.cellsOf e2 = 1) (h : GoodV P A (F + 3) t v) :
    ∃ bss : List (List UInt8), Byts A v bss ∧ bss.length * P.bytesOf e ≤ reachBytes ∧ ∀ bs ∈ bss, bs.length * P.bytesOf e2 ≤ reachBytes := by
  obtain ⟨rc, h1, h2, h3⟩ := good_slice1 hu hc (by unfold aggU; rw [he]) h
  obtain ⟨l, hl⟩ := good_list (R := fun x (b : List UInt8) => Byt A x b ∧ b.length * P.bytesOf e2 ≤ reachBytes) rc (fun x hx => good_bytes he he2 hc2 (h3 x hx))
  refine ⟨l, ⟨rc, h1, All2.imp (fun _ _ h => h.1) _ _ hl⟩, by rw [All2.len _ _ hl]; exact h2, fun s hs => ?_⟩
  obtain ⟨j, hj⟩ := List.mem_iff_getElem?.1 hs
  have hjl : j < rc.length := by rw [← All2.len _ _ hl]; exact lt_of_get hj
  exact (All2.get _ _ hl j _ s (List.getElem?_eq_getElem hjl) hj).2
end
end Go.AS
