import Derived.Test.YtgeoeagohhojbaaAs2
import Derived.Laws.Cells
import Derived.Laws.IdiomCopy
import Derived.Laws.Entries
namespace Go.AS
open Go
set_option linter.unusedVariables false
set_option linter.unusedSimpArgs false

theorem get_set {α : Type} {l : List α} {i k : Nat} {x y : α} (h : (l.set i x)[k]? = some y) : (k = i ∧ y = x ∧ i < l.length) ∨ (k ≠ i ∧ l[k]? = some y) := by
  rw [List.getElem?_set] at h
  split at h
  · subst_vars
    split at h
    · exact .inl ⟨rfl, (Option.some.inj h).symm, by assumption⟩
    · cases h
  · exact .inr ⟨fun e => by subst e; contradiction, h⟩

theorem ones_get {vs : List Value} (h : ones vs = true) {j : Nat} {v : Value} (hj : vs[j]? = some v) : v.oneCell' = true := by
  unfold ones at h
  rw [List.all_eq_true] at h
  exact h v (List.mem_of_getElem? hj)

theorem ones_append {a b : List Value} (ha : ones a = true) (hb : ones b = true) : ones (a ++ b) = true := by
  unfold ones at *
  rw [List.all_append, ha, hb]; rfl

section
variable {G : Nat} {μ : Mu} {A : AH} {w : World}

theorem Rel.mu_lt (h : Rel G μ A w) {i : Nat} {b : Blk} (hb : A[i]? = some b) : ∃ e : Ent, μ[i]? = some e := by
  have := lt_of_get hb
  rw [← h.len] at this
  exact ⟨μ[i], List.getElem?_eq_getElem this⟩

theorem alloc_new (w : World) (o : Obj) : (w.alloc o).heap[w.heap.size]? = some o := by
  show (w.heap.push o)[w.heap.size]? = _
  simp
theorem alloc_old (w : World) (o : Obj) {i : Nat} (h : i < w.heap.size) : (w.alloc o).heap[i]? = w.heap[i]? := by
  show (w.heap.push o)[i]? = _
  rw [Array.getElem?_push, if_neg (by omega)]
theorem alloc_size (w : World) (o : Obj) : (w.alloc o).heap.size = w.heap.size + 1 := by
  show (w.heap.push o).size = _
  simp

theorem VR.cellMono {r : Mu} {cs : List Value} {rc : Array Value} {off : Nat} (h : ∀ (j : Nat) v, cs[j]? = some v → v.oneCell' = true ∧ ∃ v', rc[off + j]? = some v' ∧ VR μ v v') :
    ∀ (j : Nat) v, cs[j]? = some v → v.oneCell' = true ∧ ∃ v', rc[off + j]? = some v' ∧ VR (μ ++ r) v v' := by
  intro j v hj
  obtain ⟨h1, v', h2, h3⟩ := h j v hj
  exact ⟨h1, v', h2, h3.mono⟩

/-- A new block of cells, the call's own. -/
theorem Rel.push (h : Rel G μ A w) {cs : List Value} {sz : Nat} {ex : Bool} {rc : Array Value} {T : TypeId} {fr : Nat × Nat}
    (hc : ∀ (j : Nat) v, cs[j]? = some v → v.oneCell' = true ∧ ∃ v', rc[j]? = some v' ∧ VR μ v v') (hl : cs.length ≤ rc.size)
    (hf : fr.1 = fr.2 ∨ rc.size ≤ fr.1) (hx : ex = true → rc.size = cs.length) :
    Rel G (μ ++ [⟨w.heap.size, 0, rc.size, sz⟩]) (A ++ [.row cs .own sz ex]) (w.alloc (.cells rc T fr)) := by
  have hsz := alloc_size w (.cells rc T fr)
  refine ⟨by simp [h.len], ?_, ?_, ?_, ?_, ?_, ?_, ?_⟩
  · intro g hg
    obtain ⟨e, h1, h2, h3⟩ := h.glo g hg
    exact ⟨e, pre_get h1, h2, h3⟩
  · intro i e he
    rcases push_get he with ⟨_, he⟩ | ⟨_, rfl⟩
    · have := h.lt i e he; omega
    · simp only; omega
  · intro i cs' st sz' ex' e hb he hst
    rcases push_get hb with ⟨hi, hb⟩ | ⟨hi, hb⟩
    · rcases push_get he with ⟨_, he⟩ | ⟨hi', _⟩
      · obtain ⟨rc', T', fr', g1, g2, g3, g4⟩ := h.row i cs' st sz' ex' e hb he hst
        exact ⟨rc', T', fr', by rw [alloc_old _ _ (h.lt i e he)]; exact g1, VR.cellMono g2, g3, g4⟩
      · rw [h.len] at hi'; omega
    · injection hb with q1 q2 q3 q4
      subst q1 q2 q3 q4
      rcases push_get he with ⟨hi', he⟩ | ⟨_, rfl⟩
      · rw [h.len] at hi'; omega
      · refine ⟨rc, T, fr, alloc_new w _, ?_, hl, fun _ => ⟨by simp, hf, hx⟩⟩
        refine VR.cellMono (off := 0) ?_
        intro j v hj; simpa using hc j v hj
  · intro i cs' st sz' ex' e hb he
    rcases push_get hb with ⟨hi, hb⟩ | ⟨hi, hb⟩
    · rcases push_get he with ⟨_, he⟩ | ⟨hi', _⟩
      · exact h.szs i cs' st sz' ex' e hb he
      · rw [h.len] at hi'; omega
    · injection hb with q1 q2 q3 q4
      subst q3
      rcases push_get he with ⟨hi', he⟩ | ⟨_, rfl⟩
      · rw [h.len] at hi'; omega
      · rfl
  · intro i s p e hb he
    rcases push_get hb with ⟨hi, hb⟩ | ⟨hi, hb⟩
    · rcases push_get he with ⟨_, he⟩ | ⟨hi', _⟩
      · rw [alloc_old _ _ (h.lt i e he)]; exact h.sit i s p e hb he
      · rw [h.len] at hi'; omega
    · cases hb
  · intro i es e hb he
    rcases push_get hb with ⟨hi, hb⟩ | ⟨hi, hb⟩
    · rcases push_get he with ⟨_, he⟩ | ⟨hi', _⟩
      · rw [alloc_old _ _ (h.lt i e he)]
        obtain ⟨mes, clock, g1, g2, g3, g4⟩ := h.mp i es e hb he
        exact ⟨mes, clock, g1, g2, fun j m k v a b => let ⟨x, y, z⟩ := g3 j m k v a b; ⟨x.mono, y.mono, z⟩, g4⟩
      · rw [h.len] at hi'; omega
    · cases hb
  · intro i k b b' e e' hb hb' ho ha hne he he'
    rcases push_get he with ⟨hi, he⟩ | ⟨hi, rfl⟩
    · rcases push_get he' with ⟨hk, he'⟩ | ⟨hk, rfl⟩
      · rcases push_get hb with ⟨_, hb⟩ | ⟨hi2, _⟩
        · rcases push_get hb' with ⟨_, hb'⟩ | ⟨hk2, _⟩
          · exact h.apart i k b b' e e' hb hb' ho ha hne he he'
          · rw [h.len] at hk; omega
        · rw [h.len] at hi; omega
      · have := h.lt i e he; simp only; omega
    · rcases push_get he' with ⟨hk, he'⟩ | ⟨hk, rfl⟩
      · have := h.lt k e' he'; simp only; omega
      · omega

theorem Stp.push (cs : List Value) (sz : Nat) (ex : Bool) (l s : Nat) (o : Obj) (hl : μ.length = A.length) : Stp μ A w (μ ++ [⟨w.heap.size, 0, l, s⟩]) (A ++ [.row cs .own sz ex]) (w.alloc o) := by
  refine ⟨⟨_, rfl⟩, rfl, rfl, rfl, by rw [alloc_size]; omega, fun r hr _ => alloc_old _ _ hr, ?_⟩
  intro i b e hb ho he hlt
  rcases push_get he with ⟨hi, he⟩ | ⟨hi, rfl⟩
  · rcases push_get hb with ⟨_, hb⟩ | ⟨hi2, _⟩
    · exact ⟨i, b, e, hb, ho, he, rfl⟩
    · omega
  · simp only at hlt; omega

/-- A block is given up. -/
theorem Rel.kill (h : Rel G μ A w) {i : Nat} {cs : List Value} {st : St} {sz : Nat} {ex : Bool} (hi : A[i]? = some (.row cs st sz ex)) : Rel G μ (A.set i (.row cs .dead sz ex)) w := by
  refine ⟨by simp [h.len], h.glo, h.lt, ?_, ?_, ?_, ?_, ?_⟩
  · intro k cs' st' sz' ex' e hb he hst
    rcases get_set hb with ⟨rfl, q, _⟩ | ⟨_, hb⟩
    · injection q with _ q; exact absurd q hst
    · exact h.row k cs' st' sz' ex' e hb he hst
  · intro k cs' st' sz' ex' e hb he
    rcases get_set hb with ⟨rfl, q, _⟩ | ⟨_, hb⟩
    · injection q with _ _ q; subst q; exact h.szs k _ _ _ _ e hi he
    · exact h.szs k cs' st' sz' ex' e hb he
  · intro k s p e hb he
    rcases get_set hb with ⟨rfl, q, _⟩ | ⟨_, hb⟩
    · cases q
    · exact h.sit k s p e hb he
  · intro k es e hb he
    rcases get_set hb with ⟨rfl, q, _⟩ | ⟨_, hb⟩
    · cases q
    · exact h.mp k es e hb he
  · intro k l b b' e e' hb hb' ho ha hne he he'
    rcases get_set hb with ⟨rfl, rfl, _⟩ | ⟨_, hb⟩
    · simp [Blk.isOwn] at ho
    · rcases get_set hb' with ⟨rfl, rfl, _⟩ | ⟨_, hb'⟩
      · simp [Blk.alive] at ha
      · exact h.apart k l b b' e e' hb hb' ho ha hne he he'

theorem Stp.kill (μ : Mu) (w : World) {i : Nat} {cs : List Value} {st : St} {sz : Nat} {ex : Bool} (hi : A[i]? = some (.row cs st sz ex)) : Stp μ A w μ (A.set i (.row cs .dead sz ex)) w := by
  refine ⟨⟨[], by simp⟩, rfl, rfl, rfl, Nat.le_refl _, fun _ _ _ => rfl, ?_⟩
  intro k b e hb ho he _
  rcases get_set hb with ⟨rfl, rfl, _⟩ | ⟨_, hb⟩
  · simp [Blk.isOwn] at ho
  · exact ⟨k, b, e, hb, ho, he, rfl⟩

/-- The world behind a row of stores. -/
structure Wrote (w w' : World) (b : Nat) (rc rc' : Array Value) (T : TypeId) (fr : Nat × Nat) (o : Nat) (vs : List Value) : Prop where
  heap : w'.heap[b]? = some (.cells rc' T fr)
  size : rc'.size = rc.size
  cells : ∀ (j : Nat), rc'[j]? = if o ≤ j ∧ j < o + vs.length then vs[j - o]? else rc[j]?
  other : ∀ r, r ≠ b → w'.heap[r]? = w.heap[r]?
  hsize : w'.heap.size = w.heap.size
  os : w'.os = w.os
  tape : w'.tape = w.tape
  output : w'.output = w.output

theorem run_storeRow (P : Program) (b o : Nat) (T : TypeId) (fr : Nat × Nat) : ∀ (vs : List Value) (i : Nat) (w : World) (rc : Array Value), w.heap[b]? = some (.cells rc T fr) → o + i + vs.length ≤ rc.size →
    (fr.1 = fr.2 ∨ rc.size ≤ fr.1) → ones vs = true → ∃ w' rc', (storeCells ⟨b, o, none⟩ vs i).run P w = .ok () w' ∧ Wrote w w' b rc rc' T fr (o + i) vs
  | [], i, w, rc, hh, _, _, _ => ⟨w, rc, rfl, hh, rfl, fun j => by rw [if_neg (by simp only [List.length_nil]; omega)], fun _ _ => rfl, rfl, rfl, rfl, rfl⟩
  | v :: r, i, w, rc, hh, hl, hf, h1 => by
    have hadd : (⟨b, o, none⟩ : Addr).add i = ⟨b, o + i, none⟩ := by unfold Addr.add; split <;> simp_all
    simp only [List.length_cons] at hl
    have hv : v.oneCell' = true := ones_get h1 (j := 0) rfl
    have hr : ones r = true := by unfold ones at *; simp only [List.all_cons, Bool.and_eq_true] at h1; exact h1.2
    have hlt : o + i < rc.size := by omega
    have hcell : w.cell? ⟨b, o + i, none⟩ = some rc[o + i] := by simp [World.cell?, hh, hlt]
    have hfz : w.frozen? ⟨b, o + i, none⟩ = false := by
      have : ¬ (fr.1 ≤ o + i ∧ o + i < fr.2) := by omega
      obtain ⟨f1, f2⟩ := fr
      simp only [World.frozen?, hh]
      simp only at this
      rw [Bool.and_eq_false_iff]
      rcases Nat.lt_or_ge (o + i) f1 with h | h
      · left; rw [decide_eq_false_iff_not]; omega
      · right; rw [decide_eq_false_iff_not]; omega
    have hst : (store ((⟨b, o, none⟩ : Addr).add i) v).run P w = .ok () (w.setCell ⟨b, o + i, none⟩ v) := by
      rw [hadd, run_store P w _ v _ hv]
      simp [hcell, hfz]
    have hheap : (w.setCell ⟨b, o + i, none⟩ v).heap[b]? = some (.cells (rc.setIfInBounds (o + i) v) T fr) := by
      simp [World.setCell, Array.getElem?_modify, hh]
    obtain ⟨w', rc', g1, g⟩ := run_storeRow P b o T fr r (i + 1) (w.setCell ⟨b, o + i, none⟩ v) (rc.setIfInBounds (o + i) v) hheap (by simp; omega) (by simpa using hf) hr
    refine ⟨w', rc', ?_, g.heap, by rw [g.size]; simp, ?_, ?_, ?_, ?_, ?_, ?_⟩
    · simp only [storeCells, Sem.run_bind, hst, Result.andThen_ok, g1]
    · intro j
      rw [g.cells j, Array.getElem?_setIfInBounds]
      simp only [List.length_cons]
      by_cases hj : o + i ≤ j ∧ j < o + i + (r.length + 1)
      · rw [if_pos hj]
        rcases Nat.lt_or_ge (o + i) j with h | h
        · rw [if_pos (by omega), show j - (o + i) = (j - (o + (i + 1))) + 1 by omega, List.getElem?_cons_succ]
        · have : j = o + i := by omega
          subst this
          rw [if_neg (by omega), if_pos rfl, if_pos hlt]; simp
      · rw [if_neg hj, if_neg (by omega), if_neg (by omega)]
    · intro x hx
      rw [g.other x hx]
      simp only [World.setCell, Array.getElem?_modify]
      rw [if_neg (by omega)]
    · rw [g.hsize]; simp [World.setCell]
    · rw [g.os]; rfl
    · rw [g.tape]; rfl
    · rw [g.output]; rfl

theorem setAll_length (cs : List Value) (o : Nat) (vs : List Value) (h : o + vs.length ≤ cs.length) : (setAll cs o vs).length = cs.length := by
  unfold setAll; simp; omega
theorem setAll_get (cs : List Value) (o : Nat) (vs : List Value) (h : o + vs.length ≤ cs.length) (j : Nat) : (setAll cs o vs)[j]? = if o ≤ j ∧ j < o + vs.length then vs[j - o]? else cs[j]? := by
  unfold setAll
  rw [List.append_assoc, List.getElem?_append]
  simp only [List.length_take]
  rcases Nat.lt_or_ge j o with h1 | h1
  · rw [if_pos (by omega), if_neg (by omega), List.getElem?_take_of_lt h1]
  · rw [if_neg (by omega), List.getElem?_append]
    rcases Nat.lt_or_ge j (o + vs.length) with h2 | h2
    · rw [if_pos (by omega), if_pos ⟨h1, h2⟩]; congr 1; omega
    · rw [if_neg (by omega), if_neg (by omega), List.getElem?_drop]; congr 1; omega

/-- Cells of a block of the call's own are written. -/
theorem Rel.write (h : Rel G μ A w) {i o : Nat} {vs vs' : List Value} {cs : List Value} {sz : Nat} {ex : Bool} {e : Ent} {w' : World} {rc rc' : Array Value} {T : TypeId} {fr : Nat × Nat}
    (hi : A[i]? = some (.row cs .own sz ex)) (he : μ[i]? = some e) (hrc : w.heap[e.blk]? = some (.cells rc T fr)) (hl : o + vs.length ≤ cs.length) (h1 : ones vs = true)
    (hlen : vs'.length = vs.length) (hv : ∀ (j : Nat) v v', vs[j]? = some v → vs'[j]? = some v' → VR μ v v') (hw : Wrote w w' e.blk rc rc' T fr (e.off + o) vs') :
    Rel G μ (A.set i (.row (setAll cs o vs) .own sz ex)) w' := by
  have hother : ∀ (k : Nat) (b : Blk) (e' : Ent), A[k]? = some b → b.alive = true → k ≠ i → μ[k]? = some e' → w'.heap[e'.blk]? = w.heap[e'.blk]? := by
    intro k b e' hk ha hne hk'
    exact hw.other _ (fun q => h.apart i k _ b e e' hi hk rfl ha (Ne.symm hne) he hk' q.symm)
  refine ⟨by simp [h.len], h.glo, fun k e' hk => by rw [hw.hsize]; exact h.lt k e' hk, ?_, ?_, ?_, ?_, ?_⟩
  · intro k cs' st' sz' ex' e' hb hk hst
    rcases get_set hb with ⟨rfl, q, _⟩ | ⟨hne, hb⟩
    · injection q with q1 q2 q3 q4
      subst q1 q2 q3 q4
      rw [he] at hk
      obtain rfl := Option.some.inj hk
      obtain ⟨rc0, T0, fr0, g1, g2, g3, g4⟩ := h.row k cs .own _ _ e hi he (by decide)
      rw [hrc] at g1
      injection g1 with g1
      injection g1 with q1 q2 q3
      subst q1 q2 q3
      obtain ⟨g5, g6, g7⟩ := g4 rfl
      refine ⟨rc', T, fr, hw.heap, ?_, by rw [setAll_length _ _ _ hl]; exact g3, fun _ => ⟨by rw [hw.size]; exact g5, by rw [hw.size]; exact g6, fun hx => by rw [setAll_length _ _ _ hl]; exact g7 hx⟩⟩
      intro j v hj
      rw [setAll_get _ _ _ hl] at hj
      rw [hw.cells]
      by_cases hc : o ≤ j ∧ j < o + vs.length
      · rw [if_pos hc] at hj
        rw [if_pos (by omega)]
        have : j - o < vs'.length := by omega
        refine ⟨ones_get h1 hj, vs'[j - o], ?_, hv _ _ _ hj (List.getElem?_eq_getElem this)⟩
        rw [show e.off + j - (e.off + o) = j - o by omega]; exact List.getElem?_eq_getElem this
      · rw [if_neg hc] at hj
        rw [if_neg (by omega)]
        exact g2 j v hj
    · obtain ⟨rc0, T0, fr0, g1, g2⟩ := h.row k cs' st' sz' ex' e' hb hk hst
      exact ⟨rc0, T0, fr0, by rw [hother k _ e' hb (by cases st' <;> first | rfl | exact absurd rfl hst) hne hk]; exact g1, g2⟩
  · intro k cs' st' sz' ex' e' hb hk
    rcases get_set hb with ⟨rfl, q, _⟩ | ⟨_, hb⟩
    · injection q with _ _ q; subst q; exact h.szs k _ _ _ _ e' hi hk
    · exact h.szs k cs' st' sz' ex' e' hb hk
  · intro k s p e' hb hk
    rcases get_set hb with ⟨rfl, q, _⟩ | ⟨hne, hb⟩
    · cases q
    · rw [hother k _ e' hb rfl hne hk]; exact h.sit k s p e' hb hk
  · intro k es e' hb hk
    rcases get_set hb with ⟨rfl, q, _⟩ | ⟨hne, hb⟩
    · cases q
    · rw [hother k _ e' hb rfl hne hk]; exact h.mp k es e' hb hk
  · intro k l b b' e1 e2 hb hb' ho ha hne hk hk'
    have hb2 : ∃ b2, A[k]? = some b2 ∧ b2.isOwn = true := by
      rcases get_set hb with ⟨rfl, _, _⟩ | ⟨_, hb⟩
      · exact ⟨_, hi, rfl⟩
      · exact ⟨b, hb, ho⟩
    have hb3 : ∃ b3, A[l]? = some b3 ∧ b3.alive = true := by
      rcases get_set hb' with ⟨rfl, _, _⟩ | ⟨_, hb'⟩
      · exact ⟨_, hi, rfl⟩
      · exact ⟨b', hb', ha⟩
    obtain ⟨b2, p1, p2⟩ := hb2
    obtain ⟨b3, p3, p4⟩ := hb3
    exact h.apart k l b2 b3 e1 e2 p1 p3 p2 p4 hne hk hk'

theorem Stp.write {i o o' : Nat} {vs vs' : List Value} {cs : List Value} {sz : Nat} {ex : Bool} {e : Ent} {w' : World} {rc rc' : Array Value} {T : TypeId} {fr : Nat × Nat}
    (hi : A[i]? = some (.row cs .own sz ex)) (he : μ[i]? = some e) (hw : Wrote w w' e.blk rc rc' T fr o' vs') :
    Stp μ A w μ (A.set i (.row (setAll cs o vs) .own sz ex)) w' := by
  refine ⟨⟨[], by simp⟩, hw.os, hw.tape, hw.output, by rw [hw.hsize]; exact Nat.le_refl _, ?_, ?_⟩
  · intro r _ hno
    exact hw.other r (fun q => hno i _ e hi rfl he q.symm)
  · intro k b e' hb ho hk _
    rcases get_set hb with ⟨rfl, rfl, _⟩ | ⟨_, hb⟩
    · exact ⟨k, _, e', hi, rfl, hk, rfl⟩
    · exact ⟨k, b, e', hb, ho, hk, rfl⟩

end
end Go.AS
