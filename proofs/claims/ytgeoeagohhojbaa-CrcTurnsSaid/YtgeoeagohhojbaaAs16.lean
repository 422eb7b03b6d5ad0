import Derived.Test.YtgeoeagohhojbaaAs15
import Derived.Orders
namespace Go.AS
open Go
set_option linter.unusedVariables false
set_option linter.unusedSimpArgs false

/-- 0: it looks at no memory; 1: it looks at memory; 2: it may turn it. -/
def kd : AOp → Nat
  | .load1 _ | .loadn _ _ | .b2s _ | .sll _ _ _ _ _ | .sla _ _ _ _ _ _ => 1
  | .new _ | .box _ | .lit _ _ _ _ | .store _ _ _ | .s2b _ | .mk _ _ _ _ | .app _ _ _ _ | .apps _ _ _ | .appz _ _ _ _ | .mks _ | .copy _ _ _ | .call _ _ | .calld _ _ => 2
  | _ => 0

section
variable {ρ : Operand → Value} {A A' B : AH} {v : Value}

theorem map_same {x : Option Value} (h : x.map (fun v => (v, A)) = some (v, A')) : A' = A ∧ ∀ B : AH, x.map (fun v => (v, B)) = some (v, B) := by
  rw [Option.map_eq_some_iff] at h
  obtain ⟨u, hu, h⟩ := h
  injection h with h1 h2; subst h1 h2
  exact ⟨rfl, fun B => by rw [hu]; rfl⟩

theorem step_pure {op : AOp} (hk : kd op = 0) (h : step ρ A op = some (v, A')) : A' = A ∧ ∀ B, step ρ B op = some (v, B) := by
  cases op <;> simp only [kd] at hk <;> first
    | (cases hk; done)
    | (simp only [step] at h ⊢
       first
        | exact map_same h
        | (injection h with h; injection h with h1 h2; subst h1 h2; exact ⟨rfl, fun _ => rfl⟩)
        | (unfold sPick at h ⊢; split at h <;> first | (cases h; done) | (injection h with h; injection h with h1 h2; subst h1 h2; exact ⟨rfl, fun _ => rfl⟩))
        | (unfold sNilc at h ⊢; split at h <;> first | (cases h; done) | (injection h with h; injection h with h1 h2; subst h1 h2; exact ⟨rfl, fun _ => rfl⟩))
        | (unfold sConv at h ⊢; split at h <;> first | (cases h; done) | (injection h with h; injection h with h1 h2; subst h1 h2; exact ⟨rfl, fun _ => rfl⟩))
        | (cases h; done)
        | (unfold sCapn at h ⊢; split at h <;> first | (cases h; done) | (injection h with h; injection h with h1 h2; subst h1 h2; exact ⟨rfl, fun _ => rfl⟩))
        | (unfold sEqagg at h ⊢
           split at h
           · split at h
             · split at h
               · rename_i hc
                 rw [Option.bind_eq_some_iff] at h
                 obtain ⟨u, hu, h⟩ := h
                 rw [Option.map_eq_some_iff] at h
                 obtain ⟨u2, hu2, h⟩ := h
                 injection h with h1 h2; subst h1 h2
                 exact ⟨rfl, fun B => by simp only [hu, hu2]; rw [if_pos hc]; rfl⟩
               · cases h
             · cases h
           · cases h)
        | (unfold sStr at h ⊢; split at h <;> first | (cases h; done) | (injection h with h; injection h with h1 h2; subst h1 h2; exact ⟨rfl, fun _ => rfl⟩))
        | (unfold sFieldn at h ⊢; split at h <;> first | (cases h; done) | (injection h with h; injection h with h1 h2; subst h1 h2; exact ⟨rfl, fun _ => rfl⟩))
        | (unfold sFaddr at h ⊢; split at h <;> first | (cases h; done) | (injection h with h; injection h with h1 h2; subst h1 h2; exact ⟨rfl, fun _ => rfl⟩))
        | (unfold sBuild at h ⊢; rw [Option.map_eq_some_iff] at h; obtain ⟨u, hu, h⟩ := h; injection h with h1 h2; subst h1 h2; exact ⟨rfl, fun B => by rw [hu]; rfl⟩)
        | (unfold sField1 at h ⊢; split at h <;> first | (cases h; done) | (rw [Option.map_eq_some_iff] at h; obtain ⟨u, hu, h⟩ := h; injection h with h1 h2; subst h1 h2; exact ⟨rfl, fun B => by simp only [hu]; rfl⟩))
        | (unfold sExt at h ⊢; split at h <;> first | (cases h; done) | (rw [Option.map_eq_some_iff] at h; obtain ⟨u, hu, h⟩ := h; injection h with h1 h2; subst h1 h2; exact ⟨rfl, fun B => by simp only [hu]; rfl⟩))
        | (unfold sSls at h ⊢; split at h <;> first | (cases h; done) | (rw [Option.map_eq_some_iff] at h; obtain ⟨u, hu, h⟩ := h; injection h with h1 h2; subst h1 h2; exact ⟨rfl, fun B => by simp only [hu]; rfl⟩))
        | (unfold sMn at h ⊢; split at h <;> first | (cases h; done) | (rw [Option.map_eq_some_iff] at h; obtain ⟨u, hu, h⟩ := h; injection h with h1 h2; subst h1 h2; exact ⟨rfl, fun B => by simp only [hu]; rfl⟩))
        | (unfold sMx at h ⊢; split at h <;> first | (cases h; done) | (rw [Option.map_eq_some_iff] at h; obtain ⟨u, hu, h⟩ := h; injection h with h1 h2; subst h1 h2; exact ⟨rfl, fun B => by simp only [hu]; rfl⟩))
        | (unfold sIaddr at h ⊢; split at h <;> first | (cases h; done) | (rw [Option.bind_eq_some_iff] at h; obtain ⟨u, hu, h⟩ := h; split at h <;> first | (cases h; done) | (rename_i hc; injection h with h; injection h with h1 h2; subst h1 h2; exact ⟨rfl, fun B => by simp only [hu, Option.bind_some, hc]; rfl⟩)))
        | (unfold sIarr at h ⊢; split at h <;> first | (cases h; done) | (rw [Option.bind_eq_some_iff] at h; obtain ⟨u, hu, h⟩ := h; split at h <;> first | (cases h; done) | (rename_i hc; injection h with h; injection h with h1 h2; subst h1 h2; exact ⟨rfl, fun B => by simp only [hu, Option.bind_some, hc]; rfl⟩)))
        | (unfold sIdxan at h ⊢; split at h <;> first | (cases h; done) | (rw [Option.bind_eq_some_iff] at h; obtain ⟨u, hu, h⟩ := h; split at h <;> first | (cases h; done) | (rename_i hc; injection h with h; injection h with h1 h2; subst h1 h2; exact ⟨rfl, fun B => by simp only [hu, Option.bind_some, hc]; rfl⟩)))
        | (unfold sIdxs at h ⊢; split at h <;> first | (cases h; done) | (rw [Option.bind_eq_some_iff] at h; obtain ⟨u, hu, h⟩ := h; split at h <;> first | (cases h; done) | (rename_i hc; rw [Option.map_eq_some_iff] at h; obtain ⟨u2, hu2, h⟩ := h; injection h with h1 h2; subst h1 h2; exact ⟨rfl, fun B => by simp only [hu, Option.bind_some, hc, hu2]; rfl⟩)))
        | (unfold sIdxa1 at h ⊢; split at h <;> first | (cases h; done) | (rw [Option.bind_eq_some_iff] at h; obtain ⟨u, hu, h⟩ := h; split at h <;> first | (cases h; done) | (rename_i hc; rw [Option.map_eq_some_iff] at h; obtain ⟨u2, hu2, h⟩ := h; injection h with h1 h2; subst h1 h2; exact ⟨rfl, fun B => by simp only [hu, Option.bind_some, hc, hu2]; rfl⟩)))
        | (unfold sLens at h ⊢; split at h <;> first | (cases h; done) | (split at h <;> first | (cases h; done) | (rename_i hc; injection h with h; injection h with h1 h2; subst h1 h2; exact ⟨rfl, fun B => by simp only [hc]; rfl⟩)))
        | (split at h <;> first | (cases h; done) | (rename_i hc; simp only [hc, if_true]; unfold sIsnil at h ⊢; split at h <;> first | (cases h; done) | (injection h with h; injection h with h1 h2; subst h1 h2; exact ⟨rfl, fun _ => rfl⟩)))
        | (unfold sBeq at h ⊢; split at h <;> first | (cases h; done) | (split at h <;> first | (cases h; done) | (injection h with h; injection h with h1 h2; subst h1 h2; exact ⟨rfl, fun _ => rfl⟩))))

theorem getRow_le {i : Nat} {r : List Value × St × Nat × Bool} (h : getRow A i = some r) (hl : Le A B) : getRow B i = some r := by
  obtain ⟨cs, st, sz, ex⟩ := r
  obtain ⟨h1, h2⟩ := getRow_some h
  unfold getRow
  rw [hl.get h1]
  simp [h2]
theorem rowSz_le {i n : Nat} (h : rowSz A i = some n) (hl : Le A B) : rowSz B i = some n := by
  obtain ⟨cs, st, ex, h1⟩ := rowSz_some h
  unfold rowSz
  rw [hl.get h1]
theorem rdSl_le {sz : Nat} {x : Value} {l : List Value} (h : rdSl A sz x = some l) (hl : Le A B) : rdSl B sz x = some l := by
  unfold rdSl at h ⊢
  split at h
  · exact h
  · exact h
  · split at h
    · rename_i h0; simp only [h0, if_true]; exact h
    · rename_i h0
      simp only [if_neg h0]
      rw [Option.bind_eq_some_iff] at h
      obtain ⟨r, h1, h2⟩ := h
      rw [getRow_le h1 hl]
      exact h2
  · cases h

theorem step_read {op : AOp} (hk : kd op = 1) (h : step ρ A op = some (v, A')) : A' = A ∧ ∀ B, Le A B → step ρ B op = some (v, B) := by
  cases op <;> simp only [kd] at hk <;> first
    | (cases hk; done)
    | skip
  · rename_i a
    simp only [step] at h ⊢
    unfold sLoad1 at h ⊢
    split at h
    · rw [Option.bind_eq_some_iff] at h
      obtain ⟨r, h1, h2⟩ := h
      rw [Option.map_eq_some_iff] at h2
      obtain ⟨u, h2, h3⟩ := h2
      injection h3 with h3 h4; subst h3 h4
      exact ⟨rfl, fun B hl => by simp only [getRow_le h1 hl, Option.bind_some, h2]; rfl⟩
    · cases h
  · rename_i a n
    simp only [step] at h ⊢
    unfold sLoadn at h ⊢
    split at h
    · rw [Option.bind_eq_some_iff] at h
      obtain ⟨r, h1, h2⟩ := h
      rw [Option.map_eq_some_iff] at h2
      obtain ⟨u, h2, h3⟩ := h2
      injection h3 with h3 h4; subst h3 h4
      exact ⟨rfl, fun B hl => by simp only [getRow_le h1 hl, Option.bind_some, h2]; rfl⟩
    · cases h
  · rename_i x
    simp only [step] at h ⊢
    unfold sB2s at h ⊢
    rw [Option.bind_eq_some_iff] at h
    obtain ⟨r, h1, h2⟩ := h
    rw [Option.map_eq_some_iff] at h2
    obtain ⟨u, h2, h3⟩ := h2
    injection h3 with h3 h4; subst h3 h4
    exact ⟨rfl, fun B hl => by simp only [rdSl_le h1 hl, Option.bind_some, h2]; rfl⟩
  · rename_i x lo hi mx sz
    simp only [step] at h ⊢
    unfold sSll at h ⊢
    split at h
    · rw [Option.map_eq_some_iff] at h
      obtain ⟨r, h1, h3⟩ := h
      injection h3 with h3 h4; subst h3 h4
      exact ⟨rfl, fun B hl => by simp only [h1]; rfl⟩
    · rw [Option.map_eq_some_iff] at h
      obtain ⟨r, h1, h3⟩ := h
      injection h3 with h3 h4; subst h3 h4
      exact ⟨rfl, fun B hl => by simp only [h1]; rfl⟩
    · rw [Option.bind_eq_some_iff] at h
      obtain ⟨r, h1, h⟩ := h
      rw [Option.bind_eq_some_iff] at h
      obtain ⟨s, h2, h⟩ := h
      split at h
      · rename_i hc
        injection h with h; injection h with h3 h4; subst h3 h4
        exact ⟨rfl, fun B hl => by simp only [h1, Option.bind_some, rowSz_le h2 hl]; rw [if_pos hc]⟩
      · rename_i hc
        split at h
        · rename_i hc2
          injection h with h; injection h with h3 h4; subst h3 h4
          exact ⟨rfl, fun B hl => by simp only [h1, Option.bind_some, rowSz_le h2 hl]; rw [if_neg hc, if_pos hc2]⟩
        · cases h
    · cases h
  · rename_i x lo hi mx n sz
    simp only [step] at h ⊢
    unfold sSla at h ⊢
    split at h
    · rw [Option.bind_eq_some_iff] at h
      obtain ⟨r, h1, h⟩ := h
      rw [Option.bind_eq_some_iff] at h
      obtain ⟨s, h2, h⟩ := h
      split at h
      · rename_i hc
        split at h
        · rename_i hc2
          injection h with h; injection h with h3 h4; subst h3 h4
          exact ⟨rfl, fun B hl => by simp only [h1, Option.bind_some, getRow_le h2 hl]; rw [if_pos hc, if_pos hc2]⟩
        · rename_i hc2
          injection h with h; injection h with h3 h4; subst h3 h4
          exact ⟨rfl, fun B hl => by simp only [h1, Option.bind_some, getRow_le h2 hl]; rw [if_pos hc, if_neg hc2]⟩
      · cases h
    · cases h

/-- What looks at memory alone sees the same in a heap that has grown. -/
theorem step_quiet {op : AOp} (hk : kd op ≠ 2) (h : step ρ A op = some (v, A')) : A' = A ∧ ∀ B, (kd op = 1 → Le A B) → step ρ B op = some (v, B) := by
  have h3 : kd op = 0 ∨ kd op = 1 ∨ kd op = 2 := by cases op <;> simp [kd]
  rcases h3 with h0 | h1 | h2
  · obtain ⟨a, b⟩ := step_pure h0 h
    exact ⟨a, fun B _ => b B⟩
  · obtain ⟨a, b⟩ := step_read h1 h
    exact ⟨a, fun B hl => b B (hl h1)⟩
  · exact absurd h2 hk
end
end Go.AS
