import Derived.Test.YtgeoeagohhojbaaAs25
import Derived.OpenShut
import Derived.DataReads
import Derived.SizedLaws
namespace Go.AS
open Go Go.RowKit
set_option linter.unusedVariables false
set_option linter.unusedSimpArgs false

/-- Where fields lie one behind the other from k on: where they end. -/
def contig (P : Program) : Nat → List Field → Option Nat
  | k, [] => some k
  | k, f :: r => if f.offset = k then contig P (k + P.cellsOf f.type) r else none

/-- Types of plain data: numbers, texts, bools, slices, structs and arrays of these. -/
def dataT (P : Program) : Nat → TypeId → Bool
  | 0, _ => false
  | F + 1, t => match P.underlying t with
    | some .bool | some .string | some (.int _) => true
    | some (.slice e) => decide (0 < P.cellsOf e) && dataT P F e
    | some (.struct fs) => decide (contig P 0 fs.toList = some (P.cellsOf t)) && fs.toList.all fun f => dataT P F f.type
    | some (.array n e) => decide (n * P.cellsOf e = P.cellsOf t) && dataT P F e
    | _ => false

/-- Abstract cells that are a value of a type of plain data. -/
def Good (P : Program) (A : AH) : Nat → TypeId → List Value → Prop
  | 0, _, _ => False
  | F + 1, t, cs => match P.underlying t with
    | some .bool => ∃ b, cs = [.bool b]
    | some (.int k) => ∃ n, cs = [.int k n] ∧ (Lit.int k n).wf = true
    | some .string => ∃ s : ByteArray, cs = [.string s] ∧ s.size ≤ reachBytes
    | some (.slice e) => ∃ v n rc, cs = [v] ∧ Sl A (P.cellsOf e) v n rc ∧ n * P.bytesOf e ≤ reachBytes ∧ ∀ j, j < n → Good P A F e ((rc.drop (j * P.cellsOf e)).take (P.cellsOf e))
    | some (.struct fs) => cs.length = P.cellsOf t ∧ ∀ f ∈ fs.toList, Good P A F f.type ((cs.drop f.offset).take (P.cellsOf f.type))
    | some (.array n e) => cs.length = P.cellsOf t ∧ ∀ i, i < n → Good P A F e ((cs.drop (i * P.cellsOf e)).take (P.cellsOf e))
    | _ => False

theorem Good.le {P : Program} {A B : AH} (hl : Le A B) : ∀ (F : Nat) (t : TypeId) (cs : List Value), Good P A F t cs → Good P B F t cs
  | 0, _, _, h => h.elim
  | F + 1, t, cs, h => by
    unfold Good at h ⊢
    split
    · rename_i hu; rw [hu] at h; exact h
    · rename_i hu; rw [hu] at h; exact h
    · rename_i hu; rw [hu] at h; exact h
    · rename_i hu; rw [hu] at h
      obtain ⟨v, n, rc, h1, h2, h3, h4⟩ := h
      exact ⟨v, n, rc, h1, h2.le hl, h3, fun j hj => Good.le hl F _ _ (h4 j hj)⟩
    · rename_i hu; rw [hu] at h
      exact ⟨h.1, fun f hf => Good.le hl F _ _ (h.2 f hf)⟩
    · rename_i hu; rw [hu] at h
      exact ⟨h.1, fun f hf => Good.le hl F _ _ (h.2 f hf)⟩
    · rename_i hu
      split at h <;> first | exact h | simp_all

def All2 {α β : Type} (R : α → β → Prop) : List α → List β → Prop
  | [], [] => True
  | a :: l, b :: r => R a b ∧ All2 R l r
  | _, _ => False
theorem All2.imp {α β : Type} {R S : α → β → Prop} (h : ∀ a b, R a b → S a b) : ∀ (l : List α) (r : List β), All2 R l r → All2 S l r
  | [], [], _ => trivial
  | a :: l, b :: r, k => ⟨h _ _ k.1, All2.imp h l r k.2⟩
  | [], _ :: _, k => k.elim
  | _ :: _, [], k => k.elim
theorem All2.len {α β : Type} {R : α → β → Prop} : ∀ (l : List α) (r : List β), All2 R l r → r.length = l.length
  | [], [], _ => rfl
  | a :: l, b :: r, k => by simp [All2.len l r k.2]
  | [], _ :: _, k => k.elim
  | _ :: _, [], k => k.elim
theorem All2.get {α β : Type} {R : α → β → Prop} : ∀ (l : List α) (r : List β), All2 R l r → ∀ (j : Nat) a b, l[j]? = some a → r[j]? = some b → R a b
  | [], [], _, j, a, b, h, _ => by simp at h
  | a :: l, b :: r, k, j, x, y, h1, h2 => by
    cases j with
    | zero => simp only [List.getElem?_cons_zero, Option.some.injEq] at h1 h2; subst h1 h2; exact k.1
    | succ j => exact All2.get l r k.2 j x y (by simpa using h1) (by simpa using h2)
  | [], _ :: _, k, _, _, _, _, _ => k.elim
  | _ :: _, [], k, _, _, _, _, _ => k.elim

/-- Abstract cells and the machine's. -/
def CellsR (μ : Mu) (cs' cs : List Value) : Prop := cs'.length = cs.length ∧ ∀ (j : Nat) v v', cs'[j]? = some v → cs[j]? = some v' → VR μ v v' ∧ v.oneCell' = true
theorem CellsR.mono {μ r : Mu} {a b : List Value} (h : CellsR μ a b) : CellsR (μ ++ r) a b := ⟨h.1, fun j v v' x y => ⟨(h.2 j v v' x y).1.mono, (h.2 j v v' x y).2⟩⟩
theorem CellsR.append {μ : Mu} {a b c d : List Value} (h : CellsR μ a b) (k : CellsR μ c d) : CellsR μ (a ++ c) (b ++ d) := by
  refine ⟨by simp [h.1, k.1], fun j v v' x y => ?_⟩
  rw [List.getElem?_append] at x y
  rw [h.1] at x
  split at x
  · rename_i hj; rw [if_pos hj] at y; exact h.2 j v v' x y
  · rename_i hj; rw [if_neg hj] at y; exact k.2 _ v v' x y
theorem CellsR.one {μ : Mu} {v v' : Value} (h : VR μ v v') (h1 : v.oneCell' = true) : CellsR μ [v] [v'] := by
  refine ⟨rfl, fun j a b x y => ?_⟩
  cases j with
  | zero => simp only [List.getElem?_cons_zero, Option.some.injEq] at x y; subst x y; exact ⟨h, h1⟩
  | succ j => simp at x
theorem CellsR.flatten {μ : Mu} : ∀ (l : List (List Value)) (r : List (List Value)), All2 (fun b a => CellsR μ a b) l r → CellsR μ r.flatten l.flatten
  | [], [], _ => ⟨rfl, fun j v v' x => by simp at x⟩
  | b :: l, a :: r, h => by
    rw [List.flatten_cons, List.flatten_cons]
    exact h.1.append (CellsR.flatten l r h.2)
  | [], _ :: _, k => k.elim
  | _ :: _, [], k => k.elim

section
variable {α : Type}
theorem flat_part : ∀ (l : List (List α)) (j : Nat) (c : List α), l[j]? = some c → (l.flatten.drop ((l.take j).flatten.length)).take c.length = c
  | [], j, c, h => by simp at h
  | a :: l, 0, c, h => by
    simp only [List.getElem?_cons_zero, Option.some.injEq] at h
    subst h; simp
  | a :: l, j + 1, c, h => by
    simp only [List.getElem?_cons_succ] at h
    simp only [List.take_succ_cons, List.flatten_cons, List.length_append, List.drop_append]
    have := flat_part l j c h
    rw [List.drop_of_length_le (by omega), List.nil_append, Nat.add_sub_cancel_left]
    exact this
theorem flat_len (l : List (List α)) (sz : Nat) (h : ∀ (j : Nat) c, l[j]? = some c → c.length = sz) : l.flatten.length = l.length * sz := by
  induction l with
  | nil => simp
  | cons a l ih =>
    rw [List.flatten_cons, List.length_append, ih (fun j c hc => h (j + 1) c (by simpa using hc)), h 0 a rfl, List.length_cons, Nat.add_mul]
    omega
theorem flat_len_take (l : List (List α)) (sz : Nat) (h : ∀ (j : Nat) c, l[j]? = some c → c.length = sz) (j : Nat) (hj : j ≤ l.length) : (l.take j).flatten.length = j * sz := by
  rw [flat_len _ sz]
  · rw [List.length_take, Nat.min_eq_left hj]
  · intro i c hc
    rw [List.getElem?_take] at hc
    split at hc
    · exact h i c hc
    · cases hc
/-- Cells cut into parts of one size. -/
theorem cut_even (cs : List α) (sz : Nat) : ∀ n, cs.length = n * sz → ((List.range n).map fun i => (cs.drop (i * sz)).take sz).flatten = cs
  | 0, h => by
    have : cs = [] := List.length_eq_zero_iff.1 (by simpa using h)
    subst this; rfl
  | n + 1, h => by
    rw [List.range_succ_eq_map, List.map_cons, List.flatten_cons, List.map_map]
    have e : ((fun i => (cs.drop (i * sz)).take sz) ∘ Nat.succ) = fun i => ((cs.drop sz).drop (i * sz)).take sz := by
      funext i
      simp only [Function.comp, List.drop_drop]
      rw [show Nat.succ i * sz = sz + i * sz by rw [Nat.succ_mul]; omega]
    rw [e, cut_even (cs.drop sz) sz n (by rw [List.length_drop, h, Nat.add_mul]; omega)]
    simp
end

theorem contig_le {P : Program} : ∀ (fs : List Field) (k m : Nat), contig P k fs = some m → k ≤ m
  | [], k, m, h => by simp only [contig, Option.some.injEq] at h; omega
  | f :: r, k, m, h => by
    simp only [contig] at h
    split at h
    · have := contig_le r _ m h; omega
    · cases h
/-- Cells cut into a struct's fields. -/
theorem cut_fields {P : Program} (cs : List Value) : ∀ (fs : List Field) (k m : Nat), contig P k fs = some m → cs.length = m → (fs.map fun f => (cs.drop f.offset).take (P.cellsOf f.type)).flatten = cs.drop k
  | [], k, m, h, hl => by
    simp only [contig, Option.some.injEq] at h
    rw [List.drop_of_length_le (by omega)]; rfl
  | f :: r, k, m, h, hl => by
    simp only [contig] at h
    split at h
    · rename_i hk
      rw [List.map_cons, List.flatten_cons, cut_fields cs r _ m h hl, hk, ← List.drop_drop]
      exact List.take_append_drop _ _
    · cases h
theorem part_len {P : Program} (cs : List Value) : ∀ (fs : List Field) (k m : Nat), contig P k fs = some m → cs.length = m → ∀ f ∈ fs, ((cs.drop f.offset).take (P.cellsOf f.type)).length = P.cellsOf f.type
  | [], _, _, _, _, f, hf => by cases hf
  | g :: r, k, m, h, hl, f, hf => by
    simp only [contig] at h
    split at h
    · rename_i hk
      have := contig_le r _ m h
      rcases List.mem_cons.1 hf with rfl | hf
      · rw [List.length_take, List.length_drop]; omega
      · exact part_len cs r _ m h hl f hf
    · cases h
/-- The parts of fields, put one behind the other, lie at their fields' places. -/
theorem field_at {P : Program} : ∀ (fs : List Field) (l : List (List Value)) (k m : Nat), contig P k fs = some m → All2 (fun f c => c.length = P.cellsOf f.type) fs l → ∀ (j : Nat) f, fs[j]? = some f → f.offset = k + (l.take j).flatten.length
  | [], _, _, _, _, _, j, f, h => by simp at h
  | g :: r, [], _, _, _, k, _, _, _ => k.elim
  | g :: r, c :: l, k, m, h, ha, j, f, hf => by
    simp only [contig] at h
    split at h
    · rename_i hk
      cases j with
      | zero => simp only [List.getElem?_cons_zero, Option.some.injEq] at hf; subst hf; simp [hk]
      | succ j =>
        have := field_at r l _ m h ha.2 j f (by simpa using hf)
        rw [this, List.take_succ_cons, List.flatten_cons, List.length_append, ha.1]
        omega
    · cases h

/-- What an argument's opening gives. -/
structure Opens (w : World) (μ : Mu) (A : AH) (μ' : Mu) (A' : AH) : Prop where
  rel : Rel 0 μ' A' w
  noOwn : ∀ (i : Nat) b, A'[i]? = some b → b.isOwn = false
  le : Le A A'
  pre : ∃ r, μ' = μ ++ r
theorem Opens.trans {w : World} {μ μ1 μ2 : Mu} {A A1 A2 : AH} (h : Opens w μ A μ1 A1) (k : Opens w μ1 A1 μ2 A2) : Opens w μ A μ2 A2 := by
  obtain ⟨r, rfl⟩ := h.pre
  obtain ⟨s, rfl⟩ := k.pre
  exact ⟨k.rel, k.noOwn, h.le.trans k.le, ⟨r ++ s, by simp⟩⟩

section
variable {H : Type} {enc : TypeId × Value → H} {P : Program} {w : World} {base : Nat} {spare : Nat → Bool} {held : Bool}

theorem open_many {F : Nat} (ih : ∀ (t : TypeId) (cs : List Value) (fuel : Nat) x (μ : Mu) (A : AH), dataT P F t = true → DataW.trod enc P w base spare held fuel t cs = some x → (∀ n ∈ x.1.weights P t, n ≤ reachBytes) → Rel 0 μ A w → (∀ (i : Nat) b, A[i]? = some b → b.isOwn = false) →
      ∃ μ' A' cs', Opens w μ A μ' A' ∧ CellsR μ' cs' cs ∧ Good P A' F t cs') :
    ∀ (l : List (TypeId × List Value)) (μ : Mu) (A : AH), (∀ p ∈ l, dataT P F p.1 = true ∧ ∃ fuel x, DataW.trod enc P w base spare held fuel p.1 p.2 = some x ∧ ∀ n ∈ x.1.weights P p.1, n ≤ reachBytes) → Rel 0 μ A w → (∀ (i : Nat) b, A[i]? = some b → b.isOwn = false) →
      ∃ μ' A' l', Opens w μ A μ' A' ∧ All2 (fun (p : TypeId × List Value) c => CellsR μ' c p.2 ∧ Good P A' F p.1 c) l l'
  | [], μ, A, _, hr, hn => ⟨μ, A, [], ⟨hr, hn, .refl _, ⟨[], by simp⟩⟩, trivial⟩
  | p :: l, μ, A, h, hr, hn => by
    obtain ⟨h1, fuel, x, h2, hw⟩ := h p (by simp)
    obtain ⟨μ1, A1, c, g1, g2, g3⟩ := ih p.1 p.2 fuel x μ A h1 h2 hw hr hn
    obtain ⟨μ2, A2, l', k1, k2⟩ := open_many ih l μ1 A1 (fun q hq => h q (by simp [hq])) g1.rel g1.noOwn
    obtain ⟨r, rfl⟩ := k1.pre
    exact ⟨_, A2, c :: l', g1.trans k1, ⟨g2.mono, Good.le k1.le F _ _ g3⟩, k2⟩

theorem weights_all {e : TypeId} : ∀ (l : List (DataW H)) (d : DataW H), d ∈ l → ∀ n ∈ d.weights P e, n ∈ DataW.weightsAll P e l
  | [], _, h, _, _ => by cases h
  | a :: l, d, h, n, hn => by
    simp only [DataW.weightsAll, List.mem_append]
    rcases List.mem_cons.1 h with rfl | h
    · exact .inl hn
    · exact .inr (weights_all l d h n hn)

theorem range_cell {a : Addr} {n : Nat} {cs : List Value} (h : w.cells? base a n = some cs) : cs.length = n ∧ ∀ j, j < n → w.cell? (a.add j) = cs[j]? := by
  unfold World.cells? at h
  split at h
  · refine ⟨by simpa using mapM_some_length h, fun j hj => ?_⟩
    exact mapM_some_get h j j (by simp [hj])
  · cases h

theorem add_add' (a : Addr) (m n : Nat) : a.spot = none → (a.add m).add n = a.add (m + n) := by
  intro hs
  obtain ⟨b, o, s⟩ := a
  simp only at hs
  subst hs
  rw [add_none, add_none, add_none, Nat.add_assoc]

theorem open_data : ∀ (F : Nat) (t : TypeId) (cs : List Value) (fuel : Nat) x (μ : Mu) (A : AH), dataT P F t = true → DataW.trod enc P w base (fun _ => true) held fuel t cs = some x → (∀ n ∈ x.1.weights P t, n ≤ reachBytes) → Rel 0 μ A w → (∀ (i : Nat) b, A[i]? = some b → b.isOwn = false) →
      ∃ μ' A' cs', Opens w μ A μ' A' ∧ CellsR μ' cs' cs ∧ Good P A' F t cs'
  | 0, _, _, _, _, _, _, h, _, _, _, _ => by simp [dataT] at h
  | F + 1, t, cs, fuel, x, μ, A, hd, ht, hw, hr, hn => by
    have same : Opens w μ A μ A := ⟨hr, hn, .refl _, ⟨[], by simp⟩⟩
    unfold dataT at hd
    unfold Good
    split at hd
    · rename_i hu
      obtain ⟨b, rfl, _⟩ := DataW.trod_bool hu ht
      exact ⟨μ, A, [.bool b], same, .one (.flat rfl) rfl, by rw [hu]; exact ⟨b, rfl⟩⟩
    · rename_i hu
      obtain ⟨s, rfl, rfl, _⟩ := DataW.trod_string hu ht
      have hs : s.size ≤ reachBytes := by
        have := hw s.data.toList.length (by simp [DataW.weights])
        rw [Array.length_toList] at this
        exact this
      exact ⟨μ, A, [.string s], same, .one (.flat rfl) rfl, by rw [hu]; exact ⟨s, rfl, hs⟩⟩
    · rename_i k hu
      obtain ⟨n, rfl, _, hwf⟩ := DataW.trod_int hu ht
      exact ⟨μ, A, [.int k n], same, .one (.flat rfl) rfl, by rw [hu]; exact ⟨n, rfl, hwf⟩⟩
    · rename_i e hu
      rw [Bool.and_eq_true, decide_eq_true_eq] at hd
      obtain ⟨hsz, hde⟩ := hd
      rw [hu]
      rcases DataW.trod_slice hu ht with ⟨rfl, _⟩ | ⟨a, len, cap, elems, rest, n, rfl, rfl, rfl, hb, hlc, hcm, hel, hget, hsp, _⟩
      · exact ⟨μ, A, [.slice none 0 0], same, .one (.flat rfl) rfl, .slice none 0 0, 0, [], rfl, ⟨by simp, .inl ⟨rfl, rfl⟩⟩, by simp, fun j hj => by omega⟩
      · by_cases hc0 : cap = 0
        · subst hc0
          have : len = 0 := by omega
          subst this
          exact ⟨μ, A, [.slice (some zmk) 0 0], same, .one .slz rfl, .slice (some zmk) 0 0, 0, [], rfl, ⟨by simp, .inr (.inl ⟨rfl, rfl⟩)⟩, by simp, fun j hj => by omega⟩
        · obtain ⟨hrl, hrest⟩ := hsp rfl
          -- what is at each place of the row
          have hbytes : len * P.bytesOf e ≤ reachBytes := by
            have := hw ((elems.map (·.1)).length + (rest.map (·.1)).length |> (· * P.bytesOf e)) (by simp [DataW.weights, hu])
            simp only [List.length_map] at this
            exact Nat.le_trans (Nat.mul_le_mul_right _ (by omega)) this
          have hall : ∀ i, i < cap → ∃ ci, w.cells? base (a.add (i * P.cellsOf e)) (P.cellsOf e) = some ci ∧ (i < len → ∃ y, DataW.trod enc P w base (fun _ => true) held n e ci = some y ∧ ∀ m ∈ y.1.weights P e, m ≤ reachBytes) := by
            intro i hi
            by_cases hil : i < len
            · have := hget i hil
              have hlt : i < elems.length := by omega
              rw [List.getElem?_eq_getElem hlt, Option.bind_eq_some_iff] at this
              obtain ⟨ci, h1, h2⟩ := this
              refine ⟨ci, h1, fun _ => ⟨_, h2, fun m hm => hw m ?_⟩⟩
              simp only [DataW.weights, hu, List.mem_cons, List.mem_append]
              exact .inr (.inl (weights_all (elems.map (·.1)) _ (List.mem_map.2 ⟨_, List.getElem_mem hlt, rfl⟩) m hm))
            · have := hrest (i - len) (by omega)
              have hlt : i - len < rest.length := by omega
              rw [List.getElem?_eq_getElem hlt, Option.bind_eq_some_iff, show len + (i - len) = i by omega] at this
              obtain ⟨ci, h1, h2⟩ := this
              exact ⟨ci, h1, fun h => absurd h hil⟩
          obtain ⟨c0, hc1, _⟩ := hall 0 (by omega)
          rw [Nat.zero_mul, addr_add0] at hc1
          obtain ⟨hl0, hg0⟩ := range_cell hc1
          have h00 := hg0 0 hsz
          rw [addr_add0, List.getElem?_eq_getElem (by omega)] at h00
          obtain ⟨b, o, sp⟩ := a
          have hspn : sp = none ∧ ∃ rc T fr, w.heap[b]? = some (.cells rc T fr) := by
            unfold World.cell? at h00
            split at h00
            · rename_i c T fr heq
              split at h00
              · cases h00
              · rename_i hs
                cases sp with
                | none => exact ⟨rfl, _, _, _, heq⟩
                | some s => simp at hs
            · cases h00
          obtain ⟨rfl, rc, T, fr, hblk⟩ := hspn
          have hcell : ∀ j, w.cell? ⟨b, o + j, none⟩ = rc[o + j]? := by
            intro j
            unfold World.cell?
            simp [hblk]
          have hrow : ∀ i, i < cap → ∀ ci, w.cells? base ((⟨b, o, none⟩ : Addr).add (i * P.cellsOf e)) (P.cellsOf e) = some ci → ci = ((rc.toList.drop o).drop (i * P.cellsOf e)).take (P.cellsOf e) ∧ ci.length = P.cellsOf e ∧ o + i * P.cellsOf e + P.cellsOf e ≤ rc.size := by
            intro i hi ci hci
            obtain ⟨q1, q2⟩ := range_cell hci
            have q3 : ∀ j, j < P.cellsOf e → rc[o + i * P.cellsOf e + j]? = ci[j]? := by
              intro j hj
              rw [← q2 j hj, add_none, add_none, Nat.add_assoc, hcell]
            have q4 : o + i * P.cellsOf e + P.cellsOf e ≤ rc.size := by
              have := q3 (P.cellsOf e - 1) (by omega)
              rw [List.getElem?_eq_getElem (by omega)] at this
              rcases Nat.lt_or_ge (o + i * P.cellsOf e + (P.cellsOf e - 1)) rc.size with h' | h'
              · omega
              · rw [Array.getElem?_eq_none h'] at this; cases this
            refine ⟨?_, q1, q4⟩
            apply List.ext_getElem?
            intro j
            rcases Nat.lt_or_ge j (P.cellsOf e) with hj | hj
            · rw [List.getElem?_take_of_lt hj, List.getElem?_drop, List.getElem?_drop, ← q3 j hj, Array.getElem?_toList, Nat.add_assoc]
            · rw [List.getElem?_eq_none (by omega), List.getElem?_eq_none (by rw [List.length_take]; omega)]
          have hcap : o + cap * P.cellsOf e ≤ rc.size := by
            obtain ⟨ci, h1, _⟩ := hall (cap - 1) (by omega)
            obtain ⟨_, _, h2⟩ := hrow (cap - 1) (by omega) ci h1
            have : (cap - 1) * P.cellsOf e + P.cellsOf e = cap * P.cellsOf e := by
              rw [← Nat.succ_mul]; congr 1; omega
            omega
          have hlen : len * P.cellsOf e ≤ cap * P.cellsOf e := Nat.mul_le_mul_right _ hlc
          let real := (rc.toList.drop o).take (len * P.cellsOf e)
          have hreal : real.length = len * P.cellsOf e := by
            show ((rc.toList.drop o).take (len * P.cellsOf e)).length = _
            rw [List.length_take, List.length_drop, Array.length_toList]; omega
          have hpart : ∀ i, i < len → (real.drop (i * P.cellsOf e)).take (P.cellsOf e) = ((rc.toList.drop o).drop (i * P.cellsOf e)).take (P.cellsOf e) := by
            intro i hi
            have : i * P.cellsOf e + P.cellsOf e ≤ len * P.cellsOf e := by rw [← Nat.succ_mul]; exact Nat.mul_le_mul_right _ hi
            show (((rc.toList.drop o).take (len * P.cellsOf e)).drop (i * P.cellsOf e)).take (P.cellsOf e) = _
            rw [List.drop_take, List.take_take, Nat.min_eq_left (by omega)]
          obtain ⟨μ1, A1, l', g1, g2⟩ := open_many (F := F) (fun t cs fuel x μ A => open_data F t cs fuel x μ A) ((List.range len).map fun i => (e, (real.drop (i * P.cellsOf e)).take (P.cellsOf e))) μ A (by
            intro p hp
            rw [List.mem_map] at hp
            obtain ⟨i, hi, rfl⟩ := hp
            rw [List.mem_range] at hi
            obtain ⟨ci, h1, h2⟩ := hall i (by omega)
            obtain ⟨y, hy, hyw⟩ := h2 hi
            refine ⟨hde, n, y, ?_, hyw⟩
            simp only
            rw [hpart i hi, ← (hrow i (by omega) ci h1).1]
            exact hy) hr hn
          have hl' : l'.length = len := by simpa using All2.len _ _ g2
          have hle' : ∀ (j : Nat) c, l'[j]? = some c → c.length = P.cellsOf e ∧ Good P A1 F e c := by
            intro j c hc
            have hj := lt_of_get hc
            obtain ⟨q1, q2⟩ := All2.get _ _ g2 j (e, (real.drop (j * P.cellsOf e)).take (P.cellsOf e)) c (by rw [List.getElem?_map, List.getElem?_range (by omega)]; rfl) hc
            refine ⟨?_, q2⟩
            rw [q1.1]
            simp only
            have : j * P.cellsOf e + P.cellsOf e ≤ len * P.cellsOf e := by rw [← Nat.succ_mul]; exact Nat.mul_le_mul_right _ (by omega)
            rw [List.length_take, List.length_drop, hreal]; omega
          have hflat : CellsR μ1 l'.flatten real := by
            have := CellsR.flatten (μ := μ1) ((List.range len).map fun i => (real.drop (i * P.cellsOf e)).take (P.cellsOf e)) l' (by
              have aux : ∀ (l : List Nat) (r : List (List Value)), All2 (fun (p : TypeId × List Value) c => CellsR μ1 c p.2 ∧ Good P A1 F p.1 c) (l.map fun i => (e, (real.drop (i * P.cellsOf e)).take (P.cellsOf e))) r →
                  All2 (fun b a => CellsR μ1 a b) (l.map fun i => (real.drop (i * P.cellsOf e)).take (P.cellsOf e)) r := by
                intro l
                induction l with
                | nil => intro r h; cases r with
                  | nil => trivial
                  | cons => exact h.elim
                | cons a l ih => intro r h; cases r with
                  | nil => exact h.elim
                  | cons c r => exact ⟨h.1.1, ih r h.2⟩
              exact aux _ _ g2)
            rw [cut_even real (P.cellsOf e) len hreal] at this
            exact this
          -- the row
          have hRel : Rel 0 (μ1 ++ [⟨b, o, cap * P.cellsOf e, P.cellsOf e⟩]) (A1 ++ [.row l'.flatten .ro (P.cellsOf e) false]) w := by
            refine Rel.addRow g1.rel g1.noOwn hblk ?_ (by rw [hflat.1, hreal]; exact hlen)
            intro j v hj
            have hjl := lt_of_get hj
            rw [hflat.1] at hjl
            have hv := List.getElem?_eq_getElem hjl
            obtain ⟨q1, q2⟩ := hflat.2 j v _ hj hv
            refine ⟨q2, _, ?_, q1⟩
            rw [← hv]
            show _ = ((rc.toList.drop o).take (len * P.cellsOf e))[j]?
            rw [hreal] at hjl
            rw [List.getElem?_take_of_lt hjl, List.getElem?_drop, Array.getElem?_toList]
          have hA : (A1 ++ [.row l'.flatten .ro (P.cellsOf e) false])[A1.length]? = some (Blk.row l'.flatten .ro (P.cellsOf e) false) := by simp
          have hM : (μ1 ++ [(⟨b, o, cap * P.cellsOf e, P.cellsOf e⟩ : Ent)])[A1.length]? = some ⟨b, o, cap * P.cellsOf e, P.cellsOf e⟩ := by rw [← g1.rel.len]; simp
          have hno : ∀ (i : Nat) b, (A1 ++ [Blk.row l'.flatten .ro (P.cellsOf e) false])[i]? = some b → b.isOwn = false := by
            intro i b' hb'
            rcases push_get hb' with ⟨_, hb'⟩ | ⟨_, rfl⟩
            · exact g1.noOwn i b' hb'
            · rfl
          refine ⟨_, _, [.slice (some ⟨A1.length, 0, none⟩) len len], g1.trans ⟨hRel, hno, .push _ _, ⟨_, rfl⟩⟩, .one ?_ rfl, .slice (some ⟨A1.length, 0, none⟩) len len, len, l'.flatten, rfl, ⟨by rw [hflat.1, hreal], .inr (.inr ⟨A1.length, 0, len, l'.flatten, .ro, false, rfl, Nat.le_refl _, hA, by simp, by rw [hflat.1, hreal]; omega, fun j _ => by rw [Nat.zero_add]⟩)⟩, hbytes, ?_⟩
          · exact .slc (i := A1.length) (o := 0) (n := len) (c := len) (c' := cap) hM (Nat.le_refl _) hlc (by simp)
          · intro j hj
            have hjl : j < l'.length := by omega
            have hc := List.getElem?_eq_getElem hjl
            obtain ⟨q1, q2⟩ := hle' j _ hc
            have := flat_part l' j _ hc
            rw [flat_len_take l' (P.cellsOf e) (fun j c h => (hle' j c h).1) j (by omega), q1] at this
            rw [this]
            exact Good.le (.push _ _) F _ _ q2
    · rename_i fs hu
      rw [Bool.and_eq_true, decide_eq_true_eq, List.all_eq_true] at hd
      obtain ⟨hcon, hdf⟩ := hd
      rw [hu]
      obtain ⟨xs, n, rfl, rfl, hlen, hxl, hget⟩ := DataW.trod_struct hu ht
      obtain ⟨μ1, A1, l', g1, g2⟩ := open_many (F := F) (fun t cs fuel x μ A => open_data F t cs fuel x μ A) (fs.toList.map fun f => (f.type, (cs.drop f.offset).take (P.cellsOf f.type))) μ A (by
        intro p hp
        rw [List.mem_map] at hp
        obtain ⟨f, hf, rfl⟩ := hp
        refine ⟨hdf f hf, n, ?_⟩
        obtain ⟨i, hi⟩ := List.mem_iff_getElem?.1 hf
        have hi' : fs[i]? = some f := by simpa using hi
        have := hget i f hi'
        have hlt : i < xs.length := by
          rw [hxl]
          rcases Nat.lt_or_ge i fs.size with h' | h'
          · exact h'
          · rw [Array.getElem?_eq_none h'] at hi'; cases hi'
        rw [List.getElem?_eq_getElem hlt] at this
        refine ⟨_, this, fun m hm => hw m ?_⟩
        simp only [DataW.weights, hu]
        exact DataW.weights_mem_each (j := i) (t := f.type) (d := xs[i].1) (by rw [List.getElem?_map, Array.getElem?_toList, hi']; rfl) (by rw [List.getElem?_map, List.getElem?_eq_getElem hlt]; rfl) m hm) hr hn
      have hparts : CellsR μ1 l'.flatten cs := by
        have := CellsR.flatten (μ := μ1) (fs.toList.map fun f => (cs.drop f.offset).take (P.cellsOf f.type)) l' (by
          have aux : ∀ (l : List Field) (r : List (List Value)), All2 (fun (p : TypeId × List Value) c => CellsR μ1 c p.2 ∧ Good P A1 F p.1 c) (l.map fun f => (f.type, (cs.drop f.offset).take (P.cellsOf f.type))) r →
              All2 (fun b a => CellsR μ1 a b) (l.map fun f => (cs.drop f.offset).take (P.cellsOf f.type)) r := by
            intro l
            induction l with
            | nil => intro r h; cases r with
              | nil => trivial
              | cons => exact h.elim
            | cons a l ih => intro r h; cases r with
              | nil => exact h.elim
              | cons c r => exact ⟨h.1.1, ih r h.2⟩
          exact aux _ _ g2)
        rw [cut_fields cs fs.toList 0 _ hcon hlen, List.drop_zero] at this
        exact this
      have hpl := part_len cs fs.toList 0 _ hcon hlen
      have hl2 : All2 (fun (f : Field) c => c.length = P.cellsOf f.type ∧ Good P A1 F f.type c) fs.toList l' := by
        have aux : ∀ (l : List Field) (r : List (List Value)), (∀ f ∈ l, ((cs.drop f.offset).take (P.cellsOf f.type)).length = P.cellsOf f.type) → All2 (fun (p : TypeId × List Value) c => CellsR μ1 c p.2 ∧ Good P A1 F p.1 c) (l.map fun f => (f.type, (cs.drop f.offset).take (P.cellsOf f.type))) r →
            All2 (fun (f : Field) c => c.length = P.cellsOf f.type ∧ Good P A1 F f.type c) l r := by
          intro l
          induction l with
          | nil => intro r _ h; cases r with
            | nil => trivial
            | cons => exact h.elim
          | cons a l ih => intro r hp h; cases r with
            | nil => exact h.elim
            | cons c r =>
              refine ⟨⟨?_, h.1.2⟩, ih r (fun f hf => hp f (by simp [hf])) h.2⟩
              rw [h.1.1.1]
              exact hp a (by simp)
        exact aux _ _ hpl g2
      refine ⟨μ1, A1, l'.flatten, g1, hparts, by rw [hparts.1, hlen], ?_⟩
      intro f hf
      obtain ⟨j, hj⟩ := List.mem_iff_getElem?.1 hf
      have hjl : j < l'.length := by rw [All2.len _ _ hl2]; exact lt_of_get hj
      have hc := List.getElem?_eq_getElem hjl
      obtain ⟨q1, q2⟩ := All2.get _ _ hl2 j f _ hj hc
      have ho := field_at fs.toList l' 0 _ hcon (All2.imp (fun _ _ h => h.1) _ _ hl2) j f hj
      have := flat_part l' j _ hc
      rw [q1] at this
      rw [ho, Nat.zero_add, this]
      exact q2
    · rename_i n e hu
      rw [Bool.and_eq_true, decide_eq_true_eq] at hd
      obtain ⟨hsz, hde⟩ := hd
      rw [hu]
      obtain ⟨xs, m, rfl, rfl, hlen, hxl, hget⟩ := DataW.trod_array hu ht
      rw [← hsz] at hlen
      obtain ⟨μ1, A1, l', g1, g2⟩ := open_many (F := F) (fun t cs fuel x μ A => open_data F t cs fuel x μ A) ((List.range n).map fun i => (e, (cs.drop (i * P.cellsOf e)).take (P.cellsOf e))) μ A (by
        intro p hp
        rw [List.mem_map] at hp
        obtain ⟨i, hi, rfl⟩ := hp
        rw [List.mem_range] at hi
        refine ⟨hde, m, ?_⟩
        have := hget i hi
        have hlt : i < xs.length := by omega
        rw [List.getElem?_eq_getElem hlt] at this
        refine ⟨_, this, fun q hq => hw q ?_⟩
        simp only [DataW.weights, hu]
        exact weights_all (xs.map (·.1)) _ (List.mem_map.2 ⟨_, List.getElem_mem hlt, rfl⟩) q hq) hr hn
      have hparts : CellsR μ1 l'.flatten cs := by
        have := CellsR.flatten (μ := μ1) ((List.range n).map fun i => (cs.drop (i * P.cellsOf e)).take (P.cellsOf e)) l' (by
          have aux : ∀ (l : List Nat) (r : List (List Value)), All2 (fun (p : TypeId × List Value) c => CellsR μ1 c p.2 ∧ Good P A1 F p.1 c) (l.map fun i => (e, (cs.drop (i * P.cellsOf e)).take (P.cellsOf e))) r →
              All2 (fun b a => CellsR μ1 a b) (l.map fun i => (cs.drop (i * P.cellsOf e)).take (P.cellsOf e)) r := by
            intro l
            induction l with
            | nil => intro r h; cases r with
              | nil => trivial
              | cons => exact h.elim
            | cons a l ih => intro r h; cases r with
              | nil => exact h.elim
              | cons c r => exact ⟨h.1.1, ih r h.2⟩
          exact aux _ _ g2)
        rw [cut_even cs (P.cellsOf e) n hlen] at this
        exact this
      have hl' : l'.length = n := by simpa using All2.len _ _ g2
      have hle' : ∀ (j : Nat) c, l'[j]? = some c → c.length = P.cellsOf e ∧ Good P A1 F e c := by
        intro j c hc
        have hj := lt_of_get hc
        obtain ⟨q1, q2⟩ := All2.get _ _ g2 j (e, (cs.drop (j * P.cellsOf e)).take (P.cellsOf e)) c (by rw [List.getElem?_map, List.getElem?_range (by omega)]; rfl) hc
        refine ⟨?_, q2⟩
        rw [q1.1]
        simp only
        have : j * P.cellsOf e + P.cellsOf e ≤ n * P.cellsOf e := by rw [← Nat.succ_mul]; exact Nat.mul_le_mul_right _ (by omega)
        rw [List.length_take, List.length_drop, hlen]; omega
      refine ⟨μ1, A1, l'.flatten, g1, hparts, by rw [hparts.1, hlen, hsz], ?_⟩
      intro j hj
      have hjl : j < l'.length := by omega
      have hc := List.getElem?_eq_getElem hjl
      obtain ⟨q1, q2⟩ := hle' j _ hc
      have := flat_part l' j _ hc
      rw [flat_len_take l' (P.cellsOf e) (fun j c h => (hle' j c h).1) j (by omega), q1] at this
      rw [this]
      exact q2
    · cases hd
end
end Go.AS
