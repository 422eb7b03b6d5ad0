/- Lemmas for the proof of a given statement; no conditions. -/
import Derived.Test.YtpaegpjgegcdeaaM2
import Derived.OpenShut
import Derived.DataReads
import Derived.SizedLaws
import Derived.WideShapes
import Derived.ChangeVars
import Derived.MakeChecks
import Derived.ChangeArms
import Derived.Lib.Overlaps
set_option maxHeartbeats 1000000

namespace Go.AS
open Go Go.RowKit
set_option linter.unusedVariables false
set_option linter.unusedSimpArgs false

/-- Where fields lie one behind the other from k on: where they end. -/
def contig (P : Program) : Nat → List Field → Option Nat
  | k, [] => some k
  | k, f :: r => if f.offset = k then contig P (k + P.cellsOf f.type) r else none

/-- Types of plain data: numbers, texts, bools, slices, structs and arrays of these. -/
def dataT (P : Program) : Nat → TypeId → Bool
  | 0, _ => false
  | F + 1, t => match P.underlying t with
    | some .bool | some .string | some (.int _) => true
    | some (.slice e) => decide (0 < P.cellsOf e) && dataT P F e
    | some (.struct fs) => decide (contig P 0 fs.toList = some (P.cellsOf t)) && fs.toList.all fun f => dataT P F f.type
    | some (.array n e) => decide (n * P.cellsOf e = P.cellsOf t) && dataT P F e
    | _ => false

/-- Abstract cells that are a value of a type of plain data. -/
def Good (P : Program) (A : AH) : Nat → TypeId → List Value → Prop
  | 0, _, _ => False
  | F + 1, t, cs => match P.underlying t with
    | some .bool => ∃ b, cs = [.bool b]
    | some (.int k) => ∃ n, cs = [.int k n] ∧ (Lit.int k n).wf = true
    | some .string => ∃ s : ByteArray, cs = [.string s] ∧ s.size ≤ reachBytes
    | some (.slice e) => ∃ v n rc, cs = [v] ∧ Sl A (P.cellsOf e) v n rc ∧ n * P.bytesOf e ≤ reachBytes ∧ ∀ j, j < n → Good P A F e ((rc.drop (j * P.cellsOf e)).take (P.cellsOf e))
    | some (.struct fs) => cs.length = P.cellsOf t ∧ ∀ f ∈ fs.toList, Good P A F f.type ((cs.drop f.offset).take (P.cellsOf f.type))
    | some (.array n e) => cs.length = P.cellsOf t ∧ ∀ i, i < n → Good P A F e ((cs.drop (i * P.cellsOf e)).take (P.cellsOf e))
    | _ => False

theorem Good.le {P : Program} {A B : AH} (hl : Le A B) : ∀ (F : Nat) (t : TypeId) (cs : List Value), Good P A F t cs → Good P B F t cs
  | 0, _, _, h => h.elim
  | F + 1, t, cs, h => by
    unfold Good at h ⊢
    split
    · rename_i hu; rw [hu] at h; exact h
    · rename_i hu; rw [hu] at h; exact h
    · rename_i hu; rw [hu] at h; exact h
    · rename_i hu; rw [hu] at h
      obtain ⟨v, n, rc, h1, h2, h3, h4⟩ := h
      exact ⟨v, n, rc, h1, h2.le hl, h3, fun j hj => Good.le hl F _ _ (h4 j hj)⟩
    · rename_i hu; rw [hu] at h
      exact ⟨h.1, fun f hf => Good.le hl F _ _ (h.2 f hf)⟩
    · rename_i hu; rw [hu] at h
      exact ⟨h.1, fun f hf => Good.le hl F _ _ (h.2 f hf)⟩
    · rename_i hu
      split at h <;> first | exact h | simp_all

def All2 {α β : Type} (R : α → β → Prop) : List α → List β → Prop
  | [], [] => True
  | a :: l, b :: r => R a b ∧ All2 R l r
  | _, _ => False
theorem All2.imp {α β : Type} {R S : α → β → Prop} (h : ∀ a b, R a b → S a b) : ∀ (l : List α) (r : List β), All2 R l r → All2 S l r
  | [], [], _ => trivial
  | a :: l, b :: r, k => ⟨h _ _ k.1, All2.imp h l r k.2⟩
  | [], _ :: _, k => k.elim
  | _ :: _, [], k => k.elim
theorem All2.len {α β : Type} {R : α → β → Prop} : ∀ (l : List α) (r : List β), All2 R l r → r.length = l.length
  | [], [], _ => rfl
  | a :: l, b :: r, k => by simp [All2.len l r k.2]
  | [], _ :: _, k => k.elim
  | _ :: _, [], k => k.elim
theorem All2.get {α β : Type} {R : α → β → Prop} : ∀ (l : List α) (r : List β), All2 R l r → ∀ (j : Nat) a b, l[j]? = some a → r[j]? = some b → R a b
  | [], [], _, j, a, b, h, _ => by simp at h
  | a :: l, b :: r, k, j, x, y, h1, h2 => by
    cases j with
    | zero => simp only [List.getElem?_cons_zero, Option.some.injEq] at h1 h2; subst h1 h2; exact k.1
    | succ j => exact All2.get l r k.2 j x y (by simpa using h1) (by simpa using h2)
  | [], _ :: _, k, _, _, _, _, _ => k.elim
  | _ :: _, [], k, _, _, _, _, _ => k.elim

/-- Abstract cells and the machine's. -/
def CellsR (μ : Mu) (cs' cs : List Value) : Prop := cs'.length = cs.length ∧ ∀ (j : Nat) v v', cs'[j]? = some v → cs[j]? = some v' → VR μ v v' ∧ v.oneCell' = true
theorem CellsR.mono {μ r : Mu} {a b : List Value} (h : CellsR μ a b) : CellsR (μ ++ r) a b := ⟨h.1, fun j v v' x y => ⟨(h.2 j v v' x y).1.mono, (h.2 j v v' x y).2⟩⟩
theorem CellsR.append {μ : Mu} {a b c d : List Value} (h : CellsR μ a b) (k : CellsR μ c d) : CellsR μ (a ++ c) (b ++ d) := by
  refine ⟨by simp [h.1, k.1], fun j v v' x y => ?_⟩
  rw [List.getElem?_append] at x y
  rw [h.1] at x
  split at x
  · rename_i hj; rw [if_pos hj] at y; exact h.2 j v v' x y
  · rename_i hj; rw [if_neg hj] at y; exact k.2 _ v v' x y
theorem CellsR.one {μ : Mu} {v v' : Value} (h : VR μ v v') (h1 : v.oneCell' = true) : CellsR μ [v] [v'] := by
  refine ⟨rfl, fun j a b x y => ?_⟩
  cases j with
  | zero => simp only [List.getElem?_cons_zero, Option.some.injEq] at x y; subst x y; exact ⟨h, h1⟩
  | succ j => simp at x
theorem CellsR.flatten {μ : Mu} : ∀ (l : List (List Value)) (r : List (List Value)), All2 (fun b a => CellsR μ a b) l r → CellsR μ r.flatten l.flatten
  | [], [], _ => ⟨rfl, fun j v v' x => by simp at x⟩
  | b :: l, a :: r, h => by
    rw [List.flatten_cons, List.flatten_cons]
    exact h.1.append (CellsR.flatten l r h.2)
  | [], _ :: _, k => k.elim
  | _ :: _, [], k => k.elim

section
variable {α : Type}
theorem flat_part : ∀ (l : List (List α)) (j : Nat) (c : List α), l[j]? = some c → (l.flatten.drop ((l.take j).flatten.length)).take c.length = c
  | [], j, c, h => by simp at h
  | a :: l, 0, c, h => by
    simp only [List.getElem?_cons_zero, Option.some.injEq] at h
    subst h; simp
  | a :: l, j + 1, c, h => by
    simp only [List.getElem?_cons_succ] at h
    simp only [List.take_succ_cons, List.flatten_cons, List.length_append, List.drop_append]
    have := flat_part l j c h
    rw [List.drop_of_length_le (by omega), List.nil_append, Nat.add_sub_cancel_left]
    exact this
theorem flat_len (l : List (List α)) (sz : Nat) (h : ∀ (j : Nat) c, l[j]? = some c → c.length = sz) : l.flatten.length = l.length * sz := by
  induction l with
  | nil => simp
  | cons a l ih =>
    rw [List.flatten_cons, List.length_append, ih (fun j c hc => h (j + 1) c (by simpa using hc)), h 0 a rfl, List.length_cons, Nat.add_mul]
    omega
theorem flat_len_take (l : List (List α)) (sz : Nat) (h : ∀ (j : Nat) c, l[j]? = some c → c.length = sz) (j : Nat) (hj : j ≤ l.length) : (l.take j).flatten.length = j * sz := by
  rw [flat_len _ sz]
  · rw [List.length_take, Nat.min_eq_left hj]
  · intro i c hc
    rw [List.getElem?_take] at hc
    split at hc
    · exact h i c hc
    · cases hc
/-- Cells cut into parts of one size. -/
theorem cut_even (cs : List α) (sz : Nat) : ∀ n, cs.length = n * sz → ((List.range n).map fun i => (cs.drop (i * sz)).take sz).flatten = cs
  | 0, h => by
    have : cs = [] := List.length_eq_zero_iff.1 (by simpa using h)
    subst this; rfl
  | n + 1, h => by
    rw [List.range_succ_eq_map, List.map_cons, List.flatten_cons, List.map_map]
    have e : ((fun i => (cs.drop (i * sz)).take sz) ∘ Nat.succ) = fun i => ((cs.drop sz).drop (i * sz)).take sz := by
      funext i
      simp only [Function.comp, List.drop_drop]
      rw [show Nat.succ i * sz = sz + i * sz by rw [Nat.succ_mul]; omega]
    rw [e, cut_even (cs.drop sz) sz n (by rw [List.length_drop, h, Nat.add_mul]; omega)]
    simp
end

theorem contig_le {P : Program} : ∀ (fs : List Field) (k m : Nat), contig P k fs = some m → k ≤ m
  | [], k, m, h => by simp only [contig, Option.some.injEq] at h; omega
  | f :: r, k, m, h => by
    simp only [contig] at h
    split at h
    · have := contig_le r _ m h; omega
    · cases h
/-- Cells cut into a struct's fields. -/
theorem cut_fields {P : Program} (cs : List Value) : ∀ (fs : List Field) (k m : Nat), contig P k fs = some m → cs.length = m → (fs.map fun f => (cs.drop f.offset).take (P.cellsOf f.type)).flatten = cs.drop k
  | [], k, m, h, hl => by
    simp only [contig, Option.some.injEq] at h
    rw [List.drop_of_length_le (by omega)]; rfl
  | f :: r, k, m, h, hl => by
    simp only [contig] at h
    split at h
    · rename_i hk
      rw [List.map_cons, List.flatten_cons, cut_fields cs r _ m h hl, hk, ← List.drop_drop]
      exact List.take_append_drop _ _
    · cases h
theorem part_len {P : Program} (cs : List Value) : ∀ (fs : List Field) (k m : Nat), contig P k fs = some m → cs.length = m → ∀ f ∈ fs, ((cs.drop f.offset).take (P.cellsOf f.type)).length = P.cellsOf f.type
  | [], _, _, _, _, f, hf => by cases hf
  | g :: r, k, m, h, hl, f, hf => by
    simp only [contig] at h
    split at h
    · rename_i hk
      have := contig_le r _ m h
      rcases List.mem_cons.1 hf with rfl | hf
      · rw [List.length_take, List.length_drop]; omega
      · exact part_len cs r _ m h hl f hf
    · cases h
/-- The parts of fields, put one behind the other, lie at their fields' places. -/
theorem field_at {P : Program} : ∀ (fs : List Field) (l : List (List Value)) (k m : Nat), contig P k fs = some m → All2 (fun f c => c.length = P.cellsOf f.type) fs l → ∀ (j : Nat) f, fs[j]? = some f → f.offset = k + (l.take j).flatten.length
  | [], _, _, _, _, _, j, f, h => by simp at h
  | g :: r, [], _, _, _, k, _, _, _ => k.elim
  | g :: r, c :: l, k, m, h, ha, j, f, hf => by
    simp only [contig] at h
    split at h
    · rename_i hk
      cases j with
      | zero => simp only [List.getElem?_cons_zero, Option.some.injEq] at hf; subst hf; simp [hk]
      | succ j =>
        have := field_at r l _ m h ha.2 j f (by simpa using hf)
        rw [this, List.take_succ_cons, List.flatten_cons, List.length_append, ha.1]
        omega
    · cases h

/-- What an argument's opening gives. -/
structure Opens (w : World) (μ : Mu) (A : AH) (μ' : Mu) (A' : AH) : Prop where
  rel : Rel 0 μ' A' w
  noOwn : ∀ (i : Nat) b, A'[i]? = some b → b.isOwn = false
  le : Le A A'
  pre : ∃ r, μ' = μ ++ r
theorem Opens.trans {w : World} {μ μ1 μ2 : Mu} {A A1 A2 : AH} (h : Opens w μ A μ1 A1) (k : Opens w μ1 A1 μ2 A2) : Opens w μ A μ2 A2 := by
  obtain ⟨r, rfl⟩ := h.pre
  obtain ⟨s, rfl⟩ := k.pre
  exact ⟨k.rel, k.noOwn, h.le.trans k.le, ⟨r ++ s, by simp⟩⟩

section
variable {H : Type} {enc : TypeId × Value → H} {P : Program} {w : World} {base : Nat} {spare : Nat → Bool} {held : Bool}

theorem open_many {F : Nat} (ih : ∀ (t : TypeId) (cs : List Value) (fuel : Nat) x (μ : Mu) (A : AH), dataT P F t = true → DataW.trod enc P w base spare held fuel t cs = some x → (∀ n ∈ x.1.weights P t, n ≤ reachBytes) → Rel 0 μ A w → (∀ (i : Nat) b, A[i]? = some b → b.isOwn = false) →
      ∃ μ' A' cs', Opens w μ A μ' A' ∧ CellsR μ' cs' cs ∧ Good P A' F t cs') :
    ∀ (l : List (TypeId × List Value)) (μ : Mu) (A : AH), (∀ p ∈ l, dataT P F p.1 = true ∧ ∃ fuel x, DataW.trod enc P w base spare held fuel p.1 p.2 = some x ∧ ∀ n ∈ x.1.weights P p.1, n ≤ reachBytes) → Rel 0 μ A w → (∀ (i : Nat) b, A[i]? = some b → b.isOwn = false) →
      ∃ μ' A' l', Opens w μ A μ' A' ∧ All2 (fun (p : TypeId × List Value) c => CellsR μ' c p.2 ∧ Good P A' F p.1 c) l l'
  | [], μ, A, _, hr, hn => ⟨μ, A, [], ⟨hr, hn, .refl _, ⟨[], by simp⟩⟩, trivial⟩
  | p :: l, μ, A, h, hr, hn => by
    obtain ⟨h1, fuel, x, h2, hw⟩ := h p (by simp)
    obtain ⟨μ1, A1, c, g1, g2, g3⟩ := ih p.1 p.2 fuel x μ A h1 h2 hw hr hn
    obtain ⟨μ2, A2, l', k1, k2⟩ := open_many ih l μ1 A1 (fun q hq => h q (by simp [hq])) g1.rel g1.noOwn
    obtain ⟨r, rfl⟩ := k1.pre
    exact ⟨_, A2, c :: l', g1.trans k1, ⟨g2.mono, Good.le k1.le F _ _ g3⟩, k2⟩

theorem weights_all {e : TypeId} : ∀ (l : List (DataW H)) (d : DataW H), d ∈ l → ∀ n ∈ d.weights P e, n ∈ DataW.weightsAll P e l
  | [], _, h, _, _ => by cases h
  | a :: l, d, h, n, hn => by
    simp only [DataW.weightsAll, List.mem_append]
    rcases List.mem_cons.1 h with rfl | h
    · exact .inl hn
    · exact .inr (weights_all l d h n hn)

theorem range_cell {a : Addr} {n : Nat} {cs : List Value} (h : w.cells? base a n = some cs) : cs.length = n ∧ ∀ j, j < n → w.cell? (a.add j) = cs[j]? := by
  unfold World.cells? at h
  split at h
  · refine ⟨by simpa using mapM_some_length h, fun j hj => ?_⟩
    exact mapM_some_get h j j (by simp [hj])
  · cases h

theorem open_data : ∀ (F : Nat) (t : TypeId) (cs : List Value) (fuel : Nat) x (μ : Mu) (A : AH), dataT P F t = true → DataW.trod enc P w base (fun _ => true) held fuel t cs = some x → (∀ n ∈ x.1.weights P t, n ≤ reachBytes) → Rel 0 μ A w → (∀ (i : Nat) b, A[i]? = some b → b.isOwn = false) →
      ∃ μ' A' cs', Opens w μ A μ' A' ∧ CellsR μ' cs' cs ∧ Good P A' F t cs'
  | 0, _, _, _, _, _, _, h, _, _, _, _ => by simp [dataT] at h
  | F + 1, t, cs, fuel, x, μ, A, hd, ht, hw, hr, hn => by
    have same : Opens w μ A μ A := ⟨hr, hn, .refl _, ⟨[], by simp⟩⟩
    unfold dataT at hd
    unfold Good
    split at hd
    · rename_i hu
      obtain ⟨b, rfl, _⟩ := DataW.trod_bool hu ht
      exact ⟨μ, A, [.bool b], same, .one (.flat rfl) rfl, by rw [hu]; exact ⟨b, rfl⟩⟩
    · rename_i hu
      obtain ⟨s, rfl, rfl, _⟩ := DataW.trod_string hu ht
      have hs : s.size ≤ reachBytes := by
        have := hw s.data.toList.length (by simp [DataW.weights])
        rw [Array.length_toList] at this
        exact this
      exact ⟨μ, A, [.string s], same, .one (.flat rfl) rfl, by rw [hu]; exact ⟨s, rfl, hs⟩⟩
    · rename_i k hu
      obtain ⟨n, rfl, _, hwf⟩ := DataW.trod_int hu ht
      exact ⟨μ, A, [.int k n], same, .one (.flat rfl) rfl, by rw [hu]; exact ⟨n, rfl, hwf⟩⟩
    · rename_i e hu
      rw [Bool.and_eq_true, decide_eq_true_eq] at hd
      obtain ⟨hsz, hde⟩ := hd
      rw [hu]
      rcases DataW.trod_slice hu ht with ⟨rfl, _⟩ | ⟨a, len, cap, elems, rest, n, rfl, rfl, rfl, hb, hlc, hcm, hel, hget, hsp, _⟩
      · exact ⟨μ, A, [.slice none 0 0], same, .one (.flat rfl) rfl, .slice none 0 0, 0, [], rfl, ⟨by simp, .inl ⟨rfl, rfl⟩⟩, by simp, fun j hj => by omega⟩
      · by_cases hc0 : cap = 0
        · subst hc0
          have : len = 0 := by omega
          subst this
          exact ⟨μ, A, [.slice (some zmk) 0 0], same, .one .slz rfl, .slice (some zmk) 0 0, 0, [], rfl, ⟨by simp, .inr (.inl ⟨rfl, rfl⟩)⟩, by simp, fun j hj => by omega⟩
        · obtain ⟨hrl, hrest⟩ := hsp rfl
          -- what is at each place of the row
          have hbytes : len * P.bytesOf e ≤ reachBytes := by
            have := hw ((elems.map (·.1)).length + (rest.map (·.1)).length |> (· * P.bytesOf e)) (by simp [DataW.weights, hu])
            simp only [List.length_map] at this
            exact Nat.le_trans (Nat.mul_le_mul_right _ (by omega)) this
          have hall : ∀ i, i < cap → ∃ ci, w.cells? base (a.add (i * P.cellsOf e)) (P.cellsOf e) = some ci ∧ (i < len → ∃ y, DataW.trod enc P w base (fun _ => true) held n e ci = some y ∧ ∀ m ∈ y.1.weights P e, m ≤ reachBytes) := by
            intro i hi
            by_cases hil : i < len
            · have := hget i hil
              have hlt : i < elems.length := by omega
              rw [List.getElem?_eq_getElem hlt, Option.bind_eq_some_iff] at this
              obtain ⟨ci, h1, h2⟩ := this
              refine ⟨ci, h1, fun _ => ⟨_, h2, fun m hm => hw m ?_⟩⟩
              simp only [DataW.weights, hu, List.mem_cons, List.mem_append]
              exact .inr (.inl (weights_all (elems.map (·.1)) _ (List.mem_map.2 ⟨_, List.getElem_mem hlt, rfl⟩) m hm))
            · have := hrest (i - len) (by omega)
              have hlt : i - len < rest.length := by omega
              rw [List.getElem?_eq_getElem hlt, Option.bind_eq_some_iff, show len + (i - len) = i by omega] at this
              obtain ⟨ci, h1, h2⟩ := this
              exact ⟨ci, h1, fun h => absurd h hil⟩
          obtain ⟨c0, hc1, _⟩ := hall 0 (by omega)
          rw [Nat.zero_mul, addr_add0] at hc1
          obtain ⟨hl0, hg0⟩ := range_cell hc1
          have h00 := hg0 0 hsz
          rw [addr_add0, List.getElem?_eq_getElem (by omega)] at h00
          obtain ⟨b, o, sp⟩ := a
          have hspn : sp = none ∧ ∃ rc T fr, w.heap[b]? = some (.cells rc T fr) := by
            unfold World.cell? at h00
            split at h00
            · rename_i c T fr heq
              split at h00
              · cases h00
              · rename_i hs
                cases sp with
                | none => exact ⟨rfl, _, _, _, heq⟩
                | some s => simp at hs
            · cases h00
          obtain ⟨rfl, rc, T, fr, hblk⟩ := hspn
          have hcell : ∀ j, w.cell? ⟨b, o + j, none⟩ = rc[o + j]? := by
            intro j
            unfold World.cell?
            simp [hblk]
          have hrow : ∀ i, i < cap → ∀ ci, w.cells? base ((⟨b, o, none⟩ : Addr).add (i * P.cellsOf e)) (P.cellsOf e) = some ci → ci = ((rc.toList.drop o).drop (i * P.cellsOf e)).take (P.cellsOf e) ∧ ci.length = P.cellsOf e ∧ o + i * P.cellsOf e + P.cellsOf e ≤ rc.size := by
            intro i hi ci hci
            obtain ⟨q1, q2⟩ := range_cell hci
            have q3 : ∀ j, j < P.cellsOf e → rc[o + i * P.cellsOf e + j]? = ci[j]? := by
              intro j hj
              rw [← q2 j hj, add_none, add_none, Nat.add_assoc, hcell]
            have q4 : o + i * P.cellsOf e + P.cellsOf e ≤ rc.size := by
              have := q3 (P.cellsOf e - 1) (by omega)
              rw [List.getElem?_eq_getElem (by omega)] at this
              rcases Nat.lt_or_ge (o + i * P.cellsOf e + (P.cellsOf e - 1)) rc.size with h' | h'
              · omega
              · rw [Array.getElem?_eq_none h'] at this; cases this
            refine ⟨?_, q1, q4⟩
            apply List.ext_getElem?
            intro j
            rcases Nat.lt_or_ge j (P.cellsOf e) with hj | hj
            · rw [List.getElem?_take_of_lt hj, List.getElem?_drop, List.getElem?_drop, ← q3 j hj, Array.getElem?_toList, Nat.add_assoc]
            · rw [List.getElem?_eq_none (by omega), List.getElem?_eq_none (by rw [List.length_take]; omega)]
          have hcap : o + cap * P.cellsOf e ≤ rc.size := by
            obtain ⟨ci, h1, _⟩ := hall (cap - 1) (by omega)
            obtain ⟨_, _, h2⟩ := hrow (cap - 1) (by omega) ci h1
            have : (cap - 1) * P.cellsOf e + P.cellsOf e = cap * P.cellsOf e := by
              rw [← Nat.succ_mul]; congr 1; omega
            omega
          have hlen : len * P.cellsOf e ≤ cap * P.cellsOf e := Nat.mul_le_mul_right _ hlc
          let real := (rc.toList.drop o).take (len * P.cellsOf e)
          have hreal : real.length = len * P.cellsOf e := by
            show ((rc.toList.drop o).take (len * P.cellsOf e)).length = _
            rw [List.length_take, List.length_drop, Array.length_toList]; omega
          have hpart : ∀ i, i < len → (real.drop (i * P.cellsOf e)).take (P.cellsOf e) = ((rc.toList.drop o).drop (i * P.cellsOf e)).take (P.cellsOf e) := by
            intro i hi
            have : i * P.cellsOf e + P.cellsOf e ≤ len * P.cellsOf e := by rw [← Nat.succ_mul]; exact Nat.mul_le_mul_right _ hi
            show (((rc.toList.drop o).take (len * P.cellsOf e)).drop (i * P.cellsOf e)).take (P.cellsOf e) = _
            rw [List.drop_take, List.take_take, Nat.min_eq_left (by omega)]
          obtain ⟨μ1, A1, l', g1, g2⟩ := open_many (F := F) (fun t cs fuel x μ A => open_data F t cs fuel x μ A) ((List.range len).map fun i => (e, (real.drop (i * P.cellsOf e)).take (P.cellsOf e))) μ A (by
            intro p hp
            rw [List.mem_map] at hp
            obtain ⟨i, hi, rfl⟩ := hp
            rw [List.mem_range] at hi
            obtain ⟨ci, h1, h2⟩ := hall i (by omega)
            obtain ⟨y, hy, hyw⟩ := h2 hi
            refine ⟨hde, n, y, ?_, hyw⟩
            simp only
            rw [hpart i hi, ← (hrow i (by omega) ci h1).1]
            exact hy) hr hn
          have hl' : l'.length = len := by simpa using All2.len _ _ g2
          have hle' : ∀ (j : Nat) c, l'[j]? = some c → c.length = P.cellsOf e ∧ Good P A1 F e c := by
            intro j c hc
            have hj := lt_of_get hc
            obtain ⟨q1, q2⟩ := All2.get _ _ g2 j (e, (real.drop (j * P.cellsOf e)).take (P.cellsOf e)) c (by rw [List.getElem?_map, List.getElem?_range (by omega)]; rfl) hc
            refine ⟨?_, q2⟩
            rw [q1.1]
            simp only
            have : j * P.cellsOf e + P.cellsOf e ≤ len * P.cellsOf e := by rw [← Nat.succ_mul]; exact Nat.mul_le_mul_right _ (by omega)
            rw [List.length_take, List.length_drop, hreal]; omega
          have hflat : CellsR μ1 l'.flatten real := by
            have := CellsR.flatten (μ := μ1) ((List.range len).map fun i => (real.drop (i * P.cellsOf e)).take (P.cellsOf e)) l' (by
              have aux : ∀ (l : List Nat) (r : List (List Value)), All2 (fun (p : TypeId × List Value) c => CellsR μ1 c p.2 ∧ Good P A1 F p.1 c) (l.map fun i => (e, (real.drop (i * P.cellsOf e)).take (P.cellsOf e))) r →
                  All2 (fun b a => CellsR μ1 a b) (l.map fun i => (real.drop (i * P.cellsOf e)).take (P.cellsOf e)) r := by
                intro l
                induction l with
                | nil => intro r h; cases r with
                  | nil => trivial
                  | cons => exact h.elim
                | cons a l ih => intro r h; cases r with
                  | nil => exact h.elim
                  | cons c r => exact ⟨h.1.1, ih r h.2⟩
              exact aux _ _ g2)
            rw [cut_even real (P.cellsOf e) len hreal] at this
            exact this
          -- the row
          have hRel : Rel 0 (μ1 ++ [⟨b, o, cap * P.cellsOf e, P.cellsOf e⟩]) (A1 ++ [.row l'.flatten .ro (P.cellsOf e) false]) w := by
            refine Rel.addRow g1.rel g1.noOwn hblk ?_ (by rw [hflat.1, hreal]; exact hlen)
            intro j v hj
            have hjl := lt_of_get hj
            rw [hflat.1] at hjl
            have hv := List.getElem?_eq_getElem hjl
            obtain ⟨q1, q2⟩ := hflat.2 j v _ hj hv
            refine ⟨q2, _, ?_, q1⟩
            rw [← hv]
            show _ = ((rc.toList.drop o).take (len * P.cellsOf e))[j]?
            rw [hreal] at hjl
            rw [List.getElem?_take_of_lt hjl, List.getElem?_drop, Array.getElem?_toList]
          have hA : (A1 ++ [.row l'.flatten .ro (P.cellsOf e) false])[A1.length]? = some (Blk.row l'.flatten .ro (P.cellsOf e) false) := by simp
          have hM : (μ1 ++ [(⟨b, o, cap * P.cellsOf e, P.cellsOf e⟩ : Ent)])[A1.length]? = some ⟨b, o, cap * P.cellsOf e, P.cellsOf e⟩ := by rw [← g1.rel.len]; simp
          have hno : ∀ (i : Nat) b, (A1 ++ [Blk.row l'.flatten .ro (P.cellsOf e) false])[i]? = some b → b.isOwn = false := by
            intro i b' hb'
            rcases push_get hb' with ⟨_, hb'⟩ | ⟨_, rfl⟩
            · exact g1.noOwn i b' hb'
            · rfl
          refine ⟨_, _, [.slice (some ⟨A1.length, 0, none⟩) len len], g1.trans ⟨hRel, hno, .push _ _, ⟨_, rfl⟩⟩, .one ?_ rfl, .slice (some ⟨A1.length, 0, none⟩) len len, len, l'.flatten, rfl, ⟨by rw [hflat.1, hreal], .inr (.inr ⟨A1.length, 0, len, l'.flatten, .ro, false, rfl, Nat.le_refl _, hA, by simp, by rw [hflat.1, hreal]; omega, fun j _ => by rw [Nat.zero_add]⟩)⟩, hbytes, ?_⟩
          · exact .slc (i := A1.length) (o := 0) (n := len) (c := len) (c' := cap) hM (Nat.le_refl _) hlc (by simp) (fun _ => by simp)
          · intro j hj
            have hjl : j < l'.length := by omega
            have hc := List.getElem?_eq_getElem hjl
            obtain ⟨q1, q2⟩ := hle' j _ hc
            have := flat_part l' j _ hc
            rw [flat_len_take l' (P.cellsOf e) (fun j c h => (hle' j c h).1) j (by omega), q1] at this
            rw [this]
            exact Good.le (.push _ _) F _ _ q2
    · rename_i fs hu
      rw [Bool.and_eq_true, decide_eq_true_eq, List.all_eq_true] at hd
      obtain ⟨hcon, hdf⟩ := hd
      rw [hu]
      obtain ⟨xs, n, rfl, rfl, hlen, hxl, hget⟩ := DataW.trod_struct hu ht
      obtain ⟨μ1, A1, l', g1, g2⟩ := open_many (F := F) (fun t cs fuel x μ A => open_data F t cs fuel x μ A) (fs.toList.map fun f => (f.type, (cs.drop f.offset).take (P.cellsOf f.type))) μ A (by
        intro p hp
        rw [List.mem_map] at hp
        obtain ⟨f, hf, rfl⟩ := hp
        refine ⟨hdf f hf, n, ?_⟩
        obtain ⟨i, hi⟩ := List.mem_iff_getElem?.1 hf
        have hi' : fs[i]? = some f := by simpa using hi
        have := hget i f hi'
        have hlt : i < xs.length := by
          rw [hxl]
          rcases Nat.lt_or_ge i fs.size with h' | h'
          · exact h'
          · rw [Array.getElem?_eq_none h'] at hi'; cases hi'
        rw [List.getElem?_eq_getElem hlt] at this
        refine ⟨_, this, fun m hm => hw m ?_⟩
        simp only [DataW.weights, hu]
        exact DataW.weights_mem_each (j := i) (t := f.type) (d := xs[i].1) (by rw [List.getElem?_map, Array.getElem?_toList, hi']; rfl) (by rw [List.getElem?_map, List.getElem?_eq_getElem hlt]; rfl) m hm) hr hn
      have hparts : CellsR μ1 l'.flatten cs := by
        have := CellsR.flatten (μ := μ1) (fs.toList.map fun f => (cs.drop f.offset).take (P.cellsOf f.type)) l' (by
          have aux : ∀ (l : List Field) (r : List (List Value)), All2 (fun (p : TypeId × List Value) c => CellsR μ1 c p.2 ∧ Good P A1 F p.1 c) (l.map fun f => (f.type, (cs.drop f.offset).take (P.cellsOf f.type))) r →
              All2 (fun b a => CellsR μ1 a b) (l.map fun f => (cs.drop f.offset).take (P.cellsOf f.type)) r := by
            intro l
            induction l with
            | nil => intro r h; cases r with
              | nil => trivial
              | cons => exact h.elim
            | cons a l ih => intro r h; cases r with
              | nil => exact h.elim
              | cons c r => exact ⟨h.1.1, ih r h.2⟩
          exact aux _ _ g2)
        rw [cut_fields cs fs.toList 0 _ hcon hlen, List.drop_zero] at this
        exact this
      have hpl := part_len cs fs.toList 0 _ hcon hlen
      have hl2 : All2 (fun (f : Field) c => c.length = P.cellsOf f.type ∧ Good P A1 F f.type c) fs.toList l' := by
        have aux : ∀ (l : List Field) (r : List (List Value)), (∀ f ∈ l, ((cs.drop f.offset).take (P.cellsOf f.type)).length = P.cellsOf f.type) → All2 (fun (p : TypeId × List Value) c => CellsR μ1 c p.2 ∧ Good P A1 F p.1 c) (l.map fun f => (f.type, (cs.drop f.offset).take (P.cellsOf f.type))) r →
            All2 (fun (f : Field) c => c.length = P.cellsOf f.type ∧ Good P A1 F f.type c) l r := by
          intro l
          induction l with
          | nil => intro r _ h; cases r with
            | nil => trivial
            | cons => exact h.elim
          | cons a l ih => intro r hp h; cases r with
            | nil => exact h.elim
            | cons c r =>
              refine ⟨⟨?_, h.1.2⟩, ih r (fun f hf => hp f (by simp [hf])) h.2⟩
              rw [h.1.1.1]
              exact hp a (by simp)
        exact aux _ _ hpl g2
      refine ⟨μ1, A1, l'.flatten, g1, hparts, by rw [hparts.1, hlen], ?_⟩
      intro f hf
      obtain ⟨j, hj⟩ := List.mem_iff_getElem?.1 hf
      have hjl : j < l'.length := by rw [All2.len _ _ hl2]; exact lt_of_get hj
      have hc := List.getElem?_eq_getElem hjl
      obtain ⟨q1, q2⟩ := All2.get _ _ hl2 j f _ hj hc
      have ho := field_at fs.toList l' 0 _ hcon (All2.imp (fun _ _ h => h.1) _ _ hl2) j f hj
      have := flat_part l' j _ hc
      rw [q1] at this
      rw [ho, Nat.zero_add, this]
      exact q2
    · rename_i n e hu
      rw [Bool.and_eq_true, decide_eq_true_eq] at hd
      obtain ⟨hsz, hde⟩ := hd
      rw [hu]
      obtain ⟨xs, m, rfl, rfl, hlen, hxl, hget⟩ := DataW.trod_array hu ht
      rw [← hsz] at hlen
      obtain ⟨μ1, A1, l', g1, g2⟩ := open_many (F := F) (fun t cs fuel x μ A => open_data F t cs fuel x μ A) ((List.range n).map fun i => (e, (cs.drop (i * P.cellsOf e)).take (P.cellsOf e))) μ A (by
        intro p hp
        rw [List.mem_map] at hp
        obtain ⟨i, hi, rfl⟩ := hp
        rw [List.mem_range] at hi
        refine ⟨hde, m, ?_⟩
        have := hget i hi
        have hlt : i < xs.length := by omega
        rw [List.getElem?_eq_getElem hlt] at this
        refine ⟨_, this, fun q hq => hw q ?_⟩
        simp only [DataW.weights, hu]
        exact weights_all (xs.map (·.1)) _ (List.mem_map.2 ⟨_, List.getElem_mem hlt, rfl⟩) q hq) hr hn
      have hparts : CellsR μ1 l'.flatten cs := by
        have := CellsR.flatten (μ := μ1) ((List.range n).map fun i => (cs.drop (i * P.cellsOf e)).take (P.cellsOf e)) l' (by
          have aux : ∀ (l : List Nat) (r : List (List Value)), All2 (fun (p : TypeId × List Value) c => CellsR μ1 c p.2 ∧ Good P A1 F p.1 c) (l.map fun i => (e, (cs.drop (i * P.cellsOf e)).take (P.cellsOf e))) r →
              All2 (fun b a => CellsR μ1 a b) (l.map fun i => (cs.drop (i * P.cellsOf e)).take (P.cellsOf e)) r := by
            intro l
            induction l with
            | nil => intro r h; cases r with
              | nil => trivial
              | cons => exact h.elim
            | cons a l ih => intro r h; cases r with
              | nil => exact h.elim
              | cons c r => exact ⟨h.1.1, ih r h.2⟩
          exact aux _ _ g2)
        rw [cut_even cs (P.cellsOf e) n hlen] at this
        exact this
      have hl' : l'.length = n := by simpa using All2.len _ _ g2
      have hle' : ∀ (j : Nat) c, l'[j]? = some c → c.length = P.cellsOf e ∧ Good P A1 F e c := by
        intro j c hc
        have hj := lt_of_get hc
        obtain ⟨q1, q2⟩ := All2.get _ _ g2 j (e, (cs.drop (j * P.cellsOf e)).take (P.cellsOf e)) c (by rw [List.getElem?_map, List.getElem?_range (by omega)]; rfl) hc
        refine ⟨?_, q2⟩
        rw [q1.1]
        simp only
        have : j * P.cellsOf e + P.cellsOf e ≤ n * P.cellsOf e := by rw [← Nat.succ_mul]; exact Nat.mul_le_mul_right _ (by omega)
        rw [List.length_take, List.length_drop, hlen]; omega
      refine ⟨μ1, A1, l'.flatten, g1, hparts, by rw [hparts.1, hlen, hsz], ?_⟩
      intro j hj
      have hjl : j < l'.length := by omega
      have hc := List.getElem?_eq_getElem hjl
      obtain ⟨q1, q2⟩ := hle' j _ hc
      have := flat_part l' j _ hc
      rw [flat_len_take l' (P.cellsOf e) (fun j c h => (hle' j c h).1) j (by omega), q1] at this
      rw [this]
      exact q2
    · cases hd
end
end Go.AS


namespace Go.AS
open Go Go.RowKit Go.WideShapes
set_option linter.unusedVariables false
set_option linter.unusedSimpArgs false

/-- An abstract value of a type of plain data. -/
def GoodV (P : Program) (A : AH) (F : Nat) (t : TypeId) (v : Value) : Prop :=
  match P.underlying t with
  | some (.struct _) | some (.array _ _) => ∃ cs, v = .agg cs ∧ Good P A F t cs.toList
  | _ => Good P A F t [v]

theorem GoodV.le {P : Program} {A B : AH} {F : Nat} {t : TypeId} {v : Value} (h : GoodV P A F t v) (hl : Le A B) : GoodV P B F t v := by
  unfold GoodV at h ⊢
  split
  · rename_i hu; rw [hu] at h; obtain ⟨cs, h1, h2⟩ := h; exact ⟨cs, h1, Good.le hl _ _ _ h2⟩
  · rename_i hu; rw [hu] at h; obtain ⟨cs, h1, h2⟩ := h; exact ⟨cs, h1, Good.le hl _ _ _ h2⟩
  · rename_i hu1 hu2
    split at h
    · rename_i hu; exact absurd hu (hu1 _)
    · rename_i hu; exact absurd hu (hu2 _ _)
    · exact Good.le hl _ _ _ h

section
variable {H : Type} {enc : TypeId × Value → H} {P : Program} {w : World} {base : Nat} {held : Bool}

theorem open_one {F : Nat} {t : TypeId} {v : Value} {d : DataW H} {ps : List MemPlace} {μ : Mu} {A : AH} {b0 : Nat} (hd : dataT P F t = true) (ht : DataW.Trod enc P w base (fun _ => true) held t v d ps) (hw : ∀ n ∈ d.weights P t, n ≤ reachBytes) (hv : Value.okWide P w .any b0 t v)
    (hr : Rel 0 μ A w) (hn : ∀ (i : Nat) b, A[i]? = some b → b.isOwn = false) : ∃ μ' A' v', Opens w μ A μ' A' ∧ VR μ' v' v ∧ GoodV P A' F t v' := by
  obtain ⟨fuel, hf⟩ := ht
  obtain ⟨μ', A', cs', g1, g2, g3⟩ := open_data F t v.cells.toList fuel _ μ A hd hf hw hr hn
  have agg : (∃ cs, v = .agg cs) → ∃ v', VR μ' v' v ∧ ∃ cs, v' = .agg cs ∧ Good P A' F t cs.toList := by
    rintro ⟨cs, rfl⟩
    have e : (Value.agg cs).cells = cs := rfl
    rw [e] at g2
    refine ⟨.agg cs'.toArray, .agg (by simpa using g2.1) (fun j x y hx hy => (g2.2 j x y (by simpa using hx) (by simpa using hy)).1), cs'.toArray, rfl, by simpa using g3⟩
  have one : v.cells = #[v] → ∃ v', VR μ' v' v ∧ Good P A' F t [v'] := by
    intro e
    rw [e] at g2
    obtain ⟨h1, h2⟩ := g2
    cases cs' with
    | nil => simp at h1
    | cons x r =>
      cases r with
      | nil => exact ⟨x, (h2 0 x v rfl rfl).1, g3⟩
      | cons y r => simp at h1
  cases F with
  | zero => simp [dataT] at hd
  | succ F =>
    unfold dataT at hd
    unfold GoodV
    split at hd
    · rename_i hu
      obtain ⟨b, rfl⟩ := okWide_bool hu hv
      obtain ⟨v', q1, q2⟩ := one rfl
      refine ⟨μ', A', v', g1, q1, ?_⟩
      rw [hu]; exact q2
    · rename_i hu
      obtain ⟨b, rfl⟩ := okWide_string hu hv
      obtain ⟨v', q1, q2⟩ := one rfl
      refine ⟨μ', A', v', g1, q1, ?_⟩
      rw [hu]; exact q2
    · rename_i hu
      obtain ⟨b, rfl⟩ := okWide_int hu hv
      obtain ⟨v', q1, q2⟩ := one rfl
      refine ⟨μ', A', v', g1, q1, ?_⟩
      rw [hu]; exact q2
    · rename_i hu
      obtain ⟨a, l, c, rfl⟩ := okWide_slice hu hv
      obtain ⟨v', q1, q2⟩ := one rfl
      refine ⟨μ', A', v', g1, q1, ?_⟩
      rw [hu]; exact q2
    · rename_i fs hu
      obtain ⟨cs, rfl, _⟩ := okWide_struct hu hv
      obtain ⟨v', q1, q2⟩ := agg ⟨_, rfl⟩
      refine ⟨μ', A', v', g1, q1, ?_⟩
      rw [hu]; exact q2
    · rename_i n e hu
      have : ∃ cs, v = .agg cs := by
        unfold Value.okWide at hv
        rw [hu] at hv
        obtain ⟨cs, h, _⟩ := hv
        exact ⟨cs, h⟩
      obtain ⟨v', q1, q2⟩ := agg this
      refine ⟨μ', A', v', g1, q1, ?_⟩
      rw [hu]; exact q2
    · cases hd

theorem open_all {F b0 : Nat} : ∀ (ts : List TypeId) (vs : List Value) (ds : List (DataW H)) (ps : List MemPlace) (μ : Mu) (A : AH), (∀ t ∈ ts, dataT P F t = true) → DataW.TrodAll enc P w base (fun _ => true) held ts vs ds ps → (∀ n ∈ DataW.weightsEach P ts ds, n ≤ reachBytes) →
    (∀ (j : Nat) t v, ts[j]? = some t → vs[j]? = some v → Value.okWide P w .any b0 t v) → Rel 0 μ A w → (∀ (i : Nat) b, A[i]? = some b → b.isOwn = false) →
    ∃ (μ' : Mu) (A' : AH) (us : List Value), Opens w μ A μ' A' ∧ us.length = ts.length ∧ vs.length = ts.length ∧ (∀ (j : Nat) u v, us[j]? = some u → vs[j]? = some v → VR μ' u v) ∧ (∀ (j : Nat) t u, ts[j]? = some t → us[j]? = some u → GoodV P A' F t u)
  | [], [], [], _, μ, A, _, _, _, _, hr, hn => ⟨μ, A, [], ⟨hr, hn, .refl _, ⟨[], by simp⟩⟩, rfl, rfl, fun j u v h => by simp at h, fun j t u h => by simp at h⟩
  | t :: ts, v :: vs, d :: ds, ps, μ, A, hts, ht, hw, hv, hr, hn => by
    unfold DataW.TrodAll at ht
    obtain ⟨p, q, h1, h2, _⟩ := ht
    obtain ⟨μ1, A1, u, g1, g2, g3⟩ := open_one (hts t (by simp)) h1 (fun n hn => hw n (by simp only [DataW.weightsEach, List.mem_append]; exact .inl hn)) (hv 0 t v rfl rfl) hr hn
    obtain ⟨μ2, A2, us, k1, k2, k3, k4, k5⟩ := open_all ts vs ds q μ1 A1 (fun t ht => hts t (by simp [ht])) h2 (fun n hn => hw n (by simp only [DataW.weightsEach, List.mem_append]; exact .inr hn)) (fun j t v a b => hv (j + 1) t v (by simpa using a) (by simpa using b)) g1.rel g1.noOwn
    obtain ⟨r, rfl⟩ := k1.pre
    refine ⟨_, A2, u :: us, g1.trans k1, by simp [k2], by simp [k3], ?_, ?_⟩
    · intro j x y hx hy
      cases j with
      | zero => simp only [List.getElem?_cons_zero, Option.some.injEq] at hx hy; subst hx hy; exact g2.mono
      | succ j => exact k4 j x y (by simpa using hx) (by simpa using hy)
    · intro j x y hx hy
      cases j with
      | zero => simp only [List.getElem?_cons_zero, Option.some.injEq] at hx hy; subst hx hy; exact g3.le k1.le
      | succ j => exact k5 j x y (by simpa using hx) (by simpa using hy)
  | [], [], _ :: _, _, _, _, _, ht, _, _, _, _ => by simp [DataW.TrodAll] at ht
  | [], _ :: _, _, _, _, _, _, ht, _, _, _, _ => by simp [DataW.TrodAll] at ht
  | _ :: _, [], _, _, _, _, _, ht, _, _, _, _ => by simp [DataW.TrodAll] at ht
  | _ :: _, _ :: _, [], _, _, _, _, ht, _, _, _, _ => by simp [DataW.TrodAll] at ht

theorem weights_each_append : ∀ (ts ts' : List TypeId) (ds ds' : List (DataW H)) (n : Nat), n ∈ DataW.weightsEach P ts ds → ds.length = ts.length → n ∈ DataW.weightsEach P (ts ++ ts') (ds ++ ds')
  | [], _, [], _, n, h, _ => by simp [DataW.weightsEach] at h
  | [], _, _ :: _, _, n, _, h => by simp at h
  | _ :: _, _, [], _, n, _, h => by simp at h
  | t :: ts, ts', d :: ds, ds', n, h, hl => by
    simp only [List.cons_append, DataW.weightsEach, List.mem_append] at h ⊢
    rcases h with h | h
    · exact .inl h
    · exact .inr (weights_each_append ts ts' ds ds' n h (by simpa using hl))
theorem trod_len : ∀ (ts : List TypeId) (vs : List Value) (ds : List (DataW H)) (ps : List MemPlace), DataW.TrodAll enc P w base (fun _ => true) held ts vs ds ps → ds.length = ts.length
  | [], [], [], _, _ => rfl
  | t :: ts, v :: vs, d :: ds, ps, h => by
    unfold DataW.TrodAll at h
    obtain ⟨p, q, _, h2, _⟩ := h
    simp [trod_len ts vs ds q h2]
  | [], [], _ :: _, _, ht => by simp [DataW.TrodAll] at ht
  | [], _ :: _, _, _, ht => by simp [DataW.TrodAll] at ht
  | _ :: _, [], _, _, ht => by simp [DataW.TrodAll] at ht
  | _ :: _, _ :: _, [], _, ht => by simp [DataW.TrodAll] at ht
/-- A LAW'S ENTRY, whatever plain data it takes. -/
theorem calls_of_trod {F b0 : Nat} {ts : List TypeId} {args : Array Value} {ds : List (DataW H)} {ps : List MemPlace} {f : FuncId} (hts : ts.all (fun t => dataT P F t) = true) (ht : DataW.TrodAll enc P w base (fun _ => true) held ts args.toList ds ps) (hw : ∀ n ∈ DataW.weightsEach P ts ds, n ≤ reachBytes)
    (hv : ∀ (j : Nat) t v, ts[j]? = some t → args[j]? = some v → Value.okWide P w .any b0 t v)
    (h : ∀ (us : List Value) (A : AH), us.length = ts.length → (∀ (j : Nat) t u, ts[j]? = some t → us[j]? = some u → GoodV P A F t u) → ACalls 0 P f us (fun v _ => v = .bool true) A) :
    Calls P f args w fun e w' => e = .returned (.bool true) ∧ Below w.heap.size w w' := by
  have hr0 : Rel 0 [] [] w := by
    refine ⟨rfl, fun g hg => by omega, ?_, ?_, ?_, ?_, ?_, ?_⟩ <;> · intros; simp_all
  rw [List.all_eq_true] at hts
  obtain ⟨μ, A, us, g1, g2, g3, g4, g5⟩ := open_all ts args.toList ds ps [] [] hts ht hw (fun j t v a b => hv j t v a (by simpa using b)) hr0 (fun i b hb => by simp at hb)
  refine (h us A g2 g5 μ args w g1.rel (by rw [g2, ← g3, Array.length_toList]) (fun j u v a b => g4 j u v a (by simpa using b))).mono ?_
  rintro e w' ⟨v, v', μ', A', rfl, hv, hr', hs, rfl⟩
  obtain rfl := hv.bool
  refine ⟨rfl, hs.os, hs.tape, hs.output, hs.size, fun k hk => hs.keep k hk ?_⟩
  intro i b e hb ho
  rw [g1.noOwn i b hb] at ho
  cases ho
end

section
variable {P : Program} {A : AH} {F : Nat} {t e e2 : TypeId} {v : Value}
/-- Texts as slices of bytes. -/
def Byts (A : AH) (v : Value) (bss : List (List UInt8)) : Prop := ∃ vs : List Value, Sl A 1 v vs.length vs ∧ All2 (fun x bs => Byt A x bs) vs bss
end
end Go.AS


namespace Go.AS
open Go
set_option linter.unusedVariables false
set_option linter.unusedSimpArgs false

/-! Running abstract code on values that are known: what runs to an end does what is said (used for what takes no arguments). -/

/-- A frame, as a tree. -/
inductive Fr where
  | lf
  | nd (v : Value) (l r : Fr)
def Fr.get : Fr → Nat → Value
  | .lf, _ => undef
  | .nd v l r, k => if k = 0 then v else if k % 2 = 1 then l.get (k / 2) else r.get (k / 2 - 1)
def Fr.set : Nat → Fr → Nat → Value → Fr
  | 0, t, _, _ => t
  | n + 1, .lf, k, v => if k = 0 then .nd v .lf .lf else if k % 2 = 1 then .nd undef (Fr.set n .lf (k / 2) v) .lf else .nd undef .lf (Fr.set n .lf (k / 2 - 1) v)
  | n + 1, .nd u l r, k, v => if k = 0 then .nd v l r else if k % 2 = 1 then .nd u (Fr.set n l (k / 2) v) r else .nd u l (Fr.set n r (k / 2 - 1) v)

theorem Fr.get_set : ∀ (n : Nat) (t : Fr) (k j : Nat) (v : Value), k < n → (Fr.set n t k v).get j = if j = k then v else t.get j
  | 0, _, _, _, _, h => by omega
  | n + 1, .lf, k, j, v, h => by
    unfold Fr.set
    split
    · subst k
      by_cases hj : j = 0
      · subst hj; rfl
      · rw [if_neg hj]
        simp only [Fr.get, if_neg hj]
        split <;> rfl
    · split
      · rename_i h1 h2
        unfold Fr.get
        by_cases hj : j = 0
        · rw [if_pos hj, if_neg (by omega)]
        · rw [if_neg hj]
          by_cases hp : j % 2 = 1
          · rw [if_pos hp, Fr.get_set n .lf (k / 2) (j / 2) v (by omega)]
            by_cases hjk : j = k
            · rw [if_pos (by omega), if_pos hjk]
            · rw [if_neg (by omega), if_neg hjk]; rfl
          · rw [if_neg hp, if_neg (by omega)]; rfl
      · rename_i h1 h2
        unfold Fr.get
        by_cases hj : j = 0
        · rw [if_pos hj, if_neg (by omega)]
        · rw [if_neg hj]
          by_cases hp : j % 2 = 1
          · rw [if_pos hp, if_neg (by omega)]; rfl
          · rw [if_neg hp, Fr.get_set n .lf (k / 2 - 1) (j / 2 - 1) v (by omega)]
            by_cases hjk : j = k
            · rw [if_pos (by omega), if_pos hjk]
            · rw [if_neg (by omega), if_neg hjk]; rfl
  | n + 1, .nd u l r, k, j, v, h => by
    unfold Fr.set
    split
    · subst k
      by_cases hj : j = 0
      · subst hj; rfl
      · rw [if_neg hj]
        simp only [Fr.get, if_neg hj]
    · split
      · rename_i h1 h2
        unfold Fr.get
        by_cases hj : j = 0
        · rw [if_pos hj, if_neg (by omega), if_pos hj]
        · rw [if_neg hj]
          by_cases hp : j % 2 = 1
          · rw [if_pos hp, Fr.get_set n l (k / 2) (j / 2) v (by omega)]
            by_cases hjk : j = k
            · rw [if_pos (by omega), if_pos hjk]
            · rw [if_neg (by omega), if_neg hjk, if_neg hj, if_pos hp]
          · rw [if_neg hp, if_neg (by omega), if_neg hj, if_neg hp]
      · rename_i h1 h2
        unfold Fr.get
        by_cases hj : j = 0
        · rw [if_pos hj, if_neg (by omega), if_pos hj]
        · rw [if_neg hj]
          by_cases hp : j % 2 = 1
          · rw [if_pos hp, if_neg (by omega), if_neg hj, if_pos hp]
          · rw [if_neg hp, Fr.get_set n r (k / 2 - 1) (j / 2 - 1) v (by omega)]
            by_cases hjk : j = k
            · rw [if_pos (by omega), if_pos hjk]
            · rw [if_neg (by omega), if_neg hjk, if_neg hj, if_neg hp]

def Fr.at (t : Fr) : AT := fun k => t.get k
structure CodeE where
  ic : IC
  rs : List RV
  np : Nat

section
variable (G : Nat) (P : Program) (call : FuncId → List Value → AH → Option (Value × AH))

end

section
variable {G : Nat} {P : Program} {call : FuncId → List Value → AH → Option (Value × AH)}

/-- A call with arguments that lead nowhere, that was run in a heap of nothing, does the same in any heap, and leaves it as it is. -/
theorem ACalls.closed {f : FuncId} {args : List Value} {v : Value} (ha : args.all flatV = true) (hv : flatV v = true) {A : AH} {Q : Value → AH → Prop} (h : ACalls 0 P f args (fun u _ => u = v) []) (hq : Q v A) : ACalls 0 P f args Q A := by
  intro μ args' w hr h1 h2
  have hr0 : Rel 0 [] [] w := by
    refine ⟨rfl, fun g hg => by omega, ?_, ?_, ?_, ?_, ?_, ?_⟩ <;> · intros; simp_all
  refine (h [] args' w hr0 h1 (fun j u u' hu hu' => ?_)).mono ?_
  · have hf := (List.all_eq_true.1 ha) u (List.mem_of_getElem? hu)
    rw [(h2 j u u' hu hu').eq_of_flat hf]
    exact .flat hf
  rintro e w' ⟨u, u', μ', A', rfl, hu, hr', hs, rfl⟩
  have hk : ∀ r, r < w.heap.size → w'.heap[r]? = w.heap[r]? := fun r hr1 => hs.keep r hr1 (by intro i b e hb; simp at hb)
  refine ⟨u, u', μ, A, rfl, ?_, ?_, ?_, hq⟩
  · rw [hu.eq_of_flat hv]; exact .flat hv
  · refine ⟨hr.len, hr.glo, ?_, ?_, hr.szs, ?_, ?_, hr.apart⟩
    · intro i e he
      exact Nat.lt_of_lt_of_le (hr.lt i e he) hs.size
    · intro i cs st sz ex e hb he hst
      obtain ⟨rc, T, fr, g1, g2⟩ := hr.row i cs st sz ex e hb he hst
      exact ⟨rc, T, fr, by rw [hk _ (hr.lt i e he)]; exact g1, g2⟩
    · intro i s p e hb he
      rw [hk _ (hr.lt i e he)]; exact hr.sit i s p e hb he
    · intro i es e hb he
      rw [hk _ (hr.lt i e he)]; exact hr.mp i es e hb he
  · exact ⟨⟨[], by simp⟩, hs.os, hs.tape, hs.output, hs.size, fun r hr1 _ => hk r hr1, fun i b e hb ho he _ => ⟨i, b, e, hb, ho, he, rfl⟩⟩

end
end Go.AS


namespace Go.AS
open Go
set_option linter.unusedVariables false
set_option linter.unusedSimpArgs false

/-- What was known of a value before is known of what stands there now. -/
theorem VR.narrow {μ r : Mu} {v v0 : Value} (h : VR μ v v0) : ∀ {v' : Value}, VR (μ ++ r) v v' → VR μ v v' := by
  have same : ∀ {i : Nat} {e e' : Ent}, μ[i]? = some e → (μ ++ r)[i]? = some e' → e' = e := by
    intro i e e' h1 h2
    rw [pre_get h1] at h2
    exact (Option.some.inj h2).symm
  induction h with
  | flat h => intro v' k; rw [k.eq_of_flat h]; exact .flat h
  | ptr h =>
    intro v' k
    cases k with
    | flat k => cases k
    | ptr k => rw [same h k]; exact .ptr h
  | slc h h1 h2 h4 h5 =>
    intro v' k
    cases k with
    | flat k => cases k
    | slc k k1 k2 k4 k5 => rw [same h k] at k4 k5 ⊢; exact .slc h k1 k2 k4 k5
    | sle => exact .sle (lt_of_get h)
  | sle h =>
    intro v' k
    cases k with
    | flat k => cases k
    | slc k k1 k2 k4 k5 =>
      rw [List.getElem?_append_left h] at k
      exact .slc k k1 k2 k4 k5
    | sle => exact .sle h
  | slz =>
    intro v' k
    cases k with
    | flat k => cases k
    | slz => exact .slz
  | slo h =>
    intro v' k
    cases k with
    | flat k => cases k
    | slo k => exact .slo k
  | map h =>
    intro v' k
    cases k with
    | flat k => cases k
    | map k => rw [same h k]; exact .map h
  | func hf h1 h2 h3 h4 ih2 ih4 =>
    intro v' k
    cases k with
    | flat k => cases k
    | func kf k1 k2 k3 k4 =>
      refine .func kf k1 (fun j x y hx hy => ?_) k3 (fun j x y hx hy => ?_)
      · exact ih2 j x _ hx (Array.getElem?_eq_getElem (by have := (Array.getElem?_eq_some_iff.1 hx).1; omega)) (k2 j x y hx hy)
      · exact ih4 j x _ hx (Array.getElem?_eq_getElem (by have := (Array.getElem?_eq_some_iff.1 hx).1; omega)) (k4 j x y hx hy)
  | iface h ih =>
    intro v' k
    cases k with
    | flat k => cases k
    | iface k => exact .iface (ih k)
  | agg h1 h2 ih =>
    intro v' k
    cases k with
    | flat k => cases k
    | agg k1 k2 => exact .agg k1 (fun j x y hx hy => ih j x _ hx (Array.getElem?_eq_getElem (by have := (Array.getElem?_eq_some_iff.1 hx).1; omega)) (k2 j x y hx hy))
  | tuple h1 h2 ih =>
    intro v' k
    cases k with
    | flat k => cases k
    | tuple k1 k2 => exact .tuple k1 (fun j x y hx hy => ih j x _ hx (Array.getElem?_eq_getElem (by have := (Array.getElem?_eq_some_iff.1 hx).1; omega)) (k2 j x y hx hy))

/-- A state, looked at again where more stands behind it. -/
theorem Rel.narrow {G : Nat} {μ r : Mu} {A : AH} {s : List Blk} {w w' : World} (h : Rel G μ A w) (k : Rel G (μ ++ r) (A ++ s) w') (hs : w.heap.size ≤ w'.heap.size) : Rel G μ A w' := by
  have up : ∀ {i : Nat} {b : Blk}, A[i]? = some b → (A ++ s)[i]? = some b := fun hb => by
    rw [List.getElem?_append_left (lt_of_get hb), hb]
  refine ⟨h.len, h.glo, fun i e he => Nat.lt_of_lt_of_le (h.lt i e he) hs, ?_, h.szs, ?_, ?_, h.apart⟩
  · intro i cs st sz ex e hb he hst
    obtain ⟨rc, T, fr, g1, g2, g3, g4⟩ := k.row i cs st sz ex e (up hb) (pre_get he) hst
    obtain ⟨rc0, T0, fr0, f1, f2, _⟩ := h.row i cs st sz ex e hb he hst
    refine ⟨rc, T, fr, g1, fun j v hj => ?_, g3, g4⟩
    obtain ⟨p1, v', p2, p3⟩ := g2 j v hj
    obtain ⟨_, v0, _, q3⟩ := f2 j v hj
    exact ⟨p1, v', p2, q3.narrow p3⟩
  · intro i t p e hb he
    exact k.sit i t p e (up hb) (pre_get he)
  · intro i es e hb he
    obtain ⟨mes, c, g1, g2, g3, g4⟩ := k.mp i es e (up hb) (pre_get he)
    obtain ⟨mes0, c0, f1, f2, f3, f4⟩ := h.mp i es e hb he
    refine ⟨mes, c, g1, g2, fun j m kk v hm hk => ?_, g4⟩
    obtain ⟨p1, p2, p3⟩ := g3 j m kk v hm hk
    have hj := lt_of_get hk
    obtain ⟨q1, q2, _⟩ := f3 j (mes0[j]'(by omega)) kk v (Array.getElem?_eq_getElem (by omega)) hk
    exact ⟨q1.narrow p1, q2.narrow p2, p3⟩

/-- A value that leads nowhere, a tuple of such too. -/
def flatT : Value → Bool
  | .tuple vs => vs.toList.all flatV
  | v => flatV v
theorem VR.flatT {μ μ1 : Mu} {v v' : Value} (h : VR μ v v') (hf : flatT v = true) : VR μ1 v v' := by
  have one : flatV v = true → VR μ1 v v' := fun hv => by rw [h.eq_of_flat hv]; exact .flat hv
  cases v <;> first | exact one hf | skip
  rename_i vs
  cases h with
  | flat h => cases h
  | tuple h1 h2 =>
    refine .tuple h1 (fun j x y hx hy => ?_)
    have hm : flatV x = true := by
      unfold AS.flatT at hf
      rw [List.all_eq_true] at hf
      exact hf x (by rw [Array.mem_toList_iff]; exact Array.mem_of_getElem? hx)
    rw [(h2 j x y hx hy).eq_of_flat hm]
    exact .flat hm

/-- What gives values that lead nowhere leaves the heap as it is. -/
theorem ACalls.flat {G : Nat} {P : Program} {f : FuncId} {args : List Value} {A : AH} {Q : Value → AH → Prop} (h : ACalls G P f args (fun v A' => Le A A' ∧ flatT v = true ∧ Q v A) A) : ACalls G P f args Q A := by
  intro μ args' w hr h1 h2
  refine (h μ args' w hr h1 h2).mono ?_
  rintro e w' ⟨v, v', μ', A', rfl, hv, hr', hs, ⟨s, rfl⟩, hf, hq⟩
  obtain ⟨r, rfl⟩ := hs.pre
  refine ⟨v, v', μ, A, rfl, hv.flatT hf, hr.narrow hr' hs.size, ?_, hq⟩
  exact ⟨⟨[], by simp⟩, hs.os, hs.tape, hs.output, hs.size, hs.keep, fun i b e hb ho he _ => ⟨i, b, e, hb, ho, he, rfl⟩⟩
end Go.AS


namespace Go.AS
open Go
set_option linter.unusedVariables false
set_option linter.unusedSimpArgs false

/-! Rules whose conditions are sought by 'omega' («T» of step.py). -/

section
variable {A B : AH} {v : Value} {sz n : Nat} {cs : List Value}

theorem addI (a b : Int) (h1 : -9223372036854775808 ≤ a + b) (h2 : a + b < 9223372036854775808) : binA .add (.int .i64 a) (.int .i64 b) = some (.int .i64 (a + b)) := binA_addi a b h1 h2
theorem subI (a b : Int) (h1 : -9223372036854775808 ≤ a - b) (h2 : a - b < 9223372036854775808) : binA .sub (.int .i64 a) (.int .i64 b) = some (.int .i64 (a - b)) := binA_subi a b h1 h2
theorem mulI (a b : Int) (h1 : -9223372036854775808 ≤ a * b) (h2 : a * b < 9223372036854775808) : binA .mul (.int .i64 a) (.int .i64 b) = some (.int .i64 (a * b)) := binA_muli a b h1 h2
theorem quoI (a b : Int) (h0 : 0 ≤ a) (hb : 0 < b) (h : a < 9223372036854775808) : binA .quo (.int .i64 a) (.int .i64 b) = some (.int .i64 (a / b)) := by
  simp only [binA]
  rw [if_pos ⟨trivial, by omega⟩, Int.tdiv_eq_ediv_of_nonneg h0, wrap_i64]
  · have := Int.ediv_nonneg h0 (Int.le_of_lt hb); omega
  · have := Int.ediv_le_self b h0; omega
theorem remI (a b : Int) (h0 : 0 ≤ a) (hb : 0 < b) : binA .rem (.int .i64 a) (.int .i64 b) = some (.int .i64 (a % b)) := by
  simp only [binA]
  rw [if_pos ⟨trivial, by omega⟩, Int.tmod_eq_emod_of_nonneg h0]
theorem shrI (a : Int) (k : IntKind) (n : Int) (h0 : 0 ≤ n) (h : n ≤ 64) : binA .shr (.int .i64 a) (.int k n) = some (.int .i64 (a / 2 ^ n.toNat)) := by
  simp only [binA]
  rw [if_neg (by omega)]
  have : min n.toNat IntKind.i64.bits = n.toNat := by
    show min n.toNat 64 = n.toNat
    omega
  rw [this, Int.fdiv_eq_ediv_of_nonneg _ (Int.le_of_lt (Int.pow_pos (by decide)))]
theorem eqlI (k : IntKind) (a b : Int) : binA .eql (.int k a) (.int k b) = some (.bool (decide (a = b))) := by
  rw [binA_eql]; congr 2
theorem neqI (k : IntKind) (a b : Int) : binA .neq (.int k a) (.int k b) = some (.bool (decide (a ≠ b))) := by
  rw [binA_neq]; congr 2
  rw [Bool.eq_iff_iff]; simp
theorem eqS (a b : ByteArray) : binA .eql (.string a) (.string b) = some (.bool (decide (a = b))) := by
  simp only [binA, toList_data]
  congr 2
  rw [Bool.eq_iff_iff]
  simp only [beq_iff_eq, decide_eq_true_eq]
  constructor
  · intro h
    cases a; cases b
    simp only [Array.toList_inj] at h
    rw [h]
  · rintro rfl; rfl
theorem neS (a b : ByteArray) : binA .neq (.string a) (.string b) = some (.bool (decide (a ≠ b))) := by
  have := eqS a b
  simp only [binA, Option.some.injEq, Value.bool.injEq] at this ⊢
  rw [this]
  simp
theorem beqB (A : AH) (a b : Bool) : sBeq A false (.bool a) (.bool b) = some (.bool (a == b), A) := by simp [sBeq]
theorem bneB (A : AH) (a b : Bool) : sBeq A true (.bool a) (.bool b) = some (.bool (a != b), A) := by
  simp only [sBeq]
  cases a <;> cases b <;> rfl
theorem lenS {A : AH} {s : ByteArray} : sLens A true (.string s) = some (.int .i64 s.size, A) := id rfl
theorem lenV {A : AH} {p : Option Addr} {n c : Nat} : sLens A false (.slice p n c) = some (.int .i64 n, A) := id rfl
theorem convI (A : AH) (a : Int) (h1 : -9223372036854775808 ≤ a) (h2 : a < 9223372036854775808) : sConv A .i64 (.int .i64 a) = some (.int .i64 a, A) := conv_ii_ii A a h1 h2
theorem pickB {A : AH} {b : Bool} {x y : Value} : sPick A (.bool b) x y = some (if b = true then x else y, A) := id rfl
theorem ext2 {x y z : Value} : sExt A (.tuple #[x, y, z]) 2 = some (z, A) := id rfl
theorem ext30 {x y z : Value} : sExt A (.tuple #[x, y, z]) 0 = some (x, A) := id rfl
theorem ext31 {x y z : Value} : sExt A (.tuple #[x, y, z]) 1 = some (y, A) := id rfl

theorem inBlockA_ne {R : Exit → AT → AH → Prop} {a : AT} {i j : Nat} (h : j ≠ i) : inBlockA i R (.exit j) a A = R (.exit j) a A := inBlockA_other (by simpa using h)
theorem gd_undef {w : Bool} : gd undef w = false := by cases w <;> rfl
theorem dec_nrefl {α : Sort _} {a : α} [Decidable (a ≠ a)] : decide (a ≠ a) = false := decide_eq_false (fun h => h rfl)
theorem dec_refl {α : Sort _} {a : α} [Decidable (a = a)] : decide (a = a) = true := decide_eq_true rfl

theorem mnI (A : AH) (a b : Int) : sMn A (.int .i64 a) (.int .i64 b) = some (.int .i64 (min a b), A) := by
  simp only [sMn, asI, Option.map_some]
  congr 3
  split <;> omega
theorem mxI (A : AH) (a b : Int) : sMx A (.int .i64 a) (.int .i64 b) = some (.int .i64 (max a b), A) := by
  simp only [sMx, asI, Option.map_some]
  congr 3
  split <;> omega
theorem W_scope {G : Nat} {P : Program} {x : IC} {R : Exit → AT → AH → Prop} {a : AT} : W G P (.scope x) R a A = W G P x (noGotoA R) a A := id rfl

/-- An element's part. -/
theorem SlR.field {v0 : Value} (h : SlR A sz v n cs) {j off : Nat} (hj : j < n) (ho : off < sz) (hc : cs[j * sz + off]? = some v0) :
    ∃ p q, sIaddr A v (.int .i64 (j : Int)) sz = some (p, A) ∧ sFaddr A p off = some (q, A) ∧ sLoad1 A q = some (v0, A) := by
  obtain ⟨h0, h⟩ := h
  have hm : j * sz + sz ≤ n * sz := by
    have := Nat.mul_le_mul_right sz (show j + 1 ≤ n by omega)
    rw [Nat.add_mul, Nat.one_mul] at this
    exact this
  rcases h with ⟨rfl, rfl⟩ | ⟨rfl, rfl⟩ | ⟨i, o, c, rc, st, bsz, ex, rfl, h2, h3, h4, h5, h6⟩
  · omega
  · omega
  · refine ⟨.pointer (some ⟨i, o + j * sz, none⟩), .pointer (some ⟨i, o + j * sz + off, none⟩), ?_, rfl, ?_⟩
    · unfold sIaddr
      simp only [asI, Option.bind_some]
      rw [if_pos ⟨by omega, by omega⟩]
      simp
    · unfold sLoad1 getRow
      simp only [h3, if_neg h4, Option.bind_some]
      rw [Nat.add_assoc, h6 _ (by omega), hc]
      rfl
/-- An element of many cells. -/
theorem SlR.atn (h : SlR A sz v n cs) {j : Nat} (hj : j < n) :
    ∃ p, sIaddr A v (.int .i64 (j : Int)) sz = some (p, A) ∧ sLoadn A p sz = some (.agg ((cs.drop (j * sz)).take sz).toArray, A) := by
  obtain ⟨h0, h⟩ := h
  have hm : j * sz + sz ≤ n * sz := by
    have := Nat.mul_le_mul_right sz (show j + 1 ≤ n by omega)
    rw [Nat.add_mul, Nat.one_mul] at this
    exact this
  rcases h with ⟨rfl, rfl⟩ | ⟨rfl, rfl⟩ | ⟨i, o, c, rc, st, bsz, ex, rfl, h2, h3, h4, h5, h6⟩
  · omega
  · omega
  · refine ⟨.pointer (some ⟨i, o + j * sz, none⟩), ?_, ?_⟩
    · unfold sIaddr
      simp only [asI, Option.bind_some]
      rw [if_pos ⟨by omega, by omega⟩]
      simp
    · unfold sLoadn getRow
      simp only [h3, if_neg h4, Option.bind_some]
      unfold cut
      rw [if_pos (by omega)]
      simp only [Option.map_some]
      congr 4
      apply List.ext_getElem?
      intro k
      rcases Nat.lt_or_ge k sz with hk | hk
      · rw [List.getElem?_take_of_lt hk, List.getElem?_take_of_lt hk, List.getElem?_drop, List.getElem?_drop, Nat.add_assoc, h6 _ (by omega)]
      · rw [List.getElem?_eq_none (by simp; omega), List.getElem?_eq_none (by simp; omega)]
theorem Sl.field {v0 : Value} (h : Sl A sz v n cs) {j off : Nat} (hj : j < n) (ho : off < sz) (hc : cs[j * sz + off]? = some v0) :
    ∃ p q, sIaddr A v (.int .i64 (j : Int)) sz = some (p, A) ∧ sFaddr A p off = some (q, A) ∧ sLoad1 A q = some (v0, A) := h.r.field hj ho hc
theorem Sl.atn (h : Sl A sz v n cs) {j : Nat} (hj : j < n) :
    ∃ p, sIaddr A v (.int .i64 (j : Int)) sz = some (p, A) ∧ sLoadn A p sz = some (.agg ((cs.drop (j * sz)).take sz).toArray, A) := h.r.atn hj

/-- What a call gives that leads nowhere: the heap is as it was. -/
theorem ACalls.pure {G : Nat} {P : Program} {f : FuncId} {args : List Value} {A : AH} {S : Value → Prop} {Q : Value → AH → Prop} (hq : ∀ v, S v → Q v A) (h : ACalls G P f args (fun u A' => Le A A' ∧ flatT u = true ∧ S u) A) : ACalls G P f args Q A := by
  intro μ args' w hr h1 h2
  refine (h μ args' w hr h1 h2).mono ?_
  rintro e w' ⟨v, v', μ', A', rfl, hv, hr', hs, ⟨s, rfl⟩, hf, hS⟩
  obtain ⟨r, rfl⟩ := hs.pre
  refine ⟨v, v', μ, A, rfl, hv.flatT hf, hr.narrow hr' hs.size, ?_, hq v hS⟩
  exact ⟨⟨[], by simp⟩, hs.os, hs.tape, hs.output, hs.size, hs.keep, fun i b e hb ho he _ => ⟨i, b, e, hb, ho, he, rfl⟩⟩
end
end Go.AS


namespace Go.AS
open Go Go.RowKit Go.WideShapes
set_option linter.unusedVariables false
set_option linter.unusedSimpArgs false

/-! What a law's row takes of its arguments, as the laws' specs take it (law.py). -/

section
variable {P : Program} {A : AH} {F : Nat} {t e e2 : TypeId} {v : Value}
theorem reach_lt : reachBytes < 2 ^ 50 := by decide
theorem le_mul_of {a b : Nat} (hb : 0 < b) (h : a * b ≤ reachBytes) : a < 2 ^ 50 :=
  Nat.lt_of_le_of_lt (Nat.le_trans (Nat.le_mul_of_pos_right a hb) h) reach_lt
theorem wfI64 {n : Int} (h : (Lit.int .i64 n).wf = true) : -9223372036854775808 ≤ n ∧ n < 9223372036854775808 := by
  simp [Lit.wf, IntKind.bits, IntKind.signed, IntKind.min, IntKind.max] at h
  omega
end
end Go.AS


namespace Go.AS
open Go
set_option linter.unusedVariables false
set_option linter.unusedSimpArgs false

/-! Where one block alone is turned (a struct behind a pointer). -/

/-- All but block i is as it was. -/
def Keep (A : AH) (i : Nat) (A' : AH) : Prop := A.length ≤ A'.length ∧ ∀ k b, k ≠ i → A[k]? = some b → A'[k]? = some b

section
variable {A B C A0 : AH} {v : Value} {sz n i a0 : Nat} {cs : List Value}
theorem Keep.refl (A : AH) (i : Nat) : Keep A i A := ⟨Nat.le_refl _, fun _ _ _ h => h⟩
theorem Keep.trans (h : Keep A i B) (k : Keep B i C) : Keep A i C := ⟨Nat.le_trans h.1 k.1, fun j b hj hb => k.2 j b hj (h.2 j b hj hb)⟩
theorem Le.kp (h : Le A B) (i : Nat) : Keep A i B := ⟨h.len, fun k b _ hb => h.get hb⟩
theorem Keep.le (h : Keep A i B) (hl : Le A0 A) (hi : A0.length ≤ i) : Le A0 B := by
  refine Le.of_get (fun k hk => ?_) (Nat.le_trans hl.len h.1)
  have hb : A0[k]? = some A0[k] := List.getElem?_eq_getElem hk
  rw [hb, h.2 k _ (by omega) (hl.get hb)]
theorem Keep.set (A : AH) (i : Nat) (b : Blk) : Keep A i (A.set i b) := ⟨by rw [List.length_set]; exact Nat.le_refl _, fun k c hk hc => by rw [List.getElem?_set_ne (by omega)]; exact hc⟩
theorem SlR.kp (h : SlR A sz v n cs) (hk : Keep A i B) (hi : ∀ o c, v ≠ .slice (some ⟨i, o, none⟩) n c) : SlR B sz v n cs :=
  h.keep (fun j b hb ⟨o, c, e⟩ => hk.2 j b (fun ej => hi o c (by rw [← ej]; exact e)) hb)
theorem Sl.kp (h : Sl A sz v n cs) (hk : Keep A i B) {z : Nat} {zc : List Value} {zst : St} {zex : Bool} (hi : A[i]? = some (.row zc zst z zex)) (hz : z ≠ sz) : Sl B sz v n cs := by
  obtain ⟨h0, h⟩ := h
  refine ⟨h0, ?_⟩
  rcases h with h | h | ⟨j, o, c, rc, st, ex, h1, h2, h3, h4, h5, h6⟩
  · exact .inl h
  · exact .inr (.inl h)
  · refine .inr (.inr ⟨j, o, c, rc, st, ex, h1, h2, hk.2 j _ ?_ h3, h4, h5, h6⟩)
    rintro rfl
    rw [hi] at h3
    injection h3 with h3
    injection h3 with _ _ h3 _
    exact hz h3
theorem Byt.kp {bs : List UInt8} (h : Byt A v bs) (hk : Keep A i B) {zc : List Value} {zst : St} {zex : Bool} (hi : A[i]? = some (.row zc zst 0 zex)) : Byt B v bs := Sl.kp h hk hi (by omega)
theorem OwnS.kp (h : OwnS a0 A sz v n cs) (hk : Keep A i B) {z : Nat} {zc : List Value} {zst : St} {zex : Bool} (hi : A[i]? = some (.row zc zst z zex)) (hz : z ≠ sz) : OwnS a0 B sz v n cs := by
  obtain ⟨h0, h⟩ := h
  refine ⟨h0, ?_⟩
  rcases h with h | h | ⟨j, o, c, rc, ex, h1, h2, h3, h4, h5, h6⟩
  · exact .inl h
  · exact .inr (.inl h)
  · refine .inr (.inr ⟨j, o, c, rc, ex, h1, h2, h3, hk.2 j _ ?_ h4, h5, h6⟩)
    rintro rfl
    rw [hi] at h4
    injection h4 with h4
    injection h4 with _ _ h4 _
    exact hz h4
theorem OwnB.kp {bs : List UInt8} (h : OwnB a0 A v bs) (hk : Keep A i B) {zc : List Value} {zst : St} {zex : Bool} (hi : A[i]? = some (.row zc zst 0 zex)) : OwnB a0 B v bs := OwnS.kp h hk hi (by omega)

/-- A whole struct behind a pointer: written. -/
theorem row_storen {cs : List Value} {ex : Bool} (h : A[i]? = some (.row cs .own sz ex)) {ds : List Value} (hl : ds.length = cs.length) (ho : ones ds = true) {m : Nat} (hm : m = cs.length) :
    sStore A (.pointer (some ⟨i, 0, none⟩)) (.agg ds.toArray) m = some (undef, A.set i (.row ds .own sz ex)) := by
  subst hm
  unfold sStore
  have e : (Value.agg ds.toArray).cells = ds.toArray := rfl
  rw [e]
  simp only [List.size_toArray]
  rw [if_pos hl]
  unfold wr
  simp only [h]
  rw [if_pos ⟨by omega, ho⟩]
  simp only [Option.map_some]
  congr 4
  unfold setAll
  simp [hl]
theorem Keep.rd (h : Keep A i B) {R : List Nat} (hR : ∀ k ∈ R, k ≠ i) : RdOk R A B := fun k hk b hb => h.2 k b (hR k hk) hb
theorem Sl.blk (h : Sl A sz v n cs) {p : Nat} {z : Nat} {zc : List Value} {zst : St} {zex : Bool} (hi : A[p]? = some (.row zc zst z zex)) (hz : z ≠ sz) : ∀ k ∈ blkOf v, k ≠ p := by
  obtain ⟨h0, h⟩ := h
  intro k hk
  rcases h with ⟨rfl, _⟩ | ⟨rfl, _⟩ | ⟨j, o, c, rc, st, ex, rfl, h2, h3, h4, h5, h6⟩
  · cases hk
  · cases hk
  · simp only [blkOf, List.mem_singleton] at hk
    rintro rfl
    subst hk
    rw [hi] at h3
    injection h3 with h3
    injection h3 with _ _ h3 _
    exact hz h3
theorem iaddr_blk {v i p : Value} {sz : Nat} {A' : AH} (h : sIaddr A v i sz = some (p, A')) : blkOf p = blkOf v := by
  unfold sIaddr at h
  split at h
  · rw [Option.bind_eq_some_iff] at h
    obtain ⟨j, _, h⟩ := h
    split at h
    · injection h with h; injection h with h1 h2; subst h1; rfl
    · cases h
  · cases h
end
end Go.AS


namespace Go.AS
open Go
set_option linter.unusedVariables false
set_option linter.unusedSimpArgs false

/-! Slices of slices of bytes, of the call's own. -/

section
variable {A B A0 : AH} {v w t : Value} {sz n a0 : Nat} {cs : List Value}

theorem appBase_len {s : Value} {k : Nat} {r : List Value × AH × Nat} (h : appBase A s sz k = some r) : r.2.1.length = A.length := by
  unfold appBase at h
  split at h
  · injection h with h; subst h; rfl
  · split at h
    · split at h
      · injection h with h; subst h
        simp only
        split <;> simp
      · cases h
    · cases h
  · injection h with h; subst h; rfl
  · cases h
/-- What is appended to stands in a new row. -/
theorem app_fresh {s x : Value} {p : Option Addr} {k c bytes : Nat} {v' : Value} {A' : AH} (hx : x = .slice p k c) (hk : k ≠ 0) (h : sApp A s x sz bytes = some (v', A')) : blkOf v' = [A.length] ∨ blkOf v' = blkOf s := by
  subst hx
  unfold sApp at h
  simp only [Option.bind_eq_some_iff] at h
  obtain ⟨new, _, h⟩ := h
  unfold appA at h
  cases hi : appI A s new k sz bytes with
  | some r =>
    right
    rw [hi] at h
    obtain rfl := Option.some.inj h
    unfold appI at hi
    split at hi
    · split at hi
      · split at hi
        · injection hi with hi; injection hi with h2 h3; subst h2; rfl
        · cases hi
      · cases hi
    · cases hi
  | none =>
  left
  rw [hi, Option.none_or] at h
  unfold appA1 at h
  cases hf : appF A s new k sz bytes with
  | some r =>
    rw [hf] at h
    obtain rfl := Option.some.inj h
    unfold appF at hf
    split at hf
    · split at hf
      · split at hf
        · injection hf with hf; injection hf with h2 h3; subst h2; rfl
        · cases hf
      · cases hf
    · cases hf
  | none =>
  rw [hf, Option.none_or] at h
  unfold appA0 at h
  rw [if_neg hk, Option.bind_eq_some_iff] at h
  obtain ⟨r, h1, h⟩ := h
  split at h
  · injection h with h; injection h with h2 h3; subst h2
    show [r.2.1.length] = _
    rw [appBase_len h1]
  · cases h
/-- How long a slice is (for measures). -/
def lenOf : Value → Nat | .slice _ n _ => n | _ => 0
theorem Byt.lenOf {bs : List UInt8} (h : Byt A v bs) : AS.lenOf v = bs.length := by
  obtain ⟨p, c, hs, _⟩ := h.shape
  rw [hs]; rfl
theorem Byt.lt {bs : List UInt8} (h : Byt A v bs) : ∀ k ∈ blkOf v, k < A.length := by
  obtain ⟨_, h⟩ := h
  intro k hk
  rcases h with ⟨rfl, _⟩ | ⟨rfl, _⟩ | ⟨j, o, c, rc, st, ex, rfl, h2, h3, _⟩
  · cases hk
  · cases hk
  · simp only [blkOf, List.mem_singleton] at hk; subst hk; exact lt_of_get h3
theorem Byt.keepB {bs : List UInt8} (h : Byt A v bs) (hk : ∀ i b, A[i]? = some b → i ∈ blkOf v → B[i]? = some b) : Byt B v bs :=
  Sl.keep h (fun i b hb ⟨o, c, e⟩ => hk i b hb (by rw [e]; simp [blkOf]))
theorem OwnS.ge (h : OwnS a0 A sz v n cs) : ∀ k ∈ blkOf v, a0 ≤ k ∧ k < A.length := by
  obtain ⟨_, h⟩ := h
  intro k hk
  rcases h with ⟨rfl, _⟩ | ⟨rfl, _⟩ | ⟨j, o, c, rc, ex, rfl, h2, h3, h4, _⟩
  · cases hk
  · cases hk
  · simp only [blkOf, List.mem_singleton] at hk; subst hk; exact ⟨h3, lt_of_get h4⟩

/-- A slice of the call's own, of slices of bytes. -/
def OwnBs (a0 : Nat) (A : AH) (w : Value) (bss : List (List UInt8)) : Prop :=
  ∃ vs : List Value, OwnS a0 A 1 w vs.length vs ∧ All2 (fun x bs => Byt A x bs) vs bss ∧ ∀ x ∈ vs, ∀ k ∈ blkOf x, k ∉ blkOf w
theorem OwnBs.nil (a0 : Nat) (A : AH) : OwnBs a0 A (.slice none 0 0) [] := ⟨[], OwnS.nil _ _ _, trivial, fun x h => by cases h⟩
theorem OwnBs.le {bss : List (List UInt8)} (h : OwnBs a0 A w bss) (hl : Le A B) : OwnBs a0 B w bss := by
  obtain ⟨vs, h1, h2, h3⟩ := h
  exact ⟨vs, h1.le hl, All2.imp (fun x bs hx => Byt.le hx hl) _ _ h2, h3⟩
theorem Byts.le {bss : List (List UInt8)} (h : Byts A w bss) (hl : Le A B) : Byts B w bss := by
  obtain ⟨vs, h1, h2⟩ := h
  exact ⟨vs, h1.le hl, All2.imp (fun x bs hx => Byt.le hx hl) _ _ h2⟩
theorem Byts.len {bss : List (List UInt8)} (h : Byts A w bss) : sLens A false w = some (.int .i64 bss.length, A) := by
  obtain ⟨vs, h1, h2⟩ := h
  rw [All2.len _ _ h2]
  exact h1.len
theorem Byts.at1 {bss : List (List UInt8)} (h : Byts A w bss) {j : Nat} {bs : List UInt8} (hj : bss[j]? = some bs) :
    ∃ p x, sIaddr A w (.int .i64 (j : Int)) 1 = some (p, A) ∧ sLoad1 A p = some (x, A) ∧ Byt A x bs := by
  obtain ⟨vs, h1, h2⟩ := h
  have hlt := lt_of_get hj
  rw [All2.len _ _ h2] at hlt
  obtain ⟨x, hx⟩ : ∃ x, vs[j]? = some x := ⟨_, List.getElem?_eq_getElem hlt⟩
  obtain ⟨p, p1, p2⟩ := h1.at1 hx
  exact ⟨p, x, p1, p2, All2.get _ _ h2 j x bs hx hj⟩
theorem all2_append {α β : Type} {R : α → β → Prop} : ∀ {a : List α} {b : List β} {c : List α} {d : List β}, All2 R a b → All2 R c d → All2 R (a ++ c) (b ++ d)
  | [], [], _, _, _, h => h
  | x :: a, y :: b, _, _, h1, h2 => ⟨h1.1, all2_append h1.2 h2⟩
theorem All2.get_imp {α β : Type} {R S : α → β → Prop} : ∀ {a : List α} {b : List β}, All2 R a b → (∀ (j : Nat) x y, a[j]? = some x → b[j]? = some y → R x y → S x y) → All2 S a b
  | [], [], _, _ => trivial
  | x :: a, y :: b, h, k => ⟨k 0 x y rfl rfl h.1, All2.get_imp h.2 (fun j u v hu hv => k (j + 1) u v (by simpa using hu) (by simpa using hv))⟩
/-- One more slice of bytes. -/
theorem OwnBs.push {bss : List (List UInt8)} {x : List UInt8} (hl : Le A0 A) (h : OwnBs A0.length A w bss) (ht : Byt A t x) (hn : ∀ k ∈ blkOf t, k ∉ blkOf w) (hs : bss.length ≤ 2 ^ 40) :
    ∃ w' A', sApp (A ++ [.row [t] .own 1 true]) w (.slice (some ⟨A.length, 0, none⟩) 1 1) 1 24 = some (w', A') ∧ Le A0 A' ∧ OwnBs A0.length A' w' (bss ++ [x]) ∧ (∀ i b, A[i]? = some b → i ∉ blkOf w → A'[i]? = some b) := by
  obtain ⟨vs, h1, h2, h3⟩ := h
  have k1 : Le A (A ++ [.row [t] .own 1 true]) := .push _ _
  have hlen := All2.len _ _ h2
  have ht1 : ones [t] = true := by
    obtain ⟨p, c, hs, _⟩ := ht.shape
    rw [hs]; rfl
  obtain ⟨w', A', e1, e2, e3, e4⟩ := app_cells (bytes := 24) (hl.trans k1) (h1.le k1) (sl_last A (cs := [t]) (st := .own) (ex := true) (c := 1) (by simp) (by simp)) ht1 (by omega) (by simp; omega) (by omega)
  have hf := app_fresh rfl (by simp) e1
  have keep : ∀ i b, A[i]? = some b → i ∉ blkOf w → A'[i]? = some b := fun i b hb hi => e4 i b (k1.get hb) (fun o c e => hi (by rw [e]; simp [blkOf]))
  refine ⟨w', A', e1, e2, ⟨vs ++ [t], by simpa using e3, all2_append (All2.get_imp h2 ?_) ⟨ht.keepB (fun i b hb hi => keep i b hb (hn i hi)), trivial⟩, ?_⟩, keep⟩
  · intro j y bs hy hb hyb
    exact hyb.keepB (fun i b hb' hi => keep i b hb' (h3 y (List.mem_of_getElem? hy) i hi))
  · intro y hy k hk
    rcases hf with hf | hf
    rotate_left
    · rw [hf]
      rcases List.mem_append.1 hy with hy | hy
      · exact h3 y hy k hk
      · simp only [List.mem_singleton] at hy; subst hy; exact hn k hk
    rw [hf]
    have : k < A.length := by
      rcases List.mem_append.1 hy with hy | hy
      · obtain ⟨j, hj⟩ := List.mem_iff_getElem?.1 hy
        have hjl := lt_of_get hj
        obtain ⟨bs, hb⟩ : ∃ bs, bss[j]? = some bs := ⟨_, List.getElem?_eq_getElem (by omega)⟩
        exact (All2.get _ _ h2 j y bs hj hb).lt k hk
      · simp only [List.mem_singleton] at hy; subst hy; exact ht.lt k hk
    simp
    omega
end
end Go.AS


namespace Go.AS
open Go Go.RowKit Go.WideShapes
set_option linter.unusedVariables false
set_option linter.unusedSimpArgs false

/-! Package variables that are only read: the first G blocks. -/

section
variable {G : Nat} {P : Program} {w : World}
variable {H : Type} {enc : TypeId × Value → H} {base : Nat} {held : Bool}
end
end Go.AS


namespace Go.AS
open Go Go.RowKit Go.WideShapes
set_option linter.unusedVariables false
set_option linter.unusedSimpArgs false

/-! What a laid variable gives: a table of numbers. -/

section
variable {H : Type} {enc : TypeId × Value → H} {P : Program} {w : World}
theorem rel_none : Rel 0 [] [] w := by
  refine ⟨rfl, fun g hg => by omega, ?_, ?_, ?_, ?_, ?_, ?_⟩ <;> · intros; simp_all
end
end Go.AS


namespace Go.AS
open Go
set_option linter.unusedVariables false
set_option linter.unusedSimpArgs false

/-! Rows that are no more written: what an append leaves readable. Runs with answers that are known. -/

section
variable {G : Nat} {P : Program} {μ : Mu} {A : AH} {w : World}

end
end Go.AS


namespace Go.AS
open Go
set_option linter.unusedVariables false

/-! The rules of a symbolic step, as one (stepS), and those with conditions (stepT). -/
theorem stepS : (((((((type_of% @W_seq ∧ type_of% @W_ops) ∧ (type_of% @W_draw ∧ type_of% @W_block)) ∧ ((type_of% @W_skip ∧ type_of% @W_exit) ∧ (type_of% @W_ret ∧ (type_of% @sq_normal ∧ type_of% @sq_ret)))) ∧ (((type_of% @sq_exit ∧ type_of% @W_condv) ∧ (type_of% @condW_true ∧ type_of% @condW_false)) ∧ ((type_of% @thenA_normal ∧ type_of% @thenA_ret) ∧ (type_of% @thenA_exit ∧ (type_of% @if_true.{1} ∧ type_of% @if_false.{1}))))) ∧ ((((type_of% @Bool.false_eq_true ∧ type_of% @decide_eq_true_eq) ∧ (type_of% @inBlockA_normal ∧ type_of% @inBlockA_ret)) ∧ ((type_of% @inBlockA_same ∧ type_of% @inBlockA_other) ∧ (type_of% @noGotoA_normal ∧ (type_of% @noGotoA_ret ∧ type_of% @noGotoA_exit)))) ∧ (((type_of% @Wops_nil ∧ type_of% @Wops_cons) ∧ (type_of% @Wops_le ∧ (type_of% @Wops_guard ∧ type_of% @Wops_guardle))) ∧ ((type_of% @ok1_some ∧ type_of% @okV_some) ∧ (type_of% @kont_at ∧ (type_of% @kontL_at ∧ type_of% @gdB_true)))))) ∧ (((((type_of% @gdB_false ∧ type_of% @decide_true) ∧ (type_of% @decide_false ∧ type_of% @ev_tmp)) ∧ ((type_of% @ev_const ∧ type_of% @ev_func) ∧ (type_of% @ev_global ∧ (type_of% @put_some ∧ type_of% @put_none)))) ∧ (((type_of% @upd_same ∧ type_of% @upd_at) ∧ (type_of% @gd_bt ∧ type_of% @gd_bf)) ∧ ((type_of% @Bool.not_true ∧ type_of% @Bool.not_false) ∧ (type_of% @pick_true ∧ (type_of% @pick_false ∧ type_of% @pick_b))))) ∧ ((((type_of% @not_b ∧ type_of% @W1_mov) ∧ (type_of% @W1_pick ∧ type_of% @W1_new)) ∧ ((type_of% @W1_box ∧ type_of% @W1_build) ∧ (type_of% @W1_lit ∧ (type_of% @W1_load1 ∧ type_of% @W1_loadn)))) ∧ (((type_of% @W1_store ∧ type_of% @W1_nilc) ∧ (type_of% @W1_bin ∧ (type_of% @W1_un ∧ type_of% @W1_conv))) ∧ ((type_of% @W1_b2s ∧ type_of% @W1_s2b) ∧ (type_of% @W1_field1 ∧ (type_of% @W1_fieldn ∧ type_of% @W1_faddr))))))) ∧ ((((((type_of% @W1_iaddr ∧ type_of% @W1_iarr) ∧ (type_of% @W1_idxs ∧ type_of% @W1_idxa1)) ∧ ((type_of% @W1_idxan ∧ type_of% @W1_sls) ∧ (type_of% @W1_sll ∧ (type_of% @W1_sla ∧ type_of% @W1_mk)))) ∧ (((type_of% @W1_ext ∧ type_of% @W1_fn) ∧ (type_of% @W1_ifc ∧ type_of% @W1_lens)) ∧ ((type_of% @W1_lenc ∧ type_of% @W1_app) ∧ (type_of% @W1_apps ∧ (type_of% @W1_copy ∧ type_of% @W1_clr))))) ∧ ((((type_of% @W1_mn ∧ type_of% @W1_mx) ∧ (type_of% @W1_isnil ∧ type_of% @W1_strc)) ∧ ((type_of% @W1_beq ∧ type_of% @W1_mks) ∧ (((type_of% @W1_capn ∧ type_of% @W1_callx) ∧ (type_of% @capQ_nil ∧ type_of% @rd_callx)) ∧ (type_of% @W1_appz ∧ type_of% @W1_eqagg)))) ∧ (((type_of% @W1_call ∧ type_of% @W1_calld) ∧ (type_of% @callD_func ∧ (type_of% @List.nil_append.{0} ∧ type_of% @List.append_nil.{0}))) ∧ ((type_of% @List.map_cons.{0,0} ∧ type_of% @List.map_nil.{0,0}) ∧ (type_of% @Option.map_some.{0,0} ∧ (type_of% @Option.map_none.{0,0} ∧ type_of% @Option.some.injEq.{0})))))) ∧ (((((type_of% @exists_eq_left'.{1} ∧ type_of% @iv_ii) ∧ (type_of% @postA_ret ∧ type_of% @postA_normal)) ∧ ((type_of% @resVs_nil ∧ type_of% @resVs_tmp) ∧ (type_of% @resVs_one ∧ (type_of% @resVs_many ∧ type_of% @Option.bind_some.{0,0})))) ∧ (((type_of% @Int.toNat_natCast ∧ type_of% @true_and) ∧ (type_of% @and_true ∧ type_of% @RdOk_nil)) ∧ ((type_of% @RdOk_refl ∧ type_of% @rd_load1) ∧ (type_of% @rd_loadn ∧ (type_of% @rd_b2s ∧ type_of% @rd_sll))))) ∧ ((((type_of% @rd_sla ∧ type_of% @rd_call) ∧ (type_of% @rd_calld ∧ type_of% @rd_new)) ∧ ((type_of% @rd_box ∧ type_of% @rd_lit) ∧ (type_of% @rd_store ∧ (type_of% @rd_s2b ∧ type_of% @rd_mk)))) ∧ (((type_of% @rd_app ∧ type_of% @rd_apps) ∧ (type_of% @rd_appz ∧ (type_of% @rd_mks ∧ type_of% @rd_copy))) ∧ ((type_of% @rd_clr ∧ type_of% @blk_ptr) ∧ (type_of% @blk_sl ∧ (type_of% @blk_nil ∧ type_of% @List.cons_append.{0})))))))) :=
  ⟨⟨⟨⟨⟨⟨⟨@W_seq, @W_ops⟩, ⟨@W_draw, @W_block⟩⟩, ⟨⟨@W_skip, @W_exit⟩, ⟨@W_ret, ⟨@sq_normal, @sq_ret⟩⟩⟩⟩, ⟨⟨⟨@sq_exit, @W_condv⟩, ⟨@condW_true, @condW_false⟩⟩, ⟨⟨@thenA_normal, @thenA_ret⟩, ⟨@thenA_exit, ⟨@if_true.{1}, @if_false.{1}⟩⟩⟩⟩⟩, ⟨⟨⟨⟨@Bool.false_eq_true, @decide_eq_true_eq⟩, ⟨@inBlockA_normal, @inBlockA_ret⟩⟩, ⟨⟨@inBlockA_same, @inBlockA_other⟩, ⟨@noGotoA_normal, ⟨@noGotoA_ret, @noGotoA_exit⟩⟩⟩⟩, ⟨⟨⟨@Wops_nil, @Wops_cons⟩, ⟨@Wops_le, ⟨@Wops_guard, @Wops_guardle⟩⟩⟩, ⟨⟨@ok1_some, @okV_some⟩, ⟨@kont_at, ⟨@kontL_at, @gdB_true⟩⟩⟩⟩⟩⟩, ⟨⟨⟨⟨⟨@gdB_false, @decide_true⟩, ⟨@decide_false, @ev_tmp⟩⟩, ⟨⟨@ev_const, @ev_func⟩, ⟨@ev_global, ⟨@put_some, @put_none⟩⟩⟩⟩, ⟨⟨⟨@upd_same, @upd_at⟩, ⟨@gd_bt, @gd_bf⟩⟩, ⟨⟨@Bool.not_true, @Bool.not_false⟩, ⟨@pick_true, ⟨@pick_false, @pick_b⟩⟩⟩⟩⟩, ⟨⟨⟨⟨@not_b, @W1_mov⟩, ⟨@W1_pick, @W1_new⟩⟩, ⟨⟨@W1_box, @W1_build⟩, ⟨@W1_lit, ⟨@W1_load1, @W1_loadn⟩⟩⟩⟩, ⟨⟨⟨@W1_store, @W1_nilc⟩, ⟨@W1_bin, ⟨@W1_un, @W1_conv⟩⟩⟩, ⟨⟨@W1_b2s, @W1_s2b⟩, ⟨@W1_field1, ⟨@W1_fieldn, @W1_faddr⟩⟩⟩⟩⟩⟩⟩, ⟨⟨⟨⟨⟨⟨@W1_iaddr, @W1_iarr⟩, ⟨@W1_idxs, @W1_idxa1⟩⟩, ⟨⟨@W1_idxan, @W1_sls⟩, ⟨@W1_sll, ⟨@W1_sla, @W1_mk⟩⟩⟩⟩, ⟨⟨⟨@W1_ext, @W1_fn⟩, ⟨@W1_ifc, @W1_lens⟩⟩, ⟨⟨@W1_lenc, @W1_app⟩, ⟨@W1_apps, ⟨@W1_copy, @W1_clr⟩⟩⟩⟩⟩, ⟨⟨⟨⟨@W1_mn, @W1_mx⟩, ⟨@W1_isnil, @W1_strc⟩⟩, ⟨⟨@W1_beq, @W1_mks⟩, ⟨⟨⟨@W1_capn, @W1_callx⟩, ⟨@capQ_nil, @rd_callx⟩⟩, ⟨@W1_appz, @W1_eqagg⟩⟩⟩⟩, ⟨⟨⟨@W1_call, @W1_calld⟩, ⟨@callD_func, ⟨@List.nil_append.{0}, @List.append_nil.{0}⟩⟩⟩, ⟨⟨@List.map_cons.{0,0}, @List.map_nil.{0,0}⟩, ⟨@Option.map_some.{0,0}, ⟨@Option.map_none.{0,0}, @Option.some.injEq.{0}⟩⟩⟩⟩⟩⟩, ⟨⟨⟨⟨⟨@exists_eq_left'.{1}, @iv_ii⟩, ⟨@postA_ret, @postA_normal⟩⟩, ⟨⟨@resVs_nil, @resVs_tmp⟩, ⟨@resVs_one, ⟨@resVs_many, @Option.bind_some.{0,0}⟩⟩⟩⟩, ⟨⟨⟨@Int.toNat_natCast, @true_and⟩, ⟨@and_true, @RdOk_nil⟩⟩, ⟨⟨@RdOk_refl, @rd_load1⟩, ⟨@rd_loadn, ⟨@rd_b2s, @rd_sll⟩⟩⟩⟩⟩, ⟨⟨⟨⟨@rd_sla, @rd_call⟩, ⟨@rd_calld, @rd_new⟩⟩, ⟨⟨@rd_box, @rd_lit⟩, ⟨@rd_store, ⟨@rd_s2b, @rd_mk⟩⟩⟩⟩, ⟨⟨⟨@rd_app, @rd_apps⟩, ⟨@rd_appz, ⟨@rd_mks, @rd_copy⟩⟩⟩, ⟨⟨@rd_clr, @blk_ptr⟩, ⟨@blk_sl, ⟨@blk_nil, @List.cons_append.{0}⟩⟩⟩⟩⟩⟩⟩⟩
theorem stepT : (((((type_of% @addI ∧ type_of% @subI) ∧ (type_of% @mulI ∧ type_of% @quoI)) ∧ ((type_of% @remI ∧ type_of% @shrI) ∧ (type_of% @eqlI ∧ type_of% @neqI))) ∧ (((type_of% @eqS ∧ type_of% @neS) ∧ (type_of% @beqB ∧ type_of% @bneB)) ∧ ((type_of% @lenS ∧ type_of% @lenV) ∧ (type_of% @pickB ∧ (type_of% @ext0 ∧ type_of% @ext1))))) ∧ ((((type_of% @ext2 ∧ type_of% @ext30) ∧ (type_of% @ext31 ∧ type_of% @binA_lss)) ∧ ((type_of% @binA_leq ∧ type_of% @binA_gtr) ∧ (type_of% @binA_geq ∧ (type_of% @convI ∧ type_of% @decide_eq_true)))) ∧ (((type_of% @decide_eq_false ∧ type_of% @gd_undef) ∧ (type_of% @W_scope ∧ type_of% @mnI)) ∧ ((type_of% @mxI ∧ type_of% @inBlockA_ne) ∧ (type_of% @dec_refl.{1} ∧ (type_of% @dec_nrefl.{1} ∧ type_of% @beq_self_eq_true.{0})))))) :=
  ⟨⟨⟨⟨⟨@addI, @subI⟩, ⟨@mulI, @quoI⟩⟩, ⟨⟨@remI, @shrI⟩, ⟨@eqlI, @neqI⟩⟩⟩, ⟨⟨⟨@eqS, @neS⟩, ⟨@beqB, @bneB⟩⟩, ⟨⟨@lenS, @lenV⟩, ⟨@pickB, ⟨@ext0, @ext1⟩⟩⟩⟩⟩, ⟨⟨⟨⟨@ext2, @ext30⟩, ⟨@ext31, @binA_lss⟩⟩, ⟨⟨@binA_leq, @binA_gtr⟩, ⟨@binA_geq, ⟨@convI, @decide_eq_true⟩⟩⟩⟩, ⟨⟨⟨@decide_eq_false, @gd_undef⟩, ⟨@W_scope, @mnI⟩⟩, ⟨⟨@mxI, @inBlockA_ne⟩, ⟨@dec_refl.{1}, ⟨@dec_nrefl.{1}, @beq_self_eq_true.{0}⟩⟩⟩⟩⟩⟩
end Go.AS


namespace Go.AS
open Go
set_option linter.unusedVariables false
set_option linter.unusedSimpArgs false

/-! The rules of a symbolic step in a tree of orders (stepX: hand it to «T»; W_alt is a step by hand). -/
section
variable {G : Nat} {P : Program} {a : AT} {A : AH} {K : Value → AH → Prop} {Q : AT → AH → Prop} {R : Exit → AT → AH → Prop}
def kontX (G : Nat) (P : Program) (Q : AT → AH → Prop) (r : IT) (R : List Nat) (a : AT) (d : Option Nat) : Value → AH → Prop := fun v A' => Wt G P Q r R (put a d v) A'
def kontY (G : Nat) (P : Program) (Q : AT → AH → Prop) (r : IT) (R R2 : List Nat) (a : AT) (d : Option Nat) (A : AH) : Value → AH → Prop := fun v A' => RdOk R A A' ∧ Wt G P Q r R2 (put a d v) A'
theorem kontX_at {r : IT} {R : List Nat} {d : Option Nat} {v : Value} : kontX G P Q r R a d v A = Wt G P Q r R (put a d v) A := id rfl
theorem kontY_at {r : IT} {R R2 : List Nat} {d : Option Nat} {v : Value} {A0 : AH} : kontY G P Q r R R2 a d A0 v A = (RdOk R A0 A ∧ Wt G P Q r R2 (put a d v) A) := id rfl
theorem Wt_nil {R : List Nat} : Wt G P Q .nil R a A = Q a A := id rfl
theorem Wt_op {R : List Nat} {d : Option Nat} {o : AOp} {r : IT} : Wt G P Q (.op ⟨d, none, false, o⟩ r) R a A = W1 G P a A o (kontX G P Q r R a d) := by
  unfold kontX
  simp [Wt, wantedA]
theorem Wt_le {R : List Nat} {d : Option Nat} {o : AOp} {r : IT} : Wt G P Q (.op ⟨d, none, true, o⟩ r) R a A = W1 G P a A o (kontY G P Q r R (rdB (ev a) o ++ R) a d A) := by
  unfold kontY
  simp [Wt, wantedA]
def gdX (b : Bool) (G : Nat) (P : Program) (o : AOp) (K : Value → AH → Prop) (Q : AT → AH → Prop) (r : IT) (R : List Nat) (d : Option Nat) (a : AT) (A : AH) : Prop :=
  if b = true then W1 G P a A o K else Wt G P Q r R (put a d undef) A
theorem gdX_true {R : List Nat} {o : AOp} {r : IT} {d : Option Nat} : gdX true G P o K Q r R d a A = W1 G P a A o K := id rfl
theorem gdX_false {R : List Nat} {o : AOp} {r : IT} {d : Option Nat} : gdX false G P o K Q r R d a A = Wt G P Q r R (put a d undef) A := id rfl
theorem Wt_guard {R : List Nat} {d : Option Nat} {t : Nat} {want : Bool} {o : AOp} {r : IT} : Wt G P Q (.op ⟨d, some (t, want), false, o⟩ r) R a A =
    gdX (gd (a t) want) G P o (kontX G P Q r R a d) Q r R d a A := by
  have e : wantedA a (some (t, want)) = gd (a t) want := rfl
  unfold gdX kontX
  simp only [Wt, e, Bool.false_eq_true, false_implies, true_and, if_false]
theorem Wt_guardle {R : List Nat} {d : Option Nat} {t : Nat} {want : Bool} {o : AOp} {r : IT} : Wt G P Q (.op ⟨d, some (t, want), true, o⟩ r) R a A =
    gdX (gd (a t) want) G P o (kontY G P Q r R (rdB (ev a) o ++ R) a d A) Q r R d a A := by
  have e : wantedA a (some (t, want)) = gd (a t) want := rfl
  unfold gdX kontY
  simp only [Wt, e, true_implies, if_true]
theorem W_tree {t : IT} : W G P (.tree t) R a A = Wt G P (R .normal) t [] a A := id rfl
/-- Either order. -/
theorem W_alt {x y : IT} {R : List Nat} (h1 : Wt G P Q x R a A) (h2 : Wt G P Q y R a A) : Wt G P Q (.alt x y) R a A := ⟨h1, h2⟩
theorem stepX : ((type_of% @W_tree ∧ type_of% @Wt_nil) ∧ (type_of% @Wt_op ∧ type_of% @Wt_le)) ∧ ((type_of% @Wt_guard ∧ type_of% @Wt_guardle) ∧ ((type_of% @gdX_true ∧ type_of% @gdX_false) ∧ (type_of% @kontX_at ∧ type_of% @kontY_at))) :=
  ⟨⟨⟨@W_tree, @Wt_nil⟩, ⟨@Wt_op, @Wt_le⟩⟩, ⟨⟨@Wt_guard, @Wt_guardle⟩, ⟨⟨@gdX_true, @gdX_false⟩, ⟨@kontX_at, @kontY_at⟩⟩⟩⟩
end
end Go.AS


namespace Go.AS
open Go
set_option linter.unusedVariables false
set_option linter.unusedSimpArgs false

/-! Plain structs as values; where two branches meet; a slice of bytes behind a pointer to which is appended. -/
section
variable {G : Nat} {P : Program} {μ μ1 : Mu} {A A0 B : AH} {w : World} {v v' x : Value} {i a0 : Nat}

/-- A struct is boxed. -/
theorem box_row {cs : List Value} (ho : ones cs = true) : sBox A (.agg cs.toArray) = some (.pointer (some ⟨A.length, 0, none⟩), A ++ [.row cs .own 0 true]) := by
  unfold sBox
  have e : (Value.agg cs.toArray).cells.toList = cs := rfl
  rw [e, if_pos ho]

/-- What holds between two parts of a code. -/
theorem W_mid {x y : IC} {R : Exit → AT → AH → Prop} {a : AT} (M : AT → AH → Prop) (h1 : W G P x (fun e a A => e = .normal ∧ M a A) a A) (h2 : ∀ a A, M a A → W G P y R a A) : W G P (.seq x y) R a A := by
  rw [W_seq]
  refine W_mono ?_ h1
  rintro e a A ⟨rfl, hm⟩
  exact h2 a A hm
/-- The same, where the first part may return. -/
theorem W_midR {x y : IC} {R : Exit → AT → AH → Prop} {a : AT} (M : AT → AH → Prop) (h1 : W G P x (fun e a A => (e = .normal ∧ M a A) ∨ (e = .ret ∧ R .ret a A)) a A) (h2 : ∀ a A, M a A → W G P y R a A) : W G P (.seq x y) R a A := by
  rw [W_seq]
  refine W_mono ?_ h1
  rintro e a A (⟨rfl, hm⟩ | ⟨rfl, hm⟩)
  · exact h2 a A hm
  · exact hm
theorem byt_str {s : ByteArray} : s.data.toList.length = s.size := by cases s; simp [ByteArray.size]
end
end Go.AS


namespace Go.AS
open Go
set_option linter.unusedVariables false
set_option linter.unusedSimpArgs false

/-! Rules by which a heap that is told as a term is read and written (heapR: hand it to «T»). -/
section
variable {A B : AH} {i j o n m : Nat} {b : Blk} {v x : Value} {cs : List Value} {st : St} {sz : Nat} {ex : Bool}
def rowOf : Blk → Option (List Value × St × Nat × Bool)
  | .row cs st sz ex => if st = .dead then none else some (cs, st, sz, ex)
  | _ => none
theorem getRow_eq : getRow A i = (A[i]?).bind rowOf := by
  unfold getRow
  cases A[i]? with
  | none => rfl
  | some b => cases b <;> rfl
def selN {α : Type} (i n : Nat) (x y z : α) : α := if i = n then x else if i < n then y else z
def selS {α : Type} (i j n : Nat) (x y z : α) : α := if i = j then (if j < n then x else z) else y
def ifN {α : Type} (o n : Nat) (x y : α) : α := if o < n then x else y
theorem ifN_lt {α : Type} {x y : α} (h : o < n) : ifN o n x y = x := if_pos h
theorem selN_eq {α : Type} {x y z : α} (h : i = n) : selN i n x y z = x := if_pos h
theorem selN_lt {α : Type} {x y z : α} (h : i < n) : selN i n x y z = y := by unfold selN; rw [if_neg (by omega), if_pos h]
theorem selS_eq {α : Type} {x y z : α} (h : i = j) (h2 : j < n) : selS i j n x y z = x := by unfold selS; rw [if_pos h, if_pos h2]
theorem selS_ne {α : Type} {x y z : α} (h : i ≠ j) : selS i j n x y z = y := if_neg h
/-- A row's part, what it is. -/
def rowAt (A : AH) (i : Nat) : Option (List Value × St × Nat × Bool) := getRow A i
theorem rowAt_app : rowAt (A ++ [b]) i = selN i A.length (rowOf b) (rowAt A i) none := by
  unfold rowAt selN
  rw [getRow_eq, getRow_eq]
  split
  · subst_vars; simp
  · split
    · rw [List.getElem?_append_left (by assumption)]
    · rw [List.getElem?_eq_none (by simp; omega)]; rfl
theorem rowAt_set : rowAt (A.set j b) i = selS i j A.length (rowOf b) (rowAt A i) none := by
  unfold rowAt selS
  rw [getRow_eq, getRow_eq]
  split
  · subst_vars
    split
    · rw [List.getElem?_set_self (by assumption)]; rfl
    · rw [List.getElem?_eq_none (by simp; omega)]; rfl
  · rw [List.getElem?_set_ne (by omega)]
theorem rowOf_own : rowOf (.row cs .own sz ex) = some (cs, .own, sz, ex) := id rfl
theorem rowOf_ro : rowOf (.row cs .ro sz ex) = some (cs, .ro, sz, ex) := id rfl
theorem rowAt_of (h : A[i]? = some (.row cs st sz ex)) (hs : st ≠ .dead) : rowAt A i = some (cs, st, sz, ex) := by
  unfold rowAt
  rw [getRow_eq, h, Option.bind_some]
  exact if_neg hs
theorem rowAt_own (h : A[i]? = some (.row cs .own sz ex)) : rowAt A i = some (cs, .own, sz, ex) := rowAt_of h (by decide)
theorem rowAt_get (h : rowAt A i = some (cs, st, sz, ex)) : A[i]? = some (.row cs st sz ex) := by
  unfold rowAt getRow at h
  split at h
  · split at h
    · cases h
    · injection h with h
      injection h with h1 h2
      injection h2 with h2 h3
      injection h3 with h3 h4
      subst h1 h2 h3 h4
      assumption
  · cases h
theorem Le.row {r : List Value × St × Nat × Bool} (h : Le A B) (k : rowAt A i = some r) : rowAt B i = some r := by
  obtain ⟨cs, st, sz, ex⟩ := r
  have h0 := rowAt_get k
  have h1 := h.get h0
  unfold rowAt at k ⊢
  rw [getRow_eq, h0] at k
  rw [getRow_eq, h1]
  exact k
def ldQ (r : Option (List Value × St × Nat × Bool)) (o : Nat) (A : AH) : Option (Value × AH) := match r with | some (cs, _) => (cs[o]?).map fun v => (v, A) | none => none
theorem ldR : sLoad1 A (.pointer (some ⟨i, o, none⟩)) = ldQ (rowAt A i) o A := by
  unfold sLoad1 ldQ rowAt
  simp only
  cases getRow A i with
  | none => rfl
  | some r => rfl
theorem ldQ_some {t : St × Nat × Bool} : ldQ (some (cs, t)) o A = (cs[o]?).map fun v => (v, A) := id rfl
def ldnQ (r : Option (List Value × St × Nat × Bool)) (o n : Nat) (A : AH) : Option (Value × AH) := match r with | some (cs, _) => (cut cs o n).map fun v => (.agg v.toArray, A) | none => none
theorem ldnR : sLoadn A (.pointer (some ⟨i, o, none⟩)) n = ldnQ (rowAt A i) o n A := by
  unfold sLoadn ldnQ rowAt
  simp only
  cases getRow A i with
  | none => rfl
  | some r => rfl
theorem ldnQ_some {t : St × Nat × Bool} : ldnQ (some (cs, t)) o n A = (cut cs o n).map fun v => (.agg v.toArray, A) := id rfl
/-- Cells out of a row that is told: a beginning is left, so many are taken. -/
theorem cut_cons {c : Value} : cut (c :: cs) (o + 1) n = cut cs o n := by
  unfold cut
  simp only [List.length_cons, List.drop_succ_cons]
  by_cases h : o + n ≤ cs.length
  · rw [if_pos h, if_pos (by omega)]
  · rw [if_neg h, if_neg (by omega)]
theorem cut_take {c : Value} : cut (c :: cs) 0 (n + 1) = (cut cs 0 n).map (c :: ·) := by
  unfold cut
  simp only [List.length_cons, List.drop_zero, List.take_succ_cons]
  by_cases h : 0 + n ≤ cs.length
  · rw [if_pos h, if_pos (by omega)]; rfl
  · rw [if_neg h, if_neg (by omega)]; rfl
theorem cut_zero : cut cs 0 0 = some [] := by
  unfold cut
  rw [if_pos (by omega)]; simp
def stQ (r : Option (List Value × St × Nat × Bool)) (i o n : Nat) (x : Value) (A : AH) : Option (Value × AH) := match r with
  | some (cs, .own, sz, ex) => if x.cells.size = n ∧ o + n ≤ cs.length ∧ ones x.cells.toList = true then some (undef, A.set i (.row (setAll cs o x.cells.toList) .own sz ex)) else none
  | _ => none
theorem stR : sStore A (.pointer (some ⟨i, o, none⟩)) x n = stQ (rowAt A i) i o n x A := by
  unfold sStore stQ rowAt getRow wr
  simp only
  cases hA : A[i]? with
  | none => simp
  | some b =>
    cases b with
    | row cs st sz ex =>
      cases st <;> simp only [Option.map_none, ite_self, reduceCtorEq, if_false, if_true]
      by_cases h1 : x.cells.size = n
      · have h2 : x.cells.toList.length = n := by simpa using h1
        rw [if_pos h1]
        by_cases h3 : o + n ≤ cs.length ∧ ones x.cells.toList = true
        · rw [if_pos ⟨by omega, h3.2⟩, if_pos ⟨h1, h3.1, h3.2⟩]; rfl
        · rw [if_neg (fun h => h3 ⟨by omega, h.2⟩), if_neg (fun h => h3 ⟨h.2.1, h.2.2⟩)]; rfl
      · rw [if_neg h1, if_neg (fun h => h1 h.1)]
    | mp es => simp
    | sit s p => simp
/-- A store of one cell. -/
theorem stQ_one (h : one1 x) (ho : o < cs.length) : stQ (some (cs, .own, sz, ex)) i o 1 x A = some (undef, A.set i (.row (cs.set o x) .own sz ex)) := by
  unfold stQ
  simp only [h.1]
  have h1 : ones [x] = true := by simp [ones, h.2]
  rw [if_pos ⟨rfl, by omega, h1⟩]
  congr 4
  unfold setAll
  apply List.ext_getElem?
  intro k
  simp only [List.getElem?_append, List.getElem?_set, List.length_append, List.length_take, List.length_singleton, List.getElem?_take, List.getElem?_drop]
  rw [Nat.min_eq_left (Nat.le_of_lt ho)]
  by_cases hk : k < o
  · rw [if_pos (by omega), if_pos hk, if_pos hk, if_neg (by omega)]
  · by_cases hk2 : k = o
    · subst hk2; simp [ho]
    · rw [if_neg (by omega), if_neg (by omega)]
      congr 1; omega
theorem stQ_str {s : ByteArray} : stQ (some (cs, .own, sz, ex)) i o 1 (.string s) A = ifN o cs.length (some (undef, A.set i (.row (cs.set o (.string s)) .own sz ex))) none := by
  unfold ifN
  split
  · exact stQ_one ⟨rfl, rfl⟩ (by assumption)
  · rename_i h
    unfold stQ
    exact if_neg (fun k => h (by have := k.2.1; omega))
theorem stQ_int {k : IntKind} {m : Int} : stQ (some (cs, .own, sz, ex)) i o 1 (.int k m) A = ifN o cs.length (some (undef, A.set i (.row (cs.set o (.int k m)) .own sz ex))) none := by
  unfold ifN
  split
  · exact stQ_one ⟨rfl, rfl⟩ (by assumption)
  · rename_i h
    unfold stQ
    exact if_neg (fun k => h (by have := k.2.1; omega))
theorem stQ_bool {c : Bool} : stQ (some (cs, .own, sz, ex)) i o 1 (.bool c) A = ifN o cs.length (some (undef, A.set i (.row (cs.set o (.bool c)) .own sz ex))) none := by
  unfold ifN
  split
  · exact stQ_one ⟨rfl, rfl⟩ (by assumption)
  · rename_i h
    unfold stQ
    exact if_neg (fun k => h (by have := k.2.1; omega))
theorem stQ_sl {p : Option Addr} {n c : Nat} : stQ (some (cs, .own, sz, ex)) i o 1 (.slice p n c) A = ifN o cs.length (some (undef, A.set i (.row (cs.set o (.slice p n c)) .own sz ex))) none := by
  unfold ifN
  split
  · exact stQ_one ⟨rfl, rfl⟩ (by assumption)
  · rename_i h
    unfold stQ
    exact if_neg (fun k => h (by have := k.2.1; omega))
theorem stQ_ptr {p : Option Addr} : stQ (some (cs, .own, sz, ex)) i o 1 (.pointer p) A = ifN o cs.length (some (undef, A.set i (.row (cs.set o (.pointer p)) .own sz ex))) none := by
  unfold ifN
  split
  · exact stQ_one ⟨rfl, rfl⟩ (by assumption)
  · rename_i h
    unfold stQ
    exact if_neg (fun k => h (by have := k.2.1; omega))
/-- A store of a struct. -/
theorem stQ_agg {l : List Value} : stQ (some (cs, .own, sz, ex)) i o n (.agg l.toArray) A = (if l.length = n ∧ o + n ≤ cs.length ∧ ones l = true then some (undef, A.set i (.row (setAll cs o l) .own sz ex)) else none) := by
  unfold stQ
  have e : (Value.agg l.toArray).cells = l.toArray := rfl
  simp only [e, List.size_toArray]
theorem ones_cons {l : List Value} : ones (x :: l) = (x.oneCell' && ones l) := id rfl
theorem ones_nil : ones [] = true := id rfl
theorem one_s {s : ByteArray} : (Value.string s).oneCell' = true := id rfl
theorem one_i {k : IntKind} {n : Int} : (Value.int k n).oneCell' = true := id rfl
theorem one_b {c : Bool} : (Value.bool c).oneCell' = true := id rfl
theorem one_p {p : Option Addr} : (Value.pointer p).oneCell' = true := id rfl
theorem one_v {p : Option Addr} {n c : Nat} : (Value.slice p n c).oneCell' = true := id rfl
theorem setAll_zero {c d : Value} {l : List Value} : setAll (c :: cs) 0 (d :: l) = d :: setAll cs 0 l := by
  unfold setAll
  simp
theorem setAll_nil : setAll cs 0 [] = cs := by unfold setAll; simp
theorem setAll_succ {c : Value} {l : List Value} : setAll (c :: cs) (o + 1) l = c :: setAll cs o l := by
  unfold setAll
  simp [Nat.add_right_comm]
theorem boxR {l : List Value} : sBox A (.agg l.toArray) = if ones l = true then some (.pointer (some ⟨A.length, 0, none⟩), A ++ [.row l .own 0 true]) else none := id rfl
theorem faR {k : Nat} : sFaddr A (.pointer (some ⟨i, o, none⟩)) k = some (.pointer (some ⟨i, o + k, none⟩), A) := id rfl
theorem blR {z : List Value} {ps : List (Nat × Nat × Value)} : sBuild A z ps = (fillA z ps).map fun cs => (.agg cs.toArray, A) := id rfl
theorem fillR_nil {z : List Value} : fillA z [] = some z := id rfl
theorem fillR1 {z : List Value} {r : List (Nat × Nat × Value)} : fillA z ((o, n, v) :: r) = if v.cells.size = n ∧ o + n ≤ z.length ∧ ones v.cells.toList = true then fillA (setAll z o v.cells.toList) r else none := id rfl
theorem setAll_one {z : List Value} (h : o + 1 ≤ z.length) : setAll z o [v] = z.set o v := by
  unfold setAll
  apply List.ext_getElem?
  intro k
  simp only [List.getElem?_append, List.getElem?_set, List.length_append, List.length_take, List.length_singleton, List.getElem?_take, List.getElem?_drop]
  rw [Nat.min_eq_left (by omega)]
  by_cases hk : k < o
  · rw [if_pos (by omega), if_pos hk, if_pos hk, if_neg (by omega)]
  · by_cases hk2 : k = o
    · subst hk2; simp; omega
    · rw [if_neg (by omega), if_neg (by omega)]
      congr 1; omega
theorem fill_one {z : List Value} {r : List (Nat × Nat × Value)} (hv : one1 v) (h : o + 1 ≤ z.length) : fillA z ((o, 1, v) :: r) = fillA (z.set o v) r := by
  rw [fillR1]
  have e : v.cells.toList = [v] := by rw [hv.1]
  have e2 : v.cells.size = 1 := by rw [hv.1]; rfl
  rw [e, if_pos ⟨e2, h, by simp [ones, hv.2]⟩, setAll_one h]
theorem fill_str {z : List Value} {r : List (Nat × Nat × Value)} {s : ByteArray} : fillA z ((o, 1, .string s) :: r) = ifN o z.length (fillA (z.set o (.string s)) r) none := by
  unfold ifN
  split
  · exact fill_one ⟨rfl, rfl⟩ (by omega)
  · rename_i h
    rw [fillR1]
    exact if_neg (fun k => h (by have := k.2.1; omega))
theorem fill_int {z : List Value} {r : List (Nat × Nat × Value)} {k : IntKind} {m : Int} : fillA z ((o, 1, .int k m) :: r) = ifN o z.length (fillA (z.set o (.int k m)) r) none := by
  unfold ifN
  split
  · exact fill_one ⟨rfl, rfl⟩ (by omega)
  · rename_i h
    rw [fillR1]
    exact if_neg (fun k => h (by have := k.2.1; omega))
theorem fill_bool {z : List Value} {r : List (Nat × Nat × Value)} {c : Bool} : fillA z ((o, 1, .bool c) :: r) = ifN o z.length (fillA (z.set o (.bool c)) r) none := by
  unfold ifN
  split
  · exact fill_one ⟨rfl, rfl⟩ (by omega)
  · rename_i h
    rw [fillR1]
    exact if_neg (fun k => h (by have := k.2.1; omega))
theorem fill_sl {z : List Value} {r : List (Nat × Nat × Value)} {p : Option Addr} {m c : Nat} : fillA z ((o, 1, .slice p m c) :: r) = ifN o z.length (fillA (z.set o (.slice p m c)) r) none := by
  unfold ifN
  split
  · exact fill_one ⟨rfl, rfl⟩ (by omega)
  · rename_i h
    rw [fillR1]
    exact if_neg (fun k => h (by have := k.2.1; omega))
theorem fill_ptr {z : List Value} {r : List (Nat × Nat × Value)} {p : Option Addr} : fillA z ((o, 1, .pointer p) :: r) = ifN o z.length (fillA (z.set o (.pointer p)) r) none := by
  unfold ifN
  split
  · exact fill_one ⟨rfl, rfl⟩ (by omega)
  · rename_i h
    rw [fillR1]
    exact if_neg (fun k => h (by have := k.2.1; omega))
theorem fill_agg {z : List Value} {r : List (Nat × Nat × Value)} {l : List Value} : fillA z ((o, n, .agg l.toArray) :: r) = if l.length = n ∧ o + n ≤ z.length ∧ ones l = true then fillA (setAll z o l) r else none := id rfl
theorem fld1R {l : List Value} : sField1 A (.agg l.toArray) o = (l[o]?).map fun v => (v, A) := by unfold sField1; simp
theorem le_tt (h : i ≤ j) : (i ≤ j) = True := eq_true h
theorem RdOk_app {R : List Nat} : RdOk R A (A ++ B) = True := eq_true (Le.rd ⟨B, rfl⟩ R)
/-- What «T» is handed beside heapR. -/
theorem lensR : ((type_of% @List.length_append.{0} ∧ type_of% @List.length_singleton.{0}) ∧ (type_of% @List.length_cons.{0} ∧ type_of% @List.length_nil.{0})) ∧ ((type_of% @List.length_set.{0} ∧ type_of% @List.getElem?_cons_zero.{0}) ∧ (type_of% @List.getElem?_cons_succ.{0} ∧ type_of% @List.set_cons_zero.{0})) ∧
    ((type_of% @List.set_cons_succ.{0} ∧ type_of% @Bool.and_self) ∧ ((type_of% @Nat.zero_add ∧ type_of% @RdOk_app) ∧ ((type_of% @List.take_succ_cons.{0} ∧ type_of% @List.take_zero.{0}) ∧ (type_of% @List.drop_succ_cons.{0} ∧ type_of% @List.drop_zero.{0})))) :=
  ⟨⟨⟨@List.length_append, @List.length_singleton⟩, ⟨@List.length_cons, @List.length_nil⟩⟩, ⟨⟨@List.length_set, @List.getElem?_cons_zero⟩, ⟨@List.getElem?_cons_succ, @List.set_cons_zero⟩⟩, ⟨⟨@List.set_cons_succ, @Bool.and_self⟩, ⟨⟨@Nat.zero_add, @RdOk_app⟩, ⟨@List.take_succ_cons, @List.take_zero⟩, ⟨@List.drop_succ_cons, @List.drop_zero⟩⟩⟩⟩
theorem heapR : ((((type_of% @rowAt_app ∧ type_of% @rowAt_set) ∧ ((type_of% @selN_eq ∧ type_of% @selN_lt) ∧ type_of% @ifN_lt)) ∧ ((type_of% @selS_eq ∧ type_of% @selS_ne) ∧ (type_of% @rowOf_own ∧ type_of% @rowOf_ro))) ∧
    (((type_of% @ldR ∧ type_of% @ldQ_some) ∧ (type_of% @ldnR ∧ type_of% @ldnQ_some)) ∧ ((type_of% @cut_cons ∧ type_of% @cut_take) ∧ (type_of% @cut_zero ∧ type_of% @stR)))) ∧
    ((((type_of% @stQ_str ∧ type_of% @stQ_int) ∧ (type_of% @stQ_bool ∧ type_of% @stQ_sl)) ∧ ((type_of% @stQ_ptr ∧ type_of% @stQ_agg) ∧ (type_of% @ones_cons ∧ type_of% @ones_nil))) ∧
    (((type_of% @one_s ∧ type_of% @one_i) ∧ (type_of% @one_b ∧ type_of% @one_p)) ∧ ((type_of% @one_v ∧ type_of% @setAll_zero) ∧ (type_of% @setAll_nil ∧ type_of% @setAll_succ)))) ∧
    ((((type_of% @boxR ∧ type_of% @faR) ∧ (type_of% @blR ∧ type_of% @fillR_nil)) ∧ ((type_of% @fill_str ∧ type_of% @fill_int) ∧ (type_of% @fill_bool ∧ type_of% @fill_sl))) ∧ (((type_of% @fill_ptr ∧ type_of% @fill_agg) ∧ type_of% @fld1R) ∧ (type_of% @le_tt))) :=
  ⟨⟨⟨⟨⟨@rowAt_app, @rowAt_set⟩, ⟨⟨@selN_eq, @selN_lt⟩, @ifN_lt⟩⟩, ⟨⟨@selS_eq, @selS_ne⟩, ⟨@rowOf_own, @rowOf_ro⟩⟩⟩, ⟨⟨⟨@ldR, @ldQ_some⟩, ⟨@ldnR, @ldnQ_some⟩⟩, ⟨⟨@cut_cons, @cut_take⟩, ⟨@cut_zero, @stR⟩⟩⟩⟩,
    ⟨⟨⟨⟨@stQ_str, @stQ_int⟩, ⟨@stQ_bool, @stQ_sl⟩⟩, ⟨⟨@stQ_ptr, @stQ_agg⟩, ⟨@ones_cons, @ones_nil⟩⟩⟩, ⟨⟨⟨@one_s, @one_i⟩, ⟨@one_b, @one_p⟩⟩, ⟨⟨@one_v, @setAll_zero⟩, ⟨@setAll_nil, @setAll_succ⟩⟩⟩⟩,
    ⟨⟨⟨⟨@boxR, @faR⟩, ⟨@blR, @fillR_nil⟩⟩, ⟨⟨@fill_str, @fill_int⟩, ⟨@fill_bool, @fill_sl⟩⟩⟩, ⟨⟨⟨@fill_ptr, @fill_agg⟩, @fld1R⟩, @le_tt⟩⟩⟩
end
end Go.AS


namespace Go.AS
open Go
set_option linter.unusedVariables false
set_option linter.unusedSimpArgs false

/-! Structs of numbers, texts and bools, compared. -/
inductive FK where | int (k : IntKind) | bool | str
  deriving DecidableEq
def fkOf : Option TypeDesc → Option FK
  | some .bool => some .bool
  | some (.int k) => some (.int k)
  | some .string => some .str
  | _ => none
/-- A value of such a kind. -/
def FK.Has : FK → Value → Prop
  | .int k, .int q n => q = k ∧ (Lit.int k n).wf = true
  | .bool, .bool _ => True
  | .str, .string s => s.size ≤ maxLen
  | _, _ => False
def litW : Value → Lit
  | .int k n => .int k n
  | .bool b => .bool b
  | .string s => .string s.data.toList
  | _ => .bool false
def fieldsB (P : Program) : List Field → List FK → Nat → Bool
  | [], [], _ => true
  | f :: fs, k :: ks, o => (fkOf (P.underlying f.type) == some k) && (f.offset == o) && (P.cellsOf f.type == 1) && fieldsB P fs ks (o + 1)
  | _, _, _ => false
/-- A type is a struct of such kinds. -/
def flatS (P : Program) (t : TypeId) (ks : List FK) : Bool := match P.underlying t with
  | some (.struct fs) => fieldsB P fs.toList ks 0 && (fs.all (·.name != "_")) && (P.cellsOf t == ks.length)
  | _ => false
theorem FK.key {P : Program} {d : Nat} {t : TypeId} {k : FK} {v : Value} (h : fkOf (P.underlying t) = some k) (hv : k.Has v) : P.keyLits (d + 1) t [v] = some [litW v] := by
  unfold Program.keyLits
  generalize P.underlying t = u at h
  cases u with
  | none => cases h
  | some u =>
    cases u <;> first | (cases h; done) | (injection h with h; subst h; cases v <;> first | (exact hv.elim) | skip)
    · rfl
    · obtain ⟨rfl, h2⟩ := hv
      simp only
      rw [if_pos ⟨trivial, h2⟩]; rfl
    · exact if_pos hv
theorem flat1 : ∀ xs : List Value, (xs.map fun v => [litW v]).flatten = xs.map litW
  | [] => rfl
  | x :: xs => by simp only [List.map_cons, List.flatten_cons, List.singleton_append]; rw [flat1 xs]
theorem fields_key {P : Program} {d : Nat} : ∀ (fs : List Field) (ks : List FK) (pre xs : List Value), fieldsB P fs ks pre.length = true → All2 (fun v k => FK.Has k v) xs ks →
    (fs.mapM fun f => P.keyLits (d + 1) f.type (((pre ++ xs).drop f.offset).take (P.cellsOf f.type))) = some (xs.map fun v => [litW v])
  | [], [], pre, [], _, _ => rfl
  | [], [], pre, _ :: _, _, h => h.elim
  | f :: fs, k :: ks, pre, [], _, h => h.elim
  | f :: fs, k :: ks, pre, x :: xs, h, ⟨h1, h2⟩ => by
    simp only [fieldsB, Bool.and_eq_true, beq_iff_eq] at h
    obtain ⟨⟨⟨g1, g2⟩, g3⟩, g4⟩ := h
    have ih := fields_key (d := d) fs ks (pre ++ [x]) xs (by simpa using g4) h2
    rw [List.append_assoc, List.singleton_append] at ih
    have e : ((pre ++ x :: xs).drop f.offset).take (P.cellsOf f.type) = [x] := by
      rw [g2, g3, List.drop_left]; rfl
    rw [List.mapM_cons, e, FK.key g1 h1, ih]
    rfl
theorem keyLits_flat {P : Program} {t : TypeId} {ks : List FK} {xs : List Value} {d : Nat} (h : flatS P t ks = true) (hx : All2 (fun v k => FK.Has k v) xs ks) : P.keyLits (d + 2) t xs = some (xs.map litW) := by
  unfold flatS at h
  split at h
  · rename_i fs hu
    simp only [Bool.and_eq_true, beq_iff_eq] at h
    obtain ⟨⟨h1, h2⟩, h3⟩ := h
    have hl := All2.len _ _ hx
    unfold Program.keyLits
    simp only [hu]
    rw [if_pos ⟨by omega, h2⟩]
    have := fields_key (d := d) fs.toList ks [] xs h1 hx
    rw [List.nil_append] at this
    rw [this]
    simp only [Option.map_some, flat1]
  · cases h
theorem FK.flat {k : FK} {v : Value} (h : k.Has v) : flatV v = true := by
  cases k <;> cases v <;> first | rfl | exact h.elim
theorem litW_inj : ∀ {xs ys : List Value} {ks : List FK}, All2 (fun v k => FK.Has k v) xs ks → All2 (fun v k => FK.Has k v) ys ks → (xs.map litW = ys.map litW ↔ xs = ys)
  | [], [], _, _, _ => by simp
  | [], _ :: _, [], _, h => h.elim
  | [], _ :: _, _ :: _, h, _ => h.elim
  | _ :: _, [], [], h, _ => h.elim
  | _ :: _, [], _ :: _, _, h => h.elim
  | _ :: _, _ :: _, [], h, _ => h.elim
  | x :: xs, y :: ys, k :: ks, ⟨h1, h2⟩, ⟨g1, g2⟩ => by
    simp only [List.map_cons, List.cons.injEq, litW_inj h2 g2, and_congr_left_iff]
    intro _
    cases k <;> cases x <;> first | exact h1.elim | (cases y <;> first | exact g1.elim | skip)
    · obtain ⟨rfl, _⟩ := h1
      obtain ⟨rfl, _⟩ := g1
      simp [litW]
    · simp [litW]
    · rename_i a b
      simp only [litW, Lit.string.injEq, Value.string.injEq]
      constructor
      · intro h; cases a; cases b; congr; exact Array.toList_inj.1 h
      · rintro rfl; rfl
theorem all2_flat : ∀ {xs : List Value} {ks : List FK}, All2 (fun v k => FK.Has k v) xs ks → xs.all flatV = true
  | [], _, _ => rfl
  | x :: xs, [], h => h.elim
  | x :: xs, k :: ks, ⟨h1, h2⟩ => by
    rw [List.all_cons, FK.flat h1, all2_flat h2]; rfl
open Classical in
/-- TWO STRUCTS, compared. -/
theorem eqagg_flat {P : Program} {A : AH} {t : TypeId} {ks : List FK} {xs ys : List Value} {neg : Bool} (h : flatS P t ks = true) (hx : All2 (fun v k => FK.Has k v) xs ks) (hy : All2 (fun v k => FK.Has k v) ys ks) {b : Bool} (hb : b = true ↔ xs = ys) :
    sEqagg A neg (P.keyLits 8 t) (.agg xs.toArray) (.agg ys.toArray) = some (.bool (b != neg), A) := by
  unfold sEqagg
  simp only
  rw [if_pos ⟨by simpa using all2_flat hx, by simpa using all2_flat hy⟩]
  rw [keyLits_flat (d := 6) h hx, keyLits_flat (d := 6) h hy]
  simp only [Option.bind_some, Option.map_some]
  have e : decide (List.map litW xs = List.map litW ys) = b := by rw [Bool.eq_iff_iff, decide_eq_true_eq, hb, litW_inj hx hy]
  rw [e]
theorem FK.hasI {n : Int} (h : -9223372036854775808 ≤ n ∧ n < 9223372036854775808) : FK.Has (.int .i64) (.int .i64 n) := by
  refine ⟨rfl, ?_⟩
  simp [Lit.wf, IntKind.bits, IntKind.signed, IntKind.min, IntKind.max]
  omega
/-- A function value's code, what it has caught too. -/
theorem Fits.more {P : Program} {G : Nat} {f : FuncId} {ic : IC} {rs : List RV} {np : Nat} (m : Nat) (h : Fits P G f ic rs np) (hk : ((P.funcs[f]?).any fun fn => decide (m ≤ fn.ntmps)) = true) : Fits P G f ic rs m := by
  obtain ⟨fn, h1, h2, h3, h4⟩ := h
  rw [h1] at hk
  exact ⟨fn, h1, by simpa using hk, h3, h4⟩
end Go.AS


namespace Go.AS
open Go Go.RowKit
set_option linter.unusedVariables false
set_option linter.unusedSimpArgs false
section
variable {P : Program} {A : AH} {t e : TypeId} {v : Value} {F : Nat} {cs : List Value} {fs : Array Field}

/-! Arguments that are structs, opened. -/
theorem good_fields (hu : P.underlying t = some (.struct fs)) (h : Good P A (F + 1) t cs) : cs.length = P.cellsOf t ∧ ∀ f ∈ fs.toList, Good P A F f.type ((cs.drop f.offset).take (P.cellsOf f.type)) := by
  unfold Good at h
  rw [hu] at h
  exact h
theorem cell_int (hu : P.underlying t = some (.int .i64)) (h : Good P A (F + 1) t cs) : ∃ n : Int, cs = [.int .i64 n] ∧ -9223372036854775808 ≤ n ∧ n < 9223372036854775808 := by
  unfold Good at h
  rw [hu] at h
  obtain ⟨n, h1, h2⟩ := h
  exact ⟨n, h1, wfI64 h2⟩
theorem cell_str (hu : P.underlying t = some .string) (h : Good P A (F + 1) t cs) : ∃ s : ByteArray, cs = [.string s] ∧ s.size < 2 ^ 50 := by
  unfold Good at h
  rw [hu] at h
  obtain ⟨n, h1, h2⟩ := h
  exact ⟨n, h1, Nat.lt_of_le_of_lt h2 reach_lt⟩
theorem cell_bool (hu : P.underlying t = some .bool) (h : Good P A (F + 1) t cs) : ∃ b, cs = [.bool b] := by
  unfold Good at h
  rw [hu] at h
  exact h
end
end Go.AS


namespace Go.AS
open Go Go.RowKit Go.WideShapes
set_option linter.unusedVariables false
set_option linter.unusedSimpArgs false

/-! One of some laid variables: a table of numbers. -/
section
variable {P : Program} {w : World}
end
end Go.AS


namespace Go.AS
open Go Go.RowKit Go.WideShapes
set_option linter.unusedVariables false
set_option linter.unusedSimpArgs false

/-! One of some laid variables: a table of texts. -/
section
variable {H : Type} {enc : TypeId × Value → H} {P : Program} {w : World}
end
end Go.AS


namespace Go.AS
open Go Go.RowKit Go.WideShapes
set_option linter.unusedVariables false
set_option linter.unusedSimpArgs false

/-! Arguments that are slices of structs. -/
section
variable {P : Program} {A : AH} {t e : TypeId} {v : Value} {F sz : Nat}
theorem rows_flat (sz : Nat) : ∀ (n : Nat) (rc : List Value), rc.length = n * sz → ((List.range n).map fun j => (rc.drop (j * sz)).take sz).flatten = rc
  | 0, rc, h => by
    have : rc = [] := List.length_eq_zero_iff.1 (by omega)
    subst this; rfl
  | n + 1, rc, h => by
    rw [Nat.succ_mul] at h
    rw [List.range_succ_eq_map, List.map_cons, List.flatten_cons, List.map_map]
    have ih := rows_flat sz n (rc.drop sz) (by rw [List.length_drop]; omega)
    have e : (List.range n).map ((fun j => (rc.drop (j * sz)).take sz) ∘ Nat.succ) = (List.range n).map fun j => ((rc.drop sz).drop (j * sz)).take sz := by
      apply List.map_congr_left
      intro j _
      show (rc.drop ((j + 1) * sz)).take sz = _
      rw [List.drop_drop, Nat.succ_mul, Nat.add_comm]
    rw [e, ih, Nat.zero_mul, List.drop_zero, List.take_append_drop]
theorem good_rows (hu : P.underlying t = some (.slice e)) (hc : P.cellsOf e = sz) (h : GoodV P A (F + 1) t v) : ∃ rows : List (List Value), Sl A sz v rows.length rows.flatten ∧ rows.length * P.bytesOf e ≤ reachBytes ∧ ∀ r ∈ rows, Good P A F e r := by
  unfold GoodV at h
  rw [hu] at h
  simp only at h
  unfold Good at h
  rw [hu] at h
  obtain ⟨v', n, rc, h1, h2, h3, h4⟩ := h
  injection h1 with h1 _
  subst h1
  rw [hc] at h2 h4
  have hl : rc.length = n * sz := h2.1
  refine ⟨(List.range n).map fun j => (rc.drop (j * sz)).take sz, ?_, ?_, ?_⟩
  · rw [rows_flat sz n rc hl, List.length_map, List.length_range]
    exact h2
  · rw [List.length_map, List.length_range]
    exact h3
  · intro r hr
    rw [List.mem_map] at hr
    obtain ⟨j, hj, rfl⟩ := hr
    exact h4 j (List.mem_range.1 hj)
theorem list_map_of {α β : Type} {S : β → Prop} {f : α → β} {R : α → Prop} (h : ∀ b, S b → ∃ a, b = f a ∧ R a) : ∀ (l : List β), (∀ b ∈ l, S b) → ∃ r : List α, l = r.map f ∧ ∀ a ∈ r, R a
  | [], _ => ⟨[], rfl, fun a h => by cases h⟩
  | b :: l, hl => by
    obtain ⟨a, ha, hR⟩ := h b (hl b (by simp))
    obtain ⟨r, hr, hS⟩ := list_map_of h l (fun b hb => hl b (by simp [hb]))
    subst ha hr
    exact ⟨a :: r, rfl, List.forall_mem_cons.2 ⟨hR, hS⟩⟩
/-- Elements that lead nowhere. -/
theorem law_rows {α : Type} {f : α → List Value} {R : α → Prop} (hu : P.underlying t = some (.slice e)) (hc : P.cellsOf e = sz) (hb : 0 < P.bytesOf e) (hel : ∀ cs, Good P A F e cs → ∃ x, cs = f x ∧ R x) (h : GoodV P A (F + 1) t v) :
    ∃ l : List α, Sl A sz v (l.map f).length (l.map f).flatten ∧ l.length < 2 ^ 50 ∧ ∀ x ∈ l, R x := by
  obtain ⟨rows, h1, h2, h3⟩ := good_rows hu hc h
  obtain ⟨l, rfl, hR⟩ := list_map_of hel rows h3
  rw [List.length_map] at h2
  exact ⟨l, h1, le_mul_of hb h2, hR⟩
end
end Go.AS
namespace Go.AS
open Go
theorem ba_toList_inj {a b : ByteArray} (h : a.toList = b.toList) : a = b := by
  rw [toList_data, toList_data] at h
  apply ByteArray.ext
  exact Array.toList_inj.1 h
/-- Texts compared. -/
theorem eq_strD (a b : ByteArray) : binA .eql (.string a) (.string b) = some (.bool (decide (a = b))) := by
  simp only [binA]
  congr 2
  by_cases h : a = b
  · rw [decide_eq_true h, h]; simp
  · rw [decide_eq_false h]
    rw [beq_eq_false_iff_ne]
    exact fun e => h (ba_toList_inj e)
end Go.AS


namespace Go.AS
open Go Go.RowKit
set_option linter.unusedVariables false
set_option linter.unusedSimpArgs false

/-! A slice's room, parted at a call's entry; whether two slices overlap. -/
section
variable {G : Nat} {P : Program} {μ : Mu} {A : AH} {w : World}
end
end Go.AS


namespace Go.AS
open Go
set_option linter.unusedVariables false
set_option linter.unusedSimpArgs false

/-! Rules for maps and deferred calls (stepM: hand it to «H»; «M» of step.py does so). -/
section
variable {G : Nat} {P : Program} {a : AT} {A B : AH} {K : Value → AH → Prop} {i j n : Nat} {b : Blk} {m : KM} {z k v u : Value} {es : List (Value × Value)} {ok : Bool}
theorem W1_dfr {f : FuncId} {xs : List Operand} : W1 G P a A (.dfr f xs) K = ok1 (sDfr A (a dsl) (.func (.func f) (xs.map (ev a)).toArray #[])) K := id rfl
theorem W1_mkm : W1 G P a A .mkm K = K (.map (some A.length)) (A ++ [.mp []]) := by unfold W1; exact ex2
theorem W1_mlook {x y : Operand} : W1 G P a A (.mlook m z ok x y) K = ok1 (sMlook A m z ok (ev a x) (ev a y)) K := id rfl
theorem W1_mlen {x : Operand} : W1 G P a A (.mlen x) K = ok1 (sMlen A (ev a x)) K := id rfl
theorem W1_mupd {x y t : Operand} : W1 G P a A (.mupd m x y t) K = ok1 (sMupd A m (ev a x) (ev a y) (ev a t)) K := id rfl
theorem W1_mdl {x y : Operand} : W1 G P a A (.mdl m x y) K = ok1 (sMdl A m (ev a x) (ev a y)) K := id rfl
theorem rd_mlook {ρ : Operand → Value} {x y : Operand} : rdB ρ (.mlook m z ok x y) = blkOf (ρ x) := id rfl
theorem rd_mlen {ρ : Operand → Value} {x : Operand} : rdB ρ (.mlen x) = blkOf (ρ x) := id rfl
theorem rd_mkm {ρ : Operand → Value} : rdB ρ .mkm = [] := id rfl
theorem rd_mupd {ρ : Operand → Value} {x y t : Operand} : rdB ρ (.mupd m x y t) = [] := id rfl
theorem rd_mdl {ρ : Operand → Value} {x y : Operand} : rdB ρ (.mdl m x y) = [] := id rfl
theorem blk_map : blkOf (.map (some i)) = [i] := id rfl
theorem blk_mnil : blkOf (.map none) = [] := id rfl
theorem sDfr_at {vs : List Value} {x : Value} : sDfr A (.tuple vs.toArray) x = some (.tuple (x :: vs).toArray, A) := by
  unfold sDfr; simp
theorem sDfr_nil {x : Value} : sDfr A undef x = some (.tuple [x].toArray, A) := by
  show sDfr A (.tuple ([] : List Value).toArray) x = _
  exact sDfr_at
theorem postD_normal {rs : List RV} {S : Value → AH → Prop} : postD G P rs S .normal a A = ∃ vs, resVs a A rs = some vs ∧ ∃ ds, a dsl = .tuple ds ∧ runD G P (S (tupleOf vs)) ds.toList A := id rfl
theorem postD_ret {rs : List RV} {S : Value → AH → Prop} : postD G P rs S .ret a A = ∃ vs, resVs a A rs = some vs ∧ ∃ ds, a dsl = .tuple ds ∧ runD G P (S (tupleOf vs)) ds.toList A := id rfl
theorem ACallsD.mono {f : FuncId} {args : List Value} {Q Q' : AH → Prop} (h : ACallsD G P f args Q A) (hq : ∀ A', Q A' → Q' A') : ACallsD G P f args Q' A :=
  fun μ args' w h1 h2 h3 => let ⟨c, d⟩ := h μ args' w h1 h2 h3; ⟨c, d.mono fun e u' w' ⟨v', μ', A', a, b, c, d, q⟩ => ⟨v', μ', A', a, b, c, d, hq _ q⟩⟩

/-- A map, what it is. -/
def mpOf : Blk → Option (List (Value × Value))
  | .mp es => some es
  | _ => none
def mapAt (A : AH) (i : Nat) : Option (List (Value × Value)) := (A[i]?).bind mpOf
theorem mpOf_mp : mpOf (.mp es) = some es := id rfl
theorem mpOf_row {cs : List Value} {st : St} {sz : Nat} {ex : Bool} : mpOf (.row cs st sz ex) = none := id rfl
theorem rowOf_mp : rowOf (.mp es) = none := id rfl
theorem mapAt_app : mapAt (A ++ [b]) i = selN i A.length (mpOf b) (mapAt A i) none := by
  unfold mapAt selN
  split
  · subst_vars; simp
  · split
    · rw [List.getElem?_append_left (by assumption)]
    · rw [List.getElem?_eq_none (by simp; omega)]; rfl
theorem mapAt_set : mapAt (A.set j b) i = selS i j A.length (mpOf b) (mapAt A i) none := by
  unfold mapAt selS
  split
  · subst_vars
    split
    · rw [List.getElem?_set_self (by assumption)]; rfl
    · rw [List.getElem?_eq_none (by simp; omega)]; rfl
  · rw [List.getElem?_set_ne (by omega)]
theorem mapAt_of (h : A[i]? = some (.mp es)) : mapAt A i = some es := by
  unfold mapAt; rw [h]; rfl
theorem mapAt_get (h : mapAt A i = some es) : A[i]? = some (.mp es) := by
  unfold mapAt at h
  cases hb : A[i]? with
  | none => rw [hb] at h; cases h
  | some b =>
    rw [hb, Option.bind_some] at h
    cases b with
    | mp e => injection h with h; subst h; rfl
    | _ => cases h
theorem mapAt_lt (h : mapAt A i = some es) : i < A.length := lt_of_get (mapAt_get h)
theorem Le.map (h : Le A B) (k : mapAt A i = some es) : mapAt B i = some es := mapAt_of (h.get (mapAt_get k))
def lookQ (r : Option (List (Value × Value))) (m : KM) (z : Value) (ok : Bool) (k : Value) (A : AH) : Option (Value × AH) := match r with
  | some es => if keyOk m k ∧ mapOk m es then some (lookRes ok z (mget k es), A) else none
  | none => none
theorem lookR : sMlook A m z ok (.map (some i)) k = lookQ (mapAt A i) m z ok k A := by
  unfold sMlook lookQ mapAt
  simp only
  cases A[i]? with
  | none => rfl
  | some b => cases b <;> rfl
theorem lookQ_some (h1 : keyOk m k = true) (h2 : mapOk m es = true) : lookQ (some es) m z ok k A = some (lookRes ok z (mget k es), A) := by
  unfold lookQ; simp [h1, h2]
theorem lookN (h1 : keyOk m k = true) : sMlook A m z ok (.map none) k = some (lookRes ok z none, A) := by
  unfold sMlook; simp [h1]
def lenQ (r : Option (List (Value × Value))) (A : AH) : Option (Value × AH) := match r with
  | some es => some (.int .i64 es.length, A)
  | none => none
theorem mlenR : sMlen A (.map (some i)) = lenQ (mapAt A i) A := by
  unfold sMlen lenQ mapAt
  simp only
  cases A[i]? with
  | none => rfl
  | some b => cases b <;> rfl
theorem lenQ_some : lenQ (some es) A = some (.int .i64 es.length, A) := id rfl
def updQ (r : Option (List (Value × Value))) (i : Nat) (m : KM) (k v : Value) (A : AH) : Option (Value × AH) := match r with
  | some es => if keyOk m k ∧ mapOk m es then some (undef, A.set i (.mp (mput k v es))) else none
  | none => none
theorem updR : sMupd A m (.map (some i)) k v = updQ (mapAt A i) i m k v A := by
  unfold sMupd updQ mapAt
  simp only
  cases A[i]? with
  | none => rfl
  | some b => cases b <;> rfl
theorem updQ_some (h1 : keyOk m k = true) (h2 : mapOk m es = true) : updQ (some es) i m k v A = some (undef, A.set i (.mp (mput k v es))) := by
  unfold updQ; simp [h1, h2]
def delQ (r : Option (List (Value × Value))) (i : Nat) (m : KM) (k : Value) (A : AH) : Option (Value × AH) := match r with
  | some es => if keyOk m k ∧ mapOk m es then some (undef, A.set i (.mp (mdel k es))) else none
  | none => none
theorem delR : sMdl A m (.map (some i)) k = delQ (mapAt A i) i m k A := by
  unfold sMdl delQ mapAt
  simp only
  cases A[i]? with
  | none => rfl
  | some b => cases b <;> rfl
theorem delQ_some (h1 : keyOk m k = true) (h2 : mapOk m es = true) : delQ (some es) i m k A = some (undef, A.set i (.mp (mdel k es))) := by
  unfold delQ; simp [h1, h2]
theorem keyOk_s {s : ByteArray} : keyOk .str (.string s) = true := id rfl
theorem keyOk_i {q : IntKind} {x : Int} : keyOk (.int q) (.int q x) = true := by simp [keyOk]
theorem mapOk_nil : mapOk m [] = true := id rfl
theorem look_t {v : Value} : lookRes true z (some v) = .tuple #[v, .bool true] := id rfl
theorem look_tn : lookRes true z none = .tuple #[z, .bool false] := id rfl
theorem look_f {v : Value} : lookRes false z (some v) = v := id rfl
theorem look_fn : lookRes false z none = z := id rfl
theorem mget_nil : mget k [] = none := id rfl
theorem nilcR {x : Addr} : sNilc A (.pointer (some x)) = some (.pointer (some x), A) := id rfl
theorem boxS {s : ByteArray} : sBox A (.string s) = some (.pointer (some ⟨A.length, 0, none⟩), A ++ [.row [.string s] .own 0 true]) := id rfl
theorem boxI {q : IntKind} {x : Int} : sBox A (.int q x) = some (.pointer (some ⟨A.length, 0, none⟩), A ++ [.row [.int q x] .own 0 true]) := id rfl
theorem boxB {x : Bool} : sBox A (.bool x) = some (.pointer (some ⟨A.length, 0, none⟩), A ++ [.row [.bool x] .own 0 true]) := id rfl
theorem boxP {x : Option Addr} : sBox A (.pointer x) = some (.pointer (some ⟨A.length, 0, none⟩), A ++ [.row [.pointer x] .own 0 true]) := id rfl
theorem boxL {x : Option Addr} {n c : Nat} : sBox A (.slice x n c) = some (.pointer (some ⟨A.length, 0, none⟩), A ++ [.row [.slice x n c] .own 0 true]) := id rfl

theorem keq_comm {a b : Value} (ha : keyOk m a = true) (hb : keyOk m b = true) : keq a b = keq b a := by
  rw [Bool.eq_iff_iff, keq_iff ha hb, keq_iff hb ha]
  exact ⟨Eq.symm, Eq.symm⟩
theorem mput_notin {v x : Value} (hk : keyOk m k = true) (hx : keyOk m x = true) (hne : keq k x = false) : ∀ (es : List (Value × Value)), es.all (fun f => !keq f.1 x) = true → (mput k v es).all (fun f => !keq f.1 x) = true
  | [], _ => by simp [mput, hne]
  | e :: r, h => by
    simp only [List.all_cons, Bool.and_eq_true] at h
    simp only [mput]
    split
    · simp only [List.all_cons, Bool.and_eq_true]; exact ⟨by simp [hne], h.2⟩
    · simp only [List.all_cons, Bool.and_eq_true]; exact ⟨h.1, mput_notin hk hx hne r h.2⟩
theorem mapOk_put {v : Value} (hk : keyOk m k = true) : ∀ (es : List (Value × Value)), mapOk m es = true → mapOk m (mput k v es) = true
  | [], _ => by simp [mput, mapOk, hk, nodupK]
  | e :: r, h => by
    unfold mapOk at h
    simp only [List.all_cons, nodupK, Bool.and_eq_true] at h
    obtain ⟨⟨h1, h2⟩, h3, h4⟩ := h
    simp only [mput]
    by_cases he : keq e.1 k = true
    · rw [if_pos he]
      have := (keq_iff h1 hk).1 he
      unfold mapOk
      simp only [List.all_cons, nodupK, Bool.and_eq_true]
      exact ⟨⟨hk, h2⟩, by rw [← this]; exact h3, h4⟩
    · rw [if_neg he]
      have ih := mapOk_put (v := v) hk r (by unfold mapOk; simp only [Bool.and_eq_true]; exact ⟨h2, h4⟩)
      unfold mapOk at ih ⊢
      simp only [List.all_cons, nodupK, Bool.and_eq_true] at ih ⊢
      refine ⟨⟨h1, ih.1⟩, mput_notin hk h1 ?_ r h3, ih.2⟩
      rw [keq_comm hk h1]
      simpa using he
theorem mget_put {k' : Value} (hk : keyOk m k = true) (hk' : keyOk m k' = true) : ∀ (es : List (Value × Value)), es.all (fun e => keyOk m e.1) = true → mget k' (mput k v es) = if keq k k' = true then some v else mget k' es
  | [], _ => by simp [mput, mget]
  | e :: r, h => by
    simp only [List.all_cons, Bool.and_eq_true] at h
    simp only [mput]
    by_cases he : keq e.1 k = true
    · rw [if_pos he]
      have := (keq_iff h.1 hk).1 he
      simp only [mget, this]
      split <;> rfl
    · rw [if_neg he]
      simp only [mget]
      rw [mget_put hk hk' r h.2]
      by_cases h2 : keq e.1 k' = true
      · have h3 := (keq_iff h.1 hk').1 h2
        have h4 : keq k k' = false := by
          rw [← h3, keq_comm hk h.1]
          simpa using he
        simp [h2, h4]
      · simp [h2]
theorem keq_str {a b : ByteArray} : keq (.string a) (.string b) = decide (a = b) := id rfl
end
theorem stepM : (((type_of% @W1_dfr ∧ type_of% @W1_mkm) ∧ (type_of% @W1_mlook ∧ type_of% @W1_mlen)) ∧ ((type_of% @W1_mupd ∧ type_of% @W1_mdl) ∧ (type_of% @rd_mlook ∧ type_of% @rd_mlen))) ∧ ((((type_of% @rd_mkm ∧ type_of% @rd_mupd) ∧ (type_of% @rd_mdl ∧ type_of% @blk_map)) ∧ ((type_of% @blk_mnil ∧ type_of% @sDfr_nil) ∧ (type_of% @postD_normal ∧ type_of% @postD_ret))) ∧ ((((type_of% @mpOf_mp ∧ type_of% @mpOf_row) ∧ (type_of% @rowOf_mp ∧ type_of% @mapAt_app)) ∧ ((type_of% @mapAt_set ∧ type_of% @lookR) ∧ (type_of% @lookQ_some ∧ type_of% @lookN))) ∧ ((((type_of% @mlenR ∧ type_of% @lenQ_some) ∧ (type_of% @updR ∧ type_of% @updQ_some)) ∧ ((type_of% @delR ∧ type_of% @delQ_some) ∧ (type_of% @keyOk_s ∧ type_of% @keyOk_i))) ∧ ((type_of% @mapOk_nil ∧ type_of% @look_t) ∧ ((type_of% @look_tn ∧ type_of% @look_f) ∧ (type_of% @look_fn ∧ (type_of% @mget_nil ∧ ((type_of% @nilcR ∧ type_of% @boxS) ∧ (type_of% @boxI ∧ (type_of% @boxB ∧ (type_of% @boxP ∧ type_of% @boxL))))))))))) :=
  ⟨⟨⟨⟨@W1_dfr, @W1_mkm⟩, ⟨@W1_mlook, @W1_mlen⟩⟩, ⟨⟨@W1_mupd, @W1_mdl⟩, ⟨@rd_mlook, @rd_mlen⟩⟩⟩, ⟨⟨⟨⟨@rd_mkm, @rd_mupd⟩, ⟨@rd_mdl, @blk_map⟩⟩, ⟨⟨@blk_mnil, @sDfr_nil⟩, ⟨@postD_normal, @postD_ret⟩⟩⟩, ⟨⟨⟨⟨@mpOf_mp, @mpOf_row⟩, ⟨@rowOf_mp, @mapAt_app⟩⟩, ⟨⟨@mapAt_set, @lookR⟩, ⟨@lookQ_some, @lookN⟩⟩⟩, ⟨⟨⟨⟨@mlenR, @lenQ_some⟩, ⟨@updR, @updQ_some⟩⟩, ⟨⟨@delR, @delQ_some⟩, ⟨@keyOk_s, @keyOk_i⟩⟩⟩, ⟨⟨@mapOk_nil, @look_t⟩, ⟨⟨@look_tn, @look_f⟩, ⟨@look_fn, ⟨@mget_nil, ⟨⟨@nilcR, @boxS⟩, ⟨@boxI, ⟨@boxB, ⟨@boxP, @boxL⟩⟩⟩⟩⟩⟩⟩⟩⟩⟩⟩⟩
end Go.AS
