import Derived.Below
import Derived.Calls
import Derived.Laws.Rows
namespace Go.AS
open Go
set_option linter.unusedVariables false
set_option linter.unusedSimpArgs false

/-- What becomes of an abstract block: read only, the call's own, gone. -/
inductive St where | ro | own | dead
  deriving DecidableEq

/-- An abstract block: a row of cells (how it stands, how many cells an element has, is nothing behind it); a map; an iterator over a string. -/
inductive Blk where
  | row (cs : List Value) (st : St) (sz : Nat) (ex : Bool)
  | mp (es : List (Value × Value))
  | sit (s : ByteArray) (pos : Nat)

abbrev AH := List Blk
abbrev AT := Nat → Value

structure Ent where
  blk : Nat
  off : Nat
  lim : Nat
  sz : Nat

abbrev Mu := List Ent

def Blk.isOwn : Blk → Bool
  | .row _ .own _ _ => true
  | .row _ _ _ _ => false
  | .mp _ => true
  | .sit _ _ => true
def Blk.alive : Blk → Bool
  | .row _ .dead _ _ => false
  | _ => true

def flatV : Value → Bool
  | .bool _ | .int _ _ | .float _ _ | .complex _ _ _ | .string _ | .pointer none | .slice none _ _ | .map none | .chan none | .nilFunc | .nilIface => true
  | _ => false

def Fn.plain : Fn → Bool
  | .func _ | .method _ | .methodOf _ _ | .via _ _ _ _ => true
  | .yield _ => false

/-- The address of a slice behind which, and in which, nothing is. -/
def zmk : Addr := ⟨0, 0, some 0⟩

/-- An abstract value, and the machine's. -/
inductive VR (μ : Mu) : Value → Value → Prop
  | flat {v : Value} (h : flatV v = true) : VR μ v v
  | ptr {i o : Nat} {e : Ent} (h : μ[i]? = some e) : VR μ (.pointer (some ⟨i, o, none⟩)) (.pointer (some ⟨e.blk, e.off + o, none⟩))
  | slc {i o n c c' : Nat} {e : Ent} (h : μ[i]? = some e) (h1 : n ≤ c) (h2 : c ≤ c') (h4 : o + c' * e.sz ≤ e.lim) :
      VR μ (.slice (some ⟨i, o, none⟩) n c) (.slice (some ⟨e.blk, e.off + o, none⟩) n c')
  | sle {i o : Nat} {b : Addr} : VR μ (.slice (some ⟨i, o, none⟩) 0 0) (.slice (some b) 0 0)
  | slz {b : Addr} : VR μ (.slice (some zmk) 0 0) (.slice (some b) 0 0)
  | map {i : Nat} {e : Ent} (h : μ[i]? = some e) : VR μ (.map (some i)) (.map (some e.blk))
  | func {fn : Fn} {a b a' b' : Array Value} (hf : Fn.plain fn = true) (h1 : a.size = a'.size) (h2 : ∀ (j : Nat) x y, a[j]? = some x → a'[j]? = some y → VR μ x y)
      (h3 : b.size = b'.size) (h4 : ∀ (j : Nat) x y, b[j]? = some x → b'[j]? = some y → VR μ x y) : VR μ (.func fn a b) (.func fn a' b')
  | iface {t : TypeId} {v v' : Value} (h : VR μ v v') : VR μ (.iface t v) (.iface t v')
  | agg {a a' : Array Value} (h1 : a.size = a'.size) (h2 : ∀ (j : Nat) x y, a[j]? = some x → a'[j]? = some y → VR μ x y) : VR μ (.agg a) (.agg a')
  | tuple {a a' : Array Value} (h1 : a.size = a'.size) (h2 : ∀ (j : Nat) x y, a[j]? = some x → a'[j]? = some y → VR μ x y) : VR μ (.tuple a) (.tuple a')

theorem pre_get {μ r : Mu} {i : Nat} {e : Ent} (h : μ[i]? = some e) : (μ ++ r)[i]? = some e := by
  have : i < μ.length := by
    rcases Nat.lt_or_ge i μ.length with h' | h'
    · exact h'
    · rw [List.getElem?_eq_none h'] at h; cases h
  rw [List.getElem?_append_left this, h]

theorem VR.mono {μ r : Mu} {v v' : Value} (h : VR μ v v') : VR (μ ++ r) v v' := by
  induction h with
  | flat h => exact .flat h
  | ptr h => exact .ptr (pre_get h)
  | slc h h1 h2 h4 => exact .slc (pre_get h) h1 h2 h4
  | sle => exact .sle
  | slz => exact .slz
  | map h => exact .map (pre_get h)
  | func hf h1 _ h3 _ ih2 ih4 => exact .func hf h1 (fun j x y hx hy => ih2 j x y hx hy) h3 (fun j x y hx hy => ih4 j x y hx hy)
  | iface _ ih => exact .iface ih
  | agg h1 _ ih => exact .agg h1 (fun j x y hx hy => ih j x y hx hy)
  | tuple h1 _ ih => exact .tuple h1 (fun j x y hx hy => ih j x y hx hy)

theorem VR.undef (μ : Mu) : VR μ undef undef := .tuple rfl (fun j x y hx _ => by simp at hx)

/-- A value that leads nowhere. -/
theorem VR.eq_of_flat {μ : Mu} {v v' : Value} (h : VR μ v v') (hf : flatV v = true) : v' = v := by
  cases h <;> first | rfl | (simp [flatV] at hf)

theorem VR.bool {μ : Mu} {b : Bool} {v' : Value} (h : VR μ (.bool b) v') : v' = .bool b := h.eq_of_flat rfl
theorem VR.int {μ : Mu} {k : IntKind} {n : Int} {v' : Value} (h : VR μ (.int k n) v') : v' = .int k n := h.eq_of_flat rfl
theorem VR.string {μ : Mu} {s : ByteArray} {v' : Value} (h : VR μ (.string s) v') : v' = .string s := h.eq_of_flat rfl

theorem VR.oneCell {μ : Mu} {v v' : Value} (h : VR μ v v') : v'.oneCell' = v.oneCell' := by
  cases h <;> first | rfl

/-- The abstract heap, and the machine's world. -/
structure Rel (G : Nat) (μ : Mu) (A : AH) (w : World) : Prop where
  len : μ.length = A.length
  glo : ∀ g, g < G → ∃ e : Ent, μ[g]? = some e ∧ e.blk = g ∧ e.off = 0
  lt : ∀ (i : Nat) (e : Ent), μ[i]? = some e → e.blk < w.heap.size
  row : ∀ (i : Nat) (cs : List Value) (st : St) (sz : Nat) (ex : Bool) (e : Ent), A[i]? = some (.row cs st sz ex) → μ[i]? = some e → st ≠ .dead →
    ∃ rc T fr, w.heap[e.blk]? = some (.cells rc T fr) ∧ (∀ (j : Nat) v, cs[j]? = some v → v.oneCell' = true ∧ ∃ v', rc[e.off + j]? = some v' ∧ VR μ v v') ∧
      cs.length ≤ e.lim ∧ (st = .own → rc.size = e.off + e.lim ∧ (fr.1 = fr.2 ∨ rc.size ≤ fr.1) ∧ (ex = true → e.lim = cs.length))
  szs : ∀ (i : Nat) cs st sz ex (e : Ent), A[i]? = some (.row cs st sz ex) → μ[i]? = some e → e.sz = sz
  sit : ∀ (i : Nat) s p (e : Ent), A[i]? = some (.sit s p) → μ[i]? = some e → w.heap[e.blk]? = some (.stringIter s p)
  mp : ∀ (i : Nat) es (e : Ent), A[i]? = some (.mp es) → μ[i]? = some e → ∃ mes clock, w.heap[e.blk]? = some (.map mes clock) ∧ mes.size = es.length ∧
      (∀ (j : Nat) m k v, mes[j]? = some m → es[j]? = some (k, v) → VR μ k m.key ∧ VR μ v m.val ∧ m.born < clock) ∧ mes.toList.Pairwise (fun a b => a.born < b.born)
  apart : ∀ (i k : Nat) b b' (e e' : Ent), A[i]? = some b → A[k]? = some b' → b.isOwn = true → b'.alive = true → i ≠ k → μ[i]? = some e → μ[k]? = some e' → e.blk ≠ e'.blk

/-- From one state to a later one. -/
structure Stp (μ : Mu) (A : AH) (w : World) (μ' : Mu) (A' : AH) (w' : World) : Prop where
  pre : ∃ r, μ' = μ ++ r
  os : w'.os = w.os
  tape : w'.tape = w.tape
  output : w'.output = w.output
  size : w.heap.size ≤ w'.heap.size
  keep : ∀ r, r < w.heap.size → (∀ (i : Nat) b (e : Ent), A[i]? = some b → b.isOwn = true → μ[i]? = some e → e.blk ≠ r) → w'.heap[r]? = w.heap[r]?
  ownb : ∀ (i : Nat) b (e : Ent), A'[i]? = some b → b.isOwn = true → μ'[i]? = some e → e.blk < w.heap.size → ∃ (i0 : Nat) (b0 : Blk) (e0 : Ent), A[i0]? = some b0 ∧ b0.isOwn = true ∧ μ[i0]? = some e0 ∧ e0.blk = e.blk

theorem Stp.refl (μ : Mu) (A : AH) (w : World) : Stp μ A w μ A w :=
  ⟨⟨[], by simp⟩, rfl, rfl, rfl, Nat.le_refl _, fun _ _ _ => rfl, fun i b e h1 h2 h3 _ => ⟨i, b, e, h1, h2, h3, rfl⟩⟩

theorem Stp.trans {μ μ1 μ2 : Mu} {A A1 A2 : AH} {w w1 w2 : World} (h : Stp μ A w μ1 A1 w1) (k : Stp μ1 A1 w1 μ2 A2 w2) : Stp μ A w μ2 A2 w2 := by
  obtain ⟨r, rfl⟩ := h.pre
  obtain ⟨r', rfl⟩ := k.pre
  refine ⟨⟨r ++ r', by simp⟩, k.os.trans h.os, k.tape.trans h.tape, k.output.trans h.output, Nat.le_trans h.size k.size, ?_, ?_⟩
  · intro x hx hno
    rw [k.keep x (Nat.lt_of_lt_of_le hx h.size) ?_, h.keep x hx hno]
    intro i b e h1 h2 h3 heq
    subst heq
    obtain ⟨i0, b0, e0, g1, g2, g3, g4⟩ := h.ownb i b e h1 h2 h3 hx
    exact hno i0 b0 e0 g1 g2 g3 g4
  · intro i b e h1 h2 h3 h4
    obtain ⟨i1, b1, e1, g1, g2, g3, g4⟩ := k.ownb i b e h1 h2 h3 (Nat.lt_of_lt_of_le h4 h.size)
    obtain ⟨i0, b0, e0, f1, f2, f3, f4⟩ := h.ownb i1 b1 e1 g1 g2 g3 (by omega)
    exact ⟨i0, b0, e0, f1, f2, f3, by omega⟩

theorem lt_of_get {α : Type} {l : List α} {i : Nat} {x : α} (h : l[i]? = some x) : i < l.length := by
  rcases Nat.lt_or_ge i l.length with h' | h'
  · exact h'
  · rw [List.getElem?_eq_none h'] at h; cases h

/-- A draw turns nothing. -/
theorem Rel.draw {G : Nat} {μ : Mu} {A : AH} {w : World} (h : Rel G μ A w) (n : Nat) : Rel G μ A { w with drawn := n } :=
  ⟨h.len, h.glo, h.lt, h.row, h.szs, h.sit, h.mp, h.apart⟩
theorem Stp.draw (μ : Mu) (A : AH) (w : World) (n : Nat) : Stp μ A w μ A { w with drawn := n } :=
  ⟨⟨[], by simp⟩, rfl, rfl, rfl, Nat.le_refl _, fun _ _ _ => rfl, fun i b e h1 h2 h3 _ => ⟨i, b, e, h1, h2, h3, rfl⟩⟩

/-- A new block. -/
theorem push_get {α : Type} {l : List α} {x y : α} {i : Nat} (h : (l ++ [x])[i]? = some y) : (i < l.length ∧ l[i]? = some y) ∨ (i = l.length ∧ y = x) := by
  rcases Nat.lt_trichotomy i l.length with h' | h' | h'
  · rw [List.getElem?_append_left h'] at h; exact .inl ⟨h', h⟩
  · subst h'; simp at h; exact .inr ⟨rfl, h.symm⟩
  · rw [List.getElem?_eq_none (by simp; omega)] at h; cases h

end Go.AS
