/- Lemmas for the proof of a given statement; no conditions. -/
import Derived.Below
import Derived.Calls
import Derived.Laws.Rows
import Derived.Laws.Cells
import Derived.Laws.IdiomCopy
import Derived.Laws.Entries
import Derived.ChangeKeysEq
import Derived.DeepKeys
import Derived.Laws.StructEq
set_option maxHeartbeats 1000000

namespace Go.AS
open Go
set_option linter.unusedVariables false
set_option linter.unusedSimpArgs false

/-- What becomes of an abstract block: read only, the call's own, gone; the call's own that is no more written, but may be appended to once more (what was there may be read then, too). -/
inductive St where | ro | own | dead | fz
  deriving DecidableEq

/-- An abstract block: a row of cells (how it stands, how many cells an element has, is nothing behind it); a map; an iterator over a string. -/
inductive Blk where
  | row (cs : List Value) (st : St) (sz : Nat) (ex : Bool)
  | mp (es : List (Value × Value))
  | sit (s : ByteArray) (pos : Nat)

abbrev AH := List Blk
abbrev AT := Nat → Value

structure Ent where
  blk : Nat
  off : Nat
  lim : Nat
  sz : Nat

abbrev Mu := List Ent

def Blk.isOwn : Blk → Bool
  | .row _ .own _ _ => true
  | .row _ .fz _ _ => true
  | .row _ _ _ _ => false
  | .mp _ => true
  | .sit _ _ => true
def Blk.alive : Blk → Bool
  | .row _ .dead _ _ => false
  | _ => true

/-- The call's own, writable or not. -/
def St.mine : St → Bool
  | .own => true
  | .fz => true
  | _ => false

def flatV : Value → Bool
  | .bool _ | .int _ _ | .float _ _ | .complex _ _ _ | .string _ | .pointer none | .slice none _ _ | .map none | .chan none | .nilFunc | .nilIface => true
  | _ => false

def Fn.plain : Fn → Bool
  | .func _ | .method _ | .methodOf _ _ | .via _ _ _ _ => true
  | .yield _ => false

/-- The address of a slice behind which, and in which, nothing is. -/
def zmk : Addr := ⟨0, 0, some 0⟩

/-- An abstract value, and the machine's. -/
inductive VR (μ : Mu) : Value → Value → Prop
  | flat {v : Value} (h : flatV v = true) : VR μ v v
  | ptr {i o : Nat} {e : Ent} (h : μ[i]? = some e) : VR μ (.pointer (some ⟨i, o, none⟩)) (.pointer (some ⟨e.blk, e.off + o, none⟩))
  | slc {i o n c c' : Nat} {e : Ent} (h : μ[i]? = some e) (h1 : n ≤ c) (h2 : c ≤ c') (h4 : o + c' * e.sz ≤ e.lim) (h5 : e.sz ≠ 0 → o + c' * e.sz = e.lim) :
      VR μ (.slice (some ⟨i, o, none⟩) n c) (.slice (some ⟨e.blk, e.off + o, none⟩) n c')
  | sle {i o : Nat} {b : Addr} (h : i < μ.length) : VR μ (.slice (some ⟨i, o, none⟩) 0 0) (.slice (some b) 0 0)
  | slz {b : Addr} : VR μ (.slice (some zmk) 0 0) (.slice (some b) 0 0)
  /-- A slice of which nothing is asked but its length (s[l:h:m]). -/
  | slo {i o n c c' : Nat} {b : Addr} (h : n ≤ c') : VR μ (.slice (some ⟨i, o, some 1⟩) n (c + 1)) (.slice (some b) n c')
  | map {i : Nat} {e : Ent} (h : μ[i]? = some e) : VR μ (.map (some i)) (.map (some e.blk))
  | func {fn : Fn} {a b a' b' : Array Value} (hf : Fn.plain fn = true) (h1 : a.size = a'.size) (h2 : ∀ (j : Nat) x y, a[j]? = some x → a'[j]? = some y → VR μ x y)
      (h3 : b.size = b'.size) (h4 : ∀ (j : Nat) x y, b[j]? = some x → b'[j]? = some y → VR μ x y) : VR μ (.func fn a b) (.func fn a' b')
  | iface {t : TypeId} {v v' : Value} (h : VR μ v v') : VR μ (.iface t v) (.iface t v')
  | agg {a a' : Array Value} (h1 : a.size = a'.size) (h2 : ∀ (j : Nat) x y, a[j]? = some x → a'[j]? = some y → VR μ x y) : VR μ (.agg a) (.agg a')
  | tuple {a a' : Array Value} (h1 : a.size = a'.size) (h2 : ∀ (j : Nat) x y, a[j]? = some x → a'[j]? = some y → VR μ x y) : VR μ (.tuple a) (.tuple a')

theorem pre_get {μ r : Mu} {i : Nat} {e : Ent} (h : μ[i]? = some e) : (μ ++ r)[i]? = some e := by
  have : i < μ.length := by
    rcases Nat.lt_or_ge i μ.length with h' | h'
    · exact h'
    · rw [List.getElem?_eq_none h'] at h; cases h
  rw [List.getElem?_append_left this, h]

theorem VR.mono {μ r : Mu} {v v' : Value} (h : VR μ v v') : VR (μ ++ r) v v' := by
  induction h with
  | flat h => exact .flat h
  | ptr h => exact .ptr (pre_get h)
  | slc h h1 h2 h4 h5 => exact .slc (pre_get h) h1 h2 h4 h5
  | sle h => exact .sle (by rw [List.length_append]; omega)
  | slz => exact .slz
  | slo h => exact .slo h
  | map h => exact .map (pre_get h)
  | func hf h1 _ h3 _ ih2 ih4 => exact .func hf h1 (fun j x y hx hy => ih2 j x y hx hy) h3 (fun j x y hx hy => ih4 j x y hx hy)
  | iface _ ih => exact .iface ih
  | agg h1 _ ih => exact .agg h1 (fun j x y hx hy => ih j x y hx hy)
  | tuple h1 _ ih => exact .tuple h1 (fun j x y hx hy => ih j x y hx hy)

theorem VR.undef (μ : Mu) : VR μ undef undef := .tuple rfl (fun j x y hx _ => by simp at hx)

/-- A value that leads nowhere. -/
theorem VR.eq_of_flat {μ : Mu} {v v' : Value} (h : VR μ v v') (hf : flatV v = true) : v' = v := by
  cases h <;> first | rfl | (simp [flatV] at hf)

theorem VR.bool {μ : Mu} {b : Bool} {v' : Value} (h : VR μ (.bool b) v') : v' = .bool b := h.eq_of_flat rfl
theorem VR.int {μ : Mu} {k : IntKind} {n : Int} {v' : Value} (h : VR μ (.int k n) v') : v' = .int k n := h.eq_of_flat rfl
theorem VR.string {μ : Mu} {s : ByteArray} {v' : Value} (h : VR μ (.string s) v') : v' = .string s := h.eq_of_flat rfl

theorem VR.oneCell {μ : Mu} {v v' : Value} (h : VR μ v v') : v'.oneCell' = v.oneCell' := by
  cases h <;> first | rfl

/-- The abstract heap, and the machine's world. -/
structure Rel (G : Nat) (μ : Mu) (A : AH) (w : World) : Prop where
  len : μ.length = A.length
  glo : ∀ g, g < G → ∃ e : Ent, μ[g]? = some e ∧ e.blk = g ∧ e.off = 0
  lt : ∀ (i : Nat) (e : Ent), μ[i]? = some e → e.blk < w.heap.size
  row : ∀ (i : Nat) (cs : List Value) (st : St) (sz : Nat) (ex : Bool) (e : Ent), A[i]? = some (.row cs st sz ex) → μ[i]? = some e → st ≠ .dead →
    ∃ rc T fr, w.heap[e.blk]? = some (.cells rc T fr) ∧ (∀ (j : Nat) v, cs[j]? = some v → v.oneCell' = true ∧ ∃ v', rc[e.off + j]? = some v' ∧ VR μ v v') ∧
      cs.length ≤ e.lim ∧ (st.mine = true → ((sz = 0 → e.off = 0) ∧ rc.size = e.off + e.lim) ∧ (fr.1 = fr.2 ∨ (sz = 1 ∧ rc.size ≤ fr.1)) ∧ (ex = true → e.lim = cs.length)) ∧ (ex = true → rc.size = e.off + cs.length)
  szs : ∀ (i : Nat) cs st sz ex (e : Ent), A[i]? = some (.row cs st sz ex) → μ[i]? = some e → e.sz = sz
  sit : ∀ (i : Nat) s p (e : Ent), A[i]? = some (.sit s p) → μ[i]? = some e → w.heap[e.blk]? = some (.stringIter s p)
  mp : ∀ (i : Nat) es (e : Ent), A[i]? = some (.mp es) → μ[i]? = some e → ∃ mes clock, w.heap[e.blk]? = some (.map mes clock) ∧ mes.size = es.length ∧
      (∀ (j : Nat) m k v, mes[j]? = some m → es[j]? = some (k, v) → VR μ k m.key ∧ VR μ v m.val ∧ m.born < clock) ∧ mes.toList.Pairwise (fun a b => a.born < b.born)
  apart : ∀ (i k : Nat) b b' (e e' : Ent), A[i]? = some b → A[k]? = some b' → b.isOwn = true → b'.alive = true → i ≠ k → μ[i]? = some e → μ[k]? = some e' → e.blk ≠ e'.blk

/-- From one state to a later one. -/
structure Stp (μ : Mu) (A : AH) (w : World) (μ' : Mu) (A' : AH) (w' : World) : Prop where
  pre : ∃ r, μ' = μ ++ r
  os : w'.os = w.os
  tape : w'.tape = w.tape
  output : w'.output = w.output
  size : w.heap.size ≤ w'.heap.size
  keep : ∀ r, r < w.heap.size → (∀ (i : Nat) b (e : Ent), A[i]? = some b → b.isOwn = true → μ[i]? = some e → e.blk ≠ r) → w'.heap[r]? = w.heap[r]?
  ownb : ∀ (i : Nat) b (e : Ent), A'[i]? = some b → b.isOwn = true → μ'[i]? = some e → e.blk < w.heap.size → ∃ (i0 : Nat) (b0 : Blk) (e0 : Ent), A[i0]? = some b0 ∧ b0.isOwn = true ∧ μ[i0]? = some e0 ∧ e0.blk = e.blk

theorem Stp.refl (μ : Mu) (A : AH) (w : World) : Stp μ A w μ A w :=
  ⟨⟨[], by simp⟩, rfl, rfl, rfl, Nat.le_refl _, fun _ _ _ => rfl, fun i b e h1 h2 h3 _ => ⟨i, b, e, h1, h2, h3, rfl⟩⟩

theorem Stp.trans {μ μ1 μ2 : Mu} {A A1 A2 : AH} {w w1 w2 : World} (h : Stp μ A w μ1 A1 w1) (k : Stp μ1 A1 w1 μ2 A2 w2) : Stp μ A w μ2 A2 w2 := by
  obtain ⟨r, rfl⟩ := h.pre
  obtain ⟨r', rfl⟩ := k.pre
  refine ⟨⟨r ++ r', by simp⟩, k.os.trans h.os, k.tape.trans h.tape, k.output.trans h.output, Nat.le_trans h.size k.size, ?_, ?_⟩
  · intro x hx hno
    rw [k.keep x (Nat.lt_of_lt_of_le hx h.size) ?_, h.keep x hx hno]
    intro i b e h1 h2 h3 heq
    subst heq
    obtain ⟨i0, b0, e0, g1, g2, g3, g4⟩ := h.ownb i b e h1 h2 h3 hx
    exact hno i0 b0 e0 g1 g2 g3 g4
  · intro i b e h1 h2 h3 h4
    obtain ⟨i1, b1, e1, g1, g2, g3, g4⟩ := k.ownb i b e h1 h2 h3 (Nat.lt_of_lt_of_le h4 h.size)
    obtain ⟨i0, b0, e0, f1, f2, f3, f4⟩ := h.ownb i1 b1 e1 g1 g2 g3 (by omega)
    exact ⟨i0, b0, e0, f1, f2, f3, by omega⟩

theorem lt_of_get {α : Type} {l : List α} {i : Nat} {x : α} (h : l[i]? = some x) : i < l.length := by
  rcases Nat.lt_or_ge i l.length with h' | h'
  · exact h'
  · rw [List.getElem?_eq_none h'] at h; cases h

/-- A draw turns nothing. -/
theorem Rel.draw {G : Nat} {μ : Mu} {A : AH} {w : World} (h : Rel G μ A w) (n : Nat) : Rel G μ A { w with drawn := n } :=
  ⟨h.len, h.glo, h.lt, h.row, h.szs, h.sit, h.mp, h.apart⟩
theorem Stp.draw (μ : Mu) (A : AH) (w : World) (n : Nat) : Stp μ A w μ A { w with drawn := n } :=
  ⟨⟨[], by simp⟩, rfl, rfl, rfl, Nat.le_refl _, fun _ _ _ => rfl, fun i b e h1 h2 h3 _ => ⟨i, b, e, h1, h2, h3, rfl⟩⟩

/-- A new block. -/
theorem push_get {α : Type} {l : List α} {x y : α} {i : Nat} (h : (l ++ [x])[i]? = some y) : (i < l.length ∧ l[i]? = some y) ∨ (i = l.length ∧ y = x) := by
  rcases Nat.lt_trichotomy i l.length with h' | h' | h'
  · rw [List.getElem?_append_left h'] at h; exact .inl ⟨h', h⟩
  · subst h'; simp at h; exact .inr ⟨rfl, h.symm⟩
  · rw [List.getElem?_eq_none (by simp; omega)] at h; cases h

end Go.AS


namespace Go.AS
open Go
set_option linter.unusedVariables false
set_option linter.unusedSimpArgs false

/-- Where a frame's deferred calls stand (no code writes there). -/
abbrev dsl : Nat := 1000000
/-- How a map's keys look: numbers, texts, rows of these. -/
inductive KM where
  | int (q : IntKind)
  | str
  | agg (kp : Value → Bool)
def keyFlat : Value → Bool
  | .bool _ | .int _ _ | .string _ => true
  | _ => false
def keyOk : KM → Value → Bool
  | .int q, .int q' _ => decide (q' = q)
  | .str, .string _ => true
  | .agg kp, .agg cs => kp (.agg cs) && cs.toList.all keyFlat
  | _, _ => false
def keq1 : Value → Value → Bool
  | .bool a, .bool b => a == b
  | .int k a, .int k' b => decide (k = k') && decide (a = b)
  | .string a, .string b => decide (a = b)
  | _, _ => false
def keqL : List Value → List Value → Bool
  | [], [] => true
  | a :: r, b :: s => keq1 a b && keqL r s
  | _, _ => false
def keq : Value → Value → Bool
  | .agg a, .agg b => keqL a.toList b.toList
  | a, b => keq1 a b
/-- What a map has of a key; with a key's value; without a key. -/
def mget (k : Value) : List (Value × Value) → Option Value
  | [] => none
  | e :: r => if keq e.1 k then some e.2 else mget k r
def mput (k v : Value) : List (Value × Value) → List (Value × Value)
  | [] => [(k, v)]
  | e :: r => if keq e.1 k then (k, v) :: r else e :: mput k v r
def mdel (k : Value) : List (Value × Value) → List (Value × Value)
  | [] => []
  | e :: r => if keq e.1 k then r else e :: mdel k r
def nodupK : List (Value × Value) → Bool
  | [] => true
  | e :: r => r.all (fun f => !keq f.1 e.1) && nodupK r
/-- A map's keys are of their kind, and each is there once. -/
def mapOk (m : KM) (es : List (Value × Value)) : Bool := es.all (fun e => keyOk m e.1) && nodupK es
def lookRes (ok : Bool) (z : Value) : Option Value → Value
  | some v => if ok then .tuple #[v, .bool true] else v
  | none => if ok then .tuple #[z, .bool false] else z

/-- Operations whose types have been looked up. -/
inductive AOp where
  | mov (x : Operand)
  | pick (c a b : Operand)
  | new (z : List Value)
  | box (x : Operand)
  | build (z : List Value) (ps : List (Nat × Nat × Operand))
  | lit (z : List Value) (sz len : Nat) (ps : List (Nat × Nat × Operand))
  | load1 (a : Operand)
  | loadn (a : Operand) (n : Nat)
  | store (a x : Operand) (n : Nat)
  | nilc (x : Operand)
  | bin (op : BinOp) (x y : Operand)
  | un (op : UnOp) (x : Operand)
  | conv (k : IntKind) (x : Operand)
  | b2s (x : Operand)
  | s2b (x : Operand)
  | field1 (x : Operand) (off : Nat)
  | fieldn (x : Operand) (off n : Nat)
  | faddr (x : Operand) (off : Nat)
  | iaddr (x i : Operand) (sz : Nat)
  | iarr (x i : Operand) (n sz : Nat)
  | idxs (x i : Operand)
  | idxa1 (x i : Operand) (n : Nat)
  | idxan (x i : Operand) (n sz : Nat)
  | sls (x : Operand) (lo hi : Option Operand)
  | sll (x : Operand) (lo hi mx : Option Operand) (sz : Nat)
  | sla (x : Operand) (lo hi mx : Option Operand) (n sz : Nat)
  | mk (z : List Value) (bytes : Nat) (len cap : Operand)
  | ext (x : Operand) (i : Nat)
  | fn (f : Fn) (first captured : List Operand)
  | ifc (t : TypeId) (x : Operand)
  | lens (str : Bool) (x : Operand)
  | lenc (n : Nat)
  | app (s x : Operand) (sz bytes : Nat)
  | apps (s x : Operand) (bytes : Nat)
  | copy (d s : Operand) (sz : Nat)
  | clr (x : Operand) (z : List Value)
  | mn (x y : Operand)
  | mx (x y : Operand)
  | isnil (d : TypeDesc) (x : Operand) (neg : Bool)
  | strc (x : Operand)
  | mks (x : Operand)
  | fail
  | capn (x : Operand)
  | appz (s n : Operand) (z : List Value) (bytes : Nat)
  | eqagg (neg : Bool) (L : List Value → Option (List Lit)) (x y : Operand)
  | beq (neg : Bool) (x y : Operand)
  | call (f : FuncId) (args : List Operand)
  | calld (f : Operand) (args : List Operand)
  | callx (f : FuncId) (args : List Operand)
  | dfr (f : FuncId) (args : List Operand)
  | mkm
  | mlook (m : KM) (z : Value) (ok : Bool) (x k : Operand)
  | mlen (x : Operand)
  | mupd (m : KM) (x k v : Operand)
  | mdl (m : KM) (x k : Operand)

structure IOp where
  dst : Option Nat
  guard : Option (Nat × Bool)
  le : Bool
  op : AOp

/-- Operations whose order is not told: a tree of orders. -/
inductive IT where
  | nil
  | op (o : IOp) (t : IT)
  | alt (a b : IT)
inductive IC where
  | skip
  | ops (l : List IOp)
  | draw (l : List IOp)
  | tree (t : IT)
  | seq (a b : IC)
  | cond (c : Operand) (a b : IC)
  | block (id : Nat) (a : IC)
  | loop (a : IC)
  | exit (id : Nat)
  | ret
  | scope (a : IC)

def ev (a : AT) : Operand → Value
  | .tmp t => a t
  | .const v => v
  | .global g => .pointer (some ⟨g, 0, none⟩)
  | .func f => .func (.func f) #[] #[]

def upd (a : AT) (j : Nat) (v : Value) : AT := fun k => if k = j then v else a k
def put (a : AT) (d : Option Nat) (v : Value) : AT := match d with | some j => upd a j v | none => a

def getRow (A : AH) (i : Nat) : Option (List Value × St × Nat × Bool) :=
  match A[i]? with
  | some (.row cs st sz ex) => if st = .dead then none else some (cs, st, sz, ex)
  | _ => none

/-- n cells from o on. -/
def cut (cs : List Value) (o n : Nat) : Option (List Value) := if o + n ≤ cs.length then some ((cs.drop o).take n) else none
/-- The cells of a slice. -/
def rdSl (A : AH) (sz : Nat) : Value → Option (List Value)
  | .slice none 0 _ => some []
  | .slice (some ⟨_, _, some _⟩) 0 _ => some []
  | .slice (some ⟨i, o, none⟩) n _ => if n = 0 then some [] else (getRow A i).bind fun r => cut r.1 o (n * sz)
  | _ => none

def setAll (cs : List Value) (o : Nat) (vs : List Value) : List Value := cs.take o ++ vs ++ cs.drop (o + vs.length)
def ones (vs : List Value) : Bool := vs.all (·.oneCell')

def fillA (z : List Value) : List (Nat × Nat × Value) → Option (List Value)
  | [] => some z
  | (off, n, v) :: r => if v.cells.size = n ∧ off + n ≤ z.length ∧ ones v.cells.toList = true then fillA (setAll z off v.cells.toList) r else none

def wr (A : AH) (i o : Nat) (vs : List Value) : Option AH :=
  match A[i]? with
  | some (.row cs .own sz ex) => if o + vs.length ≤ cs.length ∧ ones vs = true then some (A.set i (.row (setAll cs o vs) .own sz ex)) else none
  | _ => none

def binA : BinOp → Value → Value → Option Value
  | .shl, .int k a, .int _ b => if b < 0 then none else some (.int k (k.wrap (a * 2 ^ min b.toNat k.bits)))
  | .shr, .int k a, .int _ b => if b < 0 then none else some (.int k (a.fdiv (2 ^ min b.toNat k.bits)))
  | .add, .int k a, .int k' b => if k = k' then some (.int k (k.wrap (a + b))) else none
  | .sub, .int k a, .int k' b => if k = k' then some (.int k (k.wrap (a - b))) else none
  | .mul, .int k a, .int k' b => if k = k' then some (.int k (k.wrap (a * b))) else none
  | .quo, .int k a, .int k' b => if k = k' ∧ b ≠ 0 then some (.int k (k.wrap (a.tdiv b))) else none
  | .rem, .int k a, .int k' b => if k = k' ∧ b ≠ 0 then some (.int k (a.tmod b)) else none
  | .and, .int k a, .int k' b => if k = k' then some (.int k (k.wrap (BitVec.ofInt k.bits a &&& BitVec.ofInt k.bits b).toNat)) else none
  | .or, .int k a, .int k' b => if k = k' then some (.int k (k.wrap (BitVec.ofInt k.bits a ||| BitVec.ofInt k.bits b).toNat)) else none
  | .xor, .int k a, .int k' b => if k = k' then some (.int k (k.wrap (BitVec.ofInt k.bits a ^^^ BitVec.ofInt k.bits b).toNat)) else none
  | .andNot, .int k a, .int k' b => if k = k' then some (.int k (k.wrap (BitVec.ofInt k.bits a &&& ~~~ BitVec.ofInt k.bits b).toNat)) else none
  | .eql, .int k a, .int k' b => if k = k' then some (.bool (a == b)) else none
  | .neq, .int k a, .int k' b => if k = k' then some (.bool (a != b)) else none
  | .lss, .int k a, .int k' b => if k = k' then some (.bool (decide (a < b))) else none
  | .leq, .int k a, .int k' b => if k = k' then some (.bool (decide (a ≤ b))) else none
  | .gtr, .int k a, .int k' b => if k = k' then some (.bool (decide (a > b))) else none
  | .geq, .int k a, .int k' b => if k = k' then some (.bool (decide (a ≥ b))) else none
  | .add, .string a, .string b => if ((a.size + b.size : Nat) : Int) > IntKind.i64.max then none else some (.string (a ++ b))
  | .eql, .string a, .string b => some (.bool (a.toList == b.toList))
  | .neq, .string a, .string b => some (.bool !(a.toList == b.toList))
  | .lss, .string a, .string b => some (.bool (Op.bytesLess a.toList b.toList))
  | .leq, .string a, .string b => some (.bool (Op.bytesLess a.toList b.toList || a.toList == b.toList))
  | .gtr, .string a, .string b => some (.bool !(Op.bytesLess a.toList b.toList || a.toList == b.toList))
  | .geq, .string a, .string b => some (.bool !(Op.bytesLess a.toList b.toList))
  | _, _, _ => none

def unA : UnOp → Value → Option Value
  | .neg, .int k n => some (.int k (k.wrap (0 - n)))
  | .xor, .int k n => some (.int k (k.wrap (BitVec.ofInt k.bits (if k.signed then -1 else k.max) ^^^ BitVec.ofInt k.bits n).toNat))
  | .not, .bool b => some (.bool !b)
  | _, _ => none

def asI : Value → Option Int
  | .int _ n => some n
  | _ => none

/-- A slice's bounds: none where the machine would panic, or where more than what is known to be there is asked. -/
def boundsA (len cap : Nat) (lo hi mx : Option Value) : Option (Nat × Nat × Nat) :=
  let at_ (v : Value) (y : Nat) : Option Nat := (asI v).bind fun i => if 0 ≤ i ∧ i ≤ y then some i.toNat else none
  (match mx with | some v => at_ v cap | none => some cap).bind fun m =>
  (match hi, mx with | some v, some _ => at_ v m | some v, none => at_ v m | none, none => some len | none, some _ => none).bind fun h =>
  (match lo with | some v => at_ v h | none => some 0).bind fun l => some (l, h, m)

def u8s (s : ByteArray) : List Value := s.data.toList.map fun b => .int .u8 (b.toNat : Int)
def asByte : Value → Option UInt8
  | .int .u8 n => some (UInt8.ofNat n.toNat)
  | _ => none
def bytesA : List Value → Option (List UInt8)
  | [] => some []
  | v :: r => (asByte v).bind fun b => (bytesA r).map (b :: ·)

/-- What is taken along by an append: the old elements' cells, the heap without what is given up, how many there are. -/
def appBase (A : AH) (s : Value) (sz k : Nat) : Option (List Value × AH × Nat) :=
  match s with
  | .slice none 0 0 => some ([], A, 0)
  | .slice (some ⟨i, o, none⟩) n _ =>
    match A[i]? with
    | some (Blk.row cs .own bsz ex) => if bsz = sz ∧ 0 < sz ∧ o + n * sz ≤ cs.length then some ((cs.drop o).take (n * sz), (if ex = true ∧ cs.length < o + (n + k) * sz then A else A.set i (Blk.row cs .dead bsz ex)), n) else none
    | _ => none
  | .slice (some ⟨0, 0, some 0⟩) 0 0 => some ([], A, 0)
  | _ => none

/-- New elements behind a slice that ends its row, and is no more written: the old row may be read on, and the new one. -/
def appF (A : AH) (s : Value) (new : List Value) (k sz bytes : Nat) : Option (Value × AH) :=
  match s with
  | .slice (some ⟨i, o, none⟩) n _ =>
    match A[i]? with
    | some (Blk.row cs .fz bsz ex) => if 0 < k ∧ bsz = sz ∧ 0 < sz ∧ o + n * sz = cs.length ∧ 2 * ((n + k) * bytes) ≤ 2 ^ 48 ∧ 0 < bytes ∧ new.length = k * sz ∧ ones new = true then
        some (.slice (some ⟨A.length, 0, none⟩) (n + k) (n + k), A.set i (.row cs .ro bsz ex) ++ [Blk.row (cs.drop o ++ new) .ro sz false]) else none
    | _ => none
  | _ => none
/-- New elements behind a slice: where there are none, nothing happens. -/
def appA0 (A : AH) (s : Value) (new : List Value) (k sz bytes : Nat) : Option (Value × AH) :=
  if k = 0 then (match s with | .slice none 0 _ => some (s, A) | .slice (some _) _ _ => some (s, A) | _ => none)
  else (appBase A s sz k).bind fun r =>
    if 2 * ((r.2.2 + k) * bytes) ≤ 2 ^ 48 ∧ 0 < bytes ∧ new.length = k * sz ∧ ones new = true then
      some (.slice (some ⟨r.2.1.length, 0, none⟩) (r.2.2 + k) (r.2.2 + k), r.2.1 ++ [Blk.row (r.1 ++ new) .own sz false]) else none

/-- New elements behind a slice that is cut of a longer row, where there is room: they are put over what was there. -/
def appI (A : AH) (s : Value) (new : List Value) (k sz bytes : Nat) : Option (Value × AH) :=
  match s with
  | .slice (some ⟨i, o, none⟩) n c =>
    match A[i]? with
    | some (Blk.row cs .own bsz ex) => if 0 < k ∧ bsz = sz ∧ 0 < sz ∧ n + k ≤ c ∧ o + (n + k) * sz ≤ cs.length ∧ 2 * ((n + k) * bytes) ≤ 2 ^ 48 ∧ 0 < bytes ∧ new.length = k * sz ∧ ones new = true then
        some (.slice (some ⟨i, o, none⟩) (n + k) c, A.set i (.row (setAll cs (o + n * sz) new) .own bsz ex)) else none
    | _ => none
  | _ => none
def appA1 (A : AH) (s : Value) (new : List Value) (k sz bytes : Nat) : Option (Value × AH) := (appF A s new k sz bytes).or (appA0 A s new k sz bytes)
def appA (A : AH) (s : Value) (new : List Value) (k sz bytes : Nat) : Option (Value × AH) := (appI A s new k sz bytes).or (appA1 A s new k sz bytes)
theorem appI_flat {A : AH} {p : Option Addr} {n c : Nat} {new : List Value} {k sz bytes : Nat} (hp : ∀ i o, p ≠ some ⟨i, o, none⟩) : appI A (.slice p n c) new k sz bytes = none := by
  unfold appI
  split
  · rename_i h; injection h with h; exact absurd h (hp _ _)
  · rfl
theorem appI_zero {A : AH} {s : Value} {new : List Value} {sz bytes : Nat} : appI A s new 0 sz bytes = none := by
  unfold appI
  split
  · split
    · rw [if_neg (by omega)]
    · rfl
  · rfl
theorem appF_flat {A : AH} {p : Option Addr} {n c : Nat} {new : List Value} {k sz bytes : Nat} (hp : ∀ i o, p ≠ some ⟨i, o, none⟩) : appF A (.slice p n c) new k sz bytes = none := by
  unfold appF
  split
  · rename_i h; injection h with h; exact absurd h (hp _ _)
  · rfl
theorem appF_zero {A : AH} {s : Value} {new : List Value} {sz bytes : Nat} : appF A s new 0 sz bytes = none := by
  unfold appF
  split
  · split
    · rw [if_neg (by omega)]
    · rfl
  · rfl
theorem appF_own {A : AH} {i o n c : Nat} {cs new : List Value} {bsz k sz bytes : Nat} {ex : Bool} (h : A[i]? = some (.row cs .own bsz ex)) : appF A (.slice (some ⟨i, o, none⟩) n c) new k sz bytes = none := by
  unfold appF
  simp only [h]

/-- A slice's elements are made nothing. -/
def sClr (A : AH) (x : Value) (z : List Value) : Option (Value × AH) := match x with
  | .slice none _ _ => some (undef, A)
  | .slice (some _) 0 _ => some (undef, A)
  | .slice (some ⟨i, o, none⟩) (n + 1) _ => (wr A i o ((List.replicate (n + 1) z).flatten)).map fun A' => (undef, A')
  | _ => none
/- What an operation that is no call gives, each for itself. -/
def sPick (A : AH) (c a b : Value) : Option (Value × AH) := match c with | .bool t => some (if t then a else b, A) | _ => none
def sBox (A : AH) (x : Value) : Option (Value × AH) := if ones x.cells.toList then some (.pointer (some ⟨A.length, 0, none⟩), A ++ [.row x.cells.toList .own 0 true]) else none
def sBuild (A : AH) (z : List Value) (ps : List (Nat × Nat × Value)) : Option (Value × AH) := (fillA z ps).map fun cs => (.agg cs.toArray, A)
def sLit (A : AH) (z : List Value) (sz len : Nat) (ps : List (Nat × Nat × Value)) : Option (Value × AH) :=
  (fillA ((List.replicate len z).flatten) ps).map fun cs => (.slice (some ⟨A.length, 0, none⟩) len len, A ++ [.row cs .own sz true])
def sLoad1 (A : AH) (a : Value) : Option (Value × AH) := match a with
  | .pointer (some ⟨i, o, none⟩) => (getRow A i).bind fun r => r.1[o]?.map fun v => (v, A)
  | _ => none
def sLoadn (A : AH) (a : Value) (n : Nat) : Option (Value × AH) := match a with
  | .pointer (some ⟨i, o, none⟩) => (getRow A i).bind fun r => (cut r.1 o n).map fun cs => (.agg cs.toArray, A)
  | _ => none
def sStore (A : AH) (a x : Value) (n : Nat) : Option (Value × AH) := match a with
  | .pointer (some ⟨i, o, none⟩) => if x.cells.size = n then (wr A i o x.cells.toList).map fun A' => (undef, A') else none
  | _ => none
def sNilc (A : AH) (x : Value) : Option (Value × AH) := match x with | .pointer (some a) => some (.pointer (some a), A) | _ => none
def sConv (A : AH) (k : IntKind) (x : Value) : Option (Value × AH) := match x with | .int _ n => some (.int k (k.wrap n), A) | _ => none
def sB2s (A : AH) (x : Value) : Option (Value × AH) := (rdSl A 1 x).bind fun cs => (bytesA cs).map fun bs => (.string ⟨bs.toArray⟩, A)
def sS2b (A : AH) (x : Value) : Option (Value × AH) := match x with | .string s => some (.slice (some ⟨A.length, 0, none⟩) s.size s.size, A ++ [.row (u8s s) .own 1 false]) | _ => none
def sField1 (A : AH) (x : Value) (off : Nat) : Option (Value × AH) := match x with | .agg cs => cs[off]?.map fun v => (v, A) | _ => none
def sFieldn (A : AH) (x : Value) (off n : Nat) : Option (Value × AH) := match x with | .agg cs => some (.agg (cs.extract off (off + n)), A) | _ => none
def sFaddr (A : AH) (x : Value) (off : Nat) : Option (Value × AH) := match x with | .pointer (some ⟨i, o, none⟩) => some (.pointer (some ⟨i, o + off, none⟩), A) | _ => none
def sIaddr (A : AH) (x i : Value) (sz : Nat) : Option (Value × AH) := match x with
  | .slice (some ⟨b, o, none⟩) n _ => (asI i).bind fun j => if 0 ≤ j ∧ j < n then some (.pointer (some ⟨b, o + j.toNat * sz, none⟩), A) else none
  | _ => none
def sIarr (A : AH) (x i : Value) (n sz : Nat) : Option (Value × AH) := match x with
  | .pointer (some ⟨b, o, none⟩) => (asI i).bind fun j => if 0 ≤ j ∧ j < n then some (.pointer (some ⟨b, o + j.toNat * sz, none⟩), A) else none
  | _ => none
def sIdxs (A : AH) (x i : Value) : Option (Value × AH) := match x with
  | .string s => (asI i).bind fun j => if 0 ≤ j then s[j.toNat]?.map fun b => (.int .u8 b.toNat, A) else none
  | _ => none
def sIdxa1 (A : AH) (x i : Value) (n : Nat) : Option (Value × AH) := match x with
  | .agg cs => (asI i).bind fun j => if 0 ≤ j ∧ j < n then cs[j.toNat]?.map fun v => (v, A) else none
  | _ => none
def sIdxan (A : AH) (x i : Value) (n sz : Nat) : Option (Value × AH) := match x with
  | .agg cs => (asI i).bind fun j => if 0 ≤ j ∧ j < n then some (.agg (cs.extract (j.toNat * sz) (j.toNat * sz + sz)), A) else none
  | _ => none
def sSls (A : AH) (x : Value) (lo hi : Option Value) : Option (Value × AH) := match x with
  | .string s => (boundsA s.size s.size lo hi none).map fun r => (.string (s.extract r.1 r.2.1), A)
  | _ => none
def rowSz (A : AH) (i : Nat) : Option Nat := match A[i]? with | some (.row _ _ sz _) => some sz | _ => none
def sSll (A : AH) (x : Value) (lo hi mx : Option Value) (sz : Nat) : Option (Value × AH) := match x with
  | .slice none 0 0 => (boundsA 0 0 lo hi mx).map fun _ => (.slice none 0 0, A)
  | .slice (some ⟨_, _, some _⟩) 0 0 => (boundsA 0 0 lo hi mx).map fun _ => (.slice (some zmk) 0 0, A)
  | .slice (some ⟨i, o, none⟩) n c => (boundsA n c lo hi mx).bind fun r => (rowSz A i).bind fun bsz =>
    if mx.isSome = true ∧ r.2.2 = r.1 then some (.slice (some zmk) 0 0, A)
    else if mx.isSome = true ∧ bsz = sz ∧ r.1 < r.2.1 then some (.slice (some ⟨i, o + r.1 * sz, some 1⟩) (r.2.1 - r.1) (r.2.2 - r.1), A)
    else if bsz = sz ∧ mx.isSome = false then some (.slice (some ⟨i, o + r.1 * sz, none⟩) (r.2.1 - r.1) (r.2.2 - r.1), A) else none
  | _ => none
def sSla (A : AH) (x : Value) (lo hi mx : Option Value) (n sz : Nat) : Option (Value × AH) := match x with
  | .pointer (some ⟨i, o, none⟩) => (boundsA n n lo hi mx).bind fun r =>
    (getRow A i).bind fun q => if q.2.2.1 = 0 ∧ o + n * sz ≤ q.1.length then (if r.2.2 = r.1 then some (.slice (some zmk) 0 0, A) else some (.slice (some ⟨i, o + r.1 * sz, none⟩) (r.2.1 - r.1) (r.2.2 - r.1), A)) else none
  | _ => none
def sMk (A : AH) (z : List Value) (bytes : Nat) (len cap : Value) : Option (Value × AH) := (asI len).bind fun l => (asI cap).bind fun c =>
  if 0 ≤ l ∧ l ≤ c ∧ bytes * c ≤ 2 ^ 48 ∧ c < 2 ^ 62 ∧ 0 < z.length then
    some (.slice (some ⟨A.length, 0, none⟩) l.toNat c.toNat, A ++ [.row ((List.replicate l.toNat z).flatten) .own z.length (decide (l = c))]) else none
def sExt (A : AH) (x : Value) (i : Nat) : Option (Value × AH) := match x with | .tuple vs => vs[i]?.map fun v => (v, A) | _ => none
def sLens (A : AH) (str : Bool) (x : Value) : Option (Value × AH) := match x with | .slice _ n _ => if str then none else some (.int .i64 n, A) | .string s => if str then some (.int .i64 s.size, A) else none | _ => none
def sApp (A : AH) (s x : Value) (sz bytes : Nat) : Option (Value × AH) := match x with
  | .slice _ k _ => (rdSl A sz x).bind fun new => appA A s new k sz bytes
  | _ => none
def sApps (A : AH) (s x : Value) (bytes : Nat) : Option (Value × AH) := match x with
  | .string t => appA A s (u8s t) t.size 1 bytes
  | _ => none
def copyTo (A : AH) (d : Value) (m : Nat) (vs : List Value) : Option (Value × AH) :=
  if m = 0 then some (.int .i64 0, A) else
  match d with
  | .slice (some ⟨i, o, none⟩) _ _ => (wr A i o vs).map fun A' => (.int .i64 m, A')
  | _ => none
def sCopyO (A : AH) (d s : Value) (sz : Nat) : Option (Value × AH) := match d with
  | .slice _ n _ => match s with
    | .slice _ k _ => (rdSl A sz s).bind fun src => copyTo A d (min k n) (src.take (min k n * sz))
    | .string t => if sz = 1 then copyTo A d (min t.size n) ((u8s t).take (min t.size n)) else none
    | _ => none
  | _ => none
/-- Cells that are put behind what is known of a row, too: there is room, as a slice leads there. -/
def wrX (A : AH) (i o sz : Nat) (vs : List Value) : Option AH := match A[i]? with
  | some (.row cs .own bsz ex) => if bsz = sz ∧ 0 < sz ∧ o ≤ cs.length ∧ ones vs = true then some (A.set i (.row (setAll cs o vs) .own bsz ex)) else none
  | _ => none
def copyX (A : AH) (d : Value) (m : Nat) (vs : List Value) (sz : Nat) : Option (Value × AH) := match d with
  | .slice (some ⟨i, o, none⟩) n _ => if 0 < m ∧ m ≤ n ∧ vs.length = m * sz then (wrX A i o sz vs).map fun A' => (.int .i64 m, A') else none
  | _ => none
def sCopyX (A : AH) (d s : Value) (sz : Nat) : Option (Value × AH) := match d with
  | .slice _ n _ => match s with
    | .slice p k c => (rdSl A sz (.slice p (min k n) c)).bind fun src => copyX A d (min k n) src sz
    | _ => none
  | _ => none
def sCopy (A : AH) (d s : Value) (sz : Nat) : Option (Value × AH) := (sCopyO A d s sz).or (sCopyX A d s sz)
def sMn (A : AH) (x y : Value) : Option (Value × AH) := match x with
  | .int k a => (asI y).map fun b => (.int k (if b < a then b else a), A)
  | _ => none
def sMx (A : AH) (x y : Value) : Option (Value × AH) := match x with
  | .int k a => (asI y).map fun b => (.int k (if b > a then b else a), A)
  | _ => none
def kindOf : TypeDesc → Value → Bool
  | .slice _, .slice _ _ _ => true
  | .pointer _, .pointer _ => true
  | .map _ _, .map _ => true
  | .func _ _ _, .nilFunc => true
  | .func _ _ _, .func _ _ _ => true
  | _, _ => false
def sStr (A : AH) (x : Value) : Option (Value × AH) := match x with | .string s => some (.string s, A) | _ => none
def sIsnil (A : AH) (x : Value) (neg : Bool) : Option (Value × AH) := match x with
  | .slice a _ _ => some (.bool (a.isNone != neg), A)
  | .pointer a => some (.bool (a.isNone != neg), A)
  | .map a => some (.bool (a.isNone != neg), A)
  | .func _ _ _ => some (.bool neg, A)
  | .nilFunc => some (.bool !neg, A)
  | _ => none
def sBeq (A : AH) (neg : Bool) (x y : Value) : Option (Value × AH) := match x with
  | .bool a => match y with | .bool b => some (.bool ((a == b) != neg), A) | _ => none
  | _ => none

/-- A literal of bytes, marked. -/
def sMks (A : AH) (x : Value) : Option (Value × AH) := match x with
  | .slice (some ⟨i, o, none⟩) n c => match A[i]? with
    | some (.row _ .own sz _) => if 0 < n ∧ sz = 1 then some (.slice (some ⟨i, o, none⟩) n c, A) else none
    | _ => none
  | _ => none
/-- How much room a slice has, where it is known: of a slice that ends a row behind which is nothing. -/
def sCapn (A : AH) (x : Value) : Option (Value × AH) := match x with
  | .slice none 0 0 => some (.int .i64 0, A)
  | .slice (some ⟨i, o, none⟩) n _ => match A[i]? with
    | some (.row cs .own sz true) => if 0 < sz ∧ o + n * sz = cs.length then some (.int .i64 n, A) else none
    | _ => none
  | _ => none
def sAppz (A : AH) (s n : Value) (z : List Value) (bytes : Nat) : Option (Value × AH) :=
  (asI n).bind fun l => if 0 ≤ l ∧ l < 2 ^ 62 then appA A s ((List.replicate l.toNat z).flatten) l.toNat z.length bytes else none
open Classical in
/-- Two rows of numbers, texts and bools, as a type tells them (L). -/
noncomputable def sEqagg (A : AH) (neg : Bool) (L : List Value → Option (List Lit)) (x y : Value) : Option (Value × AH) := match x with
  | .agg a => match y with
    | .agg b => if a.toList.all flatV = true ∧ b.toList.all flatV = true then (L a.toList).bind fun la => (L b.toList).map fun lb => (.bool (decide (la = lb) != neg), A) else none
    | _ => none
  | _ => none

def sMlook (A : AH) (m : KM) (z : Value) (ok : Bool) (x k : Value) : Option (Value × AH) := match x with
  | .map none => if keyOk m k then some (lookRes ok z none, A) else none
  | .map (some i) => match A[i]? with
    | some (.mp es) => if keyOk m k ∧ mapOk m es then some (lookRes ok z (mget k es), A) else none
    | _ => none
  | _ => none
def sMlen (A : AH) (x : Value) : Option (Value × AH) := match x with
  | .map none => some (.int .i64 0, A)
  | .map (some i) => match A[i]? with
    | some (.mp es) => some (.int .i64 es.length, A)
    | _ => none
  | _ => none
def sMupd (A : AH) (m : KM) (x k v : Value) : Option (Value × AH) := match x with
  | .map (some i) => match A[i]? with
    | some (.mp es) => if keyOk m k ∧ mapOk m es then some (undef, A.set i (.mp (mput k v es))) else none
    | _ => none
  | _ => none
def sMdl (A : AH) (m : KM) (x k : Value) : Option (Value × AH) := match x with
  | .map none => if keyOk m k then some (undef, A) else none
  | .map (some i) => match A[i]? with
    | some (.mp es) => if keyOk m k ∧ mapOk m es then some (undef, A.set i (.mp (mdel k es))) else none
    | _ => none
  | _ => none
/-- A deferred call, put ahead of those that are there. -/
def sDfr (A : AH) (d x : Value) : Option (Value × AH) := match d with
  | .tuple vs => some (.tuple (x :: vs.toList).toArray, A)
  | _ => none

/-- What an operation that is no call gives. -/
noncomputable def step (ρ : Operand → Value) (A : AH) : AOp → Option (Value × AH)
  | .mov x => some (ρ x, A)
  | .pick c a b => sPick A (ρ c) (ρ a) (ρ b)
  | .new z => some (.pointer (some ⟨A.length, 0, none⟩), A ++ [.row z .own 0 true])
  | .box x => sBox A (ρ x)
  | .build z ps => sBuild A z (ps.map fun p => (p.1, p.2.1, ρ p.2.2))
  | .lit z sz len ps => sLit A z sz len (ps.map fun p => (p.1, p.2.1, ρ p.2.2))
  | .load1 a => sLoad1 A (ρ a)
  | .loadn a n => sLoadn A (ρ a) n
  | .store a x n => sStore A (ρ a) (ρ x) n
  | .nilc x => sNilc A (ρ x)
  | .bin op x y => (binA op (ρ x) (ρ y)).map fun v => (v, A)
  | .un op x => (unA op (ρ x)).map fun v => (v, A)
  | .conv k x => sConv A k (ρ x)
  | .b2s x => sB2s A (ρ x)
  | .s2b x => sS2b A (ρ x)
  | .field1 x off => sField1 A (ρ x) off
  | .fieldn x off n => sFieldn A (ρ x) off n
  | .faddr x off => sFaddr A (ρ x) off
  | .iaddr x i sz => sIaddr A (ρ x) (ρ i) sz
  | .iarr x i n sz => sIarr A (ρ x) (ρ i) n sz
  | .idxs x i => sIdxs A (ρ x) (ρ i)
  | .idxa1 x i n => sIdxa1 A (ρ x) (ρ i) n
  | .idxan x i n sz => sIdxan A (ρ x) (ρ i) n sz
  | .sls x lo hi => sSls A (ρ x) (lo.map ρ) (hi.map ρ)
  | .sll x lo hi mx sz => sSll A (ρ x) (lo.map ρ) (hi.map ρ) (mx.map ρ) sz
  | .sla x lo hi mx n sz => sSla A (ρ x) (lo.map ρ) (hi.map ρ) (mx.map ρ) n sz
  | .mk z bytes len cap => sMk A z bytes (ρ len) (ρ cap)
  | .ext x i => sExt A (ρ x) i
  | .fn f first captured => some (.func f (first.map ρ).toArray (captured.map ρ).toArray, A)
  | .ifc t x => some (.iface t (ρ x), A)
  | .lens str x => sLens A str (ρ x)
  | .lenc n => some (.int .i64 n, A)
  | .app s x sz bytes => sApp A (ρ s) (ρ x) sz bytes
  | .apps s x bytes => sApps A (ρ s) (ρ x) bytes
  | .copy d s sz => sCopy A (ρ d) (ρ s) sz
  | .clr x z => sClr A (ρ x) z
  | .mn x y => sMn A (ρ x) (ρ y)
  | .mx x y => sMx A (ρ x) (ρ y)
  | .isnil d x neg => if kindOf d (ρ x) then sIsnil A (ρ x) neg else none
  | .strc x => sStr A (ρ x)
  | .beq neg x y => sBeq A neg (ρ x) (ρ y)
  | .mks x => sMks A (ρ x)
  | .fail => none
  | .capn x => sCapn A (ρ x)
  | .appz s n z bytes => sAppz A (ρ s) (ρ n) z bytes
  | .eqagg neg L x y => sEqagg A neg L (ρ x) (ρ y)
  | .call _ _ => none
  | .calld _ _ => none
  | .callx _ _ => none
  | .dfr f args => sDfr A (ρ (.tmp dsl)) (.func (.func f) (args.map ρ).toArray #[])
  | .mkm => some (.map (some A.length), A ++ [.mp []])
  | .mlook m z ok x k => sMlook A m z ok (ρ x) (ρ k)
  | .mlen x => sMlen A (ρ x)
  | .mupd m x k v => sMupd A m (ρ x) (ρ k) (ρ v)
  | .mdl m x k => sMdl A m (ρ x) (ρ k)

end Go.AS


namespace Go.AS
open Go
set_option linter.unusedVariables false
set_option linter.unusedSimpArgs false

theorem get_set {α : Type} {l : List α} {i k : Nat} {x y : α} (h : (l.set i x)[k]? = some y) : (k = i ∧ y = x ∧ i < l.length) ∨ (k ≠ i ∧ l[k]? = some y) := by
  rw [List.getElem?_set] at h
  split at h
  · subst_vars
    split at h
    · exact .inl ⟨rfl, (Option.some.inj h).symm, by assumption⟩
    · cases h
  · exact .inr ⟨fun e => by subst e; contradiction, h⟩

theorem ones_get {vs : List Value} (h : ones vs = true) {j : Nat} {v : Value} (hj : vs[j]? = some v) : v.oneCell' = true := by
  unfold ones at h
  rw [List.all_eq_true] at h
  exact h v (List.mem_of_getElem? hj)

theorem ones_append {a b : List Value} (ha : ones a = true) (hb : ones b = true) : ones (a ++ b) = true := by
  unfold ones at *
  rw [List.all_append, ha, hb]; rfl

section
variable {G : Nat} {μ : Mu} {A : AH} {w : World}

theorem Rel.mu_lt (h : Rel G μ A w) {i : Nat} {b : Blk} (hb : A[i]? = some b) : ∃ e : Ent, μ[i]? = some e := by
  have := lt_of_get hb
  rw [← h.len] at this
  exact ⟨μ[i], List.getElem?_eq_getElem this⟩

theorem alloc_new (w : World) (o : Obj) : (w.alloc o).heap[w.heap.size]? = some o := by
  show (w.heap.push o)[w.heap.size]? = _
  simp
theorem alloc_old (w : World) (o : Obj) {i : Nat} (h : i < w.heap.size) : (w.alloc o).heap[i]? = w.heap[i]? := by
  show (w.heap.push o)[i]? = _
  rw [Array.getElem?_push, if_neg (by omega)]
theorem alloc_size (w : World) (o : Obj) : (w.alloc o).heap.size = w.heap.size + 1 := by
  show (w.heap.push o).size = _
  simp

theorem VR.cellMono {r : Mu} {cs : List Value} {rc : Array Value} {off : Nat} (h : ∀ (j : Nat) v, cs[j]? = some v → v.oneCell' = true ∧ ∃ v', rc[off + j]? = some v' ∧ VR μ v v') :
    ∀ (j : Nat) v, cs[j]? = some v → v.oneCell' = true ∧ ∃ v', rc[off + j]? = some v' ∧ VR (μ ++ r) v v' := by
  intro j v hj
  obtain ⟨h1, v', h2, h3⟩ := h j v hj
  exact ⟨h1, v', h2, h3.mono⟩

/-- A new block of cells, the call's own. -/
theorem Rel.push (h : Rel G μ A w) {cs : List Value} {sz : Nat} {ex : Bool} {rc : Array Value} {T : TypeId} {fr : Nat × Nat}
    (hc : ∀ (j : Nat) v, cs[j]? = some v → v.oneCell' = true ∧ ∃ v', rc[j]? = some v' ∧ VR μ v v') (hl : cs.length ≤ rc.size)
    (hf : fr.1 = fr.2 ∨ (sz = 1 ∧ rc.size ≤ fr.1)) (hx : ex = true → rc.size = cs.length) :
    Rel G (μ ++ [⟨w.heap.size, 0, rc.size, sz⟩]) (A ++ [.row cs .own sz ex]) (w.alloc (.cells rc T fr)) := by
  have hsz := alloc_size w (.cells rc T fr)
  refine ⟨by simp [h.len], ?_, ?_, ?_, ?_, ?_, ?_, ?_⟩
  · intro g hg
    obtain ⟨e, h1, h2, h3⟩ := h.glo g hg
    exact ⟨e, pre_get h1, h2, h3⟩
  · intro i e he
    rcases push_get he with ⟨_, he⟩ | ⟨_, rfl⟩
    · have := h.lt i e he; omega
    · simp only; omega
  · intro i cs' st sz' ex' e hb he hst
    rcases push_get hb with ⟨hi, hb⟩ | ⟨hi, hb⟩
    · rcases push_get he with ⟨_, he⟩ | ⟨hi', _⟩
      · obtain ⟨rc', T', fr', g1, g2, g3, g4⟩ := h.row i cs' st sz' ex' e hb he hst
        exact ⟨rc', T', fr', by rw [alloc_old _ _ (h.lt i e he)]; exact g1, VR.cellMono g2, g3, g4⟩
      · rw [h.len] at hi'; omega
    · injection hb with q1 q2 q3 q4
      subst q1 q2 q3 q4
      rcases push_get he with ⟨hi', he⟩ | ⟨_, rfl⟩
      · rw [h.len] at hi'; omega
      · refine ⟨rc, T, fr, alloc_new w _, ?_, hl, fun _ => ⟨by simp, hf, hx⟩, fun hxx => by have := hx hxx; simp only at this ⊢; omega⟩
        refine VR.cellMono (off := 0) ?_
        intro j v hj; simpa using hc j v hj
  · intro i cs' st sz' ex' e hb he
    rcases push_get hb with ⟨hi, hb⟩ | ⟨hi, hb⟩
    · rcases push_get he with ⟨_, he⟩ | ⟨hi', _⟩
      · exact h.szs i cs' st sz' ex' e hb he
      · rw [h.len] at hi'; omega
    · injection hb with q1 q2 q3 q4
      subst q3
      rcases push_get he with ⟨hi', he⟩ | ⟨_, rfl⟩
      · rw [h.len] at hi'; omega
      · rfl
  · intro i s p e hb he
    rcases push_get hb with ⟨hi, hb⟩ | ⟨hi, hb⟩
    · rcases push_get he with ⟨_, he⟩ | ⟨hi', _⟩
      · rw [alloc_old _ _ (h.lt i e he)]; exact h.sit i s p e hb he
      · rw [h.len] at hi'; omega
    · cases hb
  · intro i es e hb he
    rcases push_get hb with ⟨hi, hb⟩ | ⟨hi, hb⟩
    · rcases push_get he with ⟨_, he⟩ | ⟨hi', _⟩
      · rw [alloc_old _ _ (h.lt i e he)]
        obtain ⟨mes, clock, g1, g2, g3, g4⟩ := h.mp i es e hb he
        exact ⟨mes, clock, g1, g2, fun j m k v a b => let ⟨x, y, z⟩ := g3 j m k v a b; ⟨x.mono, y.mono, z⟩, g4⟩
      · rw [h.len] at hi'; omega
    · cases hb
  · intro i k b b' e e' hb hb' ho ha hne he he'
    rcases push_get he with ⟨hi, he⟩ | ⟨hi, rfl⟩
    · rcases push_get he' with ⟨hk, he'⟩ | ⟨hk, rfl⟩
      · rcases push_get hb with ⟨_, hb⟩ | ⟨hi2, _⟩
        · rcases push_get hb' with ⟨_, hb'⟩ | ⟨hk2, _⟩
          · exact h.apart i k b b' e e' hb hb' ho ha hne he he'
          · rw [h.len] at hk; omega
        · rw [h.len] at hi; omega
      · have := h.lt i e he; simp only; omega
    · rcases push_get he' with ⟨hk, he'⟩ | ⟨hk, rfl⟩
      · have := h.lt k e' he'; simp only; omega
      · omega

theorem Stp.push (cs : List Value) (sz : Nat) (ex : Bool) (l s : Nat) (o : Obj) (hl : μ.length = A.length) : Stp μ A w (μ ++ [⟨w.heap.size, 0, l, s⟩]) (A ++ [.row cs .own sz ex]) (w.alloc o) := by
  refine ⟨⟨_, rfl⟩, rfl, rfl, rfl, by rw [alloc_size]; omega, fun r hr _ => alloc_old _ _ hr, ?_⟩
  intro i b e hb ho he hlt
  rcases push_get he with ⟨hi, he⟩ | ⟨hi, rfl⟩
  · rcases push_get hb with ⟨_, hb⟩ | ⟨hi2, _⟩
    · exact ⟨i, b, e, hb, ho, he, rfl⟩
    · omega
  · simp only at hlt; omega

/-- A block is given up. -/
theorem Rel.kill (h : Rel G μ A w) {i : Nat} {cs : List Value} {st : St} {sz : Nat} {ex : Bool} (hi : A[i]? = some (.row cs st sz ex)) : Rel G μ (A.set i (.row cs .dead sz ex)) w := by
  refine ⟨by simp [h.len], h.glo, h.lt, ?_, ?_, ?_, ?_, ?_⟩
  · intro k cs' st' sz' ex' e hb he hst
    rcases get_set hb with ⟨rfl, q, _⟩ | ⟨_, hb⟩
    · injection q with _ q; exact absurd q hst
    · exact h.row k cs' st' sz' ex' e hb he hst
  · intro k cs' st' sz' ex' e hb he
    rcases get_set hb with ⟨rfl, q, _⟩ | ⟨_, hb⟩
    · injection q with _ _ q; subst q; exact h.szs k _ _ _ _ e hi he
    · exact h.szs k cs' st' sz' ex' e hb he
  · intro k s p e hb he
    rcases get_set hb with ⟨rfl, q, _⟩ | ⟨_, hb⟩
    · cases q
    · exact h.sit k s p e hb he
  · intro k es e hb he
    rcases get_set hb with ⟨rfl, q, _⟩ | ⟨_, hb⟩
    · cases q
    · exact h.mp k es e hb he
  · intro k l b b' e e' hb hb' ho ha hne he he'
    rcases get_set hb with ⟨rfl, rfl, _⟩ | ⟨_, hb⟩
    · simp [Blk.isOwn] at ho
    · rcases get_set hb' with ⟨rfl, rfl, _⟩ | ⟨_, hb'⟩
      · simp [Blk.alive] at ha
      · exact h.apart k l b b' e e' hb hb' ho ha hne he he'

theorem Stp.kill (μ : Mu) (w : World) {i : Nat} {cs : List Value} {st : St} {sz : Nat} {ex : Bool} (hi : A[i]? = some (.row cs st sz ex)) : Stp μ A w μ (A.set i (.row cs .dead sz ex)) w := by
  refine ⟨⟨[], by simp⟩, rfl, rfl, rfl, Nat.le_refl _, fun _ _ _ => rfl, ?_⟩
  intro k b e hb ho he _
  rcases get_set hb with ⟨rfl, rfl, _⟩ | ⟨_, hb⟩
  · simp [Blk.isOwn] at ho
  · exact ⟨k, b, e, hb, ho, he, rfl⟩

/-- Less is asked of a block. -/
theorem Rel.setSt (h : Rel G μ A w) {i : Nat} {cs : List Value} {st st' : St} {sz : Nat} {ex : Bool} (hi : A[i]? = some (.row cs st sz ex)) (hm : st'.mine = true → st.mine = true) (hd : st ≠ .dead) : Rel G μ (A.set i (.row cs st' sz ex)) w := by
  have hown : ∀ s : St, (Blk.row cs s sz ex).isOwn = s.mine := fun s => by cases s <;> rfl
  have hal : (Blk.row cs st sz ex).alive = true := by cases st <;> first | rfl | exact absurd rfl hd
  refine ⟨by simp [h.len], h.glo, h.lt, ?_, ?_, ?_, ?_, ?_⟩
  · intro k cs' st2 sz' ex' e hb he hst
    rcases get_set hb with ⟨rfl, q, _⟩ | ⟨_, hb⟩
    · injection q with q1 q2 q3 q4; subst q1 q2 q3 q4
      obtain ⟨rc, T, fr, g1, g2, g3, g4⟩ := h.row k _ st _ _ e hi he hd
      exact ⟨rc, T, fr, g1, g2, g3, fun hh => g4.1 (hm hh), g4.2⟩
    · exact h.row k cs' st2 sz' ex' e hb he hst
  · intro k cs' st2 sz' ex' e hb he
    rcases get_set hb with ⟨rfl, q, _⟩ | ⟨_, hb⟩
    · injection q with _ _ q; subst q; exact h.szs k _ _ _ _ e hi he
    · exact h.szs k cs' st2 sz' ex' e hb he
  · intro k s p e hb he
    rcases get_set hb with ⟨rfl, q, _⟩ | ⟨_, hb⟩
    · cases q
    · exact h.sit k s p e hb he
  · intro k es e hb he
    rcases get_set hb with ⟨rfl, q, _⟩ | ⟨_, hb⟩
    · cases q
    · exact h.mp k es e hb he
  · intro k l b b' e e' hb hb' ho ha hne he he'
    rcases get_set hb with ⟨rfl, rfl, _⟩ | ⟨_, hb2⟩
    · rw [hown] at ho
      rcases get_set hb' with ⟨rfl, _, _⟩ | ⟨_, hb3⟩
      · exact absurd rfl hne
      · exact h.apart k l _ b' e e' hi hb3 (by rw [hown]; exact hm ho) ha hne he he'
    · rcases get_set hb' with ⟨rfl, rfl, _⟩ | ⟨_, hb3⟩
      · exact h.apart k l b _ e e' hb2 hi ho hal hne he he'
      · exact h.apart k l b b' e e' hb2 hb3 ho ha hne he he'
theorem Stp.setSt (μ : Mu) (w : World) {i : Nat} {cs : List Value} {st st' : St} {sz : Nat} {ex : Bool} (hi : A[i]? = some (.row cs st sz ex)) (hm : st'.mine = true → st.mine = true) : Stp μ A w μ (A.set i (.row cs st' sz ex)) w := by
  have hown : ∀ s : St, (Blk.row cs s sz ex).isOwn = s.mine := fun s => by cases s <;> rfl
  refine ⟨⟨[], by simp⟩, rfl, rfl, rfl, Nat.le_refl _, fun _ _ _ => rfl, ?_⟩
  intro k b e hb ho he _
  rcases get_set hb with ⟨rfl, rfl, _⟩ | ⟨_, hb⟩
  · rw [hown] at ho
    exact ⟨k, _, e, hi, by rw [hown]; exact hm ho, he, rfl⟩
  · exact ⟨k, b, e, hb, ho, he, rfl⟩

/-- The world behind a row of stores. -/
structure Wrote (w w' : World) (b : Nat) (rc rc' : Array Value) (T : TypeId) (fr : Nat × Nat) (o : Nat) (vs : List Value) : Prop where
  heap : w'.heap[b]? = some (.cells rc' T fr)
  size : rc'.size = rc.size
  cells : ∀ (j : Nat), rc'[j]? = if o ≤ j ∧ j < o + vs.length then vs[j - o]? else rc[j]?
  other : ∀ r, r ≠ b → w'.heap[r]? = w.heap[r]?
  hsize : w'.heap.size = w.heap.size
  os : w'.os = w.os
  tape : w'.tape = w.tape
  output : w'.output = w.output

theorem run_storeRow (P : Program) (b o : Nat) (T : TypeId) (fr : Nat × Nat) : ∀ (vs : List Value) (i : Nat) (w : World) (rc : Array Value), w.heap[b]? = some (.cells rc T fr) → o + i + vs.length ≤ rc.size →
    (fr.1 = fr.2 ∨ rc.size ≤ fr.1) → ones vs = true → ∃ w' rc', (storeCells ⟨b, o, none⟩ vs i).run P w = .ok () w' ∧ Wrote w w' b rc rc' T fr (o + i) vs
  | [], i, w, rc, hh, _, _, _ => ⟨w, rc, rfl, hh, rfl, fun j => by rw [if_neg (by simp only [List.length_nil]; omega)], fun _ _ => rfl, rfl, rfl, rfl, rfl⟩
  | v :: r, i, w, rc, hh, hl, hf, h1 => by
    have hadd : (⟨b, o, none⟩ : Addr).add i = ⟨b, o + i, none⟩ := by unfold Addr.add; split <;> simp_all
    simp only [List.length_cons] at hl
    have hv : v.oneCell' = true := ones_get h1 (j := 0) rfl
    have hr : ones r = true := by unfold ones at *; simp only [List.all_cons, Bool.and_eq_true] at h1; exact h1.2
    have hlt : o + i < rc.size := by omega
    have hcell : w.cell? ⟨b, o + i, none⟩ = some rc[o + i] := by simp [World.cell?, hh, hlt]
    have hfz : w.frozen? ⟨b, o + i, none⟩ = false := by
      have : ¬ (fr.1 ≤ o + i ∧ o + i < fr.2) := by omega
      obtain ⟨f1, f2⟩ := fr
      simp only [World.frozen?, hh]
      simp only at this
      rw [Bool.and_eq_false_iff]
      rcases Nat.lt_or_ge (o + i) f1 with h | h
      · left; rw [decide_eq_false_iff_not]; omega
      · right; rw [decide_eq_false_iff_not]; omega
    have hst : (store ((⟨b, o, none⟩ : Addr).add i) v).run P w = .ok () (w.setCell ⟨b, o + i, none⟩ v) := by
      rw [hadd, run_store P w _ v _ hv]
      simp [hcell, hfz]
    have hheap : (w.setCell ⟨b, o + i, none⟩ v).heap[b]? = some (.cells (rc.setIfInBounds (o + i) v) T fr) := by
      simp [World.setCell, Array.getElem?_modify, hh]
    obtain ⟨w', rc', g1, g⟩ := run_storeRow P b o T fr r (i + 1) (w.setCell ⟨b, o + i, none⟩ v) (rc.setIfInBounds (o + i) v) hheap (by simp; omega) (by simpa using hf) hr
    refine ⟨w', rc', ?_, g.heap, by rw [g.size]; simp, ?_, ?_, ?_, ?_, ?_, ?_⟩
    · simp only [storeCells, Sem.run_bind, hst, Result.andThen_ok, g1]
    · intro j
      rw [g.cells j, Array.getElem?_setIfInBounds]
      simp only [List.length_cons]
      by_cases hj : o + i ≤ j ∧ j < o + i + (r.length + 1)
      · rw [if_pos hj]
        rcases Nat.lt_or_ge (o + i) j with h | h
        · rw [if_pos (by omega), show j - (o + i) = (j - (o + (i + 1))) + 1 by omega, List.getElem?_cons_succ]
        · have : j = o + i := by omega
          subst this
          rw [if_neg (by omega), if_pos rfl, if_pos hlt]; simp
      · rw [if_neg hj, if_neg (by omega), if_neg (by omega)]
    · intro x hx
      rw [g.other x hx]
      simp only [World.setCell, Array.getElem?_modify]
      rw [if_neg (by omega)]
    · rw [g.hsize]; simp [World.setCell]
    · rw [g.os]; rfl
    · rw [g.tape]; rfl
    · rw [g.output]; rfl

theorem setAll_length (cs : List Value) (o : Nat) (vs : List Value) (h : o + vs.length ≤ cs.length) : (setAll cs o vs).length = cs.length := by
  unfold setAll; simp; omega
theorem setAll_get (cs : List Value) (o : Nat) (vs : List Value) (h : o + vs.length ≤ cs.length) (j : Nat) : (setAll cs o vs)[j]? = if o ≤ j ∧ j < o + vs.length then vs[j - o]? else cs[j]? := by
  unfold setAll
  rw [List.append_assoc, List.getElem?_append]
  simp only [List.length_take]
  rcases Nat.lt_or_ge j o with h1 | h1
  · rw [if_pos (by omega), if_neg (by omega), List.getElem?_take_of_lt h1]
  · rw [if_neg (by omega), List.getElem?_append]
    rcases Nat.lt_or_ge j (o + vs.length) with h2 | h2
    · rw [if_pos (by omega), if_pos ⟨h1, h2⟩]; congr 1; omega
    · rw [if_neg (by omega), if_neg (by omega), List.getElem?_drop]; congr 1; omega

/-- Cells of a block of the call's own are written. -/
theorem setAll_lengthX (cs : List Value) (o : Nat) (vs : List Value) (h : o ≤ cs.length) : (setAll cs o vs).length = max cs.length (o + vs.length) := by
  unfold setAll; simp; omega
theorem setAll_getX (cs : List Value) (o : Nat) (vs : List Value) (h : o ≤ cs.length) (j : Nat) : (setAll cs o vs)[j]? = if o ≤ j ∧ j < o + vs.length then vs[j - o]? else cs[j]? := by
  unfold setAll
  rw [List.getElem?_append, List.getElem?_append]
  simp only [List.length_append, List.length_take, Nat.min_eq_left h]
  by_cases h1 : j < o
  · rw [if_pos (by omega), if_pos h1, if_neg (by omega), List.getElem?_take_of_lt h1]
  · by_cases h2 : j < o + vs.length
    · rw [if_pos h2, if_neg h1, if_pos ⟨by omega, h2⟩]
    · rw [if_neg h2, if_neg (by omega), List.getElem?_drop]
      congr 1; omega
theorem Rel.write (h : Rel G μ A w) {i o : Nat} {vs vs' : List Value} {cs : List Value} {sz : Nat} {ex : Bool} {e : Ent} {w' : World} {rc rc' : Array Value} {T : TypeId} {fr : Nat × Nat}
    (hi : A[i]? = some (.row cs .own sz ex)) (he : μ[i]? = some e) (hrc : w.heap[e.blk]? = some (.cells rc T fr)) (hl : o + vs.length ≤ cs.length) (h1 : ones vs = true)
    (hlen : vs'.length = vs.length) (hv : ∀ (j : Nat) v v', vs[j]? = some v → vs'[j]? = some v' → VR μ v v') (hw : Wrote w w' e.blk rc rc' T fr (e.off + o) vs') :
    Rel G μ (A.set i (.row (setAll cs o vs) .own sz ex)) w' := by
  have hother : ∀ (k : Nat) (b : Blk) (e' : Ent), A[k]? = some b → b.alive = true → k ≠ i → μ[k]? = some e' → w'.heap[e'.blk]? = w.heap[e'.blk]? := by
    intro k b e' hk ha hne hk'
    exact hw.other _ (fun q => h.apart i k _ b e e' hi hk rfl ha (Ne.symm hne) he hk' q.symm)
  refine ⟨by simp [h.len], h.glo, fun k e' hk => by rw [hw.hsize]; exact h.lt k e' hk, ?_, ?_, ?_, ?_, ?_⟩
  · intro k cs' st' sz' ex' e' hb hk hst
    rcases get_set hb with ⟨rfl, q, _⟩ | ⟨hne, hb⟩
    · injection q with q1 q2 q3 q4
      subst q1 q2 q3 q4
      rw [he] at hk
      obtain rfl := Option.some.inj hk
      obtain ⟨rc0, T0, fr0, g1, g2, g3, g4⟩ := h.row k cs .own _ _ e hi he (by decide)
      rw [hrc] at g1
      injection g1 with g1
      injection g1 with q1 q2 q3
      subst q1 q2 q3
      obtain ⟨g5, g6, g7⟩ := g4.1 rfl
      refine ⟨rc', T, fr, hw.heap, ?_, by rw [setAll_length _ _ _ hl]; exact g3, fun _ => ⟨by rw [hw.size]; exact g5, by rw [hw.size]; exact g6, fun hx => by rw [setAll_length _ _ _ hl]; exact g7 hx⟩, fun hx => by rw [hw.size, setAll_length _ _ _ hl]; exact g4.2 hx⟩
      intro j v hj
      rw [setAll_get _ _ _ hl] at hj
      rw [hw.cells]
      by_cases hc : o ≤ j ∧ j < o + vs.length
      · rw [if_pos hc] at hj
        rw [if_pos (by omega)]
        have : j - o < vs'.length := by omega
        refine ⟨ones_get h1 hj, vs'[j - o], ?_, hv _ _ _ hj (List.getElem?_eq_getElem this)⟩
        rw [show e.off + j - (e.off + o) = j - o by omega]; exact List.getElem?_eq_getElem this
      · rw [if_neg hc] at hj
        rw [if_neg (by omega)]
        exact g2 j v hj
    · obtain ⟨rc0, T0, fr0, g1, g2⟩ := h.row k cs' st' sz' ex' e' hb hk hst
      exact ⟨rc0, T0, fr0, by rw [hother k _ e' hb (by cases st' <;> first | rfl | exact absurd rfl hst) hne hk]; exact g1, g2⟩
  · intro k cs' st' sz' ex' e' hb hk
    rcases get_set hb with ⟨rfl, q, _⟩ | ⟨_, hb⟩
    · injection q with _ _ q; subst q; exact h.szs k _ _ _ _ e' hi hk
    · exact h.szs k cs' st' sz' ex' e' hb hk
  · intro k s p e' hb hk
    rcases get_set hb with ⟨rfl, q, _⟩ | ⟨hne, hb⟩
    · cases q
    · rw [hother k _ e' hb rfl hne hk]; exact h.sit k s p e' hb hk
  · intro k es e' hb hk
    rcases get_set hb with ⟨rfl, q, _⟩ | ⟨hne, hb⟩
    · cases q
    · rw [hother k _ e' hb rfl hne hk]; exact h.mp k es e' hb hk
  · intro k l b b' e1 e2 hb hb' ho ha hne hk hk'
    have hb2 : ∃ b2, A[k]? = some b2 ∧ b2.isOwn = true := by
      rcases get_set hb with ⟨rfl, _, _⟩ | ⟨_, hb⟩
      · exact ⟨_, hi, rfl⟩
      · exact ⟨b, hb, ho⟩
    have hb3 : ∃ b3, A[l]? = some b3 ∧ b3.alive = true := by
      rcases get_set hb' with ⟨rfl, _, _⟩ | ⟨_, hb'⟩
      · exact ⟨_, hi, rfl⟩
      · exact ⟨b', hb', ha⟩
    obtain ⟨b2, p1, p2⟩ := hb2
    obtain ⟨b3, p3, p4⟩ := hb3
    exact h.apart k l b2 b3 e1 e2 p1 p3 p2 p4 hne hk hk'

/-- Cells that are written behind what is known of a row, too. -/
theorem Rel.writeX (h : Rel G μ A w) {i o : Nat} {vs vs' : List Value} {cs : List Value} {sz : Nat} {ex : Bool} {e : Ent} {w' : World} {rc rc' : Array Value} {T : TypeId} {fr : Nat × Nat}
    (hi : A[i]? = some (.row cs .own sz ex)) (he : μ[i]? = some e) (hrc : w.heap[e.blk]? = some (.cells rc T fr)) (hl0 : o ≤ cs.length) (hl : o + vs.length ≤ e.lim) (h1 : ones vs = true)
    (hlen : vs'.length = vs.length) (hv : ∀ (j : Nat) v v', vs[j]? = some v → vs'[j]? = some v' → VR μ v v') (hw : Wrote w w' e.blk rc rc' T fr (e.off + o) vs') :
    Rel G μ (A.set i (.row (setAll cs o vs) .own sz ex)) w' := by
  have hother : ∀ (k : Nat) (b : Blk) (e' : Ent), A[k]? = some b → b.alive = true → k ≠ i → μ[k]? = some e' → w'.heap[e'.blk]? = w.heap[e'.blk]? := by
    intro k b e' hk ha hne hk'
    exact hw.other _ (fun q => h.apart i k _ b e e' hi hk rfl ha (Ne.symm hne) he hk' q.symm)
  refine ⟨by simp [h.len], h.glo, fun k e' hk => by rw [hw.hsize]; exact h.lt k e' hk, ?_, ?_, ?_, ?_, ?_⟩
  · intro k cs' st' sz' ex' e' hb hk hst
    rcases get_set hb with ⟨rfl, q, _⟩ | ⟨hne, hb⟩
    · injection q with q1 q2 q3 q4
      subst q1 q2 q3 q4
      rw [he] at hk
      obtain rfl := Option.some.inj hk
      obtain ⟨rc0, T0, fr0, g1, g2, g3, g4⟩ := h.row k cs .own _ _ e hi he (by decide)
      rw [hrc] at g1
      injection g1 with g1
      injection g1 with q1 q2 q3
      subst q1 q2 q3
      obtain ⟨g5, g6, g7⟩ := g4.1 rfl
      refine ⟨rc', T, fr, hw.heap, ?_, by rw [setAll_lengthX _ _ _ hl0]; omega, fun _ => ⟨by rw [hw.size]; exact g5, by rw [hw.size]; exact g6, fun hx => by have := g7 hx; rw [setAll_lengthX _ _ _ hl0]; omega⟩, fun hx => by have := g7 hx; have := g4.2 hx; rw [hw.size, setAll_lengthX _ _ _ hl0]; omega⟩
      intro j v hj
      rw [setAll_getX _ _ _ hl0] at hj
      rw [hw.cells]
      by_cases hc : o ≤ j ∧ j < o + vs.length
      · rw [if_pos hc] at hj
        rw [if_pos (by omega)]
        have : j - o < vs'.length := by omega
        refine ⟨ones_get h1 hj, vs'[j - o], ?_, hv _ _ _ hj (List.getElem?_eq_getElem this)⟩
        rw [show e.off + j - (e.off + o) = j - o by omega]; exact List.getElem?_eq_getElem this
      · rw [if_neg hc] at hj
        rw [if_neg (by omega)]
        exact g2 j v hj
    · obtain ⟨rc0, T0, fr0, g1, g2⟩ := h.row k cs' st' sz' ex' e' hb hk hst
      exact ⟨rc0, T0, fr0, by rw [hother k _ e' hb (by cases st' <;> first | rfl | exact absurd rfl hst) hne hk]; exact g1, g2⟩
  · intro k cs' st' sz' ex' e' hb hk
    rcases get_set hb with ⟨rfl, q, _⟩ | ⟨_, hb⟩
    · injection q with _ _ q; subst q; exact h.szs k _ _ _ _ e' hi hk
    · exact h.szs k cs' st' sz' ex' e' hb hk
  · intro k s p e' hb hk
    rcases get_set hb with ⟨rfl, q, _⟩ | ⟨hne, hb⟩
    · cases q
    · rw [hother k _ e' hb rfl hne hk]; exact h.sit k s p e' hb hk
  · intro k es e' hb hk
    rcases get_set hb with ⟨rfl, q, _⟩ | ⟨hne, hb⟩
    · cases q
    · rw [hother k _ e' hb rfl hne hk]; exact h.mp k es e' hb hk
  · intro k l b b' e1 e2 hb hb' ho ha hne hk hk'
    have hb2 : ∃ b2, A[k]? = some b2 ∧ b2.isOwn = true := by
      rcases get_set hb with ⟨rfl, _, _⟩ | ⟨_, hb⟩
      · exact ⟨_, hi, rfl⟩
      · exact ⟨b, hb, ho⟩
    have hb3 : ∃ b3, A[l]? = some b3 ∧ b3.alive = true := by
      rcases get_set hb' with ⟨rfl, _, _⟩ | ⟨_, hb'⟩
      · exact ⟨_, hi, rfl⟩
      · exact ⟨b', hb', ha⟩
    obtain ⟨b2, p1, p2⟩ := hb2
    obtain ⟨b3, p3, p4⟩ := hb3
    exact h.apart k l b2 b3 e1 e2 p1 p3 p2 p4 hne hk hk'

theorem Stp.write {i o o' : Nat} {vs vs' : List Value} {cs : List Value} {sz : Nat} {ex : Bool} {e : Ent} {w' : World} {rc rc' : Array Value} {T : TypeId} {fr : Nat × Nat}
    (hi : A[i]? = some (.row cs .own sz ex)) (he : μ[i]? = some e) (hw : Wrote w w' e.blk rc rc' T fr o' vs') :
    Stp μ A w μ (A.set i (.row (setAll cs o vs) .own sz ex)) w' := by
  refine ⟨⟨[], by simp⟩, hw.os, hw.tape, hw.output, by rw [hw.hsize]; exact Nat.le_refl _, ?_, ?_⟩
  · intro r _ hno
    exact hw.other r (fun q => hno i _ e hi rfl he q.symm)
  · intro k b e' hb ho hk _
    rcases get_set hb with ⟨rfl, rfl, _⟩ | ⟨_, hb⟩
    · exact ⟨k, _, e', hi, rfl, hk, rfl⟩
    · exact ⟨k, b, e', hb, ho, hk, rfl⟩

end
end Go.AS


namespace Go.AS
open Go
set_option linter.unusedVariables false
set_option linter.unusedSimpArgs false

/-- What an operation's program comes to, told of the abstract state behind it. -/
def Sim (G : Nat) (μ : Mu) (A : AH) (w : World) (v : Value) (A' : AH) (r : Result Next) : Prop :=
  ∃ v' μ' w', (r = .ok (.value v') w' ∨ r = .ok .skip w' ∧ v' = undef) ∧ VR μ' v v' ∧ Rel G μ' A' w' ∧ Stp μ A w μ' A' w'

section
variable {G : Nat} {μ : Mu} {A : AH} {w : World} {P : Program}

theorem Sim.same {v v' : Value} {r : Result Next} (hr : Rel G μ A w) (he : r = .ok (.value v') w) (hv : VR μ v v') : Sim G μ A w v A r :=
  ⟨v', μ, w, .inl he, hv, hr, Stp.refl _ _ _⟩
theorem Sim.flat {v : Value} {r : Result Next} (hr : Rel G μ A w) (he : r = .ok (.value v) w) (hv : flatV v = true) : Sim G μ A w v A r :=
  Sim.same hr he (.flat hv)

theorem run_value {s : Sem Value} {v : Value} {w w' : World} (h : s.run P w = .ok v w') : ((do pure (.value (← s))) : Sem Next).run P w = .ok (.value v) w' := by
  simp [h]
theorem run_skip {s : Sem Unit} {w w' : World} (h : s.run P w = .ok () w') : ((do s; pure .skip) : Sem Next).run P w = .ok .skip w' := by
  simp [h]

theorem VR.cells {v v' : Value} (h : VR μ v v') : v.cells.size = v'.cells.size ∧ ∀ (j : Nat) x y, v.cells[j]? = some x → v'.cells[j]? = some y → VR μ x y := by
  cases h with
  | agg h1 h2 => exact ⟨h1, h2⟩
  | flat h =>
    refine ⟨rfl, fun j x y hx hy => ?_⟩
    rw [hx] at hy
    obtain rfl := Option.some.inj hy
    cases v <;> simp only [flatV] at h <;> first
      | (cases h; done)
      | (cases j with
          | zero => simp only [Value.cells, List.getElem?_toArray, List.getElem?_cons_zero, Option.some.injEq] at hx; subst hx; exact .flat (by first | exact h | rfl)
          | succ j => simp [Value.cells] at hx)
  | ptr h => exact ⟨rfl, fun j x y hx hy => by cases j with | zero => simp [Value.cells] at hx hy; subst hx hy; exact .ptr h | succ j => simp [Value.cells] at hx⟩
  | slc h a b c d => exact ⟨rfl, fun j x y hx hy => by cases j with | zero => simp [Value.cells] at hx hy; subst hx hy; exact .slc h a b c d | succ j => simp [Value.cells] at hx⟩
  | sle h => exact ⟨rfl, fun j x y hx hy => by cases j with | zero => simp [Value.cells] at hx hy; subst hx hy; exact .sle h | succ j => simp [Value.cells] at hx⟩
  | slz => exact ⟨rfl, fun j x y hx hy => by cases j with | zero => simp [Value.cells] at hx hy; subst hx hy; exact .slz | succ j => simp [Value.cells] at hx⟩
  | slo h => exact ⟨rfl, fun j x y hx hy => by cases j with | zero => simp [Value.cells] at hx hy; subst hx hy; exact .slo h | succ j => simp [Value.cells] at hx⟩
  | map h => exact ⟨rfl, fun j x y hx hy => by cases j with | zero => simp [Value.cells] at hx hy; subst hx hy; exact .map h | succ j => simp [Value.cells] at hx⟩
  | func a b c d e => exact ⟨rfl, fun j x y hx hy => by cases j with | zero => simp [Value.cells] at hx hy; subst hx hy; exact .func a b c d e | succ j => simp [Value.cells] at hx⟩
  | iface h => exact ⟨rfl, fun j x y hx hy => by cases j with | zero => simp [Value.cells] at hx hy; subst hx hy; exact .iface h | succ j => simp [Value.cells] at hx⟩
  | tuple h1 h2 => exact ⟨rfl, fun j x y hx hy => by cases j with | zero => simp [Value.cells] at hx hy; subst hx hy; exact .tuple h1 h2 | succ j => simp [Value.cells] at hx⟩

/-- Cells of lists that go together. -/
theorem get_both {α β : Type} {a : Array α} {b : Array β} (h : a.size = b.size) {j : Nat} {x : α} (hx : a[j]? = some x) : ∃ y, b[j]? = some y := by
  have : j < a.size := by
    rcases Nat.lt_or_ge j a.size with h' | h'
    · exact h'
    · rw [Array.getElem?_eq_none h'] at hx; cases hx
  exact ⟨b[j]'(by omega), Array.getElem?_eq_getElem (by omega)⟩

theorem VR.cells' {v v' : Value} (h : VR μ v v') (h1 : ones v.cells.toList = true) : ∀ (j : Nat) x, v.cells.toList[j]? = some x → x.oneCell' = true ∧ ∃ y, v'.cells[j]? = some y ∧ VR μ x y := by
  intro j x hx
  refine ⟨ones_get h1 hx, ?_⟩
  rw [Array.getElem?_toList] at hx
  obtain ⟨y, hy⟩ := get_both h.cells.1 hx
  exact ⟨y, hy, h.cells.2 j x y hx hy⟩

/-- A new block, and a pointer to it. -/
theorem sim_new {cs : List Value} {rc : Array Value} {T : TypeId} {r : Result Next} (hr : Rel G μ A w)
    (hc : ∀ (j : Nat) v, cs[j]? = some v → v.oneCell' = true ∧ ∃ v', rc[j]? = some v' ∧ VR μ v v') (hl : cs.length = rc.size)
    (he : r = .ok (.value (.pointer (some ⟨w.heap.size, 0, none⟩))) (w.alloc (.cells rc T))) :
    Sim G μ A w (.pointer (some ⟨A.length, 0, none⟩)) (A ++ [.row cs .own 0 true]) r := by
  refine ⟨_, _, _, .inl he, ?_, hr.push hc (by omega) (by simp) (fun _ => hl.symm), Stp.push _ _ _ _ _ _ hr.len⟩
  have : (μ ++ [(⟨w.heap.size, 0, rc.size, 0⟩ : Ent)])[A.length]? = some ⟨w.heap.size, 0, rc.size, 0⟩ := by rw [← hr.len]; simp
  exact VR.ptr this

/-- A new block, and a slice of it all. -/
theorem sim_newSl {cs : List Value} {rc : Array Value} {T : TypeId} {fr : Nat × Nat} {sz n c : Nat} {ex : Bool} {r : Result Next} {d : Nat} (hr : Rel G μ A w)
    (hc : ∀ (j : Nat) v, cs[j]? = some v → v.oneCell' = true ∧ ∃ v', rc[j]? = some v' ∧ VR μ v v') (hl : cs.length ≤ rc.size)
    (hf : fr.1 = fr.2 ∨ (sz = 1 ∧ rc.size ≤ fr.1)) (hx : ex = true → rc.size = cs.length) {c' : Nat} (h1 : n ≤ c) (h2 : c ≤ c') (h3 : c' * sz = rc.size)
    (he : r = .ok (.value (.slice (some ⟨w.heap.size, 0, none⟩) n c')) ({ w with drawn := d }.alloc (.cells rc T fr))) :
    Sim G μ A w (.slice (some ⟨A.length, 0, none⟩) n c) (A ++ [.row cs .own sz ex]) r := by
  refine ⟨_, _, _, .inl he, ?_, (hr.draw d).push hc hl hf hx, (Stp.draw _ _ _ d).trans (Stp.push _ _ _ _ _ _ hr.len)⟩
  have : (μ ++ [(⟨w.heap.size, 0, rc.size, sz⟩ : Ent)])[A.length]? = some ⟨w.heap.size, 0, rc.size, sz⟩ := by rw [← hr.len]; simp
  exact VR.slc this h1 h2 (by simpa using Nat.le_of_eq h3) (fun _ => by simpa using h3)

/-- Where an abstract pointer leads. -/
theorem VR.ptr_inv {i o : Nat} {v' : Value} (h : VR μ (.pointer (some ⟨i, o, none⟩)) v') : ∃ e : Ent, μ[i]? = some e ∧ v' = .pointer (some ⟨e.blk, e.off + o, none⟩) := by
  cases h with
  | flat h => simp [flatV] at h
  | ptr h => exact ⟨_, h, rfl⟩

theorem getRow_some {i : Nat} {cs : List Value} {st : St} {sz : Nat} {ex : Bool} (h : getRow A i = some (cs, st, sz, ex)) : A[i]? = some (.row cs st sz ex) ∧ st ≠ .dead := by
  unfold getRow at h
  split at h
  · split at h
    · cases h
    · injection h with h; injection h with h1 h; injection h with h2 h; injection h with h3 h4
      subst h1 h2 h3 h4
      exact ⟨by assumption, by assumption⟩
  · cases h

theorem add_none (b o n : Nat) : (⟨b, o, none⟩ : Addr).add n = ⟨b, o + n, none⟩ := by unfold Addr.add; split <;> simp_all

/-- A cell of a block that is there. -/
theorem Rel.cell (hr : Rel G μ A w) {i o : Nat} {cs : List Value} {st : St} {sz : Nat} {ex : Bool} {e : Ent} (hi : A[i]? = some (.row cs st sz ex)) (hst : st ≠ .dead) (he : μ[i]? = some e)
    {v : Value} (hv : cs[o]? = some v) : ∃ v', w.cell? ⟨e.blk, e.off + o, none⟩ = some v' ∧ VR μ v v' ∧ v.oneCell' = true := by
  obtain ⟨rc, T, fr, g1, g2, _, _⟩ := hr.row i cs st sz ex e hi he hst
  obtain ⟨h1, v', h2, h3⟩ := g2 o v hv
  exact ⟨v', by simp [World.cell?, g1, h2], h3, h1⟩

theorem cut_some {cs l : List Value} {o n : Nat} (h : cut cs o n = some l) : o + n ≤ cs.length ∧ l.length = n ∧ ∀ (j : Nat), j < n → l[j]? = cs[o + j]? := by
  unfold cut at h
  split at h
  · rename_i hl
    obtain rfl := Option.some.inj h
    refine ⟨hl, by simp; omega, fun j hj => ?_⟩
    rw [List.getElem?_take_of_lt hj, List.getElem?_drop]
  · cases h

/-- Cells that are read. -/
theorem Rel.cells (hr : Rel G μ A w) {i o n : Nat} {cs l : List Value} {st : St} {sz : Nat} {ex : Bool} {e : Ent} (hi : A[i]? = some (.row cs st sz ex)) (hst : st ≠ .dead) (he : μ[i]? = some e)
    (hl : cut cs o n = some l) : ∃ l' : List Value, l'.length = n ∧ (∀ (j : Nat) v v', l[j]? = some v → l'[j]? = some v' → VR μ v v') ∧ ones l' = true ∧ ones l = true ∧
      ∀ d, (loadCells ⟨e.blk, e.off + o, none⟩ n).run P { w with drawn := d } = .ok l'.toArray { w with drawn := d } := by
  obtain ⟨h1, h2, h3⟩ := cut_some hl
  have hex : ∀ j, j < n → ∃ v v', l[j]? = some v ∧ w.cell? ⟨e.blk, e.off + o + j, none⟩ = some v' ∧ VR μ v v' ∧ v.oneCell' = true := by
    intro j hj
    have : cs[o + j]? = some cs[o + j] := List.getElem?_eq_getElem (by omega)
    obtain ⟨v', g1, g2, g3⟩ := hr.cell hi hst he this
    exact ⟨_, v', by rw [h3 j hj]; exact this, by rw [Nat.add_assoc]; exact g1, g2, g3⟩
  have hsome : ∀ j, j < n → w.cell? ⟨e.blk, e.off + o + j, none⟩ = some ((w.cell? ⟨e.blk, e.off + o + j, none⟩).getD undef) := by
    intro j hj
    obtain ⟨v, v', _, g2, _⟩ := hex j hj
    rw [g2]; rfl
  refine ⟨(List.range n).map fun j => (w.cell? ⟨e.blk, e.off + o + j, none⟩).getD undef, by simp, ?_, ?_, ?_, ?_⟩
  · intro j v v' hj hj'
    have hlt : j < n := by have := lt_of_get hj; omega
    obtain ⟨u, u', g1, g2, g3, g4⟩ := hex j hlt
    rw [g1] at hj
    obtain rfl := Option.some.inj hj
    rw [List.getElem?_map, List.getElem?_range hlt] at hj'
    simp only [Option.map_some, Option.some.injEq, g2, Option.getD_some] at hj'
    subst hj'
    exact g3
  · unfold ones
    rw [List.all_eq_true]
    intro x hx
    rw [List.mem_map] at hx
    obtain ⟨j, hj, rfl⟩ := hx
    rw [List.mem_range] at hj
    obtain ⟨u, u', g1, g2, g3, g4⟩ := hex j hj
    rw [g2, Option.getD_some, g3.oneCell]; exact g4
  · unfold ones
    rw [List.all_eq_true]
    intro x hx
    obtain ⟨j, hj, rfl⟩ := List.getElem_of_mem hx
    obtain ⟨u, u', g1, g2, g3, g4⟩ := hex j (by omega)
    rw [List.getElem?_eq_getElem hj] at g1
    obtain rfl := Option.some.inj g1
    exact g4
  · intro d
    have := run_loadCells (P := P) { w with drawn := d } ⟨e.blk, e.off + o, none⟩ n (fun j => (w.cell? ⟨e.blk, e.off + o + j, none⟩).getD undef) (fun j hj => by rw [add_none]; exact hsome j hj)
    exact this

end
end Go.AS


namespace Go.AS
open Go
set_option linter.unusedVariables false
set_option linter.unusedSimpArgs false

def aggD : TypeDesc → Bool
  | .struct _ | .array _ _ => true
  | _ => false

section
variable {G : Nat} {μ : Mu} {A A' : AH} {w : World} {P : Program} {v : Value}

theorem run_isAgg {t : TypeId} {d : TypeDesc} (h : P.underlying t = some d) : (isAgg t).run P w = .ok (aggD d) w := by
  unfold isAgg
  rw [Sem.run_bind, run_underlying h, Result.andThen_ok]
  cases d <;> rfl
theorem run_size {t : TypeId} {i : TypeInfo} (h : P.info? t = some i) : (sizeOf t).run P w = .ok i.size w := by
  unfold sizeOf
  rw [Sem.run_bind, run_typeInfo _ h]; rfl
theorem run_zero {t : TypeId} {i : TypeInfo} {z : Value} (h : P.info? t = some i) (hz : i.zero = some z) : (zeroValue t).run P w = .ok z w := by
  unfold zeroValue
  rw [Sem.run_bind, run_typeInfo _ h, Result.andThen_ok, hz]; rfl

theorem sim_pick {c a b c' a' b' : Value} (hr : Rel G μ A w) (hc : VR μ c c') (ha : VR μ a a') (hb : VR μ b b')
    (hs : sPick A c a b = some (v, A')) : Sim G μ A w v A' ((do pure (.value (if ← asBool c' then a' else b')) : Sem Next).run P w) := by
  unfold sPick at hs
  split at hs
  · rename_i t
    injection hs with hs; injection hs with h1 h2; subst h1 h2
    obtain rfl := hc.bool
    refine Sim.same hr (v' := if t then a' else b') ?_ (by cases t <;> assumption)
    simp [asBool]
  · cases hs

theorem sim_load1 {a a' : Value} {t : TypeId} {d : TypeDesc} (hr : Rel G μ A w) (ha : VR μ a a') (hu : P.underlying t = some d) (hd : aggD d = false)
    (hs : sLoad1 A a = some (v, A')) :
    Sim G μ A w v A' ((do pure (.value (← Instr.loadAt t a')) : Sem Next).run P w) := by
  unfold sLoad1 at hs
  split at hs
  · rename_i i o
    rw [Option.bind_eq_some_iff] at hs
    obtain ⟨⟨cs, st, sz, ex⟩, h1, h2⟩ := hs
    rw [Option.map_eq_some_iff] at h2
    obtain ⟨x, h2, h3⟩ := h2
    injection h3 with h3 h4; subst h3 h4
    obtain ⟨h5, h6⟩ := getRow_some h1
    obtain ⟨e, he, rfl⟩ := ha.ptr_inv
    obtain ⟨v', g1, g2, _⟩ := hr.cell h5 h6 he h2
    refine Sim.same hr (run_value ?_) g2
    unfold Instr.loadAt Instr.sureAddr loadVar
    simp [run_isAgg hu, hd, g1]
  · cases hs

theorem VR.aggOf {l : List Value} {l' : List Value} (h : l'.length = l.length) (hv : ∀ (j : Nat) v v', l[j]? = some v → l'[j]? = some v' → VR μ v v') : VR μ (.agg l.toArray) (.agg l'.toArray) :=
  .agg (by simp [h]) (fun j x y hx hy => hv j x y (by simpa using hx) (by simpa using hy))

theorem sim_loadn {a a' : Value} {t : TypeId} {d : TypeDesc} {i : TypeInfo} (hr : Rel G μ A w) (ha : VR μ a a') (hu : P.underlying t = some d) (hd : aggD d = true) (hi : P.info? t = some i)
    (hs : sLoadn A a i.size = some (v, A')) :
    Sim G μ A w v A' ((do pure (.value (← Instr.loadAt t a')) : Sem Next).run P w) := by
  unfold sLoadn at hs
  split at hs
  · rename_i k o
    rw [Option.bind_eq_some_iff] at hs
    obtain ⟨⟨cs, st, sz, ex⟩, h1, h2⟩ := hs
    rw [Option.map_eq_some_iff] at h2
    obtain ⟨x, h2, h3⟩ := h2
    injection h3 with h3 h4; subst h3 h4
    obtain ⟨h5, h6⟩ := getRow_some h1
    obtain ⟨e, he, rfl⟩ := ha.ptr_inv
    obtain ⟨l', g1, g2, _, _, g3⟩ := hr.cells (P := P) h5 h6 he h2
    have g3 : (loadCells ⟨e.blk, e.off + o, none⟩ i.size).run P w = .ok l'.toArray w := g3 w.drawn
    refine Sim.same hr (run_value (v := .agg l'.toArray) ?_) (VR.aggOf (by rw [g1, (cut_some h2).2.1]) g2)
    unfold Instr.loadAt Instr.sureAddr loadVar
    simp [run_isAgg hu, hd, run_size hi, g3]
  · cases hs

theorem wr_some {i o : Nat} {vs : List Value} (h : wr A i o vs = some A') : ∃ cs sz ex, A[i]? = some (.row cs .own sz ex) ∧ o + vs.length ≤ cs.length ∧ ones vs = true ∧ A' = A.set i (.row (setAll cs o vs) .own sz ex) := by
  unfold wr at h
  split at h
  · split at h
    · rename_i cs sz ex heq hc
      exact ⟨cs, sz, ex, heq, hc.1, hc.2, (Option.some.inj h).symm⟩
    · cases h
  · cases h

/-- Cells that are written. -/
theorem Rel.storeRow (hr : Rel G μ A w) {i o : Nat} {vs vs' : List Value} {e : Ent} (h : wr A i o vs = some A') (he : μ[i]? = some e) (hlen : vs'.length = vs.length)
    (hv : ∀ (j : Nat) v v', vs[j]? = some v → vs'[j]? = some v' → VR μ v v') :
    ∃ w', (storeCells ⟨e.blk, e.off + o, none⟩ vs').run P w = .ok () w' ∧ Rel G μ A' w' ∧ Stp μ A w μ A' w' := by
  obtain ⟨cs, sz, ex, h1, h2, h3, rfl⟩ := wr_some h
  obtain ⟨rc, T, fr, g1, g2, g3, g4⟩ := hr.row i cs .own sz ex e h1 he (by decide)
  obtain ⟨g5, g6, g7⟩ := g4.1 rfl
  have h3' : ones vs' = true := by
    unfold ones
    rw [List.all_eq_true]
    intro x hx
    obtain ⟨j, hj, rfl⟩ := List.getElem_of_mem hx
    have hj2 : j < vs.length := by omega
    rw [(hv j _ _ (List.getElem?_eq_getElem hj2) (List.getElem?_eq_getElem hj)).oneCell]
    exact ones_get h3 (List.getElem?_eq_getElem hj2)
  obtain ⟨w', rc', k1, k2⟩ := run_storeRow P e.blk (e.off + o) T fr vs' 0 w rc g1 (by omega) (g6.imp_right And.right) h3'
  exact ⟨w', k1, hr.write h1 he g1 h2 h3 hlen hv k2, Stp.write (o := o) h1 he k2⟩

/-- Cells that are written where there is room. -/
theorem Rel.storeRowX (hr : Rel G μ A w) {i o sz : Nat} {vs vs' : List Value} {e : Ent} (h : wrX A i o sz vs = some A') (he : μ[i]? = some e) (hlim : o + vs.length ≤ e.lim) (hlen : vs'.length = vs.length)
    (hv : ∀ (j : Nat) v v', vs[j]? = some v → vs'[j]? = some v' → VR μ v v') :
    ∃ w', (storeCells ⟨e.blk, e.off + o, none⟩ vs').run P w = .ok () w' ∧ Rel G μ A' w' ∧ Stp μ A w μ A' w' := by
  unfold wrX at h
  split at h
  · rename_i cs bsz ex h1
    split at h
    · rename_i hc
      obtain ⟨_, _, h2, h3⟩ := hc
      obtain rfl := Option.some.inj h
      obtain ⟨rc, T, fr, g1, g2, g3, g4⟩ := hr.row i cs .own bsz ex e h1 he (by decide)
      obtain ⟨g5, g6, g7⟩ := g4.1 rfl
      have h3' : ones vs' = true := by
        unfold ones
        rw [List.all_eq_true]
        intro x hx
        obtain ⟨j, hj, rfl⟩ := List.getElem_of_mem hx
        have hj2 : j < vs.length := by omega
        rw [(hv j _ _ (List.getElem?_eq_getElem hj2) (List.getElem?_eq_getElem hj)).oneCell]
        exact ones_get h3 (List.getElem?_eq_getElem hj2)
      obtain ⟨w', rc', k1, k2⟩ := run_storeRow P e.blk (e.off + o) T fr vs' 0 w rc g1 (by omega) (g6.imp_right And.right) h3'
      exact ⟨w', k1, hr.writeX h1 he g1 h2 hlim h3 hlen hv k2, Stp.write (o := o) h1 he k2⟩
    · cases h
  · cases h

theorem sim_store {a a' x x' : Value} {t : TypeId} {i : TypeInfo} (hr : Rel G μ A w) (ha : VR μ a a') (hx : VR μ x x') (hi : P.info? t = some i)
    (hs : sStore A a x i.size = some (v, A')) :
    Sim G μ A w v A' ((do Instr.storeAt t a' x'; pure .skip : Sem Next).run P w) := by
  unfold sStore at hs
  split at hs
  · rename_i k o
    split at hs
    · rename_i hsz
      rw [Option.map_eq_some_iff] at hs
      obtain ⟨A1, h1, h2⟩ := hs
      injection h2 with h2 h3; subst h2 h3
      obtain ⟨e, he, rfl⟩ := ha.ptr_inv
      obtain ⟨w', g1, g2, g3⟩ := hr.storeRow (P := P) h1 he (vs' := x'.cells.toList) (by simp [hx.cells.1]) (fun j u u' hu hu' => hx.cells.2 j u u' (by simpa using hu) (by simpa using hu'))
      refine ⟨undef, μ, w', .inr ⟨run_skip ?_, rfl⟩, VR.undef _, g2, g3⟩
      unfold Instr.storeAt Instr.sureAddr storeVar
      have : x'.cells.size = i.size := by rw [← hx.cells.1]; exact hsz
      simp [run_size hi, this, g1]
    · cases hs
  · cases hs

theorem sim_box {x x' : Value} {t : TypeId} (hr : Rel G μ A w) (hx : VR μ x x')
    (hs : sBox A x = some (v, A')) :
    Sim G μ A w v A' ((do pure (.value (← Instr.box t x')) : Sem Next).run P w) := by
  unfold sBox at hs
  split at hs
  · rename_i h1
    injection hs with hs; injection hs with h2 h3; subst h2 h3
    refine sim_new (T := t) (rc := x'.cells) hr (hx.cells' h1) (by simp [hx.cells.1]) (run_value ?_)
    unfold Instr.box newVar newRow
    simp
  · cases hs

theorem sim_alloc {t : TypeId} {i : TypeInfo} {z : Value} (hr : Rel G μ A w) (hi : P.info? t = some i) (hz : i.zero = some z) (hf : z.cells.toList.all flatV = true) :
    Sim G μ A w (.pointer (some ⟨A.length, 0, none⟩)) (A ++ [.row z.cells.toList .own 0 true]) ((do pure (.value (← Instr.alloc t true (.tuple #[]))) : Sem Next).run P w) := by
  refine sim_new (T := t) (rc := z.cells) hr ?_ (by simp) (run_value ?_)
  · intro j u hu
    have : flatV u = true := by
      rw [List.all_eq_true] at hf
      exact hf u (List.mem_of_getElem? hu)
    refine ⟨by cases u <;> first | rfl | (simp [flatV] at this), u, by simpa using hu, .flat this⟩
  · unfold Instr.alloc newVar newRow
    simp [run_zero hi hz]

def nilCheckS (x : Value) : Sem Next :=
    match x with
    | .pointer none | .nilIface | .nilFunc => runtimePanic .nilDeref
    | .func (.method name) first captured =>
      match (first[0]? : Option Value) with
      | some .nilIface => runtimePanic .nilDeref
      | some (.iface t w) => do
        if (← nilAhead ((← program).types.size + Made.depth) t w name) != some false then
          unsupported (.noEntry "op/nilCheck.the method's receiver behind this interface value is a nil pointer, or cannot be seen to be none, and the arguments act or may panic (ledger 612)")
        pure (.value (.func (.method name) first captured))
      | _ => pure (.value (.func (.method name) first captured))
    | x => pure (.value x)

theorem sim_nilc {x x' : Value} (hr : Rel G μ A w) (hx : VR μ x x') (hs : sNilc A x = some (v, A')) : Sim G μ A w v A' ((nilCheckS x').run P w) := by
  unfold sNilc at hs
  split at hs
  · rename_i a
    injection hs with hs; injection hs with h2 h3; subst h2 h3
    cases hx with
    | flat h => simp [flatV] at h
    | ptr h => exact Sim.same hr rfl (.ptr h)
  · cases hs

end
end Go.AS


namespace Go.AS
open Go
set_option linter.unusedVariables false
set_option linter.unusedSimpArgs false

section
variable {G : Nat} {μ : Mu} {A A' : AH} {w : World} {P : Program} {v : Value}

theorem asI_some {i i' : Value} {j : Int} (h : asI i = some j) (hv : VR μ i i') : ∃ k, i' = .int k j := by
  unfold asI at h
  split at h
  · injection h with h; subst h
    exact ⟨_, hv.int⟩
  · cases h

theorem sim_conv {x x' : Value} {k : IntKind} {s d : TypeId} {ds : TypeDesc} (hr : Rel G μ A w) (hx : VR μ x x') (h1 : P.underlying s = some ds) (h2 : P.underlying d = some (.int k)) (hs : sConv A k x = some (v, A')) :
    Sim G μ A w v A' ((do pure (.value (← convert s d x')) : Sem Next).run P w) := by
  unfold sConv at hs
  split at hs
  · rename_i k' n
    injection hs with hs; injection hs with h3 h4; subst h3 h4
    obtain rfl := hx.int
    refine Sim.flat hr (run_value ?_) rfl
    unfold convert
    rw [Sem.run_bind, run_underlying h1, Result.andThen_ok, Sem.run_bind, run_underlying h2, Result.andThen_ok]
    cases ds <;> rfl
  · cases hs

theorem sim_field1 {x x' : Value} {s : TypeId} {fs : Array Field} {f : Field} {n : Nat} {d : TypeDesc} (hr : Rel G μ A w) (hx : VR μ x x') (h1 : P.underlying s = some (.struct fs)) (h2 : fs[n]? = some f)
    (h3 : P.underlying f.type = some d) (h4 : aggD d = false) (hs : sField1 A x f.offset = some (v, A')) : Sim G μ A w v A' ((do pure (.value (← Instr.field s x' n)) : Sem Next).run P w) := by
  unfold sField1 at hs
  split at hs
  · rename_i cs
    rw [Option.map_eq_some_iff] at hs
    obtain ⟨u, hu, hs⟩ := hs
    injection hs with h5 h6; subst h5 h6
    cases hx with
    | flat h => simp [flatV] at h
    | agg g1 g2 =>
      rename_i cs'
      obtain ⟨u', hu'⟩ := get_both g1 hu
      refine Sim.same hr (run_value ?_) (g2 _ _ _ hu hu')
      unfold Instr.field
      rw [Sem.run_bind, run_underlying h1, Result.andThen_ok]
      simp [h2, asAgg, part, run_isAgg h3, h4, hu']
  · cases hs

theorem sim_fieldn {x x' : Value} {s : TypeId} {fs : Array Field} {f : Field} {n : Nat} {d : TypeDesc} {i : TypeInfo} (hr : Rel G μ A w) (hx : VR μ x x') (h1 : P.underlying s = some (.struct fs)) (h2 : fs[n]? = some f)
    (h3 : P.underlying f.type = some d) (h4 : aggD d = true) (h5 : P.info? f.type = some i) (hs : sFieldn A x f.offset i.size = some (v, A')) : Sim G μ A w v A' ((do pure (.value (← Instr.field s x' n)) : Sem Next).run P w) := by
  unfold sFieldn at hs
  split at hs
  · rename_i cs
    injection hs with hs; injection hs with h6 h7; subst h6 h7
    cases hx with
    | flat h => simp [flatV] at h
    | agg g1 g2 =>
      rename_i cs'
      refine Sim.same hr (v' := .agg (cs'.extract f.offset (f.offset + i.size))) (run_value ?_) (.agg (by simp [g1]) ?_)
      · unfold Instr.field
        rw [Sem.run_bind, run_underlying h1, Result.andThen_ok]
        simp [h2, asAgg, part, run_isAgg h3, h4, run_size h5]
      · intro j a b ha hb
        rw [Array.getElem?_extract] at ha hb
        split at ha
        · split at hb
          · exact g2 _ _ _ ha hb
          · cases hb
        · cases ha
  · cases hs

theorem sim_faddr {x x' : Value} {s : TypeId} {fs : Array Field} {f : Field} {n : Nat} {i : TypeInfo} (hr : Rel G μ A w) (hx : VR μ x x') (h1 : P.underlying s = some (.struct fs)) (h2 : fs[n]? = some f)
    (h3 : P.info? f.type = some i) (h4 : i.size ≠ 0) (hs : sFaddr A x f.offset = some (v, A')) : Sim G μ A w v A' ((do pure (.value (← Instr.fieldAt s x' n)) : Sem Next).run P w) := by
  unfold sFaddr at hs
  split at hs
  · rename_i k o
    injection hs with hs; injection hs with h5 h6; subst h5 h6
    obtain ⟨e, he, rfl⟩ := hx.ptr_inv
    refine Sim.same hr (v' := .pointer (some ⟨e.blk, e.off + o + f.offset, none⟩)) (run_value ?_) (by rw [Nat.add_assoc]; exact .ptr he)
    unfold Instr.fieldAt
    rw [Sem.run_bind, run_underlying h1, Result.andThen_ok]
    simp [h2, Instr.sureAddr, fieldPlace, run_size h3, h4, add_none]
  · cases hs

theorem sim_iaddr {x x' i i' : Value} {t el : TypeId} {inf : TypeInfo} (hr : Rel G μ A w) (hx : VR μ x x') (hi : VR μ i i') (h1 : P.underlying t = some (.slice el)) (h2 : P.info? el = some inf)
    (hs : sIaddr A x i inf.size = some (v, A')) : Sim G μ A w v A' ((do pure (.value (← Instr.indexAt t x' i')) : Sem Next).run P w) := by
  unfold sIaddr at hs
  split at hs
  · rename_i b o n c
    rw [Option.bind_eq_some_iff] at hs
    obtain ⟨j, hj, hs⟩ := hs
    split at hs
    · rename_i hlt
      injection hs with hs; injection hs with h5 h6; subst h5 h6
      obtain ⟨k, rfl⟩ := asI_some hj hi
      cases hx with
      | flat h => simp [flatV] at h
      | slc he g1 g2 g3 g5 =>
        rename_i c' e
        refine Sim.same hr (v' := .pointer (some ⟨e.blk, e.off + o + j.toNat * inf.size, none⟩)) (run_value ?_) (by rw [Nat.add_assoc]; exact .ptr he)
        unfold Instr.indexAt
        simp only [asIntOf, Sem.run_bind, Sem.run_pure, Result.andThen_ok, run_underlying h1, run_size h2, Sem.run_ite]
        rw [if_pos hlt]
        simp [add_none]
      | sle => omega
    · cases hs
  · cases hs

theorem sim_iarr {x x' i i' : Value} {t el : TypeId} {n : Nat} {inf : TypeInfo} (hr : Rel G μ A w) (hx : VR μ x x') (hi : VR μ i i') (h1 : P.underlying t = some (.array n el)) (h2 : P.info? el = some inf)
    (hs : sIarr A x i n inf.size = some (v, A')) : Sim G μ A w v A' ((do pure (.value (← Instr.indexAt t x' i')) : Sem Next).run P w) := by
  unfold sIarr at hs
  split at hs
  · rename_i b o
    rw [Option.bind_eq_some_iff] at hs
    obtain ⟨j, hj, hs⟩ := hs
    split at hs
    · rename_i hlt
      injection hs with hs; injection hs with h5 h6; subst h5 h6
      obtain ⟨k, rfl⟩ := asI_some hj hi
      obtain ⟨e, he, rfl⟩ := hx.ptr_inv
      refine Sim.same hr (v' := .pointer (some ⟨e.blk, e.off + o + j.toNat * inf.size, none⟩)) (run_value ?_) (by rw [Nat.add_assoc]; exact .ptr he)
      unfold Instr.indexAt
      simp only [asIntOf, Sem.run_bind, Sem.run_pure, Result.andThen_ok, run_underlying h1, run_size h2, Sem.run_ite, Instr.sureAddr]
      rw [if_pos hlt]
      simp [add_none]
    · cases hs
  · cases hs

theorem sim_idxs {x x' i i' : Value} {t : TypeId} (hr : Rel G μ A w) (hx : VR μ x x') (hi : VR μ i i') (h1 : P.underlying t = some .string)
    (hs : sIdxs A x i = some (v, A')) : Sim G μ A w v A' ((do pure (.value (← Instr.index t x' i')) : Sem Next).run P w) := by
  unfold sIdxs at hs
  split at hs
  · rename_i s
    rw [Option.bind_eq_some_iff] at hs
    obtain ⟨j, hj, hs⟩ := hs
    split at hs
    · rename_i hlt
      rw [Option.map_eq_some_iff] at hs
      obtain ⟨b, hb, hs⟩ := hs
      injection hs with h5 h6; subst h5 h6
      obtain ⟨k, rfl⟩ := asI_some hj hi
      obtain rfl := hx.string
      refine Sim.flat hr (run_value ?_) rfl
      unfold Instr.index
      simp [asIntOf, run_underlying h1, hlt, hb]
    · cases hs
  · cases hs

theorem sim_idxa1 {x x' i i' : Value} {t el : TypeId} {n : Nat} {d : TypeDesc} {inf : TypeInfo} (hr : Rel G μ A w) (hx : VR μ x x') (hi : VR μ i i') (h1 : P.underlying t = some (.array n el)) (h2 : P.info? el = some inf)
    (h3 : P.underlying el = some d) (h4 : aggD d = false) (h5 : inf.size = 1)
    (hs : sIdxa1 A x i n = some (v, A')) : Sim G μ A w v A' ((do pure (.value (← Instr.index t x' i')) : Sem Next).run P w) := by
  unfold sIdxa1 at hs
  split at hs
  · rename_i cs
    rw [Option.bind_eq_some_iff] at hs
    obtain ⟨j, hj, hs⟩ := hs
    split at hs
    · rename_i hlt
      rw [Option.map_eq_some_iff] at hs
      obtain ⟨b, hb, hs⟩ := hs
      injection hs with h6 h7; subst h6 h7
      obtain ⟨k, rfl⟩ := asI_some hj hi
      cases hx with
      | flat h => simp [flatV] at h
      | agg g1 g2 =>
        obtain ⟨b', hb'⟩ := get_both g1 hb
        refine Sim.same hr (run_value ?_) (g2 _ _ _ hb hb')
        unfold Instr.index
        simp only [asIntOf, Sem.run_bind, Sem.run_pure, Result.andThen_ok, run_underlying h1, Sem.run_ite]
        rw [if_pos hlt]
        simp [run_size h2, h5, part, run_isAgg h3, h4, hb']
    · cases hs
  · cases hs

theorem sim_idxan {x x' i i' : Value} {t el : TypeId} {n : Nat} {d : TypeDesc} {inf : TypeInfo} (hr : Rel G μ A w) (hx : VR μ x x') (hi : VR μ i i') (h1 : P.underlying t = some (.array n el)) (h2 : P.info? el = some inf)
    (h3 : P.underlying el = some d) (h4 : aggD d = true)
    (hs : sIdxan A x i n inf.size = some (v, A')) : Sim G μ A w v A' ((do pure (.value (← Instr.index t x' i')) : Sem Next).run P w) := by
  unfold sIdxan at hs
  split at hs
  · rename_i cs
    rw [Option.bind_eq_some_iff] at hs
    obtain ⟨j, hj, hs⟩ := hs
    split at hs
    · rename_i hlt
      injection hs with hs; injection hs with h6 h7; subst h6 h7
      obtain ⟨k, rfl⟩ := asI_some hj hi
      cases hx with
      | flat h => simp [flatV] at h
      | agg g1 g2 =>
        rename_i cs'
        refine Sim.same hr (v' := .agg (cs'.extract (j.toNat * inf.size) (j.toNat * inf.size + inf.size))) (run_value ?_) (.agg (by simp [g1]) ?_)
        · unfold Instr.index
          simp only [asIntOf, Sem.run_bind, Sem.run_pure, Result.andThen_ok, run_underlying h1, Sem.run_ite]
          rw [if_pos hlt]
          simp [run_size h2, part, run_isAgg h3, h4]
        · intro j a b ha hb
          rw [Array.getElem?_extract] at ha hb
          split at ha
          · split at hb
            · exact g2 _ _ _ ha hb
            · cases hb
          · cases ha
    · cases hs
  · cases hs

theorem sim_ext {x x' : Value} {i : Nat} (hr : Rel G μ A w) (hx : VR μ x x') (hs : sExt A x i = some (v, A')) : Sim G μ A w v A' ((do pure (.value (← Instr.extract x' i)) : Sem Next).run P w) := by
  unfold sExt at hs
  split at hs
  · rename_i vs
    rw [Option.map_eq_some_iff] at hs
    obtain ⟨u, hu, hs⟩ := hs
    injection hs with h5 h6; subst h5 h6
    cases hx with
    | flat h => simp [flatV] at h
    | tuple g1 g2 =>
      obtain ⟨u', hu'⟩ := get_both g1 hu
      refine Sim.same hr (run_value ?_) (g2 _ _ _ hu hu')
      simp [Instr.extract, hu']
  · cases hs

theorem sim_ifc {x x' : Value} {t : TypeId} {d : TypeDesc} (hr : Rel G μ A w) (hx : VR μ x x') (h1 : P.underlying t = some d) (h2 : (match d with | .interface _ => false | _ => true) = true) :
    Sim G μ A w (.iface t x) A ((do pure (.value (← Instr.makeInterface t x')) : Sem Next).run P w) := by
  refine Sim.same hr (run_value ?_) (.iface hx)
  unfold Instr.makeInterface
  rw [Sem.run_bind, run_underlying h1, Result.andThen_ok]
  cases d <;> first | rfl | cases h2

theorem VR.sl_inv {a : Option Addr} {n c : Nat} {x' : Value} (h : VR μ (.slice a n c) x') : ∃ a' c', x' = .slice a' n c' ∧ (a = none ↔ a' = none) := by
  cases h with
  | flat h => refine ⟨_, _, rfl, ?_⟩; simp
  | slc _ _ _ _ _ => exact ⟨_, _, rfl, by simp⟩
  | sle => exact ⟨_, _, rfl, by simp⟩
  | slz => exact ⟨_, _, rfl, by simp⟩
  | slo _ => exact ⟨_, _, rfl, by simp⟩

theorem sim_lens {x x' : Value} {t : TypeId} {e : TypeId} (hr : Rel G μ A w) (hx : VR μ x x') (h1 : P.underlying t = some (.slice e)) (ats : Array TypeId) (ty : TypeId)
    (h3 : ats[0]? = some t) (hs : sLens A false x = some (v, A')) : Sim G μ A w v A' ((do pure (.value (← Builtin.len_ ats ty #[x'])) : Sem Next).run P w) := by
  unfold sLens at hs
  split at hs
  · rename_i a n c
    injection hs with hs; injection hs with h5 h6; subst h5 h6
    refine Sim.flat hr (run_value ?_) rfl
    obtain ⟨a', c', rfl, _⟩ := hx.sl_inv
    unfold Builtin.len_
    simp [h3, run_underlying h1, goInt]
  · cases hs
  · cases hs

theorem sim_lent {x x' : Value} {t : TypeId} (hr : Rel G μ A w) (hx : VR μ x x') (h1 : P.underlying t = some .string) (ats : Array TypeId) (ty : TypeId)
    (h3 : ats[0]? = some t) (hs : sLens A true x = some (v, A')) : Sim G μ A w v A' ((do pure (.value (← Builtin.len_ ats ty #[x'])) : Sem Next).run P w) := by
  unfold sLens at hs
  split at hs
  · cases hs
  · rename_i s
    injection hs with hs; injection hs with h5 h6; subst h5 h6
    obtain rfl := hx.string
    refine Sim.flat hr (run_value ?_) rfl
    unfold Builtin.len_
    simp [h3, run_underlying h1, goInt]
  · cases hs

end
end Go.AS


namespace Go.AS
open Go
set_option linter.unusedVariables false
set_option linter.unusedSimpArgs false

section
variable {G : Nat} {μ : Mu} {A A' : AH} {w : World} {P : Program} {v : Value}

def OV (μ : Mu) : Option Value → Option Value → Prop
  | none, none => True
  | some a, some b => VR μ a b
  | _, _ => False

def atB (v : Value) (y : Nat) : Option Nat := (asI v).bind fun i => if 0 ≤ i ∧ i ≤ y then some i.toNat else none

theorem atB_run {v v' : Value} {y y' k : Nat} (h : atB v y = some k) (hy : y ≤ y') (hv : VR μ v v') (c : BoundsCode) : (Instr.sliceBound v' y' c).run P w = .ok k w ∧ k ≤ y := by
  unfold atB at h
  rw [Option.bind_eq_some_iff] at h
  obtain ⟨j, hj, h⟩ := h
  split at h
  · rename_i hlt
    obtain rfl := Option.some.inj h
    obtain ⟨kk, rfl⟩ := asI_some hj hv
    unfold Instr.sliceBound
    simp only [asIntOf, Sem.run_bind, Sem.run_pure, Result.andThen_ok, Sem.run_ite]
    rw [if_pos (by omega)]
    exact ⟨rfl, by omega⟩
  · cases h

theorem bounds_eq (n c : Nat) (lo hi mx : Option Value) : boundsA n c lo hi mx =
    (match mx with | some v => atB v c | none => some c).bind fun m =>
    (match hi, mx with | some v, some _ => atB v m | some v, none => atB v m | none, none => some n | none, some _ => none).bind fun h =>
    (match lo with | some v => atB v h | none => some 0).bind fun l => some (l, h, m) := rfl

theorem bounds_run {b : Bool} {n c c' l h m : Nat} {lo hi mx lo' hi' mx' : Option Value} (hs : boundsA n c lo hi mx = some (l, h, m)) (hn : n ≤ c) (hc : c ≤ c') (h1 : OV μ lo lo') (h2 : OV μ hi hi') (h3 : OV μ mx mx') :
    (Instr.sliceBounds b n c' lo' hi' mx').run P w = .ok (l, h, if mx.isSome then m else c') w ∧ l ≤ h ∧ h ≤ m ∧ m ≤ c ∧ (mx.isSome = false → m = c) := by
  rw [bounds_eq] at hs
  rw [Option.bind_eq_some_iff] at hs
  obtain ⟨m1, e1, hs⟩ := hs
  rw [Option.bind_eq_some_iff] at hs
  obtain ⟨h0, e2, hs⟩ := hs
  rw [Option.bind_eq_some_iff] at hs
  obtain ⟨l0, e3, hs⟩ := hs
  injection hs with hs; injection hs with q1 q2; injection q2 with q2 q3
  subst q1 q2 q3
  have hlo : ((lo' = none ∧ l0 = 0) ∨ ∃ a', lo' = some a' ∧ ∀ (cd : BoundsCode), (Instr.sliceBound a' h0 cd).run P w = .ok l0 w) ∧ l0 ≤ h0 := by
    cases lo with
    | none =>
      cases lo' with
      | none => simp only [Option.some.injEq] at e3; exact ⟨.inl ⟨rfl, e3.symm⟩, by omega⟩
      | some _ => exact h1.elim
    | some a =>
      cases lo' with
      | none => exact h1.elim
      | some a' => exact ⟨.inr ⟨a', rfl, fun cd => (atB_run e3 (Nat.le_refl _) h1 cd).1⟩, (atB_run (P := P) (w := w) e3 (Nat.le_refl _) h1 .index).2⟩
  obtain ⟨hlo, g2⟩ := hlo
  clear h1 e3
  cases mx with
  | none =>
    cases mx' with
    | some _ => exact h3.elim
    | none =>
      simp only [Option.some.injEq] at e1; subst e1
      cases hi with
      | none =>
        cases hi' with
        | some _ => exact h2.elim
        | none =>
          simp only [Option.some.injEq] at e2; subst e2
          refine ⟨?_, g2, hn, Nat.le_refl _, fun _ => rfl⟩
          unfold Instr.sliceBounds
          rcases hlo with ⟨rfl, rfl⟩ | ⟨a, rfl, g1⟩
          · rfl
          · simp only [Sem.run_bind, Sem.run_pure, Result.andThen_ok, Option.isSome_none, g1]; rfl
      | some a =>
        cases hi' with
        | none => exact h2.elim
        | some a' =>
          obtain ⟨g3, g4⟩ := atB_run (P := P) (w := w) e2 hc h2 (if b then .sliceAcap else .sliceAlen)
          refine ⟨?_, g2, g4, Nat.le_refl _, fun _ => rfl⟩
          unfold Instr.sliceBounds
          rcases hlo with ⟨rfl, rfl⟩ | ⟨a, rfl, g1⟩
          · simp only [Sem.run_bind, Sem.run_pure, Result.andThen_ok, Option.isSome_none, g3]; rfl
          · simp only [Sem.run_bind, Sem.run_pure, Result.andThen_ok, Option.isSome_none, g3, g1]; rfl
  | some x =>
    cases mx' with
    | none => exact h3.elim
    | some x' =>
      obtain ⟨g5, g6⟩ := atB_run (P := P) (w := w) e1 hc h3 (if b then .slice3Acap else .slice3Alen)
      cases hi with
      | none => simp at e2
      | some a =>
        cases hi' with
        | none => exact h2.elim
        | some a' =>
          obtain ⟨g3, g4⟩ := atB_run (P := P) (w := w) e2 (Nat.le_refl _) h2 .slice3B
          refine ⟨?_, g2, g4, g6, fun h => by simp at h⟩
          unfold Instr.sliceBounds
          rcases hlo with ⟨rfl, rfl⟩ | ⟨a, rfl, g1⟩
          · simp only [Sem.run_bind, Sem.run_pure, Result.andThen_ok, Option.isSome_some, g5, g3]; rfl
          · simp only [Sem.run_bind, Sem.run_pure, Result.andThen_ok, Option.isSome_some, g5, g3, g1]; rfl

theorem sliceAt_slice {t e : TypeId} (h : P.underlying t = some (.slice e)) (x : Value) (lo hi mx : Option Value) : (Instr.sliceAt t x lo hi mx).run P w = (Instr.slice t x lo hi mx).run P w := by
  unfold Instr.sliceAt
  rw [Sem.run_bind, run_underlying h, Result.andThen_ok]
theorem sliceAt_string {t : TypeId} (h : P.underlying t = some .string) (x : Value) (lo hi mx : Option Value) : (Instr.sliceAt t x lo hi mx).run P w = (Instr.slice t x lo hi mx).run P w := by
  unfold Instr.sliceAt
  rw [Sem.run_bind, run_underlying h, Result.andThen_ok]

theorem sim_sls {x x' : Value} {lo hi lo' hi' : Option Value} {t : TypeId} (hr : Rel G μ A w) (hx : VR μ x x') (h1 : OV μ lo lo') (h2 : OV μ hi hi') (ht : P.underlying t = some .string)
    (hs : sSls A x lo hi = some (v, A')) : Sim G μ A w v A' ((do pure (.value (← Instr.sliceAt t x' lo' hi' none)) : Sem Next).run P w) := by
  unfold sSls at hs
  split at hs
  · rename_i s
    rw [Option.map_eq_some_iff] at hs
    obtain ⟨⟨l, h, m⟩, hb, hs⟩ := hs
    injection hs with h5 h6; subst h5 h6
    obtain rfl := hx.string
    obtain ⟨g1, _⟩ := bounds_run (P := P) (w := w) (b := false) hb (Nat.le_refl _) (Nat.le_refl _) h1 h2 (mx' := none) trivial
    refine Sim.flat hr (run_value ?_) rfl
    rw [sliceAt_string ht]
    unfold Instr.slice
    simp [run_underlying ht, g1]
  · cases hs

theorem rowSz_some {i sz : Nat} (h : rowSz A i = some sz) : ∃ cs st ex, A[i]? = some (.row cs st sz ex) := by
  unfold rowSz at h
  split at h
  · rename_i cs st sz' ex heq
    obtain rfl := Option.some.inj h
    exact ⟨cs, st, ex, heq⟩
  · cases h

theorem sim_sll {x x' : Value} {lo hi mx lo' hi' mx' : Option Value} {t el : TypeId} {inf : TypeInfo} (hr : Rel G μ A w) (hx : VR μ x x') (h1 : OV μ lo lo') (h2 : OV μ hi hi') (h3 : OV μ mx mx')
    (ht : P.underlying t = some (.slice el)) (hi2 : P.info? el = some inf) (hs : sSll A x lo hi mx inf.size = some (v, A')) :
    Sim G μ A w v A' ((do pure (.value (← Instr.sliceAt t x' lo' hi' mx')) : Sem Next).run P w) := by
  unfold sSll at hs
  split at hs
  · rw [Option.map_eq_some_iff] at hs
    obtain ⟨⟨l, h, m⟩, hb, hs⟩ := hs
    injection hs with h5 h6; subst h5 h6
    cases hx with
    | flat _ =>
      obtain ⟨g1, g2, g3, g4, g5⟩ := bounds_run (P := P) (w := w) (b := true) hb (Nat.le_refl _) (Nat.le_refl 0) h1 h2 h3
      refine Sim.flat hr (run_value ?_) rfl
      rw [sliceAt_slice ht]
      unfold Instr.slice
      have hl : l = 0 := by omega
      have hh : h = 0 := by omega
      have hm : m = 0 := by omega
      subst hl hh hm
      simp [run_underlying ht, g1, run_size hi2]
  · rw [Option.map_eq_some_iff] at hs
    obtain ⟨⟨l, h, m⟩, hb, hs⟩ := hs
    injection hs with h5 h6; subst h5 h6
    cases hx with
    | flat hf => simp [flatV] at hf
    | @slz b =>
      obtain ⟨g1, g2, g3, g4, g5⟩ := bounds_run (P := P) (w := w) (b := true) hb (Nat.le_refl _) (Nat.le_refl 0) h1 h2 h3
      have hl : l = 0 := by omega
      have hh : h = 0 := by omega
      have hm : m = 0 := by omega
      subst hl hh hm
      refine Sim.same (v' := .slice (some b) 0 0) hr (run_value ?_) .slz
      rw [sliceAt_slice ht]
      unfold Instr.slice
      simp [run_underlying ht, g1, run_size hi2]
  · rename_i i o n c
    rw [Option.bind_eq_some_iff] at hs
    obtain ⟨⟨l, h, m⟩, hb, hs⟩ := hs
    rw [Option.bind_eq_some_iff] at hs
    obtain ⟨bsz, hbs, hs⟩ := hs
    simp only at hs
    obtain ⟨a', c', rfl, han⟩ := hx.sl_inv
    have hcc : n ≤ c ∧ c ≤ c' := by
      cases hx with
      | flat h => simp [flatV] at h
      | slc _ g1 g2 _ _ => exact ⟨g1, g2⟩
      | sle => exact ⟨Nat.le_refl _, Nat.le_refl _⟩
    obtain ⟨g1, g2, g3, g4, g5⟩ := bounds_run (P := P) (w := w) (b := true) hb hcc.1 hcc.2 h1 h2 h3
    have hrun : (Instr.sliceAt t (.slice a' n c') lo' hi' mx').run P w = .ok (.slice (if (if mx.isSome then m else c') = l then a' else a'.map (·.add (l * inf.size))) (h - l) ((if mx.isSome then m else c') - l)) w := by
      rw [sliceAt_slice ht]
      unfold Instr.slice
      simp [run_underlying ht, g1, run_size hi2]
    obtain ⟨cs, st, ex, hrow⟩ := rowSz_some hbs
    split at hs
    · rename_i hc
      injection hs with hs; injection hs with h5 h6; subst h5 h6
      obtain ⟨hm1, hm2⟩ := hc
      refine Sim.same hr (run_value hrun) ?_
      rw [hm1]
      have e1 : h - l = 0 := by omega
      have e2 : m - l = 0 := by omega
      simp only [if_true, e1, e2]
      rw [if_pos hm2]
      cases ha' : a' with
      | none => rw [ha'] at han; simp at han
      | some b => exact .slz
    · rename_i hc
      split at hs
      · rename_i hc3
        obtain ⟨hm1, _, hlh⟩ := hc3
        injection hs with hs; injection hs with h5 h6; subst h5 h6
        refine Sim.same hr (run_value hrun) ?_
        rw [hm1]
        have hml : m ≠ l := fun h => hc ⟨hm1, h⟩
        simp only [if_true]
        rw [if_neg hml]
        obtain ⟨d, hd⟩ : ∃ d, m - l = d + 1 := ⟨m - l - 1, by omega⟩
        rw [hd]
        cases ha' : a' with
        | none => rw [ha'] at han; simp at han
        | some b => exact .slo (by omega)
      split at hs
      · rename_i hsz
        obtain ⟨hsz, hmx⟩ := hsz
        injection hs with hs; injection hs with h5 h6; subst h5 h6
        refine Sim.same hr (run_value hrun) ?_
        have hmc := g5 hmx
        rw [hmx]
        simp only [Bool.false_eq_true, if_false]
        cases hx with
        | flat h => simp [flatV] at h
        | slc he k1 k2 k3 k5 =>
          rename_i e
          have hesz : e.sz = inf.size := by rw [← hsz]; exact hr.szs i cs st bsz ex e hrow he
          by_cases hq : c' = l
          · rw [if_pos hq]
            have e1 : h - l = 0 := by omega
            have e2 : m - l = 0 := by omega
            rw [e1, e2, hq, Nat.sub_self]
            exact .sle (lt_of_get he)
          · rw [if_neg hq]
            simp only [Option.map_some, add_none]
            have hll : l ≤ c' := by omega
            have heq : l * inf.size + (c' - l) * inf.size = c' * inf.size := by
              rw [← Nat.add_mul]
              congr 1; omega
            have hb2 : o + l * inf.size + (c' - l) * e.sz ≤ e.lim := by
              rw [hesz] at k3 ⊢
              omega
            have := VR.slc (μ := μ) (i := i) (o := o + l * inf.size) (n := h - l) (c := m - l) (c' := c' - l) he (by omega) (by omega) hb2 (fun hz => by
              have k5 := k5 hz
              rw [hesz] at k5 ⊢
              omega)
            rw [Nat.add_assoc]
            exact this
        | sle hil =>
          have e0 : l = 0 ∧ h = 0 := by omega
          have e3 : m = 0 := by omega
          have hq : 0 = l := by omega
          rw [if_pos hq, e0.1, e0.2, e3]
          simp only [Nat.sub_self, Nat.zero_mul, Nat.add_zero]
          exact .sle hil
      · cases hs
  · cases hs

theorem sim_sla {x x' : Value} {lo hi mx lo' hi' mx' : Option Value} {t el : TypeId} {n : Nat} {inf : TypeInfo} (hr : Rel G μ A w) (hx : VR μ x x') (h1 : OV μ lo lo') (h2 : OV μ hi hi') (h3 : OV μ mx mx')
    (ht : P.underlying t = some (.array n el)) (hi2 : P.info? el = some inf) (hs : sSla A x lo hi mx n inf.size = some (v, A')) :
    Sim G μ A w v A' ((do pure (.value (← Instr.sliceAt t x' lo' hi' mx')) : Sem Next).run P w) := by
  unfold sSla at hs
  split at hs
  · rename_i i o
    rw [Option.bind_eq_some_iff] at hs
    obtain ⟨⟨l, h, m⟩, hb, hs⟩ := hs
    rw [Option.bind_eq_some_iff] at hs
    obtain ⟨⟨cs, st, sz, ex⟩, hq, hs⟩ := hs
    simp only at hs
    obtain ⟨hrow, hst⟩ := getRow_some hq
    obtain ⟨e, he, rfl⟩ := hx.ptr_inv
    obtain ⟨g1, g2, g3, g4, g5⟩ := bounds_run (P := P) (w := w) (b := false) hb (Nat.le_refl _) (Nat.le_refl _) h1 h2 h3
    have hm : (if mx.isSome then m else n) = m := by
      cases hmx : mx.isSome with
      | true => rfl
      | false => have := g5 hmx; simp; omega
    rw [hm] at g1
    have hrun : (Instr.sliceAt t (.pointer (some ⟨e.blk, e.off + o, none⟩)) lo' hi' mx').run P w = .ok (.slice (some (if m = l then ⟨e.blk, e.off + o, none⟩ else (⟨e.blk, e.off + o, none⟩ : Addr).add (l * inf.size))) (h - l) (m - l)) w := by
      unfold Instr.sliceAt Instr.sureAddr
      simp [run_underlying ht, g1, run_size hi2]
    split at hs
    · rename_i hc
      split at hs
      · rename_i hml
        injection hs with hs; injection hs with h5 h6; subst h5 h6
        refine Sim.same hr (run_value hrun) ?_
        have e1 : h - l = 0 := by omega
        have e2 : m - l = 0 := by omega
        rw [e1, e2]
        exact .slz
      · rename_i hml
        injection hs with hs; injection hs with h5 h6; subst h5 h6
        refine Sim.same hr (run_value hrun) ?_
        rw [if_neg hml, add_none, Nat.add_assoc]
        have hesz := hr.szs i cs st sz ex e hrow he
        obtain ⟨_, _, _, _, _, hlim, _⟩ := hr.row i cs st sz ex e hrow he hst
        refine VR.slc he (by omega) (Nat.le_refl _) ?_ (fun hz => absurd (by rw [hesz]; exact hc.1) hz)
        rw [hesz, hc.1]
        have : l * inf.size ≤ n * inf.size := Nat.mul_le_mul_right _ (by omega)
        omega
    · cases hs
  · cases hs

end
end Go.AS


namespace Go.AS
open Go
set_option linter.unusedVariables false
set_option linter.unusedSimpArgs false

section
variable {G : Nat} {μ : Mu} {A A' : AH} {w : World} {P : Program} {v : Value}

/-- Lists of cells that go together. -/
def CR (μ : Mu) (l l' : List Value) : Prop := l'.length = l.length ∧ ∀ (j : Nat) v v', l[j]? = some v → l'[j]? = some v' → VR μ v v'

theorem CR.nil : CR μ [] [] := ⟨rfl, fun j v v' h => by simp at h⟩
theorem CR.get {l l' : List Value} (h : CR μ l l') {j : Nat} {v : Value} (hv : l[j]? = some v) : ∃ v', l'[j]? = some v' ∧ VR μ v v' := by
  have : j < l'.length := by rw [h.1]; exact lt_of_get hv
  exact ⟨l'[j], List.getElem?_eq_getElem this, h.2 j _ _ hv (List.getElem?_eq_getElem this)⟩
theorem CR.append {a b a' b' : List Value} (h : CR μ a a') (k : CR μ b b') : CR μ (a ++ b) (a' ++ b') := by
  refine ⟨by simp [h.1, k.1], fun j v v' hv hv' => ?_⟩
  rw [List.getElem?_append] at hv hv'
  rw [h.1] at hv'
  split at hv
  · rw [if_pos (by assumption)] at hv'; exact h.2 _ _ _ hv hv'
  · rw [if_neg (by assumption)] at hv'; exact k.2 _ _ _ hv hv'
theorem CR.ones {l l' : List Value} (h : CR μ l l') (h1 : ones l = true) : ones l' = true := by
  unfold AS.ones
  rw [List.all_eq_true]
  intro x hx
  obtain ⟨j, hj, rfl⟩ := List.getElem_of_mem hx
  have hj2 : j < l.length := by rw [← h.1]; exact hj
  rw [(h.2 j _ _ (List.getElem?_eq_getElem hj2) (List.getElem?_eq_getElem hj)).oneCell]
  exact ones_get h1 (List.getElem?_eq_getElem hj2)
theorem CR.take {l l' : List Value} (h : CR μ l l') (n : Nat) : CR μ (l.take n) (l'.take n) := by
  refine ⟨by simp [h.1], fun j v v' hv hv' => ?_⟩
  rw [List.getElem?_take] at hv hv'
  split at hv
  · rw [if_pos (by assumption)] at hv'; exact h.2 _ _ _ hv hv'
  · cases hv
theorem CR.flat {l : List Value} (h : l.all flatV = true) : CR μ l l := by
  refine ⟨rfl, fun j v v' hv hv' => ?_⟩
  rw [hv] at hv'
  obtain rfl := Option.some.inj hv'
  rw [List.all_eq_true] at h
  exact .flat (h v (List.mem_of_getElem? hv))
theorem flat_one {v : Value} (h : flatV v = true) : v.oneCell' = true := by cases v <;> first | rfl | (simp [flatV] at h)
theorem ones_flat {l : List Value} (h : l.all flatV = true) : ones l = true := by
  unfold AS.ones
  rw [List.all_eq_true] at h ⊢
  exact fun x hx => flat_one (h x hx)
theorem CR.setAll {l l' vs vs' : List Value} {o : Nat} (h : CR μ l l') (k : CR μ vs vs') (hl : o + vs.length ≤ l.length) : CR μ (setAll l o vs) (setAll l' o vs') := by
  have hl' : o + vs'.length ≤ l'.length := by rw [h.1, k.1]; exact hl
  refine ⟨by rw [setAll_length _ _ _ hl, setAll_length _ _ _ hl', h.1], fun j v v' hv hv' => ?_⟩
  rw [setAll_get _ _ _ hl] at hv
  rw [setAll_get _ _ _ hl', k.1] at hv'
  split at hv
  · rw [if_pos (by assumption)] at hv'; exact k.2 _ _ _ hv hv'
  · rw [if_neg (by assumption)] at hv'; exact h.2 _ _ _ hv hv'

theorem fold_get (off : Nat) : ∀ (l : List Value) (k : Nat) (cells : Array Value), off + k + l.length ≤ cells.size →
    ((l.zipIdx k).foldl (fun cs (p : Value × Nat) => cs.setIfInBounds (off + p.2) p.1) cells).toList = setAll cells.toList (off + k) l
  | [], k, cells, h => by simp [setAll]
  | x :: r, k, cells, h => by
    simp only [List.length_cons] at h
    rw [List.zipIdx_cons, List.foldl_cons, fold_get off r (k + 1) _ (by simp; omega)]
    simp only [Array.toList_setIfInBounds]
    apply List.ext_getElem?
    intro j
    rw [setAll_get _ _ _ (by simp; omega), setAll_get _ _ _ (by simp; omega), List.getElem?_set]
    simp only [List.length_cons]
    by_cases h1 : off + k ≤ j ∧ j < off + k + (r.length + 1)
    · rw [if_pos h1]
      rcases Nat.lt_or_ge (off + k) j with h2 | h2
      · rw [if_pos (by omega), show j - (off + k) = (j - (off + (k + 1))) + 1 by omega, List.getElem?_cons_succ]
      · have : j = off + k := by omega
        subst this
        rw [if_neg (by omega), if_pos rfl, if_pos (by simp; omega)]
        simp
    · rw [if_neg h1, if_neg (by omega), if_neg (by omega)]

/-- 'fill', told of lists. -/
theorem fill_rel {place : Nat → Option (Nat × Nat)} : ∀ (ps : List (Nat × Nat × Value)) (qs : List (Nat × Value)) (z cs : List Value) (z' : Array Value), fillA z ps = some cs → CR μ z z'.toList →
    ps.length = qs.length → (∀ (j : Nat) p q, ps[j]? = some p → qs[j]? = some q → place q.1 = some (p.1, p.2.1) ∧ VR μ p.2.2 q.2) → ones z = true → ∃ cs', Instr.fill place z' qs = some cs' ∧ CR μ cs cs'.toList ∧ ones cs = true
  | [], [], z, cs, z', h, hz, _, _, h1 => by
    simp only [fillA, Option.some.injEq] at h
    subst h
    exact ⟨z', rfl, hz, h1⟩
  | [], _ :: _, _, _, _, _, _, hl, _, _ => by simp at hl
  | _ :: _, [], _, _, _, _, _, hl, _, _ => by simp at hl
  | (off, n, v) :: ps, (i, v') :: qs, z, cs, z', h, hz, hl, hp, h1 => by
    simp only [fillA] at h
    split at h
    · rename_i hc
      obtain ⟨c1, c2, c3⟩ := hc
      obtain ⟨p1, p2⟩ := hp 0 _ _ rfl rfl
      simp only at p1 p2
      have hsz : v'.cells.size = n := by rw [← p2.cells.1]; exact c1
      have hzl : z'.size = z.length := by have := hz.1; simpa using this
      have hvc : CR μ v.cells.toList v'.cells.toList := ⟨by simp [p2.cells.1], fun j a b ha hb => p2.cells.2 j a b (by simpa using ha) (by simpa using hb)⟩
      have hfold : (v'.cells.zipIdx.foldl (fun cs (c, j) => cs.setIfInBounds (off + j) c) z').toList = setAll z'.toList off v'.cells.toList := by
        rw [← Array.foldl_toList, Array.toList_zipIdx]
        have := fold_get off v'.cells.toList 0 z' (by simp; omega)
        simpa using this
      have hone : ones (setAll z off v.cells.toList) = true := by
        unfold setAll
        refine ones_append (ones_append ?_ c3) ?_
        · unfold AS.ones at *; rw [List.all_eq_true] at *; exact fun x hx => h1 x (List.mem_of_mem_take hx)
        · unfold AS.ones at *; rw [List.all_eq_true] at *; exact fun x hx => h1 x (List.mem_of_mem_drop hx)
      obtain ⟨cs', g1, g2, g3⟩ := fill_rel ps qs _ cs (v'.cells.zipIdx.foldl (fun cs (c, j) => cs.setIfInBounds (off + j) c) z') h (by rw [hfold]; exact hz.setAll hvc (by simp; omega)) (by simpa using hl)
        (fun j p q a b => hp (j + 1) p q (by simpa using a) (by simpa using b)) hone
      refine ⟨cs', ?_, g2, g3⟩
      unfold Instr.fill
      simp only [p1]
      rw [if_neg (by simp; omega)]
      exact g1
    · cases h

theorem rep_get (z : List Value) (hz : 0 < z.length) (n j : Nat) : ((List.replicate n z).flatten)[j]? = if j < n * z.length then z[j % z.length]? else none := by
  induction n generalizing j with
  | zero => simp
  | succ n ih =>
    rw [List.replicate_succ, List.flatten_cons, List.getElem?_append]
    split
    · rename_i h
      rw [if_pos (by rw [Nat.succ_mul]; omega), Nat.mod_eq_of_lt h]
    · rename_i h
      rw [ih]
      have e : j % z.length = (j - z.length) % z.length := by rw [Nat.mod_eq_sub_mod (by omega)]
      rw [e]
      by_cases h2 : j - z.length < n * z.length
      · rw [if_pos h2, if_pos (by rw [Nat.succ_mul]; omega)]
      · rw [if_neg h2, if_neg (by rw [Nat.succ_mul]; omega)]

theorem rep_length (z : List Value) (n : Nat) : ((List.replicate n z).flatten).length = n * z.length := by simp

/-- The zero cells of a new row. -/
theorem zeros_get {zero : Array Value} (hz : 0 < zero.size) (n j : Nat) (h : j < n) : ((Array.range n).map (zero[· % zero.size]!))[j]? = zero[j % zero.size]? := by
  rw [Array.getElem?_map, Array.getElem?_range, if_pos h]
  have : j % zero.size < zero.size := Nat.mod_lt _ hz
  simp [this]

theorem rep_flat {z : List Value} (h : z.all flatV = true) (n : Nat) : ((List.replicate n z).flatten).all flatV = true := by
  rw [List.all_eq_true] at *
  intro x hx
  rw [List.mem_flatten] at hx
  obtain ⟨l, hl, hx⟩ := hx
  rw [List.mem_replicate] at hl
  rw [hl.2] at hx
  exact h x hx

theorem rep_CR {zero : Array Value} (hf : zero.toList.all flatV = true) (hz : 0 < zero.size) (l n : Nat) (h : l * zero.size ≤ n) :
    ∀ (j : Nat) v, ((List.replicate l zero.toList).flatten)[j]? = some v → v.oneCell' = true ∧ ∃ v', ((Array.range n).map (zero[· % zero.size]!))[j]? = some v' ∧ VR μ v v' := by
  intro j v hv
  have hfl : flatV v = true := by
    have := rep_flat hf l
    rw [List.all_eq_true] at this
    exact this v (List.mem_of_getElem? hv)
  rw [rep_get _ (by simpa using hz)] at hv
  simp only [Array.length_toList] at hv
  split at hv
  · refine ⟨flat_one hfl, v, ?_, .flat hfl⟩
    rw [zeros_get hz n j (by omega)]
    simpa using hv
  · cases hv

theorem sim_mk {l c l' c' : Value} {t el : TypeId} {inf : TypeInfo} {z : Value} (hr : Rel G μ A w) (hl : VR μ l l') (hc : VR μ c c') (ht : P.underlying t = some (.slice el)) (hi : P.info? el = some inf)
    (hz : inf.zero = some z) (hf : z.cells.toList.all flatV = true) (hsz : z.cells.size = inf.size)
    (hs : sMk A z.cells.toList inf.bytes l c = some (v, A')) : Sim G μ A w v A' ((do pure (.value (← Instr.makeSlice t l' c')) : Sem Next).run P w) := by
  unfold sMk at hs
  rw [Option.bind_eq_some_iff] at hs
  obtain ⟨n, hn, hs⟩ := hs
  rw [Option.bind_eq_some_iff] at hs
  obtain ⟨m, hm, hs⟩ := hs
  split at hs
  · rename_i hcond
    obtain ⟨c1, c2, c3, c4, c5⟩ := hcond
    injection hs with hs; injection hs with h5 h6; subst h5 h6
    obtain ⟨k1, rfl⟩ := asI_some hn hl
    obtain ⟨k2, rfl⟩ := asI_some hm hc
    simp only [Array.length_toList] at c5 ⊢
    have hwn : IntKind.i64.wrap n = n := by unfold IntKind.wrap; simp [IntKind.bits, IntKind.signed]; omega
    have hwm : IntKind.i64.wrap m = m := by unfold IntKind.wrap; simp [IntKind.bits, IntKind.signed]; omega
    have hcs : m.toNat * inf.size ≠ 0 ∨ m.toNat * inf.size = 0 := by omega
    have hrun : (Instr.makeSlice t (.int k1 n) (.int k2 m)).run P w = .ok (.slice (some ⟨w.heap.size, 0, none⟩) n.toNat m.toNat) (w.alloc (.cells ((Array.range (m.toNat * inf.size)).map (z.cells[· % z.cells.size]!)) el)) := by
      unfold Instr.makeSlice
      simp only [Sem.run_bind, run_underlying ht, Result.andThen_ok, asInt, asIntOf, Sem.run_pure, run_typeInfo _ hi, hwn, hwm, run_askRoom, run_size hi, newRow, run_newObj]
      rw [if_neg (by simp; omega)]
      simp only [Sem.run_pure, Result.andThen_ok, Sem.run_bind, run_askRoom, run_size hi]
      by_cases h0 : m.toNat * inf.size = 0
      · simp only [h0, if_true]
        have e0 : Array.range 0 = #[] := rfl
        simp [e0]
      · rw [if_neg h0]; simp [run_zero hi hz]
    refine sim_newSl (d := w.drawn) (c' := m.toNat) (fr := (0, 0)) (T := el) hr (rep_CR hf c5 n.toNat (m.toNat * inf.size) (by rw [hsz]; exact Nat.mul_le_mul_right _ (by omega))) ?_ (by simp) ?_ (by omega) (Nat.le_refl _) ?_ (run_value hrun)
    · rw [rep_length]; simp [hsz]; exact Nat.mul_le_mul_right _ (by omega)
    · intro hx
      have hx := of_decide_eq_true hx
      rw [rep_length]; simp [hsz, hx]
    · simp [hsz]
  · cases hs

end
end Go.AS


namespace Go.AS
open Go
set_option linter.unusedVariables false
set_option linter.unusedSimpArgs false

section
variable {G : Nat} {μ : Mu} {A A' : AH} {w : World} {P : Program} {v : Value}

theorem sim_build {t : TypeId} {ps : List (Nat × Nat × Value)} {qs : Array (Nat × Value)} {z : Value} {inf : TypeInfo} {place : Nat → Option (Nat × Nat)} (hr : Rel G μ A w)
    (hi : P.info? t = some inf) (hz : inf.zero = some z) (hf : z.cells.toList.all flatV = true) (hlen : ps.length = qs.toList.length)
    (hp : ∀ (j : Nat) p q, ps[j]? = some p → qs.toList[j]? = some q → place q.1 = some (p.1, p.2.1) ∧ VR μ p.2.2 q.2)
    (hrun : ∀ cells, Instr.fill place z.cells qs.toList = some cells → (Instr.build t qs).run P w = .ok (.agg cells) w)
    (hs : sBuild A z.cells.toList ps = some (v, A')) : Sim G μ A w v A' ((do pure (.value (← Instr.build t qs)) : Sem Next).run P w) := by
  unfold sBuild at hs
  rw [Option.map_eq_some_iff] at hs
  obtain ⟨cs, hfill, hs⟩ := hs
  injection hs with h5 h6; subst h5 h6
  obtain ⟨cs', g1, g2, _⟩ := fill_rel (μ := μ) ps qs.toList _ cs z.cells hfill (CR.flat hf) hlen hp (ones_flat hf)
  refine Sim.same hr (run_value (hrun cs' g1)) ?_
  have := VR.aggOf (l := cs) (l' := cs'.toList) g2.1 g2.2
  simpa using this

theorem run_build_struct {t : TypeId} {fs : Array Field} {qs : Array (Nat × Value)} {z : Value} {inf : TypeInfo} {pl : Array (Nat × Nat)} (hi : P.info? t = some inf) (hz : inf.zero = some z)
    (ht : P.underlying t = some (.struct fs)) (hpl : (fs.mapM fun f => (do pure (f.offset, ← sizeOf f.type) : Sem (Nat × Nat))).run P w = .ok pl w)
    {cells : Array Value} (hc : Instr.fill (pl[·]?) z.cells qs.toList = some cells) : (Instr.build t qs).run P w = .ok (.agg cells) w := by
  unfold Instr.build
  rw [Sem.run_bind, run_zero hi hz, Result.andThen_ok]
  simp only [Sem.run_bind, run_underlying ht, Result.andThen_ok, hpl, hc, Sem.run_pure]

theorem run_build_array {t el : TypeId} {n : Nat} {qs : Array (Nat × Value)} {z : Value} {inf einf : TypeInfo} (hi : P.info? t = some inf) (hz : inf.zero = some z)
    (ht : P.underlying t = some (.array n el)) (he : P.info? el = some einf)
    {cells : Array Value} (hc : Instr.fill (fun i => some (i * einf.size, einf.size)) z.cells qs.toList = some cells) : (Instr.build t qs).run P w = .ok (.agg cells) w := by
  unfold Instr.build
  rw [Sem.run_bind, run_zero hi hz, Result.andThen_ok]
  simp only [Sem.run_bind, run_underlying ht, Result.andThen_ok, run_size he, hc, Sem.run_pure]

theorem run_places : ∀ (fs : List Field) (pl : List (Nat × Nat)), pl.length = fs.length → (∀ (j : Nat) f p, fs[j]? = some f → pl[j]? = some p → ∃ i, P.info? f.type = some i ∧ p = (f.offset, i.size)) →
    (fs.mapM fun f => (do pure (f.offset, ← sizeOf f.type) : Sem (Nat × Nat))).run P w = .ok pl w
  | [], [], _, _ => rfl
  | [], _ :: _, h, _ => by simp at h
  | _ :: _, [], h, _ => by simp at h
  | f :: fs, p :: pl, h, hp => by
    obtain ⟨i, h1, rfl⟩ := hp 0 f p rfl rfl
    have ih := run_places fs pl (by simpa using h) (fun j f p a b => hp (j + 1) f p (by simpa using a) (by simpa using b))
    simp only [List.mapM_cons, Sem.run_bind, run_size h1, Result.andThen_ok, Sem.run_pure, ih]

theorem run_places' (fs : Array Field) (pl : List (Nat × Nat)) (h : pl.length = fs.size) (hp : ∀ (j : Nat) f p, fs[j]? = some f → pl[j]? = some p → ∃ i, P.info? f.type = some i ∧ p = (f.offset, i.size)) :
    (fs.mapM fun f => (do pure (f.offset, ← sizeOf f.type) : Sem (Nat × Nat))).run P w = .ok pl.toArray w := by
  have := run_places (P := P) (w := w) fs.toList pl (by simpa using h) (fun j f p a b => hp j f p (by simpa using a) b)
  rw [← Array.toList_mapM] at this
  simp only [Sem.run_map] at this
  cases hr : (fs.mapM fun f => (do pure (f.offset, ← sizeOf f.type) : Sem (Nat × Nat))).run P w with
  | halt h w' => rw [hr] at this; simp at this
  | ok a w' =>
    rw [hr] at this
    simp only [Result.andThen_ok, Result.ok.injEq] at this
    obtain ⟨h1, rfl⟩ := this
    rw [← h1]

theorem sim_lit {t el : TypeId} {len : Nat} {ps : List (Nat × Nat × Value)} {qs : Array (Nat × Value)} {z : Value} {inf : TypeInfo} (hr : Rel G μ A w)
    (ht : P.underlying t = some (.slice el)) (hi : P.info? el = some inf) (hz : inf.zero = some z) (hf : z.cells.toList.all flatV = true) (hsz : z.cells.size = inf.size) (hpos : 0 < inf.size) (hbig : len * inf.size ≤ 2 ^ 24)
    (hlen : ps.length = qs.toList.length)
    (hp : ∀ (j : Nat) p q, ps[j]? = some p → qs.toList[j]? = some q → (p.1, p.2.1) = (q.1 * inf.size, inf.size) ∧ VR μ p.2.2 q.2)
    (hs : sLit A z.cells.toList inf.size len ps = some (v, A')) : Sim G μ A w v A' ((do pure (.value (← Instr.buildSlice t len qs)) : Sem Next).run P w) := by
  unfold sLit at hs
  rw [Option.map_eq_some_iff] at hs
  obtain ⟨cs, hfill, hs⟩ := hs
  injection hs with h5 h6; subst h5 h6
  have hzs : 0 < z.cells.size := by omega
  have hz0 : CR μ ((List.replicate len z.cells.toList).flatten) ((Array.range (len * inf.size)).map (z.cells[· % z.cells.size]!)).toList := by
    refine ⟨by rw [rep_length]; simp [hsz], fun j a b ha hb => ?_⟩
    obtain ⟨_, b', h2, h3⟩ := rep_CR (μ := μ) hf hzs len (len * inf.size) (by rw [hsz]; exact Nat.le_refl _) j a ha
    rw [Array.getElem?_toList, h2] at hb
    obtain rfl := Option.some.inj hb
    exact h3
  obtain ⟨cs', g1, g2, g3⟩ := fill_rel (μ := μ) (place := fun i => some (i * inf.size, inf.size)) ps qs.toList _ cs _ hfill hz0 hlen (fun j p q a b => ⟨by rw [(hp j p q a b).1], (hp j p q a b).2⟩) (ones_flat (rep_flat hf len))
  have hcl : cs.length = len * inf.size := by
    have hfl : ∀ (ps : List (Nat × Nat × Value)) (z cs : List Value), fillA z ps = some cs → cs.length = z.length := by
      intro ps
      induction ps with
      | nil => intro z cs h; simp only [fillA, Option.some.injEq] at h; rw [h]
      | cons p ps ih =>
        intro z cs h
        obtain ⟨off, n, u⟩ := p
        simp only [fillA] at h
        split at h
        · rename_i hc
          rw [ih _ _ h, setAll_length _ _ _ (by simp; omega)]
        · cases h
    rw [hfl _ _ _ hfill, rep_length]; simp [hsz]
  have hrun : (Instr.buildSlice t len qs).run P w = .ok (.slice (some ⟨w.heap.size, 0, none⟩) len len) (w.alloc (.cells cs' el)) := by
    unfold Instr.buildSlice
    simp only [Sem.run_bind, run_underlying ht, Result.andThen_ok, run_size hi]
    rw [if_neg (by omega)]
    by_cases h0 : len * inf.size = 0
    · have e0 : Array.range 0 = #[] := rfl
      rw [h0] at g1
      simp only [e0, Array.map_empty] at g1
      simp only [h0, e0, if_true, Sem.run_pure, Result.andThen_ok, Sem.run_bind, Array.map_empty, g1, newRow, run_newObj, World.alloc_eq]
    · simp only [if_neg h0, run_zero hi hz, Sem.run_bind, Sem.run_pure, Result.andThen_ok, g1, newRow, run_newObj, World.alloc_eq]
  have hcs' : cs'.size = cs.length := by have := g2.1; simpa using this
  refine sim_newSl (d := w.drawn) (c' := len) (fr := (0, 0)) (T := el) hr ?_ (by omega) (by simp) (fun _ => hcs') (Nat.le_refl _) (Nat.le_refl _) (by rw [hcs', hcl]) (run_value hrun)
  intro j u hu
  obtain ⟨u', h1, h2⟩ := g2.get hu
  exact ⟨ones_get g3 hu, u', by simpa using h1, h2⟩

theorem rdSl_rel {x x' : Value} {sz : Nat} {l : List Value} {a : Option Addr} {k c : Nat} (hr : Rel G μ A w) (hx : VR μ x x') (hk : x = .slice a k c) (hs : rdSl A sz x = some l) :
    l.length = k * sz ∧ ∃ l' : List Value, CR μ l l' ∧ ones l = true ∧ ∀ d, (Builtin.firstCells sz k x').run P { w with drawn := d } = .ok l'.toArray { w with drawn := d } := by
  subst hk
  obtain ⟨a', c', rfl, han⟩ := hx.sl_inv
  unfold rdSl at hs
  split at hs
  · rename_i heq
    injection heq with q1 q2 q3; subst q1 q2
    obtain rfl := Option.some.inj hs
    refine ⟨by simp, [], CR.nil, rfl, ?_⟩
    cases a' with
    | none => exact fun _ => rfl
    | some b => simp at han
  · rename_i heq
    injection heq with q1 q2 q3; subst q1 q2
    obtain rfl := Option.some.inj hs
    refine ⟨by simp, [], CR.nil, rfl, ?_⟩
    cases a' with
    | none => exact fun _ => rfl
    | some b => intro d; unfold Builtin.firstCells; rw [Nat.zero_mul]; rfl
  · rename_i i o n c1 heq
    injection heq with q1 q2 q3; subst q1 q2 q3
    split at hs
    · rename_i h0
      obtain rfl := Option.some.inj hs
      subst h0
      refine ⟨by simp, [], CR.nil, rfl, ?_⟩
      cases a' with
      | none => exact fun _ => rfl
      | some b => intro d; unfold Builtin.firstCells; rw [Nat.zero_mul]; rfl
    · rename_i h0
      rw [Option.bind_eq_some_iff] at hs
      obtain ⟨⟨cs, st, bsz, ex⟩, h1, h2⟩ := hs
      obtain ⟨h3, h4⟩ := getRow_some h1
      cases hx with
      | flat h => simp [flatV] at h
      | slc he g1 g2 g3 g5 =>
        obtain ⟨l', k1, k2, k3, k4, k5⟩ := hr.cells (P := P) h3 h4 he h2
        have := (cut_some h2).2.1
        exact ⟨this, l', ⟨by rw [k1, this], k2⟩, k4, k5⟩
      | sle => exact absurd rfl h0
  · cases hs

theorem u8s_flat (s : ByteArray) : (u8s s).all flatV = true := by
  unfold u8s
  rw [List.all_eq_true]
  intro x hx
  rw [List.mem_map] at hx
  obtain ⟨b, _, rfl⟩ := hx
  rfl
theorem u8s_length (s : ByteArray) : (u8s s).length = s.size := by unfold u8s; simp

theorem push_modify {α : Type} (h : Array α) (o : α) (f : α → α) : (h.push o).modify h.size f = h.push (f o) := by
  apply Array.ext_getElem?
  intro j
  rw [Array.getElem?_modify, Array.getElem?_push, Array.getElem?_push]
  by_cases hj : h.size = j
  · subst hj; simp
  · rw [if_neg hj, if_neg (fun e => hj e.symm), if_neg (fun e => hj e.symm)]

theorem sim_s2b {x x' : Value} {s d el : TypeId} {ds : TypeDesc} (hr : Rel G μ A w) (hx : VR μ x x') (h1 : P.underlying s = some .string) (h2 : P.underlying d = some (.slice el)) (h3 : P.underlying el = some (.int .u8))
    (hs : sS2b A x = some (v, A')) : Sim G μ A w v A' ((do pure (.value (← convert s d x')) : Sem Next).run P w) := by
  unfold sS2b at hs
  split at hs
  · rename_i str
    injection hs with hs; injection hs with h5 h6; subst h5 h6
    obtain rfl := hx.string
    have hq : (Question.appendCap str.size 0 el).forced = false := rfl
    generalize hcap : (Question.appendCap str.size 0 el).cut (w.tape w.drawn (.appendCap str.size 0 el)) = cap
    have hge : str.size ≤ cap := by rw [← hcap]; simp [Question.cut]
    have hrun : (convert s d (.string str)).run P w = .ok (.slice (some ⟨w.heap.size, 0, none⟩) str.size cap)
        ({ w with drawn := w.drawn + 1 }.alloc (.cells ((u8s str).toArray ++ Array.replicate (cap - str.size) (Value.int .u8 0)) el (cap, cap + 1))) := by
      unfold convert
      rw [Sem.run_bind, run_underlying h1, Result.andThen_ok, Sem.run_bind, run_underlying h2, Result.andThen_ok]
      simp only [Sem.run_bind, run_underlying h3, Result.andThen_ok]
      unfold Conv.stringToBytes
      simp only [Sem.run_bind, run_choose, hq, Result.andThen_ok, Bool.false_eq_true, if_false, hcap, newRow, run_newObj, Sem.run_pure]
      unfold markStringish
      have hsz : ((Array.map (fun b => Value.int IntKind.u8 (b.toNat : Int)) str.data) ++ Array.replicate (cap - str.size) (Value.int IntKind.u8 0)).size = cap := by
        simp only [Array.size_append, Array.size_map, Array.size_replicate]
        show str.size + (cap - str.size) = cap
        omega
      have e : (u8s str).toArray = Array.map (fun b => Value.int IntKind.u8 (b.toNat : Int)) str.data := by
        unfold u8s
        apply Array.ext'
        rw [Array.toList_map]
      rw [e]
      simp only [Sem.run_bind, run_shape, Result.andThen_ok, World.shape?, Array.getElem?_push_size, run_freeze, World.freeze, hsz, Nat.one_ne_zero, if_false, World.alloc]
      rw [push_modify]
      simp
    have hu : (u8s str).length = str.size := u8s_length str
    refine sim_newSl (d := w.drawn + 1) (sz := 1) (c' := cap) hr ?_ ?_ ?_ (by simp) (Nat.le_refl _) hge ?_ (run_value hrun)
    · intro j u hju
      have hf := u8s_flat str
      have hfl : flatV u = true := by
        rw [List.all_eq_true] at hf
        exact hf u (List.mem_of_getElem? hju)
      refine ⟨flat_one hfl, u, ?_, .flat hfl⟩
      rw [Array.getElem?_append]
      have := lt_of_get hju
      rw [if_pos (by simpa using this)]
      simpa using hju
    · simp [hu]
    · right
      refine ⟨rfl, ?_⟩
      simp [hu]
      omega
    · simp [hu]; omega
  · cases hs

end
end Go.AS


namespace Go.AS
open Go
set_option linter.unusedVariables false
set_option linter.unusedSimpArgs false

section
variable {G : Nat} {μ : Mu} {A A' : AH} {w : World} {P : Program} {v : Value}

theorem nextcap_le (need c b : Nat) (h : c < need) : Builtin.nextslicecap need c ≤ 2 * need := by
  unfold Builtin.nextslicecap
  split
  · omega
  · split
    · omega
    · have hg : ∀ r c, c ≤ 2 * need → Builtin.growBy need r c ≤ 2 * need + 768 ∧ (256 ≤ c → Builtin.growBy need r c ≤ 2 * need) := by
        intro r
        induction r with
        | zero => intro c hc; unfold Builtin.growBy; exact ⟨by omega, fun _ => hc⟩
        | succ r ih =>
          intro c hc
          unfold Builtin.growBy
          split
          · exact ⟨by omega, fun _ => hc⟩
          · have hlt : c < need := by omega
            have key : 256 ≤ c → c + (c + 768) / 4 ≤ 2 * need := by intro h; omega
            by_cases h256 : 256 ≤ c
            · have := ih _ (key h256)
              exact ⟨by have := this.2 (by omega); omega, fun _ => this.2 (by omega)⟩
            · refine ⟨?_, fun h => absurd h h256⟩
              by_cases hk : c + (c + 768) / 4 ≤ 2 * need
              · exact (ih _ hk).1
              · have : ∀ r c, need ≤ c → Builtin.growBy need r c = c := by
                  intro r c hc
                  cases r with
                  | zero => rfl
                  | succ r => unfold Builtin.growBy; rw [if_pos hc]
                rw [this _ _ (by omega)]; omega
      exact (hg 4 c (by omega)).2 (by omega)

/-- What append does once it knows what stands behind the slice. -/
def appTail (el : TypeId) (size : Nat) (s : Value) (base : Option Addr) (sLen sCap n : Nat) (bad : Sem Unit) (appended : Sem (Array Value)) : Sem Value := do
  let need := sLen + n
  if need ≤ sCap then
    let new ← appended
    if let some a := base then storeCells (a.add (sLen * size)) new.toList
    pure (.slice base need sCap)
  else
    bad
    let newCap ← choose (.appendCap need sCap el)
    askRoom (newCap * (← typeInfo el).bytes)
    let old ← Builtin.firstCells size sLen s
    let new ← appended
    let rest := Builtin.zeroCells (← zeroValue el).cells (newCap - need)
    pure (.slice (some (← newRow el (old ++ new ++ rest))) need newCap)

theorem zeroCells_size (zero : Array Value) (n : Nat) : (Builtin.zeroCells zero n).size = n * zero.size := by
  unfold Builtin.zeroCells; simp

theorem sim_appTail0 {s : Value} {base : Option Addr} {sLen sCap k : Nat} {new new' : List Value} {el : TypeId} {inf : TypeInfo} {z : Value} {bad : Sem Unit} {appended : Sem (Array Value)} {r : Result Next}
    (hr : Rel G μ A w) (hsl : VR μ s (.slice base sLen sCap)) (hi : P.info? el = some inf) (hz : inf.zero = some z) (hzs : z.cells.size = inf.size) (hpos : 0 < inf.size)
    (hnew : CR μ new new') (h1 : ones new = true) (happ : ∀ d, appended.run P { w with drawn := d } = .ok new'.toArray { w with drawn := d })
    (hbad : sCap < sLen + k → 2 * ((sLen + k) * inf.bytes) ≤ 2 ^ 48 → 0 < inf.bytes → bad.run P w = .ok () w)
    (hs : appA0 A s new k inf.size inf.bytes = some (v, A')) (hk0 : k = 0 → new = [])
    (he : r = ((do pure (.value (← appTail el inf.size (.slice base sLen sCap) base sLen sCap k bad appended)) : Sem Next).run P w)) : Sim G μ A w v A' r := by
  subst he
  have happ0 : appended.run P w = .ok new'.toArray w := happ w.drawn
  unfold appA0 at hs
  split at hs
  · rename_i hk
    subst hk
    obtain rfl := hk0 rfl
    have hn0 : new' = [] := by have := hnew.1; simpa using this
    subst hn0
    have hle : v = s ∧ A' = A ∧ sLen ≤ sCap := by
      split at hs
      · injection hs with hs; injection hs with h5 h6; subst h5 h6
        cases hsl with
        | flat h => exact ⟨rfl, rfl, Nat.zero_le _⟩
      · injection hs with hs; injection hs with h5 h6; subst h5 h6
        cases hsl with
        | slc _ g1 g2 _ _ => exact ⟨rfl, rfl, by omega⟩
        | sle => exact ⟨rfl, rfl, Nat.le_refl _⟩
        | slz => exact ⟨rfl, rfl, Nat.le_refl _⟩
        | slo h => exact ⟨rfl, rfl, by omega⟩
        | flat h => simp [flatV] at h
      · cases hs
    obtain ⟨rfl, rfl, hle⟩ := hle
    refine Sim.same hr (run_value ?_) hsl
    unfold appTail
    simp only [Nat.add_zero, hle, if_true, Sem.run_bind, happ0, Result.andThen_ok]
    cases base with
    | none => rfl
    | some a => rfl
  · rename_i hk
    rw [Option.bind_eq_some_iff] at hs
    obtain ⟨⟨old, A1, n⟩, hbase, hs⟩ := hs
    simp only at hs
    split at hs
    · rename_i hcond
      obtain ⟨c1, c2, c3, c4⟩ := hcond
      injection hs with hs; injection hs with h5 h6; subst h5 h6
      -- what is known of the base
      have hb : n = sLen ∧ A1.length = A.length ∧ ones old = true ∧ old.length = n * inf.size ∧ Rel G μ A1 w ∧ Stp μ A w μ A1 w ∧
          (∃ old' : List Value, CR μ old old' ∧ ∀ d, (Builtin.firstCells inf.size sLen (.slice base sLen sCap)).run P { w with drawn := d } = .ok old'.toArray { w with drawn := d }) ∧
          (sLen + k ≤ sCap → ∃ (i o : Nat) (e : Ent) (cs : List Value) (ex : Bool), A[i]? = some (.row cs .own inf.size ex) ∧ μ[i]? = some e ∧ base = some ⟨e.blk, e.off + o, none⟩ ∧ o + sCap * inf.size = e.lim ∧ o + n * inf.size ≤ cs.length ∧ old = (cs.drop o).take (n * inf.size) ∧ A1 = A.set i (.row cs .dead inf.size ex)) := by
        unfold appBase at hbase
        split at hbase
        · injection hbase with hbase; injection hbase with q1 q2; injection q2 with q2 q3; subst q1 q2 q3
          cases hsl with
          | flat _ =>
            exact ⟨rfl, rfl, rfl, by simp, hr, Stp.refl _ _ _, ⟨[], CR.nil, fun _ => rfl⟩, fun h => by omega⟩
        · rename_i i o n' c
          split at hbase
          · rename_i cs bsz ex hrow
            split at hbase
            · rename_i hc
              obtain ⟨k1, k2, k3⟩ := hc
              injection hbase with hbase; injection hbase with q1 q2; injection q2 with q2 q3; subst q1 q2 q3
              obtain ⟨e, hee⟩ := hr.mu_lt hrow
              have hones : ones cs = true := by
                obtain ⟨rc, T, fr, _, g2, _⟩ := hr.row i cs .own bsz ex e hrow hee (by decide)
                unfold ones
                rw [List.all_eq_true]
                intro x hx
                obtain ⟨j, hj, rfl⟩ := List.getElem_of_mem hx
                exact (g2 j _ (List.getElem?_eq_getElem hj)).1
              have hcut : cut cs o (n' * inf.size) = some ((cs.drop o).take (n' * inf.size)) := by
                unfold cut
                rw [if_pos k3]
              have hold : ones ((cs.drop o).take (n' * inf.size)) = true := by
                unfold ones at *
                rw [List.all_eq_true] at *
                exact fun x hx => hones x (List.mem_of_mem_drop (List.mem_of_mem_take hx))
              have holdl : ((cs.drop o).take (n' * inf.size)).length = n' * inf.size := by
                rw [List.length_take, List.length_drop]; omega
              obtain ⟨l', m1, m2, m3, m4, m5⟩ := hr.cells (P := P) hrow (by decide) hee hcut
              have hesz := hr.szs i cs .own bsz ex e hrow hee
              have hlen : sLen = n' := by
                cases hsl with
                | slc _ _ _ _ _ => rfl
                | sle => rfl
                | flat h => simp [flatV] at h
              subst hlen
              have hfirst : ∃ old' : List Value, CR μ ((cs.drop o).take (sLen * inf.size)) old' ∧ ∀ d, (Builtin.firstCells inf.size sLen (.slice base sLen sCap)).run P { w with drawn := d } = .ok old'.toArray { w with drawn := d } := by
                cases hsl with
                | flat h => simp [flatV] at h
                | slc hee' g1 g2 g3 g5 =>
                  rw [hee] at hee'
                  obtain rfl := Option.some.inj hee'
                  exact ⟨l', ⟨by rw [m1, holdl], m2⟩, m5⟩
                | sle =>
                  have hdz : (cs.drop o).take (0 * inf.size) = [] := by rw [Nat.zero_mul, List.take_zero]
                  rw [hdz]
                  exact ⟨[], CR.nil, fun d => by unfold Builtin.firstCells; rw [Nat.zero_mul]; rfl⟩
              by_cases hex : ex = true ∧ cs.length < o + (sLen + k) * inf.size
              · rw [if_pos hex]
                obtain ⟨hex, hend⟩ := hex
                subst hex
                refine ⟨rfl, rfl, hold, holdl, hr, Stp.refl _ _ _, hfirst, fun h => ?_⟩
                exfalso
                cases hsl with
                | flat h => simp [flatV] at h
                | slc hee' g1 g2 g3 g5 =>
                  rw [hee] at hee'
                  obtain rfl := Option.some.inj hee'
                  obtain ⟨rc, T, fr, _, _, _, g4⟩ := hr.row i cs .own bsz true e hrow hee (by decide)
                  have hlim := (g4.1 rfl).2.2 rfl
                  rw [hesz, k1] at g3
                  have : (sLen + k) * inf.size ≤ sCap * inf.size := Nat.mul_le_mul_right _ h
                  omega
                | sle => omega
              · rw [if_neg hex]
                refine ⟨rfl, by simp, hold, holdl, hr.kill hrow, Stp.kill μ w hrow, hfirst, fun h => ?_⟩
                cases hsl with
                | flat h => simp [flatV] at h
                | slc hee' g1 g2 g3 g5 =>
                  rw [hee] at hee'
                  obtain rfl := Option.some.inj hee'
                  have g5 := g5 (by rw [hesz, k1]; omega)
                  rw [hesz, k1] at g5
                  exact ⟨i, o, e, cs, ex, by rw [← k1]; exact hrow, hee, rfl, g5, k3, rfl, by rw [← k1]⟩
                | sle => omega
            · cases hbase
          · cases hbase
        · injection hbase with hbase; injection hbase with q1 q2; injection q2 with q2 q3; subst q1 q2 q3
          cases hsl with
          | slz =>
            exact ⟨rfl, rfl, rfl, by simp, hr, Stp.refl _ _ _, ⟨[], CR.nil, fun d => by unfold Builtin.firstCells; rw [Nat.zero_mul]; rfl⟩, fun h => by omega⟩
          | flat h => simp [flatV] at h
        · cases hbase
      obtain ⟨rfl, hAl, hold1, holdl, hr1, hst1, ⟨old', ho1, ho2⟩, hin⟩ := hb
      have hall : ones (old ++ new) = true := ones_append hold1 h1
      have hlen' : (old ++ new).length = (n + k) * inf.size := by rw [List.length_append, holdl, c3, Nat.add_mul]
      by_cases hcap : n + k ≤ sCap
      · -- in place
        obtain ⟨i, o, e, cs, ex, hrow, hee, rfl, hlim, hend, hodr, rfl⟩ := hin hcap
        obtain ⟨rc, T, fr, g1, g2, g3, g4⟩ := hr.row i cs .own _ ex e hrow hee (by decide)
        obtain ⟨g5, g6, _⟩ := g4.1 rfl
        have hkk : (n + k) * inf.size ≤ sCap * inf.size := Nat.mul_le_mul_right _ hcap
        rw [Nat.add_mul] at hkk
        have hnl : new'.length = k * inf.size := by rw [hnew.1, c3]
        obtain ⟨w', rc', s1, s2⟩ := run_storeRow P e.blk (e.off + o + n * inf.size) T fr new' 0 w rc g1 (by rw [hnl]; omega) (g6.imp_right And.right) (hnew.ones h1)
        have hrun : (appTail el inf.size (.slice (some ⟨e.blk, e.off + o, none⟩) n sCap) (some ⟨e.blk, e.off + o, none⟩) n sCap k bad appended).run P w = .ok (.slice (some ⟨e.blk, e.off + o, none⟩) (n + k) sCap) w' := by
          unfold appTail
          simp only [hcap, if_true, Sem.run_bind, happ0, Result.andThen_ok, add_none, s1, Sem.run_pure]
        -- the new block lies where the old one lay
        have hother : ∀ (q : Nat) (b : Blk) (e' : Ent), A[q]? = some b → b.alive = true → q ≠ i → μ[q]? = some e' → e'.blk ≠ e.blk := by
          intro q b e' hq ha hne hq' heq
          exact hr.apart i q _ b e e' hrow hq rfl ha (Ne.symm hne) hee hq' heq.symm
        have hil : i < A.length := lt_of_get hrow
        have hμl : μ.length = (A.set i (.row cs .dead inf.size ex)).length := hr1.len
        have hget : ∀ (q : Nat) (b : Blk), (A.set i (Blk.row cs .dead inf.size ex))[q]? = some b → b.alive = true → q ≠ i ∧ A[q]? = some b := by
          intro q b hq ha
          rcases get_set hq with ⟨rfl, rfl, _⟩ | ⟨hne, hq⟩
          · simp [Blk.alive] at ha
          · exact ⟨hne, hq⟩
        have hown_alive : ∀ b : Blk, b.isOwn = true → b.alive = true := by
          intro b hb
          cases b with
          | row a st c d => cases st <;> first | rfl | (simp [Blk.isOwn] at hb)
          | mp _ => rfl
          | sit _ _ => rfl
        refine ⟨_, μ ++ [⟨e.blk, e.off + o, e.lim - o, inf.size⟩], w', .inl (run_value hrun), ?_, ?_, ?_⟩
        · have hm : (μ ++ [(⟨e.blk, e.off + o, e.lim - o, inf.size⟩ : Ent)])[(A.set i (Blk.row cs .dead inf.size ex)).length]? = some ⟨e.blk, e.off + o, e.lim - o, inf.size⟩ := by rw [← hμl]; simp
          have := VR.slc (μ := μ ++ [(⟨e.blk, e.off + o, e.lim - o, inf.size⟩ : Ent)]) (o := 0) (n := n + k) (c := n + k) (c' := sCap) hm (Nat.le_refl _) hcap (by simp only; omega) (fun _ => by simp only; omega)
          simpa using this
        · refine ⟨by simp [hr.len], ?_, ?_, ?_, ?_, ?_, ?_, ?_⟩
          · intro g hg
            obtain ⟨e', a1, a2, a3⟩ := hr.glo g hg
            exact ⟨e', pre_get a1, a2, a3⟩
          · intro q e' he'
            rw [s2.hsize]
            rcases push_get he' with ⟨_, he'⟩ | ⟨_, rfl⟩
            · exact hr.lt q e' he'
            · exact hr.lt i e hee
          · intro q cs' st' sz' ex' e' hb he' hst'
            rcases push_get hb with ⟨hq, hb⟩ | ⟨hq, hb⟩
            · rcases push_get he' with ⟨_, he'⟩ | ⟨hq', _⟩
              · have hal : (Blk.row cs' st' sz' ex').alive = true := by cases st' <;> first | rfl | exact absurd rfl hst'
                obtain ⟨hne, hb⟩ := hget q _ hb hal
                obtain ⟨rc0, T0, fr0, a1, a2, a3⟩ := hr.row q cs' st' sz' ex' e' hb he' hst'
                exact ⟨rc0, T0, fr0, by rw [s2.other _ (hother q _ e' hb hal hne he')]; exact a1, VR.cellMono a2, a3⟩
              · rw [hμl] at hq'; omega
            · injection hb with q1 q2 q3 q4; subst q1 q2 q3 q4
              rcases push_get he' with ⟨hq', he'⟩ | ⟨_, rfl⟩
              · rw [hμl] at hq'; omega
              · refine ⟨rc', T, fr, s2.heap, ?_, by rw [hlen', Nat.add_mul]; simp only; omega, fun _ => ⟨by rw [s2.size]; simp only; omega, by rw [s2.size]; exact g6, fun h => by simp at h⟩, fun h => by simp at h⟩
                refine VR.cellMono ?_
                intro j u hj
                refine ⟨ones_get hall hj, ?_⟩
                simp only
                rw [s2.cells, hnl]
                rw [List.getElem?_append] at hj
                split at hj
                · rename_i hjl
                  rw [holdl] at hjl
                  rw [if_neg (by omega)]
                  rw [hodr, List.getElem?_take_of_lt hjl, List.getElem?_drop] at hj
                  obtain ⟨_, u', a1, a2⟩ := g2 _ _ hj
                  exact ⟨u', by rw [show e.off + o + j = e.off + (o + j) by omega]; exact a1, a2⟩
                · rename_i hjl
                  rw [holdl] at hjl hj
                  have hjn := lt_of_get hj
                  rw [c3] at hjn
                  obtain ⟨u', a1, a2⟩ := hnew.get hj
                  rw [if_pos (by omega)]
                  exact ⟨u', by rw [show e.off + o + j - (e.off + o + n * inf.size + 0) = j - n * inf.size by omega]; exact a1, a2⟩
          · intro q cs' st' sz' ex' e' hb he'
            rcases push_get hb with ⟨hq, hb⟩ | ⟨hq, hb⟩
            · rcases push_get he' with ⟨_, he'⟩ | ⟨hq', _⟩
              · exact hr1.szs q cs' st' sz' ex' e' hb he'
              · rw [hμl] at hq'; omega
            · injection hb with q1 q2 q3 q4; subst q3
              rcases push_get he' with ⟨hq', he'⟩ | ⟨_, rfl⟩
              · rw [hμl] at hq'; omega
              · rfl
          · intro q s0 p0 e' hb he'
            rcases push_get hb with ⟨hq, hb⟩ | ⟨hq, hb⟩
            · rcases push_get he' with ⟨_, he'⟩ | ⟨hq', _⟩
              · obtain ⟨hne, hb⟩ := hget q _ hb rfl
                rw [s2.other _ (hother q _ e' hb rfl hne he')]
                exact hr.sit q s0 p0 e' hb he'
              · rw [hμl] at hq'; omega
            · cases hb
          · intro q es e' hb he'
            rcases push_get hb with ⟨hq, hb⟩ | ⟨hq, hb⟩
            · rcases push_get he' with ⟨_, he'⟩ | ⟨hq', _⟩
              · obtain ⟨hne, hb⟩ := hget q _ hb rfl
                rw [s2.other _ (hother q _ e' hb rfl hne he')]
                obtain ⟨mes, clock, a1, a2, a3, a4⟩ := hr.mp q es e' hb he'
                exact ⟨mes, clock, a1, a2, fun j m k v a b => let ⟨x, y, z⟩ := a3 j m k v a b; ⟨x.mono, y.mono, z⟩, a4⟩
              · rw [hμl] at hq'; omega
            · cases hb
          · intro q l b b' e1 e2 hb hb' hoo haa hne he1 he2
            rcases push_get hb with ⟨hq, hb⟩ | ⟨hq, rfl⟩
            · rcases push_get he1 with ⟨_, he1⟩ | ⟨hq', _⟩
              · obtain ⟨hqi, hb⟩ := hget q _ hb (hown_alive _ hoo)
                rcases push_get hb' with ⟨hl, hb'⟩ | ⟨hl, rfl⟩
                · rcases push_get he2 with ⟨_, he2⟩ | ⟨hl', _⟩
                  · obtain ⟨hli, hb'⟩ := hget l _ hb' haa
                    exact hr.apart q l b b' e1 e2 hb hb' hoo haa hne he1 he2
                  · rw [hμl] at hl'; omega
                · rcases push_get he2 with ⟨hl', _⟩ | ⟨_, rfl⟩
                  · rw [hμl] at hl'; omega
                  · exact hother q b e1 hb (hown_alive _ hoo) hqi he1
              · rw [hμl] at hq'; omega
            · rcases push_get he1 with ⟨hq', _⟩ | ⟨_, rfl⟩
              · rw [hμl] at hq'; omega
              · rcases push_get hb' with ⟨hl, hb'⟩ | ⟨hl, rfl⟩
                · rcases push_get he2 with ⟨_, he2⟩ | ⟨hl', _⟩
                  · obtain ⟨hli, hb'⟩ := hget l _ hb' haa
                    exact (hother l b' e2 hb' haa hli he2).symm
                  · rw [hμl] at hl'; omega
                · omega
        · refine ⟨⟨_, rfl⟩, s2.os, s2.tape, s2.output, by rw [s2.hsize]; exact Nat.le_refl _, ?_, ?_⟩
          · intro x hx hno
            exact s2.other x (fun q => hno i _ e hrow rfl hee q.symm)
          · intro q b e' hb hoo he' hlt
            rcases push_get hb with ⟨hq, hb⟩ | ⟨hq, rfl⟩
            · rcases push_get he' with ⟨_, he'⟩ | ⟨hq', _⟩
              · obtain ⟨hqi, hb⟩ := hget q _ hb (hown_alive _ hoo)
                exact ⟨q, b, e', hb, hoo, he', rfl⟩
              · rw [hμl] at hq'; omega
            · rcases push_get he' with ⟨hq', _⟩ | ⟨_, rfl⟩
              · rw [hμl] at hq'; omega
              · exact ⟨i, _, e, hrow, rfl, hee, rfl⟩
      · -- a new row
        have hlt : sCap < n + k := by omega
        have hq : (Question.appendCap (n + k) sCap el).forced = false := rfl
        generalize hcp : (Question.appendCap (n + k) sCap el).cut (w.tape w.drawn (.appendCap (n + k) sCap el)) = cap
        have hge : n + k ≤ cap := by rw [← hcp]; simp [Question.cut]
        have ho' : old'.length = n * inf.size := by rw [ho1.1, holdl]
        have hn' : new'.length = k * inf.size := by rw [hnew.1, c3]
        have hrun : (appTail el inf.size (.slice base n sCap) base n sCap k bad appended).run P w = .ok (.slice (some ⟨w.heap.size, 0, none⟩) (n + k) cap)
            ({ w with drawn := w.drawn + 1 }.alloc (.cells (old'.toArray ++ new'.toArray ++ Builtin.zeroCells z.cells (cap - (n + k))) el)) := by
          unfold appTail
          simp only [hcap, if_false, Sem.run_bind, hbad hlt c1 c2, Result.andThen_ok, run_choose, hq, Bool.false_eq_true, hcp, run_typeInfo _ hi, run_askRoom, ho2, happ, run_zero hi hz, newRow, run_newObj, Sem.run_pure, World.alloc]
        have hcr : CR μ (old ++ new) (old' ++ new') := ho1.append hnew
        have hsize : (old'.toArray ++ new'.toArray ++ Builtin.zeroCells z.cells (cap - (n + k))).size = cap * inf.size := by
          simp only [Array.size_append, List.size_toArray, ho', hn', zeroCells_size, hzs]
          rw [← Nat.add_mul, ← Nat.add_mul]
          congr 1; omega
        obtain ⟨v', μ', w', b1, b2, b3, b4⟩ := sim_newSl (A := A1) (d := w.drawn + 1) (sz := inf.size) (n := n + k) (c := n + k) (c' := cap) (fr := (0, 0)) (ex := false) hr1
          (cs := old ++ new) (rc := old'.toArray ++ new'.toArray ++ Builtin.zeroCells z.cells (cap - (n + k))) (T := el) (r := .ok (.value (.slice (some ⟨w.heap.size, 0, none⟩) (n + k) cap)) _)
          (by
            intro j u hj
            obtain ⟨u', p1, p2⟩ := hcr.get hj
            refine ⟨ones_get hall hj, u', ?_, p2⟩
            rw [Array.getElem?_append, if_pos (by have := lt_of_get p1; simpa using this)]
            simpa using p1)
          (by rw [hsize, hlen']; exact Nat.mul_le_mul_right _ hge) (.inl rfl) (by simp) (Nat.le_refl _) hge (by rw [hsize]) rfl
        exact ⟨v', μ', w', by rw [run_value hrun]; exact b1, b2, b3, hst1.trans b4⟩
    · cases hs


theorem set_append_last (A : AH) (b c : Blk) : (A ++ [b]).set A.length c = A ++ [c] := by
  rw [List.set_append, if_neg (by omega), Nat.sub_self]; rfl

theorem sim_appF {s : Value} {base : Option Addr} {sLen sCap k : Nat} {new new' : List Value} {el : TypeId} {inf : TypeInfo} {z : Value} {bad : Sem Unit} {appended : Sem (Array Value)} {r : Result Next}
    (hr : Rel G μ A w) (hsl : VR μ s (.slice base sLen sCap)) (hi : P.info? el = some inf) (hz : inf.zero = some z) (hzs : z.cells.size = inf.size) (hpos : 0 < inf.size)
    (hnew : CR μ new new') (h1 : ones new = true) (happ : ∀ d, appended.run P { w with drawn := d } = .ok new'.toArray { w with drawn := d })
    (hbad : sCap < sLen + k → 2 * ((sLen + k) * inf.bytes) ≤ 2 ^ 48 → 0 < inf.bytes → bad.run P w = .ok () w)
    (hs : appF A s new k inf.size inf.bytes = some (v, A'))
    (he : r = ((do pure (.value (← appTail el inf.size (.slice base sLen sCap) base sLen sCap k bad appended)) : Sem Next).run P w)) : Sim G μ A w v A' r := by
  subst he
  have happ0 : appended.run P w = .ok new'.toArray w := happ w.drawn
  unfold appF at hs
  split at hs
  · rename_i i o n c
    split at hs
    · rename_i cs bsz ex hrow
      split at hs
      · rename_i hcond
        obtain ⟨hk, rfl, _, hend, c1, c2, c3, c4⟩ := hcond
        injection hs with hs; injection hs with h5 h6; subst h5 h6
        obtain ⟨e, hee⟩ := hr.mu_lt hrow
        obtain ⟨rc, T, fr, g1, g2, g3, g4⟩ := hr.row i cs .fz inf.size ex e hrow hee (by decide)
        obtain ⟨g5, g6, _⟩ := g4.1 rfl
        have hesz := hr.szs i cs .fz inf.size ex e hrow hee
        have hones : ones cs = true := by
          unfold ones
          rw [List.all_eq_true]
          intro x hx
          obtain ⟨j, hj, rfl⟩ := List.getElem_of_mem hx
          exact (g2 j _ (List.getElem?_eq_getElem hj)).1
        have hcut : cut cs o (n * inf.size) = some ((cs.drop o).take (n * inf.size)) := by
          unfold cut
          rw [if_pos (by omega)]
        have htk : (cs.drop o).take (n * inf.size) = cs.drop o := by rw [List.take_of_length_le (by rw [List.length_drop]; omega)]
        rw [htk] at hcut
        obtain ⟨l', m1, m2, m3, m4, m5⟩ := hr.cells (P := P) hrow (by decide) hee hcut
        have holdl : (cs.drop o).length = n * inf.size := by rw [List.length_drop]; omega
        have hold1 : ones (cs.drop o) = true := by
          unfold ones at *
          rw [List.all_eq_true] at *
          exact fun x hx => hones x (List.mem_of_mem_drop hx)
        have hlen : sLen = n := by
          cases hsl with
          | slc _ _ _ _ _ => rfl
          | sle => rfl
          | flat h => simp [flatV] at h
        subst hlen
        have hfirst : ∃ old' : List Value, CR μ (cs.drop o) old' ∧ ∀ d, (Builtin.firstCells inf.size sLen (.slice base sLen sCap)).run P { w with drawn := d } = .ok old'.toArray { w with drawn := d } := by
          cases hsl with
          | flat h => simp [flatV] at h
          | slc hee' g1 g2 g3 g5 =>
            rw [hee] at hee'
            obtain rfl := Option.some.inj hee'
            exact ⟨l', ⟨by rw [m1, holdl], m2⟩, m5⟩
          | sle =>
            have hdz : cs.drop o = [] := by rw [← List.length_eq_zero_iff, holdl, Nat.zero_mul]
            rw [hdz]
            exact ⟨[], CR.nil, fun d => by unfold Builtin.firstCells; rw [Nat.zero_mul]; rfl⟩
        obtain ⟨old', ho1, ho2⟩ := hfirst
        have hall : ones (cs.drop o ++ new) = true := ones_append hold1 h1
        have hlen' : (cs.drop o ++ new).length = (sLen + k) * inf.size := by rw [List.length_append, holdl, c3, Nat.add_mul]
        have hr1 : Rel G μ (A.set i (.row cs .ro inf.size ex)) w := hr.setSt hrow (fun h => by cases h) (by decide)
        have hst1 : Stp μ A w μ (A.set i (.row cs .ro inf.size ex)) w := Stp.setSt μ w hrow (fun h => by cases h)
        have hil : i < A.length := lt_of_get hrow
        have hμl : μ.length = (A.set i (.row cs .ro inf.size ex)).length := hr1.len
        by_cases hcap : sLen + k ≤ sCap
        · -- in place
          have hin : base = some ⟨e.blk, e.off + o, none⟩ ∧ o + sCap * inf.size = e.lim := by
            cases hsl with
            | flat h => simp [flatV] at h
            | slc hee' g1 g2 g3 g5 =>
              rw [hee] at hee'
              obtain rfl := Option.some.inj hee'
              have g5 := g5 (by rw [hesz]; omega)
              rw [hesz] at g5
              exact ⟨rfl, g5⟩
            | sle => omega
          obtain ⟨rfl, hlim⟩ := hin
          have hkk : (sLen + k) * inf.size ≤ sCap * inf.size := Nat.mul_le_mul_right _ hcap
          rw [Nat.add_mul] at hkk
          have hnl : new'.length = k * inf.size := by rw [hnew.1, c3]
          obtain ⟨w', rc', s1, s2⟩ := run_storeRow P e.blk (e.off + o + sLen * inf.size) T fr new' 0 w rc g1 (by rw [hnl]; omega) (g6.imp_right And.right) (hnew.ones h1)
          have hrun : (appTail el inf.size (.slice (some ⟨e.blk, e.off + o, none⟩) sLen sCap) (some ⟨e.blk, e.off + o, none⟩) sLen sCap k bad appended).run P w = .ok (.slice (some ⟨e.blk, e.off + o, none⟩) (sLen + k) sCap) w' := by
            unfold appTail
            simp only [hcap, if_true, Sem.run_bind, happ0, Result.andThen_ok, add_none, s1, Sem.run_pure]
          have hother : ∀ (q : Nat) (b : Blk) (e' : Ent), A[q]? = some b → b.alive = true → q ≠ i → μ[q]? = some e' → e'.blk ≠ e.blk := by
            intro q b e' hq ha hne hq' heq
            exact hr.apart i q _ b e e' hrow hq rfl ha (Ne.symm hne) hee hq' heq.symm
          have hown_alive : ∀ b : Blk, b.isOwn = true → b.alive = true := by
            intro b hb
            cases b with
            | row a st c d => cases st <;> first | rfl | (simp [Blk.isOwn] at hb)
            | mp _ => rfl
            | sit _ _ => rfl
          refine ⟨_, μ ++ [⟨e.blk, e.off + o, e.lim - o, inf.size⟩], w', .inl (run_value hrun), ?_, ?_, ?_⟩
          · have hm : (μ ++ [(⟨e.blk, e.off + o, e.lim - o, inf.size⟩ : Ent)])[A.length]? = some ⟨e.blk, e.off + o, e.lim - o, inf.size⟩ := by rw [← hr.len]; simp
            have := VR.slc (μ := μ ++ [(⟨e.blk, e.off + o, e.lim - o, inf.size⟩ : Ent)]) (o := 0) (n := sLen + k) (c := sLen + k) (c' := sCap) hm (Nat.le_refl _) hcap (by simp only; omega) (fun _ => by simp only; omega)
            simpa using this
          · refine ⟨by simp [hr.len], ?_, ?_, ?_, ?_, ?_, ?_, ?_⟩
            · intro g hg
              obtain ⟨e', a1, a2, a3⟩ := hr.glo g hg
              exact ⟨e', pre_get a1, a2, a3⟩
            · intro q e' he'
              rw [s2.hsize]
              rcases push_get he' with ⟨_, he'⟩ | ⟨_, rfl⟩
              · exact hr.lt q e' he'
              · exact hr.lt i e hee
            · intro q cs' st' sz' ex' e' hb he' hst'
              rcases push_get hb with ⟨hq, hb⟩ | ⟨hq, hb⟩
              · rcases push_get he' with ⟨_, he'⟩ | ⟨hq', _⟩
                · rcases get_set hb with ⟨rfl, qq, _⟩ | ⟨hne, hb⟩
                  · injection qq with q1 q2 q3 q4; subst q1 q2 q3 q4
                    rw [hee] at he'
                    obtain rfl := Option.some.inj he'
                    refine ⟨rc', T, fr, s2.heap, VR.cellMono ?_, g3, fun h => (by cases h), fun hx => by rw [s2.size]; exact g4.2 hx⟩
                    intro j u hj
                    have hjl := lt_of_get hj
                    obtain ⟨b1, u', b2, b3⟩ := g2 j u hj
                    refine ⟨b1, u', ?_, b3⟩
                    rw [s2.cells, if_neg (by omega)]
                    exact b2
                  · have hal : (Blk.row cs' st' sz' ex').alive = true := by cases st' <;> first | rfl | exact absurd rfl hst'
                    obtain ⟨rc0, T0, fr0, a1, a2, a3⟩ := hr.row q cs' st' sz' ex' e' hb he' hst'
                    exact ⟨rc0, T0, fr0, by rw [s2.other _ (hother q _ e' hb hal hne he')]; exact a1, VR.cellMono a2, a3⟩
                · rw [hμl] at hq'; omega
              · injection hb with q1 q2 q3 q4; subst q1 q2 q3 q4
                rcases push_get he' with ⟨hq', he'⟩ | ⟨_, rfl⟩
                · rw [hμl] at hq'; omega
                · refine ⟨rc', T, fr, s2.heap, ?_, by rw [hlen', Nat.add_mul]; simp only; omega, fun h => (by cases h), fun h => (by cases h)⟩
                  refine VR.cellMono ?_
                  intro j u hj
                  refine ⟨ones_get hall hj, ?_⟩
                  simp only
                  rw [s2.cells, hnl]
                  rw [List.getElem?_append] at hj
                  split at hj
                  · rename_i hjl
                    rw [holdl] at hjl
                    rw [if_neg (by omega)]
                    rw [List.getElem?_drop] at hj
                    obtain ⟨_, u', a1, a2⟩ := g2 _ _ hj
                    exact ⟨u', by rw [show e.off + o + j = e.off + (o + j) by omega]; exact a1, a2⟩
                  · rename_i hjl
                    rw [holdl] at hjl hj
                    have hjn := lt_of_get hj
                    rw [c3] at hjn
                    obtain ⟨u', a1, a2⟩ := hnew.get hj
                    rw [if_pos (by omega)]
                    exact ⟨u', by rw [show e.off + o + j - (e.off + o + sLen * inf.size + 0) = j - sLen * inf.size by omega]; exact a1, a2⟩
            · intro q cs' st' sz' ex' e' hb he'
              rcases push_get hb with ⟨hq, hb⟩ | ⟨hq, hb⟩
              · rcases push_get he' with ⟨_, he'⟩ | ⟨hq', _⟩
                · exact hr1.szs q cs' st' sz' ex' e' hb he'
                · rw [hμl] at hq'; omega
              · injection hb with q1 q2 q3 q4; subst q3
                rcases push_get he' with ⟨hq', he'⟩ | ⟨_, rfl⟩
                · rw [hμl] at hq'; omega
                · rfl
            · intro q s0 p0 e' hb he'
              rcases push_get hb with ⟨hq, hb⟩ | ⟨hq, hb⟩
              · rcases push_get he' with ⟨_, he'⟩ | ⟨hq', _⟩
                · rcases get_set hb with ⟨rfl, qq, _⟩ | ⟨hne, hb⟩
                  · cases qq
                  · rw [s2.other _ (hother q _ e' hb rfl hne he')]
                    exact hr.sit q s0 p0 e' hb he'
                · rw [hμl] at hq'; omega
              · cases hb
            · intro q es e' hb he'
              rcases push_get hb with ⟨hq, hb⟩ | ⟨hq, hb⟩
              · rcases push_get he' with ⟨_, he'⟩ | ⟨hq', _⟩
                · rcases get_set hb with ⟨rfl, qq, _⟩ | ⟨hne, hb⟩
                  · cases qq
                  · rw [s2.other _ (hother q _ e' hb rfl hne he')]
                    obtain ⟨mes, clock, a1, a2, a3, a4⟩ := hr.mp q es e' hb he'
                    exact ⟨mes, clock, a1, a2, fun j m k v a b => let ⟨x, y, z⟩ := a3 j m k v a b; ⟨x.mono, y.mono, z⟩, a4⟩
                · rw [hμl] at hq'; omega
              · cases hb
            · intro q l b b' e1 e2 hb hb' hoo haa hne he1 he2
              rcases push_get hb with ⟨hq, hb⟩ | ⟨hq, rfl⟩
              · rcases push_get he1 with ⟨_, he1⟩ | ⟨hq', _⟩
                · rcases get_set hb with ⟨rfl, rfl, _⟩ | ⟨hqi, hb1⟩
                  · cases hoo
                  · rcases push_get hb' with ⟨hl, hb'⟩ | ⟨hl, rfl⟩
                    · rcases push_get he2 with ⟨_, he2⟩ | ⟨hl', _⟩
                      · rcases get_set hb' with ⟨rfl, rfl, _⟩ | ⟨hli, hb3⟩
                        · exact hr.apart q _ b _ e1 e2 hb1 hrow hoo rfl hne he1 he2
                        · exact hr.apart q l b b' e1 e2 hb1 hb3 hoo haa hne he1 he2
                      · rw [hμl] at hl'; omega
                    · rcases push_get he2 with ⟨hl', _⟩ | ⟨_, rfl⟩
                      · rw [hμl] at hl'; omega
                      · exact hother q b e1 hb1 (hown_alive _ hoo) hqi he1
                · rw [hμl] at hq'; omega
              · cases hoo
          · refine ⟨⟨_, rfl⟩, s2.os, s2.tape, s2.output, by rw [s2.hsize]; exact Nat.le_refl _, ?_, ?_⟩
            · intro x hx hno
              exact s2.other x (fun q => hno i _ e hrow rfl hee q.symm)
            · intro q b e' hb hoo he' hlt
              rcases push_get hb with ⟨hq, hb⟩ | ⟨hq, rfl⟩
              · rcases push_get he' with ⟨_, he'⟩ | ⟨hq', _⟩
                · rcases get_set hb with ⟨rfl, rfl, _⟩ | ⟨hqi, hb⟩
                  · cases hoo
                  · exact ⟨q, b, e', hb, hoo, he', rfl⟩
                · rw [hμl] at hq'; omega
              · cases hoo
        · -- a new row
          have hlt : sCap < sLen + k := by omega
          have hq : (Question.appendCap (sLen + k) sCap el).forced = false := rfl
          generalize hcp : (Question.appendCap (sLen + k) sCap el).cut (w.tape w.drawn (.appendCap (sLen + k) sCap el)) = cap
          have hge : sLen + k ≤ cap := by rw [← hcp]; simp [Question.cut]
          have ho' : old'.length = sLen * inf.size := by rw [ho1.1, holdl]
          have hn' : new'.length = k * inf.size := by rw [hnew.1, c3]
          have hrun : (appTail el inf.size (.slice base sLen sCap) base sLen sCap k bad appended).run P w = .ok (.slice (some ⟨w.heap.size, 0, none⟩) (sLen + k) cap)
              ({ w with drawn := w.drawn + 1 }.alloc (.cells (old'.toArray ++ new'.toArray ++ Builtin.zeroCells z.cells (cap - (sLen + k))) el)) := by
            unfold appTail
            simp only [hcap, if_false, Sem.run_bind, hbad hlt c1 c2, Result.andThen_ok, run_choose, hq, Bool.false_eq_true, hcp, run_typeInfo _ hi, run_askRoom, ho2, happ, run_zero hi hz, newRow, run_newObj, Sem.run_pure, World.alloc]
          have hcr : CR μ (cs.drop o ++ new) (old' ++ new') := ho1.append hnew
          have hsize : (old'.toArray ++ new'.toArray ++ Builtin.zeroCells z.cells (cap - (sLen + k))).size = cap * inf.size := by
            simp only [Array.size_append, List.size_toArray, ho', hn', zeroCells_size, hzs]
            rw [← Nat.add_mul, ← Nat.add_mul]
            congr 1; omega
          obtain ⟨v', μ', w', b1, b2, b3, b4⟩ := sim_newSl (A := A.set i (.row cs .ro inf.size ex)) (d := w.drawn + 1) (sz := inf.size) (n := sLen + k) (c := sLen + k) (c' := cap) (fr := (0, 0)) (ex := false) hr1
            (cs := cs.drop o ++ new) (rc := old'.toArray ++ new'.toArray ++ Builtin.zeroCells z.cells (cap - (sLen + k))) (T := el) (r := .ok (.value (.slice (some ⟨w.heap.size, 0, none⟩) (sLen + k) cap)) _)
            (by
              intro j u hj
              obtain ⟨u', p1, p2⟩ := hcr.get hj
              refine ⟨ones_get hall hj, u', ?_, p2⟩
              rw [Array.getElem?_append, if_pos (by have := lt_of_get p1; simpa using this)]
              simpa using p1)
            (by rw [hsize, hlen']; exact Nat.mul_le_mul_right _ hge) (.inl rfl) (by simp) (Nat.le_refl _) hge (by rw [hsize]) rfl
          have hlast : (A.set i (.row cs .ro inf.size ex) ++ [Blk.row (cs.drop o ++ new) .own inf.size false])[(A.set i (.row cs .ro inf.size ex)).length]? = some (.row (cs.drop o ++ new) .own inf.size false) := by simp
          have b3' := b3.setSt (st' := .ro) hlast (fun h => by cases h) (by decide)
          have b4' := b4.trans (Stp.setSt (st' := .ro) _ _ hlast (fun h => by cases h))
          rw [set_append_last] at b3' b4'
          rw [List.length_set] at b2
          exact ⟨v', μ', w', by rw [run_value hrun]; exact b1, b2, b3', hst1.trans b4'⟩
      · cases hs
    · cases hs
  · cases hs

theorem sim_appTail1 {s : Value} {base : Option Addr} {sLen sCap k : Nat} {new new' : List Value} {el : TypeId} {inf : TypeInfo} {z : Value} {bad : Sem Unit} {appended : Sem (Array Value)} {r : Result Next}
    (hr : Rel G μ A w) (hsl : VR μ s (.slice base sLen sCap)) (hi : P.info? el = some inf) (hz : inf.zero = some z) (hzs : z.cells.size = inf.size) (hpos : 0 < inf.size)
    (hnew : CR μ new new') (h1 : ones new = true) (happ : ∀ d, appended.run P { w with drawn := d } = .ok new'.toArray { w with drawn := d })
    (hbad : sCap < sLen + k → 2 * ((sLen + k) * inf.bytes) ≤ 2 ^ 48 → 0 < inf.bytes → bad.run P w = .ok () w)
    (hs : appA1 A s new k inf.size inf.bytes = some (v, A')) (hk0 : k = 0 → new = [])
    (he : r = ((do pure (.value (← appTail el inf.size (.slice base sLen sCap) base sLen sCap k bad appended)) : Sem Next).run P w)) : Sim G μ A w v A' r := by
  unfold appA1 at hs
  cases hf : appF A s new k inf.size inf.bytes with
  | some x =>
    rw [hf] at hs
    have : x = (v, A') := Option.some.inj hs
    subst this
    exact sim_appF hr hsl hi hz hzs hpos hnew h1 happ hbad hf he
  | none =>
    rw [hf] at hs
    exact sim_appTail0 hr hsl hi hz hzs hpos hnew h1 happ hbad hs hk0 he

theorem sim_appI {s : Value} {base : Option Addr} {sLen sCap k : Nat} {new new' : List Value} {el : TypeId} {inf : TypeInfo} {bad : Sem Unit} {appended : Sem (Array Value)} {r : Result Next}
    (hr : Rel G μ A w) (hsl : VR μ s (.slice base sLen sCap)) (hnew : CR μ new new') (happ : ∀ d, appended.run P { w with drawn := d } = .ok new'.toArray { w with drawn := d })
    (hs : appI A s new k inf.size inf.bytes = some (v, A'))
    (he : r = ((do pure (.value (← appTail el inf.size (.slice base sLen sCap) base sLen sCap k bad appended)) : Sem Next).run P w)) : Sim G μ A w v A' r := by
  subst he
  have happ0 : appended.run P w = .ok new'.toArray w := happ w.drawn
  unfold appI at hs
  split at hs
  · rename_i i o n c
    split at hs
    · rename_i cs bsz ex hrow
      split at hs
      · rename_i hcond
        obtain ⟨hk, rfl, _, hcap, hroom, c1, c2, c3, c4⟩ := hcond
        injection hs with hs; injection hs with h5 h6; subst h5 h6
        cases hsl with
        | flat h => simp [flatV] at h
        | sle => omega
        | slc hee g1 g2 g3 g5 =>
          rename_i e
          have hw : wr A i (o + sLen * inf.size) new = some (A.set i (.row (setAll cs (o + sLen * inf.size) new) .own inf.size ex)) := by
            unfold wr
            simp only [hrow]
            rw [Nat.add_mul] at hroom
            rw [if_pos ⟨by rw [c3]; omega, c4⟩]
          obtain ⟨w', k1, k2, k3⟩ := hr.storeRow (P := P) hw hee (vs' := new') hnew.1 hnew.2
          have hc2 : sLen + k ≤ sCap := by omega
          have hrun : (appTail el inf.size (.slice (some ⟨e.blk, e.off + o, none⟩) sLen sCap) (some ⟨e.blk, e.off + o, none⟩) sLen sCap k bad appended).run P w = .ok (.slice (some ⟨e.blk, e.off + o, none⟩) (sLen + k) sCap) w' := by
            rw [← Nat.add_assoc] at k1
            unfold appTail
            simp only [hc2, if_true, Sem.run_bind, happ0, Result.andThen_ok, add_none, k1, Sem.run_pure]
          exact ⟨_, μ, w', .inl (run_value hrun), .slc hee hcap g2 g3 g5, k2, k3⟩
      · cases hs
    · cases hs
  · cases hs

theorem sim_appTail {s : Value} {base : Option Addr} {sLen sCap k : Nat} {new new' : List Value} {el : TypeId} {inf : TypeInfo} {z : Value} {bad : Sem Unit} {appended : Sem (Array Value)} {r : Result Next}
    (hr : Rel G μ A w) (hsl : VR μ s (.slice base sLen sCap)) (hi : P.info? el = some inf) (hz : inf.zero = some z) (hzs : z.cells.size = inf.size) (hpos : 0 < inf.size)
    (hnew : CR μ new new') (h1 : ones new = true) (happ : ∀ d, appended.run P { w with drawn := d } = .ok new'.toArray { w with drawn := d })
    (hbad : sCap < sLen + k → 2 * ((sLen + k) * inf.bytes) ≤ 2 ^ 48 → 0 < inf.bytes → bad.run P w = .ok () w)
    (hs : appA A s new k inf.size inf.bytes = some (v, A')) (hk0 : k = 0 → new = [])
    (he : r = ((do pure (.value (← appTail el inf.size (.slice base sLen sCap) base sLen sCap k bad appended)) : Sem Next).run P w)) : Sim G μ A w v A' r := by
  unfold appA at hs
  cases hf : appI A s new k inf.size inf.bytes with
  | some x =>
    rw [hf] at hs
    have : x = (v, A') := Option.some.inj hs
    subst this
    exact sim_appI hr hsl hnew happ hf he
  | none =>
    rw [hf] at hs
    exact sim_appTail1 hr hsl hi hz hzs hpos hnew h1 happ hbad hs hk0 he
end
end Go.AS


namespace Go.AS
open Go
set_option linter.unusedVariables false
set_option linter.unusedSimpArgs false

section
variable {G : Nat} {μ : Mu} {A A' : AH} {w : World} {P : Program} {v : Value}

theorem append_run {ats : Array TypeId} {ty : TypeId} {s' x' : Value} {sT xT el : TypeId} {xd : TypeDesc} {base : Option Addr} {sLen sCap k : Nat} {inf : TypeInfo} (hs' : s' = .slice base sLen sCap)
    (h1 : ats[0]? = some sT) (h2 : P.underlying sT = some (.slice el)) (h3 : P.info? el = some inf) (h4 : ats[1]? = some xT) (h5 : P.underlying xT = some xd) (h6 : xd = .string ∨ ∃ e, xd = .slice e)
    (h7 : (Builtin.lenOf x').run P w = .ok k w) (hok : sCap < sLen + k → 2 * ((sLen + k) * inf.bytes) ≤ 2 ^ 48 ∧ 0 < inf.bytes) :
    (Builtin.append_ ats ty #[s', x']).run P w = (appTail el inf.size s' base sLen sCap k (pure ()) (Builtin.firstCells inf.size k x')).run P w := by
  subst hs'
  unfold Builtin.append_ appTail
  by_cases hcap : sLen + k ≤ sCap
  · rcases h6 with rfl | ⟨e, rfl⟩
    · simp only [h1, h4, List.getElem?_toArray, List.getElem?_cons_zero, List.getElem?_cons_succ, Sem.run_bind, run_underlying h2, run_size h3, run_underlying h5, Result.andThen_ok, Sem.run_pure, Bool.false_eq_true, if_false, h7,
        Bool.not_false, if_true, hcap]
      cases base <;> rfl
    · simp only [h1, h4, List.getElem?_toArray, List.getElem?_cons_zero, List.getElem?_cons_succ, Sem.run_bind, run_underlying h2, run_size h3, run_underlying h5, Result.andThen_ok, Sem.run_pure, Bool.false_eq_true, if_false, h7,
        Bool.not_false, if_true, hcap]
      cases base <;> rfl
  · obtain ⟨hb1, hb2⟩ := hok (by omega)
    have hn : Builtin.nextslicecap (sLen + k) sCap * inf.bytes ≤ 2 ^ 48 := by
      have := Nat.mul_le_mul_right inf.bytes (nextcap_le (sLen + k) sCap inf.bytes (by omega))
      rw [Nat.mul_assoc] at this
      omega
    have hn2 : ¬ (Builtin.nextslicecap (sLen + k) sCap * inf.bytes > 2 ^ 48) := by omega
    have hb3 : ¬ inf.bytes = 0 := by omega
    rcases h6 with rfl | ⟨e, rfl⟩
    · simp only [h1, h4, List.getElem?_toArray, List.getElem?_cons_zero, List.getElem?_cons_succ, Sem.run_bind, run_underlying h2, run_size h3, run_underlying h5, Result.andThen_ok, Sem.run_pure, Bool.false_eq_true, if_false, h7,
        Bool.not_false, if_true, hcap, false_or, run_typeInfo _ h3, hb3, and_false, hn2]
    · simp only [h1, h4, List.getElem?_toArray, List.getElem?_cons_zero, List.getElem?_cons_succ, Sem.run_bind, run_underlying h2, run_size h3, run_underlying h5, Result.andThen_ok, Sem.run_pure, Bool.false_eq_true, if_false, h7,
        Bool.not_false, if_true, hcap, false_or, run_typeInfo _ h3, hb3, and_false, hn2]

theorem appA_sl {s s' : Value} {new : List Value} {k sz bytes : Nat} {r : Value × AH} (h : appA A s new k sz bytes = some r) (hs : VR μ s s') :
    ∃ base sLen sCap, s' = .slice base sLen sCap ∧ (sCap < sLen + k → 2 * ((sLen + k) * bytes) ≤ 2 ^ 48 ∧ 0 < bytes) := by
  unfold appA at h
  cases hi : appI A s new k sz bytes with
  | some x =>
    unfold appI at hi
    split at hi
    · split at hi
      · split at hi
        · rename_i hc
          obtain ⟨b, c, rfl, _⟩ := hs.sl_inv
          exact ⟨_, _, _, rfl, fun _ => ⟨hc.2.2.2.2.2.1, hc.2.2.2.2.2.2.1⟩⟩
        · cases hi
      · cases hi
    · cases hi
  | none =>
  rw [hi, Option.none_or] at h
  unfold appA1 at h
  cases hf : appF A s new k sz bytes with
  | some x =>
    unfold appF at hf
    split at hf
    · split at hf
      · split at hf
        · rename_i hc
          obtain ⟨b, c, rfl, _⟩ := hs.sl_inv
          exact ⟨_, _, _, rfl, fun _ => ⟨hc.2.2.2.2.1, hc.2.2.2.2.2.1⟩⟩
        · cases hf
      · cases hf
    · cases hf
  | none =>
  rw [hf, Option.none_or] at h
  unfold appA0 at h
  split at h
  · rename_i hk
    subst hk
    split at h
    · cases hs with
      | flat h => exact ⟨_, _, _, rfl, fun h => by omega⟩
    · cases hs with
      | slc _ g1 g2 _ _ => exact ⟨_, _, _, rfl, fun h => by omega⟩
      | sle => exact ⟨_, _, _, rfl, fun h => by omega⟩
      | slz => exact ⟨_, _, _, rfl, fun h => by omega⟩
      | slo h => exact ⟨_, _, _, rfl, fun h => by omega⟩
      | flat h => simp [flatV] at h
    · cases h
  · rw [Option.bind_eq_some_iff] at h
    obtain ⟨⟨old, A1, n⟩, hb, h⟩ := h
    simp only at h
    split at h
    · rename_i hc
      have key : ∃ base sCap, s' = .slice base n sCap := by
        unfold appBase at hb
        split at hb
        · injection hb with hb; injection hb with q1 q2; injection q2 with q2 q3; subst q3
          obtain ⟨b, c, rfl, _⟩ := hs.sl_inv
          exact ⟨_, _, rfl⟩
        · split at hb
          · split at hb
            · injection hb with hb; injection hb with q1 q2; injection q2 with q2 q3; subst q3
              obtain ⟨b, c, rfl, _⟩ := hs.sl_inv
              exact ⟨_, _, rfl⟩
            · cases hb
          · cases hb
        · injection hb with hb; injection hb with q1 q2; injection q2 with q2 q3; subst q3
          obtain ⟨b, c, rfl, _⟩ := hs.sl_inv
          exact ⟨_, _, rfl⟩
        · cases hb
      obtain ⟨base, sCap, rfl⟩ := key
      exact ⟨base, n, sCap, rfl, fun _ => ⟨hc.1, hc.2.1⟩⟩
    · cases h

theorem sim_app {s s' x x' : Value} {ats : Array TypeId} {ty sT xT el : TypeId} {xd : TypeDesc} {inf : TypeInfo} {z : Value} (hr : Rel G μ A w) (hsv : VR μ s s') (hx : VR μ x x')
    (h1 : ats[0]? = some sT) (h2 : P.underlying sT = some (.slice el)) (h3 : P.info? el = some inf) (h4 : ats[1]? = some xT) (h5 : P.underlying xT = some xd) (h6 : xd = .string ∨ ∃ e, xd = .slice e)
    (hz : inf.zero = some z) (hzs : z.cells.size = inf.size) (hpos : 0 < inf.size) (hs : sApp A s x inf.size inf.bytes = some (v, A')) :
    Sim G μ A w v A' ((do pure (.value (← Builtin.append_ ats ty #[s', x'])) : Sem Next).run P w) := by
  unfold sApp at hs
  split at hs
  · rename_i a k c
    rw [Option.bind_eq_some_iff] at hs
    obtain ⟨new, hnew, hs⟩ := hs
    obtain ⟨hl, new', hcr, hone, hrun⟩ := rdSl_rel (P := P) hr hx rfl hnew
    obtain ⟨a', c', rfl, _⟩ := hx.sl_inv
    obtain ⟨base, sLen, sCap, rfl, hok⟩ := appA_sl hs hsv
    refine sim_appTail (bad := pure ()) hr hsv h3 hz hzs hpos hcr hone hrun (fun a b c => rfl) hs (fun hk => by subst hk; simpa using hl) ?_
    have := append_run (P := P) (w := w) (ty := ty) rfl h1 h2 h3 h4 h5 h6 (x' := .slice a' k c') (base := base) (sLen := sLen) (sCap := sCap) (k := k) rfl hok
    simp only [Sem.run_bind, this]
  · cases hs

theorem firstCells_str (t : ByteArray) (size : Nat) (w : World) : (Builtin.firstCells size t.size (.string t)).run P w = .ok (u8s t).toArray w := by
  unfold Builtin.firstCells
  have e : ((t.extract 0 t.size).data.map fun b => Value.int .u8 (b.toNat : Int)) = (u8s t).toArray := by
    rw [ByteArray.extract_zero_size]
    unfold u8s
    apply Array.ext'
    rw [Array.toList_map]
  simp only [e]; rfl

theorem sim_apps {s s' x x' : Value} {ats : Array TypeId} {ty sT xT el : TypeId} {xd : TypeDesc} {inf : TypeInfo} {z : Value} (hr : Rel G μ A w) (hsv : VR μ s s') (hx : VR μ x x')
    (h1 : ats[0]? = some sT) (h2 : P.underlying sT = some (.slice el)) (h3 : P.info? el = some inf) (h4 : ats[1]? = some xT) (h5 : P.underlying xT = some xd) (h6 : xd = .string ∨ ∃ e, xd = .slice e)
    (hz : inf.zero = some z) (hzs : z.cells.size = inf.size) (hpos : inf.size = 1) (hs : sApps A s x inf.bytes = some (v, A')) :
    Sim G μ A w v A' ((do pure (.value (← Builtin.append_ ats ty #[s', x'])) : Sem Next).run P w) := by
  unfold sApps at hs
  split at hs
  · rename_i t
    obtain rfl := hx.string
    obtain ⟨base, sLen, sCap, rfl, hok⟩ := appA_sl hs hsv
    rw [← hpos] at hs
    refine sim_appTail (appended := Builtin.firstCells inf.size t.size (.string t)) (bad := pure ()) hr hsv h3 hz hzs (by omega) (CR.flat (u8s_flat t)) (ones_flat (u8s_flat t)) (fun d => firstCells_str t _ _) (fun a b c => rfl) hs
      (fun hk => by have := u8s_length t; rw [hk] at this; simpa using this) ?_
    have := append_run (P := P) (w := w) (ty := ty) rfl h1 h2 h3 h4 h5 h6 (x' := .string t) (base := base) (sLen := sLen) (sCap := sCap) (k := t.size) rfl hok
    simp only [Sem.run_bind, this]
  · cases hs

theorem CR.bytes {l l' : List Value} {bs : List UInt8} (h : CR μ l l') (hb : bytesA l = some bs) : l' = l := by
  have hf : l.all flatV = true := by
    clear h
    induction l generalizing bs with
    | nil => rfl
    | cons x r ih =>
      simp only [bytesA, Option.bind_eq_some_iff, Option.map_eq_some_iff] at hb
      obtain ⟨b, h1, bs', h2, _⟩ := hb
      simp only [List.all_cons, ih h2, Bool.and_true]
      cases x <;> first | rfl | (simp [asByte] at h1)
  apply List.ext_getElem?
  intro j
  rcases Nat.lt_or_ge j l.length with hj | hj
  · have h1 : l[j]? = some l[j] := List.getElem?_eq_getElem hj
    obtain ⟨y, h2, h3⟩ := h.get h1
    rw [List.all_eq_true] at hf
    rw [h1, h2, h3.eq_of_flat (hf _ (List.getElem_mem hj))]
  · rw [List.getElem?_eq_none hj, List.getElem?_eq_none (by rw [h.1]; exact hj)]

theorem b2s_loop (f : Value → ByteArray → Sem (ForInStep ByteArray)) (hf : ∀ n s, f (.int .u8 n) s = pure (ForInStep.yield (s.push (UInt8.ofNat n.toNat)))) : ∀ (l : List Value) (bs : List UInt8) (acc : ByteArray) (w : World), bytesA l = some bs →
    (forIn (m := Sem) l acc f).run P w = .ok (bs.foldl ByteArray.push acc) w
  | [], bs, acc, w, h => by
    simp only [bytesA, Option.some.injEq] at h
    subst h
    rfl
  | x :: r, bs, acc, w, h => by
    simp only [bytesA, Option.bind_eq_some_iff, Option.map_eq_some_iff] at h
    obtain ⟨b, h1, bs', h2, rfl⟩ := h
    rw [List.forIn_cons]
    unfold asByte at h1
    split at h1
    · obtain rfl := Option.some.inj h1
      rw [hf]
      simp only [Sem.run_bind, Sem.run_pure, Result.andThen_ok, List.foldl_cons]
      exact b2s_loop f hf r bs' _ w h2
    · cases h1

theorem foldl_push : ∀ (bs : List UInt8) (acc : ByteArray), bs.foldl ByteArray.push acc = ⟨acc.data ++ bs.toArray⟩
  | [], acc => by simp
  | b :: r, acc => by
    rw [List.foldl_cons, foldl_push r]
    simp only [ByteArray.push]
    congr 1
    simp

theorem sim_b2s {x x' : Value} {s d el : TypeId} (hr : Rel G μ A w) (hx : VR μ x x') (h1 : P.underlying s = some (.slice el)) (h2 : P.underlying d = some .string) (h3 : P.underlying el = some (.int .u8))
    (hs : sB2s A x = some (v, A')) : Sim G μ A w v A' ((do pure (.value (← convert s d x')) : Sem Next).run P w) := by
  unfold sB2s at hs
  rw [Option.bind_eq_some_iff] at hs
  obtain ⟨l, hl, hs⟩ := hs
  rw [Option.map_eq_some_iff] at hs
  obtain ⟨bs, hb, hs⟩ := hs
  injection hs with h5 h6; subst h5 h6
  have hxs : ∃ a k c, x = .slice a k c := by
    unfold rdSl at hl
    split at hl <;> first | exact ⟨_, _, _, rfl⟩ | cases hl
  obtain ⟨a, k, c, rfl⟩ := hxs
  obtain ⟨hlen, l', hcr, hone, hrun⟩ := rdSl_rel (P := P) hr hx rfl hl
  obtain ⟨a', c', rfl, _⟩ := hx.sl_inv
  obtain rfl := hcr.bytes hb
  refine Sim.flat hr (run_value ?_) rfl
  unfold convert
  rw [Sem.run_bind, run_underlying h1, Result.andThen_ok, Sem.run_bind, run_underlying h2, Result.andThen_ok]
  simp only [Sem.run_bind, run_underlying h3, Result.andThen_ok]
  unfold Conv.bytesToString
  cases a' with
  | none =>
    have := hrun w.drawn
    unfold Builtin.firstCells at this
    simp only [Sem.run_pure, Result.ok.injEq] at this
    have hl0 : l' = [] := by simpa using this.1.symm
    subst hl0
    simp only [bytesA, Option.some.injEq] at hb
    subst hb
    rfl
  | some ad =>
    have h := hrun w.drawn
    unfold Builtin.firstCells at h
    rw [Nat.mul_one] at h
    have h : (loadCells ad k).run P w = .ok l'.toArray w := h
    simp only [Sem.run_bind, h, Result.andThen_ok]
    rw [List.forIn_toArray, b2s_loop (P := P) _ (fun _ _ => rfl) l' bs ByteArray.empty w hb]
    simp only [Result.andThen_ok, Sem.run_pure, foldl_push]
    have e0 : (ByteArray.empty).data = #[] := rfl
    rw [e0]
    simp

theorem sim_copyO {d d' s s' : Value} {ats : Array TypeId} {ty dT el : TypeId} {inf : TypeInfo} (hr : Rel G μ A w) (hd : VR μ d d') (hsv : VR μ s s')
    (h1 : ats[0]? = some dT) (h2 : P.underlying dT = some (.slice el)) (h3 : P.info? el = some inf) (hs : sCopyO A d s inf.size = some (v, A')) :
    Sim G μ A w v A' ((do pure (.value (← Builtin.copy_ ats ty #[d', s'])) : Sem Next).run P w) := by
  have core : ∀ (m : Nat) (l l' : List Value) (a : Option Addr) (n c : Nat) (a' : Option Addr) (c' : Nat), d = .slice a n c → d' = .slice a' n c' → CR μ l l' → copyTo A d m l = some (v, A') → (m = 0 → l = []) → m ≤ n →
      ∃ w', (match a' with | some b => storeCells b l' | none => (pure () : Sem Unit)).run P w = .ok () w' ∧ v = .int .i64 m ∧ Rel G μ A' w' ∧ Stp μ A w μ A' w' := by
    intro m l l' a n c a' c' hda hda' hcr hc hm0 hmn
    unfold copyTo at hc
    split at hc
    · rename_i hm
      injection hc with hc; injection hc with h5 h6; subst h5 h6
      have hl := hm0 hm
      subst hl
      have hl' : l' = [] := by have := hcr.1; simpa using this
      subst hl'
      refine ⟨w, by cases a' <;> rfl, by rw [hm]; rfl, hr, Stp.refl _ _ _⟩
    · rename_i hm
      split at hc
      · rename_i i o n' c2
        rw [Option.map_eq_some_iff] at hc
        obtain ⟨A1, hw, hc⟩ := hc
        injection hc with h5 h6; subst h5 h6
        injection hda with q1 q2 q3; subst q1 q2 q3
        subst hda'
        cases hd with
        | flat h => simp [flatV] at h
        | slc he _ _ _ _ =>
          obtain ⟨w', k1, k2, k3⟩ := hr.storeRow (P := P) hw he (vs' := l') hcr.1 hcr.2
          exact ⟨w', k1, rfl, k2, k3⟩
        | sle => omega
      · cases hc
  unfold sCopyO at hs
  split at hs
  · rename_i a n c
    obtain ⟨a', c', rfl, _⟩ := hd.sl_inv
    split at hs
    · rename_i sa k sc
      rw [Option.bind_eq_some_iff] at hs
      obtain ⟨src, hsrc, hs⟩ := hs
      obtain ⟨hlen, src', hcr, hone, hrun⟩ := rdSl_rel (P := P) hr hsv rfl hsrc
      obtain ⟨sa', sc', rfl, _⟩ := hsv.sl_inv
      -- the first cells alone are read
      have hsub : rdSl A inf.size (.slice sa (min k n) sc) = some (src.take (min k n * inf.size)) ∨ min k n = 0 := by
        by_cases h0 : min k n = 0
        · exact .inr h0
        · left
          unfold rdSl at hsrc ⊢
          split at hsrc
          · rename_i heq; injection heq with q1 q2 q3; subst q2; omega
          · rename_i heq; injection heq with q1 q2 q3; subst q2; omega
          · rename_i i o n2 c2 heq
            injection heq with q1 q2 q3; subst q1 q2 q3
            rw [if_neg (by omega)] at hsrc
            simp only [if_neg h0]
            rw [Option.bind_eq_some_iff] at hsrc ⊢
            obtain ⟨r, hr1, hr2⟩ := hsrc
            refine ⟨r, hr1, ?_⟩
            unfold cut at hr2 ⊢
            split at hr2
            · rename_i hcl
              obtain rfl := Option.some.inj hr2
              have hle : min k n * inf.size ≤ k * inf.size := Nat.mul_le_mul_right _ (Nat.min_le_left _ _)
              rw [if_pos (by omega), List.take_take, Nat.min_eq_left hle]
            · cases hr2
          · cases hsrc
      have hsrc2 : ∃ l' : List Value, CR μ (src.take (min k n * inf.size)) l' ∧ (Builtin.firstCells inf.size (min k n) (.slice sa' k sc')).run P w = .ok l'.toArray w := by
        rcases hsub with hsub | h0
        · have hv2 : VR μ (.slice sa (min k n) sc) (.slice sa' (min k n) sc') := by
            cases hsv with
            | flat h =>
              cases sa with
              | none => exact .flat rfl
              | some b => simp [flatV] at h
            | slc he g1 g2 g3 g5 => exact .slc he (by omega) g2 g3 g5
            | sle hil => rw [Nat.zero_min]; exact .sle hil
            | slz => rw [Nat.zero_min]; exact .slz
            | slo h => exact .slo (by omega)
          obtain ⟨_, l', g1, _, g2⟩ := rdSl_rel (P := P) hr hv2 rfl hsub
          refine ⟨l', g1, ?_⟩
          have := g2 w.drawn
          cases sa' <;> exact this
        · rw [h0, Nat.zero_mul]
          refine ⟨[], CR.nil, ?_⟩
          cases sa' with
          | none => rfl
          | some b => unfold Builtin.firstCells; rw [Nat.zero_mul]; rfl
      obtain ⟨l', hcr', hrun'⟩ := hsrc2
      obtain ⟨w', g1, rfl, g2, g3⟩ := core _ _ l' _ _ _ _ _ rfl rfl hcr' hs (fun h => by rw [h]; simp) (Nat.min_le_right _ _)
      refine ⟨_, μ, w', .inl (run_value (v := .int .i64 (min k n : Nat)) ?_), .flat rfl, g2, g3⟩
      unfold Builtin.copy_
      simp only [h1, List.getElem?_toArray, List.getElem?_cons_zero, List.getElem?_cons_succ, Sem.run_bind, run_underlying h2, run_size h3, Result.andThen_ok, Builtin.lenOf, Sem.run_pure]
      have e : Nat.min k n = min k n := rfl
      rw [e, hrun']
      simp only [Result.andThen_ok]
      cases a' with
      | none => simp only [Sem.run_pure, Result.ok.injEq, true_and] at g1; subst g1; rfl
      | some b => simp only at g1; simp only [Sem.run_bind, g1, Result.andThen_ok]; rfl
    · rename_i t
      obtain rfl := hsv.string
      split at hs
      · rename_i hsz
        have hcr : CR μ ((u8s t).take (min t.size n)) ((u8s t).take (min t.size n)) := (CR.flat (u8s_flat t)).take _
        obtain ⟨w', g1, rfl, g2, g3⟩ := core _ _ _ _ _ _ _ _ rfl rfl hcr hs (fun h => by rw [h]; rfl) (Nat.min_le_right _ _)
        refine ⟨_, μ, w', .inl (run_value (v := .int .i64 (min t.size n : Nat)) ?_), .flat rfl, g2, g3⟩
        unfold Builtin.copy_
        have e2 : ((t.extract 0 (min t.size n)).data.map fun b => Value.int .u8 (b.toNat : Int)) = ((u8s t).take (min t.size n)).toArray := by
          unfold u8s
          apply Array.ext'
          rw [Array.toList_map, ← List.map_take]
          congr 1
          rw [ByteArray.data_extract, Array.toList_extract]
          simp [List.extract]
        simp only [h1, List.getElem?_toArray, List.getElem?_cons_zero, List.getElem?_cons_succ, Sem.run_bind, run_underlying h2, run_size h3, Result.andThen_ok, Builtin.lenOf, Sem.run_pure, Builtin.firstCells]
        have e : Nat.min t.size n = min t.size n := rfl
        rw [e, e2]
        cases a' with
        | none => simp only [Sem.run_pure, Result.ok.injEq, true_and] at g1; subst g1; rfl
        | some b => simp only at g1; simp only [Sem.run_bind, g1, Result.andThen_ok]; rfl
      · cases hs
    · cases hs
  · cases hs

theorem sim_copyX {d d' s s' : Value} {ats : Array TypeId} {ty dT el : TypeId} {inf : TypeInfo} (hr : Rel G μ A w) (hd : VR μ d d') (hsv : VR μ s s')
    (h1 : ats[0]? = some dT) (h2 : P.underlying dT = some (.slice el)) (h3 : P.info? el = some inf) (hs : sCopyX A d s inf.size = some (v, A')) :
    Sim G μ A w v A' ((do pure (.value (← Builtin.copy_ ats ty #[d', s'])) : Sem Next).run P w) := by
  unfold sCopyX at hs
  split at hs
  · rename_i a n c
    split at hs
    · rename_i sa k sc
      rw [Option.bind_eq_some_iff] at hs
      obtain ⟨src, hsrc, hs⟩ := hs
      unfold copyX at hs
      split at hs
      · rename_i i o n' c2 heq
        injection heq with q1 q2 q3; subst q1 q2 q3
        split at hs
        · rename_i hc
          obtain ⟨hm0, hmn, hml⟩ := hc
          rw [Option.map_eq_some_iff] at hs
          obtain ⟨A1, hw, hs⟩ := hs
          injection hs with h5 h6; subst h5 h6
          obtain ⟨sa', sc', rfl, _⟩ := hsv.sl_inv
          have hv2 : VR μ (.slice sa (min k n) sc) (.slice sa' (min k n) sc') := by
            cases hsv with
            | flat h =>
              cases sa with
              | none => exact .flat rfl
              | some b => simp [flatV] at h
            | slc he g1 g2 g3 g5 => exact .slc he (by omega) g2 g3 g5
            | sle hil => rw [Nat.zero_min]; exact .sle hil
            | slz => rw [Nat.zero_min]; exact .slz
            | slo h => exact .slo (by omega)
          obtain ⟨_, l', hcr, _, g2⟩ := rdSl_rel (P := P) hr hv2 rfl hsrc
          have hrun' : (Builtin.firstCells inf.size (min k n) (.slice sa' k sc')).run P w = .ok l'.toArray w := by
            have := g2 w.drawn
            cases sa' <;> exact this
          cases hd with
          | flat h => simp [flatV] at h
          | sle hil => omega
          | slc he g1 g2' g3 g5 =>
            rename_i c' e
            have hesz : e.sz = inf.size := by
              unfold wrX at hw
              split at hw
              · rename_i cs bsz ex hrow
                split at hw
                · rename_i hc
                  rw [← hc.1]; exact hr.szs _ _ _ _ _ e hrow he
                · cases hw
              · cases hw
            rw [hesz] at g3
            have hle : min k n * inf.size ≤ c' * inf.size := Nat.mul_le_mul_right _ (by omega)
            obtain ⟨w', k1, k2, k3⟩ := hr.storeRowX (P := P) hw he (by omega) hcr.1 hcr.2
            refine ⟨_, μ, w', .inl (run_value (v := .int .i64 (min k n : Nat)) ?_), .flat rfl, k2, k3⟩
            unfold Builtin.copy_
            simp only [h1, List.getElem?_toArray, List.getElem?_cons_zero, List.getElem?_cons_succ, Sem.run_bind, run_underlying h2, run_size h3, Result.andThen_ok, Builtin.lenOf, Sem.run_pure]
            have e2 : Nat.min k n = min k n := rfl
            rw [e2, hrun']
            simp only [Result.andThen_ok, Sem.run_bind, k1]
            rfl
        · cases hs
      · cases hs
    · cases hs
  · cases hs
theorem sim_copy {d d' s s' : Value} {ats : Array TypeId} {ty dT el : TypeId} {inf : TypeInfo} (hr : Rel G μ A w) (hd : VR μ d d') (hsv : VR μ s s')
    (h1 : ats[0]? = some dT) (h2 : P.underlying dT = some (.slice el)) (h3 : P.info? el = some inf) (hs : sCopy A d s inf.size = some (v, A')) :
    Sim G μ A w v A' ((do pure (.value (← Builtin.copy_ ats ty #[d', s'])) : Sem Next).run P w) := by
  unfold sCopy at hs
  cases ho : sCopyO A d s inf.size with
  | some r =>
    rw [ho] at hs
    have : r = (v, A') := Option.some.inj hs
    subst this
    exact sim_copyO hr hd hsv h1 h2 h3 ho
  | none =>
    rw [ho, Option.none_or] at hs
    exact sim_copyX hr hd hsv h1 h2 h3 hs

end
end Go.AS


namespace Go.AS
open Go
set_option linter.unusedVariables false
set_option linter.unusedSimpArgs false

section
variable {G : Nat} {μ : Mu} {A A' : AH} {w : World} {P : Program} {v : Value}

def scal : Value → Bool
  | .int _ _ | .string _ | .bool _ => true
  | _ => false

theorem guard_scal {op : BinOp} {t : TypeId} {x y : Operand} {a b : Value} (ha : scal a = true) : (eqGuard op t x y a b).run P w = .ok () w := by
  unfold eqGuard
  cases op <;> cases a <;> first | rfl | (simp [scal] at ha)

theorem binA_scal {op : BinOp} {x y v : Value} (h : binA op x y = some v) : scal x = true ∧ flatV x = true ∧ flatV y = true := by
  unfold binA at h
  split at h <;> first | exact ⟨rfl, rfl, rfl⟩ | cases h

theorem binA_run {op : BinOp} {t : TypeId} {x y v : Value} (h : binA op x y = some v) : (binOp op t x y).run P w = .ok v w ∧ flatV v = true := by
  unfold binA at h
  split at h <;> first
    | (cases h; done)
    | (split at h <;> first
        | (cases h; done)
        | (injection h with h; subst h
           refine ⟨?_, rfl⟩
           unfold binOp
           simp_all [Op.shift, Op.intArith, Op.intDiv, Op.intBits, Op.intCmp, Op.stringOp] <;> (intro h; omega)))
    | (injection h with h; subst h
       refine ⟨?_, rfl⟩
       unfold binOp
       simp_all [Op.shift, Op.intArith, Op.intDiv, Op.intBits, Op.intCmp, Op.stringOp])

theorem sim_bin {op : BinOp} {t : TypeId} {ox oy : Operand} {x y x' y' : Value} (hr : Rel G μ A w) (hx : VR μ x x') (hy : VR μ y y') (hs : (binA op x y).map (fun v => (v, A)) = some (v, A')) :
    Sim G μ A w v A' ((do pure (.value (← (do eqGuard op t ox oy x' y'; binOp op t x' y'))) : Sem Next).run P w) := by
  rw [Option.map_eq_some_iff] at hs
  obtain ⟨u, hu, hs⟩ := hs
  injection hs with h5 h6; subst h5 h6
  obtain ⟨h1, h2, h3⟩ := binA_scal hu
  obtain rfl := hx.eq_of_flat h2
  obtain rfl := hy.eq_of_flat h3
  obtain ⟨g1, g2⟩ := binA_run (P := P) (w := w) (t := t) hu
  refine Sim.flat hr (run_value ?_) g2
  rw [Sem.run_bind, guard_scal h1, Result.andThen_ok, g1]

theorem sim_un {op : UnOp} {x x' : Value} (hr : Rel G μ A w) (hx : VR μ x x') (hs : (unA op x).map (fun v => (v, A)) = some (v, A')) :
    Sim G μ A w v A' ((do pure (.value (← Op.unary op x')) : Sem Next).run P w) := by
  rw [Option.map_eq_some_iff] at hs
  obtain ⟨u, hu, hs⟩ := hs
  injection hs with h5 h6; subst h5 h6
  unfold unA at hu
  split at hu
  · injection hu with hu; subst hu
    obtain rfl := hx.int
    exact Sim.flat hr (run_value rfl) rfl
  · injection hu with hu; subst hu
    obtain rfl := hx.int
    exact Sim.flat hr (run_value rfl) rfl
  · injection hu with hu; subst hu
    obtain rfl := hx.bool
    exact Sim.flat hr (run_value rfl) rfl
  · cases hu

theorem sim_beq {neg : Bool} {t : TypeId} {ox oy : Operand} {x y x' y' : Value} (hr : Rel G μ A w) (hx : VR μ x x') (hy : VR μ y y') (ht : P.underlying t = some .bool) (hs : sBeq A neg x y = some (v, A')) :
    Sim G μ A w v A' ((do pure (.value (← (do eqGuard (if neg then .neq else .eql) t ox oy x' y'; binOp (if neg then .neq else .eql) t x' y'))) : Sem Next).run P w) := by
  unfold sBeq at hs
  split at hs
  · split at hs
    · rename_i a _ b
      injection hs with hs; injection hs with h5 h6; subst h5 h6
      obtain rfl := hx.bool
      obtain rfl := hy.bool
      refine Sim.flat hr (run_value ?_) rfl
      rw [Sem.run_bind, guard_scal rfl, Result.andThen_ok]
      have heq : (Op.equal t (.bool a) (.bool b)).run P w = .ok (a == b) w := by
        have : ∀ n, (Op.equalIn (n + 1) t (.bool a) (.bool b)).run P w = .ok (a == b) w := by
          intro n
          simp only [Op.equalIn, Sem.run_bind, run_underlying ht, Result.andThen_ok]
          rfl
        exact this 9999
      cases neg
      · simp [binOp, heq]
      · simp [binOp, heq]
    · cases hs
  · cases hs

theorem sim_mn {x y x' y' : Value} {ats : Array TypeId} {ty : TypeId} (hr : Rel G μ A w) (hx : VR μ x x') (hy : VR μ y y') (hs : sMn A x y = some (v, A')) :
    Sim G μ A w v A' ((do pure (.value (← Builtin.min_ ats ty #[x', y'])) : Sem Next).run P w) := by
  unfold sMn at hs
  split at hs
  · rw [Option.map_eq_some_iff] at hs
    obtain ⟨j, hj, hs⟩ := hs
    injection hs with h5 h6; subst h5 h6
    obtain rfl := hx.int
    obtain ⟨k2, rfl⟩ := asI_some hj hy
    exact Sim.flat hr (run_value rfl) rfl
  · cases hs
theorem sim_mx {x y x' y' : Value} {ats : Array TypeId} {ty : TypeId} (hr : Rel G μ A w) (hx : VR μ x x') (hy : VR μ y y') (hs : sMx A x y = some (v, A')) :
    Sim G μ A w v A' ((do pure (.value (← Builtin.max_ ats ty #[x', y'])) : Sem Next).run P w) := by
  unfold sMx at hs
  split at hs
  · rw [Option.map_eq_some_iff] at hs
    obtain ⟨j, hj, hs⟩ := hs
    injection hs with h5 h6; subst h5 h6
    obtain rfl := hx.int
    obtain ⟨k2, rfl⟩ := asI_some hj hy
    exact Sim.flat hr (run_value rfl) rfl
  · cases hs

/-- Is the value of a type of this kind? -/
def nilOf : TypeDesc → Value → Bool
  | .slice _, .slice none _ _ => true
  | .pointer _, .pointer none => true
  | .map _ _, .map none => true
  | .func _ _ _, .nilFunc => true
  | _, _ => false
theorem guard_nil {op : BinOp} {t : TypeId} {ox oy : Operand} {a b : Value} {d : TypeDesc} (ha : kindOf d a = true) : (eqGuard op t ox oy a b).run P w = .ok () w := by
  unfold eqGuard
  cases op <;> cases d <;> cases a <;> first | rfl | (simp [kindOf] at ha)

set_option maxHeartbeats 1000000 in
theorem isnil_inv {x x' : Value} {neg : Bool} {d : TypeDesc} (hx : VR μ x x') (hs : sIsnil A x neg = some (v, A')) (hk : kindOf d x = true) :
    kindOf d x' = true ∧ A' = A ∧ ∃ b, v = .bool (b != neg) ∧ ∀ (t : TypeId) (y : Value), P.underlying t = some d → nilOf d y = true → ∀ n, (Op.equalIn (n + 1) t x' y).run P w = .ok b w ∧ (Op.equalIn (n + 1) t y x').run P w = .ok b w := by
  unfold sIsnil at hs
  split at hs
  · injection hs with hs; injection hs with h5 h6; subst h5 h6
    obtain ⟨a', c', rfl, han⟩ := hx.sl_inv
    cases d <;> first
      | (simp [kindOf] at hk; done)
      | (refine ⟨rfl, rfl, _, rfl, fun t y ht hy n => ?_⟩
         cases y <;> first
           | (simp [nilOf] at hy; done)
           | (rename_i ya _ _
              cases ya with
              | some q => simp [nilOf] at hy
              | none =>
                simp only [Op.equalIn, Sem.run_bind, run_underlying ht, Result.andThen_ok]
                rename_i a _ _ _ _ _
                cases a' with
                | none => have := han.2 rfl; subst this; exact ⟨rfl, rfl⟩
                | some b =>
                  cases a with
                  | none => have := han.1 rfl; cases this
                  | some q => exact ⟨rfl, rfl⟩))
  · injection hs with hs; injection hs with h5 h6; subst h5 h6
    rename_i a
    have : ∃ a', x' = .pointer a' ∧ (a = none ↔ a' = none) := by
      cases hx with
      | flat h => exact ⟨_, rfl, Iff.rfl⟩
      | ptr h => exact ⟨_, rfl, by simp⟩
    obtain ⟨a', rfl, han⟩ := this
    cases d <;> first
      | (simp [kindOf] at hk; done)
      | (refine ⟨rfl, rfl, _, rfl, fun t y ht hy n => ?_⟩
         cases y <;> first
           | (simp [nilOf] at hy; done)
           | (rename_i ya
              cases ya with
              | some q => simp [nilOf] at hy
              | none =>
                simp only [Op.equalIn, Sem.run_bind, run_underlying ht, Result.andThen_ok]
                cases a' with
                | none => have := han.2 rfl; subst this; exact ⟨rfl, rfl⟩
                | some b =>
                  cases a with
                  | none => have := han.1 rfl; cases this
                  | some q => exact ⟨rfl, rfl⟩))
  · injection hs with hs; injection hs with h5 h6; subst h5 h6
    rename_i a
    have : ∃ a', x' = .map a' ∧ (a = none ↔ a' = none) := by
      cases hx with
      | flat h => exact ⟨_, rfl, Iff.rfl⟩
      | map h => exact ⟨_, rfl, by simp⟩
    obtain ⟨a', rfl, han⟩ := this
    cases d <;> first
      | (simp [kindOf] at hk; done)
      | (refine ⟨rfl, rfl, _, rfl, fun t y ht hy n => ?_⟩
         cases y <;> first
           | (simp [nilOf] at hy; done)
           | (rename_i ya
              cases ya with
              | some q => simp [nilOf] at hy
              | none =>
                simp only [Op.equalIn, Sem.run_bind, run_underlying ht, Result.andThen_ok]
                cases a' with
                | none => have := han.2 rfl; subst this; exact ⟨rfl, rfl⟩
                | some b =>
                  cases a with
                  | none => have := han.1 rfl; cases this
                  | some q => exact ⟨rfl, rfl⟩))
  · injection hs with hs; injection hs with h5 h6; subst h5 h6
    have : ∃ a b c, x' = .func a b c := by
      cases hx with
      | flat h => simp [flatV] at h
      | func _ _ _ _ _ => exact ⟨_, _, _, rfl⟩
    obtain ⟨a, b, c, rfl⟩ := this
    cases d <;> first
      | (simp [kindOf] at hk; done)
      | (refine ⟨rfl, rfl, false, by cases neg <;> rfl, fun t y ht hy n => ?_⟩
         cases y <;> first
           | (simp [nilOf] at hy; done)
           | (simp only [Op.equalIn, Sem.run_bind, run_underlying ht, Result.andThen_ok]
              exact ⟨rfl, rfl⟩))
  · injection hs with hs; injection hs with h5 h6; subst h5 h6
    obtain rfl := hx.eq_of_flat rfl
    cases d <;> first
      | (simp [kindOf] at hk; done)
      | (refine ⟨rfl, rfl, true, by cases neg <;> rfl, fun t y ht hy n => ?_⟩
         cases y <;> first
           | (simp [nilOf] at hy; done)
           | (simp only [Op.equalIn, Sem.run_bind, run_underlying ht, Result.andThen_ok]
              exact ⟨rfl, rfl⟩))
  · cases hs

theorem bin_eq {neg : Bool} {t : TypeId} {x y : Value} {d : TypeDesc} {b : Bool} (hx : kindOf d x = true) (hy : kindOf d y = true) (h : (Op.equal t x y).run P w = .ok b w) :
    (binOp (if neg then .neq else .eql) t x y).run P w = .ok (.bool (b != neg)) w := by
  cases d <;> cases x <;> first
    | (simp [kindOf] at hx; done)
    | (cases y <;> first
        | (simp [kindOf] at hy; done)
        | (cases neg
           · simp only [Bool.false_eq_true, if_false]
             unfold binOp
             simp [h]
           · simp only [if_true]
             unfold binOp
             simp [h]))

theorem kind_of_nil {d : TypeDesc} {y : Value} (h : nilOf d y = true) : kindOf d y = true := by
  cases d <;> cases y <;> first | rfl | (simp [nilOf] at h)

theorem sim_isnil {neg left : Bool} {t : TypeId} {ox oy : Operand} {x x' y : Value} {d : TypeDesc} (hr : Rel G μ A w) (hx : VR μ x x') (ht : P.underlying t = some d) (hy : nilOf d y = true)
    (hk : kindOf d x = true) (hs : sIsnil A x neg = some (v, A')) :
    Sim G μ A w v A' ((do pure (.value (← (do eqGuard (if neg then .neq else .eql) t ox oy x' y; binOp (if neg then .neq else .eql) t x' y))) : Sem Next).run P w) ∧
    Sim G μ A w v A' ((do pure (.value (← (do eqGuard (if neg then .neq else .eql) t oy ox y x'; binOp (if neg then .neq else .eql) t y x'))) : Sem Next).run P w) := by
  obtain ⟨k1, rfl, b, rfl, k2⟩ := isnil_inv (P := P) (w := w) hx hs hk
  obtain ⟨k3, k4⟩ := k2 t y ht hy 9999
  have k3 : (Op.equal t x' y).run P w = .ok b w := k3
  have k4 : (Op.equal t y x').run P w = .ok b w := k4
  constructor
  · refine Sim.flat hr (run_value ?_) rfl
    rw [Sem.run_bind, guard_nil k1, Result.andThen_ok, bin_eq k1 (kind_of_nil hy) k3]
  · refine Sim.flat hr (run_value ?_) rfl
    rw [Sem.run_bind, guard_nil (kind_of_nil hy), Result.andThen_ok, bin_eq (kind_of_nil hy) k1 k4]

/-- A mark behind a block of the call's own. -/
theorem Rel.mark (hr : Rel G μ A w) {i : Nat} {cs : List Value} {sz : Nat} {ex : Bool} {e : Ent} {rc : Array Value} {T : TypeId} {fr fr' : Nat × Nat} {w' : World} (hi : A[i]? = some (.row cs .own sz ex)) (he : μ[i]? = some e)
    (hrc : w.heap[e.blk]? = some (.cells rc T fr)) (h1 : w'.heap[e.blk]? = some (.cells rc T fr')) (h2 : ∀ r, r ≠ e.blk → w'.heap[r]? = w.heap[r]?) (h3 : w'.heap.size = w.heap.size) (h4 : fr'.1 = fr'.2 ∨ (sz = 1 ∧ rc.size ≤ fr'.1)) : Rel G μ A w' := by
  have hother : ∀ (k : Nat) (b : Blk) (e' : Ent), A[k]? = some b → b.alive = true → k ≠ i → μ[k]? = some e' → w'.heap[e'.blk]? = w.heap[e'.blk]? := by
    intro k b e' hk ha hne hk'
    exact h2 _ (fun q => hr.apart i k _ b e e' hi hk rfl ha (Ne.symm hne) he hk' q.symm)
  refine ⟨hr.len, hr.glo, fun k e' hk => by rw [h3]; exact hr.lt k e' hk, ?_, hr.szs, ?_, ?_, hr.apart⟩
  · intro k cs' st' sz' ex' e' hb hk hst
    by_cases hki : k = i
    · subst hki
      rw [he] at hk; obtain rfl := Option.some.inj hk
      rw [hi] at hb; injection hb with hb; injection hb with q1 q2 q3 q4; subst q1 q2 q3 q4
      obtain ⟨rc0, T0, fr0, g1, g2, g3, g4⟩ := hr.row k cs .own _ _ e hi he (by decide)
      rw [hrc] at g1; injection g1 with g1; injection g1 with q1 q2 q3; subst q1 q2 q3
      exact ⟨rc, T, fr', h1, g2, g3, fun _ => ⟨(g4.1 rfl).1, h4, (g4.1 rfl).2.2⟩, g4.2⟩
    · obtain ⟨rc0, T0, fr0, g1, g2⟩ := hr.row k cs' st' sz' ex' e' hb hk hst
      exact ⟨rc0, T0, fr0, by rw [hother k _ e' hb (by cases st' <;> first | rfl | exact absurd rfl hst) hki hk]; exact g1, g2⟩
  · intro k s p e' hb hk
    have hki : k ≠ i := by rintro rfl; rw [hi] at hb; cases hb
    rw [hother k _ e' hb rfl hki hk]; exact hr.sit k s p e' hb hk
  · intro k es e' hb hk
    have hki : k ≠ i := by rintro rfl; rw [hi] at hb; cases hb
    rw [hother k _ e' hb rfl hki hk]; exact hr.mp k es e' hb hk

theorem sim_mks {x x' : Value} {s el : TypeId} (hr : Rel G μ A w) (hx : VR μ x x') (h1 : P.underlying s = some (.slice el)) (h2 : P.underlying el = some (.int .u8)) (hs : sMks A x = some (v, A')) :
    Sim G μ A w v A' ((do pure (.value (← convert s s x')) : Sem Next).run P w) := by
  unfold sMks at hs
  split at hs
  · rename_i i o n c
    split at hs
    · rename_i cs sz ex hrow
      split at hs
      · rename_i hn
        obtain ⟨hn, hsz1⟩ := hn
        injection hs with hs; injection hs with h5 h6; subst h5 h6
        cases hx with
        | flat h => simp [flatV] at h
        | sle => omega
        | slc he g1 g2 g3 g5 =>
          rename_i c' e
          obtain ⟨rc, T, fr, k1, k2, k3, k4⟩ := hr.row i cs .own sz ex e hrow he (by decide)
          obtain ⟨k5, k6, k7⟩ := k4.1 rfl
          have hrun : (convert s s (.slice (some ⟨e.blk, e.off + o, none⟩) n c')).run P w = .ok (.slice (some ⟨e.blk, e.off + o, none⟩) n c') (w.freeze ⟨e.blk, rc.size, none⟩ 1) := by
            unfold convert
            rw [Sem.run_bind, run_underlying h1, Result.andThen_ok, Sem.run_bind, run_underlying h1, Result.andThen_ok]
            simp only [Sem.run_bind, run_underlying h2, Result.andThen_ok, beq_self_eq_true]
            unfold markStringish
            simp only [Sem.run_bind, run_shape, World.shape?, k1, Result.andThen_ok, run_freeze, Sem.run_pure]
          have hw : (w.freeze ⟨e.blk, rc.size, none⟩ 1).heap[e.blk]? = some (.cells rc T (if fr.1 == fr.2 then (rc.size, rc.size + 1) else (min fr.1 rc.size, max fr.2 (rc.size + 1)))) := by
            simp only [World.freeze, Nat.one_ne_zero, if_false, Array.getElem?_modify, if_true, k1, Option.map_some]
          refine ⟨_, μ, _, .inl (run_value hrun), .slc he g1 g2 g3 g5, hr.mark hrow he k1 hw ?_ (by simp [World.freeze]) ?_, ?_⟩
          · intro r hne
            simp only [World.freeze, Nat.one_ne_zero, if_false, Array.getElem?_modify]
            rw [if_neg (by omega)]
          · by_cases hq : fr.1 = fr.2
            · right; simp [hq, hsz1]
            · right
              refine ⟨hsz1, ?_⟩
              have k6 := (k6.resolve_left hq).2
              have : (fr.1 == fr.2) = false := by simpa using hq
              rw [this]
              simp only [Bool.false_eq_true, if_false]
              omega
          · refine ⟨⟨[], by simp⟩, ?_, ?_, ?_, by simp [World.freeze], ?_, ?_⟩
            · simp [World.freeze]
            · simp [World.freeze]
            · simp [World.freeze]
            · intro r _ hno
              have := hno i _ e hrow rfl he
              simp only [World.freeze, Nat.one_ne_zero, if_false, Array.getElem?_modify]
              rw [if_neg (by omega)]
            · intro k b e' hb ho hk _
              exact ⟨k, b, e', hb, ho, hk, rfl⟩
      · cases hs
    · cases hs
  · cases hs

theorem appz_run {ats : Array TypeId} {ty : TypeId} {s' : Value} {sT xT el : TypeId} {ik k' : IntKind} {base : Option Addr} {sLen sCap : Nat} {l : Int} {inf : TypeInfo} {z : Value} (hs' : s' = .slice base sLen sCap)
    (h1 : ats[0]? = some sT) (h2 : P.underlying sT = some (.slice el)) (h3 : P.info? el = some inf) (h4 : ats[1]? = some xT) (h5 : P.underlying xT = some (.int ik)) (hz : inf.zero = some z) (hzs : z.cells.size = inf.size) (hpos : 0 < inf.size)
    (hl0 : 0 ≤ l) (hl1 : l < 2 ^ 62) (hb : l * inf.bytes ≤ 2 ^ 48) (hok : sCap < sLen + l.toNat → 2 * ((sLen + l.toNat) * inf.bytes) ≤ 2 ^ 48 ∧ 0 < inf.bytes) :
    (Builtin.append_ ats ty #[s', .int k' l]).run P w = (appTail el inf.size s' base sLen sCap l.toNat (pure ()) (pure ((Array.range (l.toNat * inf.size)).map (z.cells[· % z.cells.size]!)))).run P w := by
  subst hs'
  have hwl : IntKind.i64.wrap l = l := by unfold IntKind.wrap; simp [IntKind.bits, IntKind.signed]; omega
  have hneg : ¬ (l < 0) := by omega
  have hbig : ¬ (l * (inf.bytes : Int) > 2 ^ 48) := by omega
  have hzc : Builtin.zeroCells z.cells l.toNat = (Array.range (l.toNat * inf.size)).map (z.cells[· % z.cells.size]!) := by
    unfold Builtin.zeroCells
    rw [hzs]
  have e0 : Array.range 0 = #[] := rfl
  unfold Builtin.append_ appTail
  by_cases hcap : sLen + l.toNat ≤ sCap
  · by_cases h0 : l.toNat * inf.size = 0
    · simp only [h1, h4, List.getElem?_toArray, List.getElem?_cons_zero, List.getElem?_cons_succ, Sem.run_bind, run_underlying h2, run_size h3, run_underlying h5, Result.andThen_ok, Sem.run_pure, if_true, asInt, asIntOf, hwl, if_neg hneg, run_typeInfo _ h3, if_neg hbig, if_pos hcap,
        Bool.not_true, Bool.false_eq_true, if_false, h0, e0, Array.map_empty]
      cases base <;> rfl
    · simp only [h1, h4, List.getElem?_toArray, List.getElem?_cons_zero, List.getElem?_cons_succ, Sem.run_bind, run_underlying h2, run_size h3, run_underlying h5, Result.andThen_ok, Sem.run_pure, if_true, asInt, asIntOf, hwl, if_neg hneg, run_typeInfo _ h3, if_neg hbig, if_pos hcap,
        Bool.not_true, Bool.false_eq_true, if_false, if_neg h0, run_zero h3 hz, hzc]
      cases base <;> rfl
  · obtain ⟨hb1, hb2⟩ := hok (by omega)
    have hn : Builtin.nextslicecap (sLen + l.toNat) sCap * inf.bytes ≤ 2 ^ 48 := by
      have := Nat.mul_le_mul_right inf.bytes (nextcap_le (sLen + l.toNat) sCap inf.bytes (by omega))
      rw [Nat.mul_assoc] at this
      omega
    have hn2 : ¬ (Builtin.nextslicecap (sLen + l.toNat) sCap * inf.bytes > 2 ^ 48) := by omega
    have hn3 : ¬ (((sLen + l.toNat : Nat) : Int) > IntKind.i64.max) := by
      have : (sLen + l.toNat) * 1 ≤ (sLen + l.toNat) * inf.bytes := Nat.mul_le_mul_left _ hb2
      simp only [IntKind.max, IntKind.signed, IntKind.bits, if_true]
      omega
    by_cases h0 : l.toNat * inf.size = 0
    · simp only [h1, h4, List.getElem?_toArray, List.getElem?_cons_zero, List.getElem?_cons_succ, Sem.run_bind, run_underlying h2, run_size h3, run_underlying h5, Result.andThen_ok, Sem.run_pure, if_true, asInt, asIntOf, hwl, if_neg hneg, run_typeInfo _ h3, if_neg hbig, if_neg hcap,
        Bool.not_true, Bool.false_eq_true, if_false, h0, e0, Array.map_empty, hn3, false_and, hn2]
    · simp only [h1, h4, List.getElem?_toArray, List.getElem?_cons_zero, List.getElem?_cons_succ, Sem.run_bind, run_underlying h2, run_size h3, run_underlying h5, Result.andThen_ok, Sem.run_pure, if_true, asInt, asIntOf, hwl, if_neg hneg, run_typeInfo _ h3, if_neg hbig, if_neg hcap,
        Bool.not_true, Bool.false_eq_true, if_false, if_neg h0, run_zero h3 hz, hzc, hn3, false_and, hn2]

theorem sim_appz {s s' n n' : Value} {ats : Array TypeId} {ty sT xT el : TypeId} {ik : IntKind} {inf : TypeInfo} {z : Value} (hr : Rel G μ A w) (hsv : VR μ s s') (hnv : VR μ n n')
    (h1 : ats[0]? = some sT) (h2 : P.underlying sT = some (.slice el)) (h3 : P.info? el = some inf) (h4 : ats[1]? = some xT) (h5 : P.underlying xT = some (.int ik))
    (hz : inf.zero = some z) (hf : z.cells.toList.all flatV = true) (hzs : z.cells.size = inf.size) (hpos : 0 < inf.size) (hs : sAppz A s n z.cells.toList inf.bytes = some (v, A')) :
    Sim G μ A w v A' ((do pure (.value (← Builtin.append_ ats ty #[s', n'])) : Sem Next).run P w) := by
  unfold sAppz at hs
  rw [Option.bind_eq_some_iff] at hs
  obtain ⟨l, hl, hs⟩ := hs
  split at hs
  · rename_i hc
    obtain ⟨k', rfl⟩ := asI_some hl hnv
    obtain ⟨base, sLen, sCap, rfl, hok⟩ := appA_sl hs hsv
    have hlen : z.cells.toList.length = inf.size := by simpa using hzs
    rw [hlen] at hs
    have hb : l * inf.bytes ≤ 2 ^ 48 := by
      unfold appA at hs
      cases hi : appI A s ((List.replicate l.toNat z.cells.toList).flatten) l.toNat inf.size inf.bytes with
      | some x =>
        unfold appI at hi
        split at hi
        · split at hi
          · split at hi
            · rename_i hc2
              have h1 := hc2.2.2.2.2.2.1
              have h4 : l.toNat * inf.bytes ≤ 2 ^ 48 := Nat.le_trans (Nat.mul_le_mul_right inf.bytes (Nat.le_add_left l.toNat _)) (Nat.le_trans (Nat.le_mul_of_pos_left _ (by decide : 0 < 2)) h1)
              have h3 : ((l.toNat * inf.bytes : Nat) : Int) = l * inf.bytes := by rw [Int.natCast_mul, Int.toNat_of_nonneg hc.1]
              omega
            · cases hi
          · cases hi
        · cases hi
      | none =>
      rw [hi, Option.none_or] at hs
      unfold appA1 at hs
      cases hf : appF A s ((List.replicate l.toNat z.cells.toList).flatten) l.toNat inf.size inf.bytes with
      | some x =>
        unfold appF at hf
        split at hf
        · split at hf
          · split at hf
            · rename_i hc2
              have h1 := hc2.2.2.2.2.1
              have h4 : l.toNat * inf.bytes ≤ 2 ^ 48 := Nat.le_trans (Nat.mul_le_mul_right inf.bytes (Nat.le_add_left l.toNat _)) (Nat.le_trans (Nat.le_mul_of_pos_left _ (by decide : 0 < 2)) h1)
              have h3 : ((l.toNat * inf.bytes : Nat) : Int) = l * inf.bytes := by rw [Int.natCast_mul, Int.toNat_of_nonneg hc.1]
              omega
            · cases hf
          · cases hf
        · cases hf
      | none =>
      rw [hf, Option.none_or] at hs
      unfold appA0 at hs
      split at hs
      · rename_i h0
        have : l = 0 := by omega
        subst this; omega
      · rw [Option.bind_eq_some_iff] at hs
        obtain ⟨r, _, hs⟩ := hs
        split at hs
        · rename_i hc2
          have h1 := hc2.1
          have h2 : l.toNat * inf.bytes ≤ (r.2.2 + l.toNat) * inf.bytes := Nat.mul_le_mul_right _ (by omega)
          have h3 : ((l.toNat * inf.bytes : Nat) : Int) = l * inf.bytes := by rw [Int.natCast_mul, Int.toNat_of_nonneg hc.1]
          omega
        · cases hs
    have hcr : CR μ ((List.replicate l.toNat z.cells.toList).flatten) ((Array.range (l.toNat * inf.size)).map (z.cells[· % z.cells.size]!)).toList := by
      refine ⟨by rw [rep_length]; simp [hzs], fun j a b ha hb => ?_⟩
      obtain ⟨_, b', q2, q3⟩ := rep_CR (μ := μ) hf (by omega) l.toNat (l.toNat * inf.size) (by rw [hzs]; exact Nat.le_refl _) j a ha
      rw [Array.getElem?_toList, q2] at hb
      obtain rfl := Option.some.inj hb
      exact q3
    refine sim_appTail (bad := pure ()) (appended := pure ((Array.range (l.toNat * inf.size)).map (z.cells[· % z.cells.size]!))) hr hsv h3 hz hzs hpos hcr (ones_flat (rep_flat hf _)) (fun d => by rw [Array.toArray_toList]; rfl) (fun _ _ _ => rfl) hs
      (fun h0 => by rw [h0]; rfl) ?_
    have := appz_run (P := P) (w := w) (ty := ty) (k' := k') rfl h1 h2 h3 h4 h5 hz hzs hpos hc.1 hc.2 hb hok (base := base) (sLen := sLen) (sCap := sCap)
    simp only [Sem.run_bind, this]
  · cases hs

def aggD' (P : Program) (t : TypeId) : Bool := match P.underlying t with | some (.struct _) | some (.array _ _) => true | _ => false
theorem flat_same {a a' : Array Value} (h : VR μ (.agg a) (.agg a')) (hf : a.toList.all flatV = true) : a' = a := by
  cases h with
  | flat h => rfl
  | agg h1 h2 =>
    apply Array.toList_inj.1
    apply List.ext_getElem?
    intro j
    rw [Array.getElem?_toList, Array.getElem?_toList]
    rcases Nat.lt_or_ge j a.size with hj | hj
    · have hx := Array.getElem?_eq_getElem hj
      have hy := Array.getElem?_eq_getElem (h1 ▸ hj : j < a'.size)
      rw [List.all_eq_true] at hf
      have := hf a[j] (by simp)
      rw [hx, hy, (h2 j _ _ hx hy).eq_of_flat this]
    · rw [Array.getElem?_eq_none hj, Array.getElem?_eq_none (by omega)]

theorem keyLits_formed {D : Nat} {t : TypeId} {a : Array Value} {l : List Lit} (hagg : aggD' P t = true) (h : P.keyLits D t a.toList = some l) : (Value.agg a).formed P t = true := by
  unfold aggD' at hagg
  cases D with
  | zero => simp [Program.keyLits] at h
  | succ D =>
    unfold Program.keyLits at h
    unfold Value.formed
    split at hagg
    · rename_i hu
      simp only [hu] at h ⊢
      split at h
      · rename_i hc
        first
          | (have := hc.1; simpa using this)
          | simpa using hc
      · cases h
    · rename_i hu
      simp only [hu] at h ⊢
      split at h
      · rename_i hc
        first
          | (have := hc.1; simpa using this)
          | simpa using hc
      · cases h
    · cases hagg

open Classical in
theorem sim_eqagg {x y x' y' : Value} {xo yo : Operand} {t : TypeId} {neg : Bool} (hr : Rel G μ A w) (hx : VR μ x x') (hy : VR μ y y') (hagg : aggD' P t = true) (hk : P.keyTypeAt 8 t = true) (hg : P.eqGuardType P.depth t = false)
    (hs : sEqagg A neg (P.keyLits 8 t) x y = some (v, A')) :
    Sim G μ A w v A' ((do pure (.value (← (do eqGuard (if neg then .neq else .eql) t xo yo x' y'; binOp (if neg then .neq else .eql) t x' y'))) : Sem Next).run P w) := by
  unfold sEqagg at hs
  split at hs
  · rename_i a
    split at hs
    · rename_i b
      split at hs
      · rename_i hf
        simp only [Option.bind_eq_some_iff, Option.map_eq_some_iff] at hs
        obtain ⟨la, h1, lb, h2, h3⟩ := hs
        injection h3 with h3 h4; subst h3 h4
        have hx2 : ∃ a', x' = .agg a' := by cases hx <;> first | exact ⟨_, rfl⟩ | (rename_i h; simp [flatV] at h)
        have hy2 : ∃ a', y' = .agg a' := by cases hy <;> first | exact ⟨_, rfl⟩ | (rename_i h; simp [flatV] at h)
        obtain ⟨a', rfl⟩ := hx2
        obtain ⟨b', rfl⟩ := hy2
        obtain rfl := flat_same hx hf.1
        obtain rfl := flat_same hy hf.2
        obtain ⟨r, hr1, hr2⟩ := run_equalIn_deep 9992 8 t hk w 8 8 (.agg a') (.agg b') la lb (keyLits_formed hagg h1) (keyLits_formed hagg h2) h1 h2
        have e : 9992 + 8 = 10000 := rfl
        rw [e] at hr1
        have hrb : r = decide (la = lb) := by
          rw [Bool.eq_iff_iff]; simpa using hr2
        subst hrb
        refine Sim.flat hr (run_value ?_) rfl
        have hgd : ∀ op : BinOp, (op = .eql ∨ op = .neq) → (eqGuard op t xo yo (.agg a') (.agg b')).run P w = .ok () w := by
          intro op hop
          unfold eqGuard
          rcases hop with rfl | rfl <;> simp [run_program, hg]
        cases neg
        · simp only [Bool.false_eq_true, if_false, Sem.run_bind, hgd .eql (.inl rfl), Result.andThen_ok, run_eql_struct, hr1, Bool.bne_false]
        · simp only [if_true, Sem.run_bind, hgd .neq (.inr rfl), Result.andThen_ok, run_neq_struct, hr1, Bool.bne_true]
      · cases hs
    · cases hs
  · cases hs


theorem sim_clear {x x' : Value} {ats : Array TypeId} {ty t el : TypeId} {inf : TypeInfo} {z : Value} (hr : Rel G μ A w) (hx : VR μ x x') (h1 : ats[0]? = some t) (h2 : P.underlying t = some (.slice el)) (h3 : P.info? el = some inf) (hz : inf.zero = some z)
    (hf : z.cells.toList.all flatV = true) (hzs : z.cells.size = inf.size) (hpos : 0 < inf.size) (hs : sClr A x z.cells.toList = some (v, A')) :
    Sim G μ A w v A' ((do pure (.value (← Builtin.clear_ ats ty #[x'])) : Sem Next).run P w) := by
  have hnone : ∀ c n, (Builtin.clear_ ats ty #[.slice none n c]).run P w = .ok undef w := by
    intro c n
    unfold Builtin.clear_
    simp only [h1, List.getElem?_toArray, List.getElem?_cons_zero, Sem.run_bind, run_underlying h2, Result.andThen_ok]
    rfl
  have hzero : ∀ a c, (Builtin.clear_ ats ty #[.slice (some a) 0 c]).run P w = .ok undef w := by
    intro a c
    unfold Builtin.clear_
    simp only [h1, List.getElem?_toArray, List.getElem?_cons_zero, Sem.run_bind, run_underlying h2, Result.andThen_ok]
    rfl
  unfold sClr at hs
  split at hs
  · rename_i n c
    injection hs with hs; injection hs with h5 h6; subst h5 h6
    cases hx with
    | flat _ => exact Sim.same hr (run_value (hnone _ _)) (.undef _)
  · rename_i a c
    injection hs with hs; injection hs with h5 h6; subst h5 h6
    obtain ⟨b, c', rfl, _⟩ := hx.sl_inv
    cases b with
    | none => exact Sim.same hr (run_value (hnone _ _)) (.undef _)
    | some b => exact Sim.same hr (run_value (hzero _ _)) (.undef _)
  · rename_i i o n c
    rw [Option.map_eq_some_iff] at hs
    obtain ⟨A1, hw, hs⟩ := hs
    injection hs with h5 h6; subst h5 h6
    cases hx with
    | flat h => simp [flatV] at h
    | slc he g1 g2 g3 g5 =>
      have hlen : (Builtin.zeroCells z.cells (n + 1)).toList.length = ((List.replicate (n + 1) z.cells.toList).flatten).length := by
        rw [rep_length, Array.length_toList, Array.length_toList, zeroCells_size]
      obtain ⟨w', k1, k2, k3⟩ := hr.storeRow (P := P) hw he (vs' := (Builtin.zeroCells z.cells (n + 1)).toList) hlen (fun j a b ha hb => by
        obtain ⟨_, b', q2, q3⟩ := rep_CR (μ := μ) hf (by omega) (n + 1) ((n + 1) * z.cells.size) (Nat.le_refl _) j a ha
        rw [Array.getElem?_toList] at hb
        unfold Builtin.zeroCells at hb
        rw [q2] at hb
        obtain rfl := Option.some.inj hb
        exact q3)
      refine ⟨_, μ, w', .inl (run_value (v := undef) ?_), .undef _, k2, k3⟩
      unfold Builtin.clear_
      simp only [h1, List.getElem?_toArray, List.getElem?_cons_zero, Sem.run_bind, run_underlying h2, Result.andThen_ok, run_zero h3 hz, k1]
      rfl
  · cases hs
end
end Go.AS
