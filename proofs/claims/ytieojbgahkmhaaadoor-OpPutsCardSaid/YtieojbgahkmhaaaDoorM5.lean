/- Lemmas for the proof of a given statement; no conditions. -/
import Derived.Test.YtieojbgahkmhaaaDoorM4
import Derived.Sort.Grow
import Derived.Sort.EncStr
import Derived.Lib.Join
import Derived.Below
import Derived.Shelf.Strings.FuncGrows
import Derived.Shelf.Strings.Builder1
import Derived.Shelf.Strings.Builder2
import Derived.Shelf.Strings.OnBuilder
import Derived.Shelf.Strings.BuilderF
import Derived.Shelf.Strings.BuilderK
import Derived.Shelf.Strings.Builder2Cap
import Derived.Shelf.Strconv.Itoa0
import Derived.Shelf.Strconv.Itoa1
import Derived.Shelf.LaysM
import Derived.Shelf.Strconv.Itoa2
import Derived.Shelf.Strconv.Itoa3
import Derived.Shelf.GgClosure.StringsIndexFunc
import Derived.Shelf.GgClosure.StringsIndexFuncTop
import Derived.Lib.LaidTab
set_option maxHeartbeats 1000000

namespace Go.AS
open Go Go.Sort Go.RowKit Go.Proofs
set_option linter.unusedVariables false
set_option linter.unusedSimpArgs false

/-! The kit's contract of slices.Sort at texts, told of abstract states. -/
section
variable {G : Nat} {P : Program} {μ : Mu} {A A0 B : AH} {w : World} {v : Value} {a0 : Nat}
theorem grow_old (w : World) (os : Array Obj) {i : Nat} (h : i < w.heap.size) : (grow w os).heap[i]? = w.heap[i]? := by
  show (w.heap ++ os)[i]? = _
  rw [Array.getElem?_append, if_pos h]
/-- New blocks of which nothing is known. -/
theorem Rel.grown (h : Rel G μ A w) (os : Array Obj) : Rel G μ A (grow w os) ∧ Stp μ A w μ A (grow w os) := by
  have hs : (grow w os).heap.size = w.heap.size + os.size := by simp [grow]
  refine ⟨⟨h.len, h.glo, fun i e he => by have := h.lt i e he; omega, ?_, h.szs, ?_, ?_, h.apart⟩, ?_⟩
  · intro i cs st sz ex e hb he hst
    obtain ⟨rc, T, fr, g1, g2⟩ := h.row i cs st sz ex e hb he hst
    exact ⟨rc, T, fr, by rw [grow_old _ _ (h.lt i e he)]; exact g1, g2⟩
  · intro i s p e hb he
    rw [grow_old _ _ (h.lt i e he)]; exact h.sit i s p e hb he
  · intro i es e hb he
    rw [grow_old _ _ (h.lt i e he)]; exact h.mp i es e hb he
  · exact ⟨⟨[], by simp⟩, rfl, rfl, rfl, by omega, fun r hr _ => grow_old _ _ hr, fun i b e h1 h2 h3 _ => ⟨i, b, e, h1, h2, h3, rfl⟩⟩
end
end Go.AS


namespace Go.AS
open Go
set_option maxRecDepth 100000
/-! Codes of library functions that are alike in many chapters (printed by geni.py). -/
end Go.AS


namespace Go.AS
open Go
set_option linter.unusedVariables false
set_option linter.unusedSimpArgs false
set_option maxRecDepth 10000

/-! Slices of texts of the call's own. -/
def strE (l : List ByteArray) : List (List Value) := l.map fun s => [.string s]
theorem strE_flat (l : List ByteArray) : (strE l).flatten = l.map .string := by
  unfold strE
  induction l with
  | nil => rfl
  | cons s l ih => rw [List.map_cons, List.flatten_cons, ih]; rfl
theorem strE_len (l : List ByteArray) : (strE l).length = l.length := by simp [strE]
theorem strE_ok (l : List ByteArray) : ∀ e ∈ strE l, e.length = 1 ∧ ones e = true := by
  intro e he
  obtain ⟨s, _, rfl⟩ := List.mem_map.1 he
  exact ⟨rfl, rfl⟩
/-- A slice of texts, of the call's own. -/
def OwnT (a0 : Nat) (A : AH) (v : Value) (l : List ByteArray) : Prop := OwnS a0 A 1 v l.length (l.map .string)
def SlT (A : AH) (v : Value) (l : List ByteArray) : Prop := Sl A 1 v l.length (l.map .string)
section
variable {A B A0 : AH} {v : Value} {a0 b0 : Nat} {l m : List ByteArray} {lo hi : Option Value}
theorem OwnT.e (h : OwnT a0 A v l) : OwnE a0 A 1 v (strE l) := ⟨strE_ok l, by rw [strE_flat, strE_len]; exact h⟩
theorem OwnE.t (h : OwnE a0 A 1 v (strE l)) : OwnT a0 A v l := by
  have := h.2
  rw [strE_flat, strE_len] at this
  exact this
theorem OwnT.sl (h : OwnT a0 A v l) : SlT A v l := OwnS.sl h
theorem OwnT.le (h : OwnT a0 A v l) (hl : Le A B) : OwnT a0 B v l := OwnS.le h hl
theorem OwnT.mono (h : OwnT a0 A v l) (hb : b0 ≤ a0) : OwnT b0 A v l := OwnS.mono h hb
theorem OwnT.nil (a0 : Nat) (A : AH) : OwnT a0 A (.slice none 0 0) [] := OwnS.nil _ _ _
theorem SlT.le (h : SlT A v l) (hl : Le A B) : SlT B v l := Sl.le h hl
theorem SlT.len (h : SlT A v l) (B : AH) : sLens B false v = some (.int .i64 l.length, B) := Sl.lenB h B
theorem SlT.one (h : SlT A v l) : one1 v := Sl.one1 h
theorem SlT.at (h : SlT A v l) {j : Nat} {s : ByteArray} (hj : l[j]? = some s) : ∃ p, (∀ (B : AH) (n : Int), n = (j : Int) → sIaddr B v (.int .i64 n) 1 = some (p, B)) ∧ ∀ B, Le A B → sLoad1 B p = some (.string s, B) :=
  Sl.at1L h (j := j) (x := .string s) (by rw [List.getElem?_map, hj]; rfl)
theorem OwnT.at (h : OwnT a0 A v l) {j : Nat} {s : ByteArray} (hj : l[j]? = some s) : ∃ p, blkOf p = blkOf v ∧ (∀ (B : AH) (n : Int), n = (j : Int) → sIaddr B v (.int .i64 n) 1 = some (p, B)) ∧ sLoad1 A p = some (.string s, A) := by
  obtain ⟨p, p1, p2⟩ := Sl.at1 (OwnS.sl h) (j := j) (v0 := .string s) (by rw [List.getElem?_map, hj]; rfl)
  exact ⟨p, iaddr_blk p1, by rintro B n rfl; exact iaddr_any p1 B, p2⟩
theorem OwnT.put (h : OwnT a0 A v l) {j : Nat} (s : ByteArray) (hj : j < l.length) {p : Value} (hp : sIaddr A v (.int .i64 (j : Int)) 1 = some (p, A)) : ∃ A', sStore A p (.string s) 1 = some (undef, A') ∧ OwnT a0 A' v (l.set j s) ∧ KeepV A v A' := by
  obtain ⟨A', s1, s2, s3⟩ := h.e.put (e := [.string s]) (by rw [strE_len]; exact hj) rfl rfl hp
  refine ⟨A', s1, ?_, s3⟩
  have e : (strE l).set j [.string s] = strE (l.set j s) := by simp [strE, List.map_set]
  rw [e] at s2
  exact s2.t
theorem OwnT.cut (h : OwnT a0 A v l) {i k : Nat} (hlk : i ≤ k) (hk : k ≤ l.length) (hb : ∀ c, l.length ≤ c → boundsA l.length c lo hi none = some (i, k, c)) :
    ∃ u, (∀ j ∈ blkOf u, j ∈ blkOf v) ∧ (∃ p c, u = .slice p (k - i) c) ∧ ∀ B m, OwnT a0 B v m → m.length = l.length → sSll B v lo hi none 1 = some (u, B) ∧ OwnT a0 B u ((m.take k).drop i) := by
  obtain ⟨u, u1, u2, u3⟩ := h.e.cut (l := i) (k := k) (lo := lo) (hi := hi) hlk (by rw [strE_len]; exact hk) (by rw [strE_len]; exact hb)
  refine ⟨u, u1, u2, fun B m hm hl => ?_⟩
  obtain ⟨e1, e2⟩ := u3 B (strE m) hm.e (by rw [strE_len, strE_len]; exact hl)
  refine ⟨e1, ?_⟩
  have e : ((strE m).take k).drop i = strE ((m.take k).drop i) := by simp [strE, List.map_take, List.map_drop]
  rw [e] at e2
  exact e2.t
theorem OwnT.clr (h : OwnT a0 A v l) {i : Nat} {u : Value} (hl : i ≤ l.length) (hu : sSll A v (some (.int .i64 (i : Int))) none none 1 = some (u, A)) :
    ∃ A', sClr A u [.string ⟨#[]⟩] = some (undef, A') ∧ OwnT a0 A' v (l.take i ++ List.replicate (l.length - i) ⟨#[]⟩) ∧ KeepV A v A' := by
  obtain ⟨A', s1, s2, s3⟩ := h.e.clr (l := i) (z := [.string ⟨#[]⟩]) (by rw [strE_len]; exact hl) rfl rfl hu
  refine ⟨A', s1, ?_, s3⟩
  have e : (strE l).take i ++ List.replicate ((strE l).length - i) [.string ⟨#[]⟩] = strE (l.take i ++ List.replicate (l.length - i) ⟨#[]⟩) := by simp [strE, List.map_take]
  rw [e] at s2
  exact s2.t
theorem OwnT.push (s : ByteArray) (hl : Le A0 A) (h : OwnT A0.length A v l) (hb : l.length ≤ 2 ^ 40) :
    sLit A [.string ⟨#[]⟩] 1 1 [(0, 1, .string s)] = some (.slice (some ⟨A.length, 0, none⟩) 1 1, A ++ [.row [.string s] .own 1 true]) ∧
    ∃ w' A', sApp (A ++ [.row [.string s] .own 1 true]) v (.slice (some ⟨A.length, 0, none⟩) 1 1) 1 16 = some (w', A') ∧ Le A0 A' ∧ OwnT A0.length A' w' (l ++ [s]) ∧ KeepV A v A' ∧ ∀ j ∈ blkOf w', j ∈ blkOf v ∨ A.length ≤ j := by
  obtain ⟨l1, w', A', e1, e2, e3, e4⟩ := app_str s hl h hb
  refine ⟨l1, w', A', e1, e2, e3, e4, fun j hj => ?_⟩
  rcases sApp_blk e1 j hj with h | h
  · exact .inl h
  · simp at h; exact .inr (by omega)
theorem OwnT.app {x : Value} (hl : Le A0 A) (h : OwnT A0.length A v l) (hx : SlT A x m) (hb : l.length + m.length ≤ 2 ^ 40) :
    ∃ w' A', sApp A v x 1 16 = some (w', A') ∧ Le A0 A' ∧ OwnT A0.length A' w' (l ++ m) ∧ KeepV A v A' := by
  obtain ⟨w', A', e1, e2, e3, e4⟩ := h.e.app (x := x) (fs := strE m) (bytes := 16) hl (by rw [strE_flat, strE_len]; exact hx) (strE_ok m) (by omega) (by rw [strE_len, strE_len]; omega) (by omega)
  refine ⟨w', A', e1, e2, ?_, e4⟩
  have e : strE l ++ strE m = strE (l ++ m) := by simp [strE]
  rw [e] at e3
  exact e3.t
end

section
variable {G : Nat} {P : Program} (hm : P.follows .mixedOrders = true) {a0 : Nat} {A : AH} {v : Value} {Q : Value → AH → Prop}
include hm
end
end Go.AS


namespace Go.AS
open Go Go.RowKit Go.Proofs
set_option linter.unusedVariables false
set_option linter.unusedSimpArgs false

/-! The kit's contract of strings.Join, told of abstract states. -/
section
variable {G : Nat} {P : Program} {μ : Mu} {A : AH} {w w' : World} {v : Value}
/-- New blocks, and draws, of which nothing is known. -/
theorem Rel.below (h : Rel G μ A w) (hb : Below w.heap.size w w') : Rel G μ A w' ∧ Stp μ A w μ A w' := by
  have hk : ∀ i, i < w.heap.size → w'.heap[i]? = w.heap[i]? := fun i hi => hb.block i hi
  refine ⟨⟨h.len, h.glo, fun i e he => Nat.lt_of_lt_of_le (h.lt i e he) hb.size, ?_, h.szs, ?_, ?_, h.apart⟩, ?_⟩
  · intro i cs st sz ex e hb he hst
    obtain ⟨rc, T, fr, g1, g2⟩ := h.row i cs st sz ex e hb he hst
    exact ⟨rc, T, fr, by rw [hk _ (h.lt i e he)]; exact g1, g2⟩
  · intro i s p e hb he
    rw [hk _ (h.lt i e he)]; exact h.sit i s p e hb he
  · intro i es e hb he
    rw [hk _ (h.lt i e he)]; exact h.mp i es e hb he
  · exact ⟨⟨[], by simp⟩, hb.os, hb.tape, hb.output, hb.size, fun r hr _ => hk r hr, fun i b e h1 h2 h3 _ => ⟨i, b, e, h1, h2, h3, rfl⟩⟩
/-- What a machine's function must do to join texts. -/
def JoinsTexts (P : Program) (f : FuncId) : Prop :=
  (∀ (bk o c : Nat) (xs : List ByteArray) (sep : ByteArray) (w : World), (∀ (j : Nat) x, xs[j]? = some x → w.cell? ⟨bk, o + j, none⟩ = some (.string x)) → bk < w.heap.size → xs.length ≤ 140737488355328 → xs.length ≤ c →
    (Lib.join (xs.map (·.data.toList)) sep.data.toList).length ≤ 140737488355328 →
    Calls P f #[.slice (some ⟨bk, o, none⟩) xs.length c, .string sep] w fun e w' => e = .returned (.string ⟨(Lib.join (xs.map (·.data.toList)) sep.data.toList).toArray⟩) ∧ Below w.heap.size w w') ∧
  (∀ (a : Option Addr) (c : Nat) (sep : ByteArray) (w : World), Calls P f #[.slice a 0 c, .string sep] w fun e w' => e = .returned (.string ⟨#[]⟩) ∧ w' = w)
/-- Texts, one behind the other, what stands between them. -/
def joinT (l : List ByteArray) (sep : ByteArray) : ByteArray := ⟨(Lib.join (l.map (·.data.toList)) sep.data.toList).toArray⟩
theorem join_spec {f : FuncId} (hf : JoinsTexts P f) {l : List ByteArray} {sep : ByteArray} {Q : Value → AH → Prop} (h : SlT A v l) (hl : l.length ≤ 140737488355328) (hj : (joinT l sep).size ≤ 140737488355328)
    (hq : Q (.string (joinT l sep)) A) : ACalls G P f [v, .string sep] Q A := by
  intro μ args' w hr h1 h2
  obtain ⟨v', s', rfl⟩ : ∃ v' s', args' = #[v', s'] := by
    have : args'.size = 2 := by simpa using h1
    exact ⟨args'[0], args'[1], by apply Array.ext (by simpa using this); intro i hi1 hi2; simp at hi2; match i with | 0 => rfl | 1 => rfl⟩
  have hv := h2 0 v v' rfl rfl
  have hs := (h2 1 _ s' rfl rfl).string
  subst hs
  by_cases h0 : l.length = 0
  · have hl0 : l = [] := List.length_eq_zero_iff.1 h0
    subst hl0
    have hn : ∃ p c, v' = .slice p 0 c := by
      obtain ⟨_, h⟩ := h
      rcases h with ⟨rfl, _⟩ | ⟨rfl, _⟩ | ⟨_, _, _, _, _, _, rfl, _⟩
      · obtain ⟨a', c', e, _⟩ := hv.sl_inv; exact ⟨a', c', e⟩
      · obtain ⟨a', c', e, _⟩ := hv.sl_inv; exact ⟨a', c', e⟩
      · obtain ⟨a', c', e, _⟩ := hv.sl_inv; exact ⟨a', c', e⟩
    obtain ⟨p, c, rfl⟩ := hn
    refine (hf.2 p c sep w).mono ?_
    rintro e w' ⟨rfl, rfl⟩
    exact ⟨_, _, μ, A, rfl, .flat rfl, hr, Stp.refl _ _ _, hq⟩
  · obtain ⟨hc0, h⟩ := h
    rcases h with ⟨_, hz⟩ | ⟨_, hz⟩ | ⟨i, o, c, rc, st, ex, rfl, k2, k3, k4, k5, k6⟩
    · exact absurd hz h0
    · exact absurd hz h0
    obtain ⟨e, he, c', hcc, rfl⟩ : ∃ (e : Ent), μ[i]? = some e ∧ ∃ c', l.length ≤ c' ∧ v' = .slice (some ⟨e.blk, e.off + o, none⟩) l.length c' := by
      generalize l.length = nn at hv h0
      cases hv with
      | flat h => cases h
      | slc h g1 g2 g4 => exact ⟨_, h, _, by omega, rfl⟩
      | sle h => exact absurd rfl h0
    obtain ⟨mc, T, fr, g1, g2, g3, g4⟩ := hr.row i rc st 1 ex e k3 he k4
    refine (hf.1 e.blk (e.off + o) c' l sep w ?_ (hr.lt i e he) hl hcc ?_).mono ?_
    · intro j x hx
      have hjl := lt_of_get hx
      have hrc := k6 j (by omega)
      rw [List.getElem?_map, hx, Option.map_some] at hrc
      obtain ⟨_, u, u1, u2⟩ := g2 (o + j) _ hrc
      rw [u2.string] at u1
      simp [World.cell?, g1, Nat.add_assoc, u1]
    · have : (joinT l sep).size = (Lib.join (l.map (·.data.toList)) sep.data.toList).length := by
        unfold joinT
        show (Array.size _) = _
        simp
      omega
    · rintro en w' ⟨rfl, hb⟩
      obtain ⟨hr1, hs1⟩ := hr.below hb
      exact ⟨_, _, μ, A, rfl, .flat rfl, hr1, hs1, hq⟩
end
end Go.AS


namespace Go.AS.C
open Go Go.Proofs
set_option linter.unusedVariables false
set_option linter.unusedSimpArgs false
set_option maxRecDepth 10000

/-! How an operation is shown, as plain data. -/
def kindT : List ByteArray := [⟨#[99, 111, 117, 110, 116]⟩, ⟨#[97, 100, 100]⟩, ⟨#[114, 101, 109, 111, 118, 101]⟩, ⟨#[119, 114, 105, 116, 101]⟩, ⟨#[105, 110, 115, 101, 114, 116]⟩, ⟨#[100, 101, 108, 101, 116, 101]⟩, ⟨#[109, 101, 114, 103, 101]⟩]
def nmT (k : Int) : ByteArray := kindT.getD (k - 1).toNat e0
theorem nmT_at {k : Int} (h : hK k = true) : kindT[(k - 1).toNat]? = some (nmT k) ∧ (nmT k).size ≤ 6 ∧ ∃ j : Nat, k - 1 = (j : Int) ∧ j < 7 := by
  have hk : 1 ≤ k ∧ k ≤ 7 := by unfold hK at h; rw [decide_eq_true_eq] at h; exact h
  obtain ⟨m, rfl⟩ : ∃ m : Nat, k = m := ⟨k.toNat, by omega⟩
  have : m = 1 ∨ m = 2 ∨ m = 3 ∨ m = 4 ∨ m = 5 ∨ m = 6 ∨ m = 7 := by omega
  refine ⟨?_, ?_, m - 1, by omega, by omega⟩ <;> rcases this with rfl | rfl | rfl | rfl | rfl | rfl | rfl <;> first | rfl | decide
def hexT (s : ByteArray) : ByteArray := ⟨(35 :: hexP s.data.toList).toArray⟩
def numT (n : Int) : ByteArray := ⟨(Lib.itoa n).toArray⟩
def s0 (o : OpV) : List ByteArray := [nmT o.k]
def sN (o : OpV) : List ByteArray := s0 o ++ (if hN o.k then [o.name] else [])
def sT (o : OpV) : List ByteArray := sN o ++ (if hT o.k then [hexT o.text] else [])
def sI (o : OpV) : List ByteArray := sT o ++ (if hI o.k then [numT o.n] else [])
def sA (o : OpV) : List ByteArray := sI o ++ (if hA o.k then [hexT o.place] else [])
/-- An operation, shown. -/
def showB (o : OpV) : ByteArray := if opOk o then joinT (sA o) ⟨#[32]⟩ else ⟨#[63]⟩
/-- The same text, built from the left. -/
def tail1 (s : ByteArray) : List UInt8 := 32 :: s.data.toList
def t0 (o : OpV) : List UInt8 := (nmT o.k).data.toList
def tN (o : OpV) : List UInt8 := t0 o ++ (if hN o.k then tail1 o.name else [])
def tT (o : OpV) : List UInt8 := tN o ++ (if hT o.k then tail1 (hexT o.text) else [])
def tI (o : OpV) : List UInt8 := tT o ++ (if hI o.k then tail1 (numT o.n) else [])
def tA (o : OpV) : List UInt8 := tI o ++ (if hA o.k then tail1 (hexT o.place) else [])
theorem join_snoc (l : List (List UInt8)) (x : List UInt8) (h : l ≠ []) : Lib.join (l ++ [x]) [32] = Lib.join l [32] ++ 32 :: x := by
  cases l with
  | nil => exact absurd rfl h
  | cons y l =>
    rw [List.cons_append, Lib.join_cons, Lib.join_cons]
    simp [Lib.joinTail]
theorem joinT_snoc (l : List ByteArray) (c : Bool) (x : ByteArray) (t : List UInt8) (h : l ≠ []) (ht : (joinT l ⟨#[32]⟩) = ⟨t.toArray⟩) : joinT (l ++ (if c then [x] else [])) ⟨#[32]⟩ = ⟨(t ++ (if c then tail1 x else [])).toArray⟩ := by
  cases c with
  | false => simpa using ht
  | true =>
    unfold joinT at ht ⊢
    have h1 : Lib.join (l.map (·.data.toList)) [32] = t := by
      have := congrArg (fun b => b.data.toList) ht
      simpa using this
    simp only [if_true, List.map_append, List.map_cons, List.map_nil]
    rw [join_snoc _ _ (by simpa using h)]
    rw [h1]
    rfl
theorem joinT_sA (o : OpV) : joinT (sA o) ⟨#[32]⟩ = ⟨(tA o).toArray⟩ := by
  have e0 : joinT (s0 o) ⟨#[32]⟩ = ⟨(t0 o).toArray⟩ := by
    unfold joinT s0 t0
    rw [List.map_cons, List.map_nil, Lib.join_one]
  have e1 : joinT (sN o) ⟨#[32]⟩ = ⟨(tN o).toArray⟩ := joinT_snoc _ _ _ _ (by simp [s0]) e0
  have e2 : joinT (sT o) ⟨#[32]⟩ = ⟨(tT o).toArray⟩ := joinT_snoc _ _ _ _ (by simp [sN, s0]) e1
  have e3 : joinT (sI o) ⟨#[32]⟩ = ⟨(tI o).toArray⟩ := joinT_snoc _ _ _ _ (by simp [sT, sN, s0]) e2
  exact joinT_snoc _ _ _ _ (by simp [sI, sT, sN, s0]) e3
theorem numT_size {n : Int} (h0 : -2147483648 ≤ n) (h1 : n ≤ 2147483648) : (numT n).size ≤ 21 := Lib.itoa_length_le n (by omega) (by omega)
theorem hexT_size (s : ByteArray) : (hexT s).size = 1 + 2 * s.size := by
  unfold hexT
  show (35 :: hexP s.data.toList).length = _
  rw [List.length_cons, hexP_len, size_bytes]
  omega
theorem tail1_len (s : ByteArray) : (tail1 s).length = 1 + s.size := by
  unfold tail1
  rw [List.length_cons, size_bytes]
  omega
theorem tA_len {o : OpV} (h : opOk o = true) : (t0 o).length ≤ 6 ∧ (tN o).length ≤ 400 ∧ (tT o).length ≤ 800 ∧ (tI o).length ≤ 1200 ∧ (tA o).length ≤ 1600 := by
  obtain ⟨h1, h2, h3, h4, h5, h6, h7, h8, h9, h10⟩ := opOk_iff.1 h
  have a0 : (t0 o).length ≤ 6 := by unfold t0; rw [← size_bytes]; exact (nmT_at h1).2.1
  have hn : o.name.size ≤ 12 := by
    by_cases hn : hN o.k = true
    · rw [if_pos hn] at h2; exact (nameOk_size h2).2
    · rw [if_neg hn] at h2; rw [h2]; decide
  have hp : o.place.size ≤ 32 := by
    rcases h8 with h | h
    · rw [h]; decide
    · omega
  have a1 : (tN o).length ≤ 400 := by
    unfold tN
    rw [List.length_append]
    split
    · rw [tail1_len]; omega
    · simp; omega
  have a2 : (tT o).length ≤ 800 := by
    unfold tT
    rw [List.length_append]
    split
    · rw [tail1_len, hexT_size]; omega
    · simp; omega
  have a3 : (tI o).length ≤ 1200 := by
    unfold tI
    rw [List.length_append]
    split
    · have := numT_size (n := o.n) (by omega) (by omega)
      rw [tail1_len]; omega
    · simp; omega
  have a4 : (tA o).length ≤ 1600 := by
    unfold tA
    rw [List.length_append]
    split
    · rw [tail1_len, hexT_size]; omega
    · simp; omega
  exact ⟨a0, a1, a2, a3, a4⟩
end Go.AS.C


namespace Go.AS
open Go Go.RowKit Go.Proofs
set_option linter.unusedVariables false
set_option linter.unusedSimpArgs false

/-! The kit's contract of strings.IndexFunc, told of abstract states. -/
section
variable {G : Nat} {P : Program} {A : AH} {w : World}
/-- A function over runes that needs no memory. -/
theorem pred_grows {g : FuncId} {p : Nat → Bool} (h : ∀ x : Nat, x ≤ 1114111 → ACalls 0 P g [.int .i32 x] (fun v _ => v = .bool (p x)) []) (w : World) : PredGrows P g #[] p w := by
  intro W x hx _
  have h1 := (h x hx).apply (μ := []) (w := W) (args' := #[.int .i32 x]) rel_none rfl (fun j v v' hv hv' => by
    match j with
    | 0 =>
      simp at hv hv'
      subst hv hv'
      exact .flat rfl
    | j + 1 => simp at hv)
  refine h1.mono ?_
  rintro e w' ⟨v, v', μ', A', rfl, hv, hr, hs, rfl⟩
  rw [hv.bool]
  exact ⟨rfl, hs.os, hs.tape, hs.output, hs.size, fun k hk => hs.keep k hk (fun i b e hb => by simp at hb)⟩
/-- What a machine's function must do to find a rune. -/
def IdxFuncs (P : Program) (f : FuncId) : Prop :=
  ∀ (g : Nat) (p : Nat → Bool) (s : ByteArray) (w : World), (∀ args w, (callFunc g args).run P w = .ok (.enter g args) w) → PredGrows P g #[] p w →
    Calls P f #[.string s, .func (.func g) #[] #[]] w fun e w' => e = .returned (.int .i64 (Lib.idxFunc p true s)) ∧ Below w.heap.size w w'
theorem idxfunc_spec {f g : FuncId} (hf : IdxFuncs P f) {p : Nat → Bool} (hok : calleeOk P g = true) (h : ∀ x : Nat, x ≤ 1114111 → ACalls 0 P g [.int .i32 x] (fun v _ => v = .bool (p x)) []) {s : ByteArray} {Q : Value → AH → Prop}
    (hq : Q (.int .i64 (Lib.idxFunc p true s)) A) : ACalls G P f [.string s, .func (.func g) #[] #[]] Q A := by
  intro μ args' w hr h1 h2
  obtain ⟨s', v', rfl⟩ : ∃ s' v', args' = #[s', v'] := by
    have : args'.size = 2 := by simpa using h1
    exact ⟨args'[0], args'[1], by apply Array.ext (by simpa using this); intro i hi1 hi2; simp at hi2; match i with | 0 => rfl | 1 => rfl⟩
  have hs := (h2 0 _ s' rfl rfl).string
  have hv := h2 1 _ v' rfl rfl
  subst hs
  have hv' : v' = .func (.func g) #[] #[] := by
    cases hv with
    | flat h => cases h
    | func hpl k1 _ k3 _ =>
      rename_i a' b' _ _
      have e1 : a' = #[] := Array.eq_empty_of_size_eq_zero (by rw [← k1]; rfl)
      have e2 : b' = #[] := Array.eq_empty_of_size_eq_zero (by rw [← k3]; rfl)
      rw [e1, e2]
  subst hv'
  refine (hf g p s w (fun args w => run_callFunc hok args w) (pred_grows h w)).mono ?_
  rintro en w' ⟨rfl, hb⟩
  obtain ⟨hr1, hs1⟩ := hr.below hb
  exact ⟨_, _, μ, A, rfl, .flat rfl, hr1, hs1, hq⟩
end
end Go.AS


/-
  DERIVED: THE SHELF's CONTRACTS AT THIS DUMP, IN PLAIN WORDS (tools/lay-plain.mjs out of 'TrydShelf.lean', which tools/lay-shelf.mjs wrote): THE SAME DECLARATIONS UNDER THE SAME NAMES: 'import', 'namespace', 'open', 'def', 'theorem' AND NOTHING ELSE: no command of the shelf's: FOR A HAND-IN. Each laying: the table of numbers ('.._ren') and one theorem, a field a fact of the dump's own or the kernel's comparison; each contract: ONE APPLICATION.
-/
namespace Go.Proofs
open Go.Shelf
def Tryd.lays156_ren : Go.Shelf.Ren := ⟨fun | 156 => 38 | 165 => 58 | 166 => 59 | 169 => 60 | 240 => 68 | 241 => 69 | 276 => 75 | 277 => 76 | n => n, fun | 31 => 54 | 9 => 9 | 3 => 3 | 4 => 4 | 0 => 0 | 20 => 20 | 72 => 82 | 76 => 86 | 70 => 80 | 37 => 24 | 75 => 85 | 127 => 96 | 164 => 103 | 5 => 5 | 80 => 88 | n => n, fun | n => n⟩
theorem Tryd.lays156 : Go.Proofs.Lays.n156 Tryd.prog Tryd.lays156_ren := {
  mixed := by kernel_rfl
  f156 := Tryd.func38.trans (congrArg some (by kernel_rfl))
  f165 := Tryd.func58.trans (congrArg some (by kernel_rfl))
  f166 := Tryd.func59.trans (congrArg some (by kernel_rfl))
  f169 := Tryd.func60.trans (congrArg some (by kernel_rfl))
  f240 := Tryd.func68.trans (congrArg some (by kernel_rfl))
  f241 := Tryd.func69.trans (congrArg some (by kernel_rfl))
  f276 := Tryd.func75.trans (congrArg some (by kernel_rfl))
  f277 := Tryd.func76.trans (congrArg some (by kernel_rfl))
  t0 := Tryd.underlying0
  a0 := Tryd.isAgg0
  z0 := Tryd.sizeOf0
  v0 := Tryd.zeroValue0
  t3 := Tryd.underlying3
  a3 := Tryd.isAgg3
  z3 := Tryd.sizeOf3
  v3 := Tryd.zeroValue3
  t4 := Tryd.underlying4
  a4 := Tryd.isAgg4
  z4 := Tryd.sizeOf4
  v4 := Tryd.zeroValue4
  t9 := Tryd.underlying9
  a9 := Tryd.isAgg9
  z9 := Tryd.sizeOf9
  v9 := Tryd.zeroValue9
  t20 := Tryd.underlying20
  a20 := Tryd.isAgg20
  z20 := Tryd.sizeOf20
  v20 := Tryd.zeroValue20
  t31 := Tryd.underlying54
  a31 := Tryd.isAgg54
  z31 := Tryd.sizeOf54
  v31 := Tryd.zeroValue54
  t37 := Tryd.underlying24
  a37 := Tryd.isAgg24
  z37 := Tryd.sizeOf24
  v37 := Tryd.zeroValue24
  t70 := Tryd.underlying80
  a70 := Tryd.isAgg80
  z70 := Tryd.sizeOf80
  v70 := Tryd.zeroValue80
  t72 := Tryd.underlying82
  a72 := Tryd.isAgg82
  z72 := Tryd.sizeOf82
  v72 := Tryd.zeroValue82
  t75 := Tryd.underlying85
  a75 := Tryd.isAgg85
  z75 := Tryd.sizeOf85
  v75 := Tryd.zeroValue85
  t76 := Tryd.underlying86
  a76 := Tryd.isAgg86
  z76 := Tryd.sizeOf86
  v76 := Tryd.zeroValue86
  t127 := Tryd.underlying96
  a127 := Tryd.isAgg96
  z127 := Tryd.sizeOf96
  v127 := Tryd.zeroValue96
  t164 := Tryd.underlying103
  a164 := Tryd.isAgg103
  z164 := Tryd.sizeOf103
  v164 := Tryd.zeroValue103 }
theorem Tryd.Builder_Extra_156 : Builder.Extra Tryd.prog Tryd.lays156_ren := {
  sizeBuilder := by kernel_rfl
  liesBuilder := by kernel_rfl
  t5 := Tryd.underlying5
  a5 := Tryd.isAgg5
  z5 := Tryd.sizeOf5
  v5 := Tryd.zeroValue5
  infoByte := by kernel_rfl
  cellsByte := by kernel_rfl
  sizeByte := by kernel_rfl
  neB5 := by decide }
open Go.RowKit in
/-- No element: the empty string; the world is as it was. (Whatever the slice's address and capacity: a nil slice too.) (LAID: no walk: one application.) -/
theorem Tryd.strings_Join_none (a : Option Addr) (c : Nat) (sep : ByteArray) (w : World) :
    Calls Tryd.prog 38 #[.slice a 0 c, .string sep] w fun e w' => e = .returned (.string ⟨#[]⟩) ∧ w' = w := Any.strings_Join_none Tryd.lays156 Tryd.Builder_Extra_156 a c sep w
open Go.RowKit in
/-- strings.Join: "Join concatenates the elements of its first argument to create a single string. The separator string sep is placed between elements in the resulting string.": HOWEVER MANY ELEMENTS. Below the heap's end the world is as it was. (LAID: no walk: one application.) -/
theorem Tryd.strings_Join (bk o c : Nat) (xs : List ByteArray) (sep : ByteArray) (w : World) (hcells : ∀ (j : Nat) x, xs[j]? = some x → w.cell? ⟨bk, o + j, none⟩ = some (.string x)) (hbk : bk < w.heap.size) (hN : xs.length ≤ 140737488355328) (hcap : xs.length ≤ c) (hlen : (Lib.join (xs.map (·.data.toList)) sep.data.toList).length ≤ 140737488355328) :
    Calls Tryd.prog 38 #[.slice (some ⟨bk, o, none⟩) xs.length c, .string sep] w fun e w' => e = .returned (.string ⟨(Lib.join (xs.map (·.data.toList)) sep.data.toList).toArray⟩) ∧ Below w.heap.size w w' := Any.strings_Join Tryd.lays156 Tryd.Builder_Extra_156 bk o c xs sep w hcells hbk hN hcap hlen
def Tryd.laysM171_ren : Go.Shelf.Ren := ⟨fun | 171 => 37 | 243 => 57 | 246 => 67 | 283 => 71 | 284 => 72 | 285 => 73 | 286 => 74 | 129 => 78 | 317 => 77 | 318 => 79 | 319 => 80 | 320 => 81 | 337 => 82 | 338 => 83 | n => n, fun | 3 => 3 | 9 => 9 | 2 => 2 | 4 => 4 | 171 => 97 | 0 => 0 | 53 => 98 | 37 => 24 | 5 => 5 | 173 => 101 | 212 => 106 | 51 => 107 | 20 => 20 | 213 => 108 | 46 => 79 | 232 => 111 | 233 => 112 | n => n, fun | 17 => 0 | 18 => 2 | 19 => 3 | n => n⟩
theorem Tryd.laysM171 : Go.Proofs.LaysM.n171 Tryd.prog Tryd.laysM171_ren := {
  mixed := by kernel_rfl
  f129 := Tryd.func78.trans (congrArg some (by kernel_rfl))
  f171 := Tryd.func37.trans (congrArg some (by kernel_rfl))
  f243 := Tryd.func57.trans (congrArg some (by kernel_rfl))
  f246 := Tryd.func67.trans (congrArg some (by kernel_rfl))
  f283 := Tryd.func71.trans (congrArg some (by kernel_rfl))
  f284 := Tryd.func72.trans (congrArg some (by kernel_rfl))
  f285 := Tryd.func73.trans (congrArg some (by kernel_rfl))
  f286 := Tryd.func74.trans (congrArg some (by kernel_rfl))
  f317 := Tryd.func77.trans (congrArg some (by kernel_rfl))
  f318 := Tryd.func79.trans (congrArg some (by kernel_rfl))
  f319 := Tryd.func80.trans (congrArg some (by kernel_rfl))
  f320 := Tryd.func81.trans (congrArg some (by kernel_rfl))
  f337 := Tryd.func82.trans (congrArg some (by kernel_rfl))
  f338 := Tryd.func83.trans (congrArg some (by kernel_rfl))
  t0 := Tryd.underlying0
  a0 := Tryd.isAgg0
  z0 := Tryd.sizeOf0
  v0 := Tryd.zeroValue0
  t2 := Tryd.underlying2
  a2 := Tryd.isAgg2
  z2 := Tryd.sizeOf2
  v2 := Tryd.zeroValue2
  t3 := Tryd.underlying3
  a3 := Tryd.isAgg3
  z3 := Tryd.sizeOf3
  v3 := Tryd.zeroValue3
  t4 := Tryd.underlying4
  a4 := Tryd.isAgg4
  z4 := Tryd.sizeOf4
  v4 := Tryd.zeroValue4
  t5 := Tryd.underlying5
  a5 := Tryd.isAgg5
  z5 := Tryd.sizeOf5
  v5 := Tryd.zeroValue5
  t9 := Tryd.underlying9
  a9 := Tryd.isAgg9
  z9 := Tryd.sizeOf9
  v9 := Tryd.zeroValue9
  t20 := Tryd.underlying20
  a20 := Tryd.isAgg20
  z20 := Tryd.sizeOf20
  v20 := Tryd.zeroValue20
  t37 := Tryd.underlying24
  a37 := Tryd.isAgg24
  z37 := Tryd.sizeOf24
  v37 := Tryd.zeroValue24
  t46 := Tryd.underlying79
  a46 := Tryd.isAgg79
  z46 := Tryd.sizeOf79
  v46 := Tryd.zeroValue79
  t51 := Tryd.underlying107
  a51 := Tryd.isAgg107
  z51 := Tryd.sizeOf107
  v51 := Tryd.zeroValue107
  t53 := Tryd.underlying98
  a53 := Tryd.isAgg98
  z53 := Tryd.sizeOf98
  v53 := Tryd.zeroValue98
  t171 := Tryd.underlying97
  a171 := Tryd.isAgg97
  z171 := Tryd.sizeOf97
  v171 := Tryd.zeroValue97
  t173 := Tryd.underlying101
  a173 := Tryd.isAgg101
  z173 := Tryd.sizeOf101
  v173 := Tryd.zeroValue101
  t212 := Tryd.underlying106
  a212 := Tryd.isAgg106
  z212 := Tryd.sizeOf106
  v212 := Tryd.zeroValue106
  t213 := Tryd.underlying108
  a213 := Tryd.isAgg108
  z213 := Tryd.sizeOf108
  t232 := Tryd.underlying111
  a232 := Tryd.isAgg111
  z232 := Tryd.sizeOf111
  v232 := Tryd.zeroValue111
  t233 := Tryd.underlying112
  a233 := Tryd.isAgg112
  z233 := Tryd.sizeOf112
  v233 := Tryd.zeroValue112
  g17 := by kernel_rfl
  g18 := by kernel_rfl
  g19 := by kernel_rfl
  i0 := by kernel_rfl
  i2 := by kernel_rfl
  i3 := by kernel_rfl
  i4 := by kernel_rfl
  i5 := by kernel_rfl
  i9 := by kernel_rfl
  i20 := by kernel_rfl
  i37 := by kernel_rfl
  i46 := by kernel_rfl
  i51 := by kernel_rfl
  i53 := by kernel_rfl
  i171 := by kernel_rfl
  i173 := by kernel_rfl
  i212 := by kernel_rfl
  i232 := by kernel_rfl
  i233 := by kernel_rfl
  m17 := by kernel_rfl
  m18 := by kernel_rfl
  m19 := by kernel_rfl }
open Go.RowKit Go.Sort Go.Lib in
/-- strconv.Itoa: "Itoa is equivalent to FormatInt(int64(i), 10).": i's DECIMAL NUMERAL ('Lib.itoa': a '-' where i is negative, then the digits), FOR EVERY int. The world behind the call: the world before it, new blocks behind the heap (the library's 'var a [24]byte'), draws. (LAID: no walk: one application.) -/
theorem Tryd.strconv_Itoa (n : Int) (h0 : -9223372036854775808 ≤ n) (h1 : n ≤ 9223372036854775807) (w : World) (htab : Lib.TabIs Tryd.prog w "internal/strconv.uint64pow10" .u64 Lib.pow10Tab) :
    Calls Tryd.prog 37 #[.int .i64 n] w fun e w' => e = .returned (.string ⟨(Lib.itoa n).toArray⟩) ∧ ∃ k os, w' = grow (w.drewN k) os := Any.strconv_Itoa Tryd.laysM171 n h0 h1 w htab
def Tryd.laysGw15_ren : Go.Shelf.Ren := ⟨fun | 15 => 47 | 20 => 63 | n => n, fun | 9 => 9 | 23 => 71 | 3 => 3 | 4 => 4 | 0 => 0 | 21 => 21 | n => n, fun | n => n⟩
theorem Tryd.laysGw15 : Go.Proofs.LaysGw.n15 Tryd.prog Tryd.laysGw15_ren := {
  mixed := by kernel_rfl
  f15 := Tryd.func47.trans (congrArg some (by kernel_rfl))
  f20 := Tryd.func63.trans (congrArg some (by kernel_rfl))
  t0 := Tryd.underlying0
  a0 := Tryd.isAgg0
  z0 := Tryd.sizeOf0
  v0 := Tryd.zeroValue0
  i0 := by kernel_rfl
  t3 := Tryd.underlying3
  a3 := Tryd.isAgg3
  z3 := Tryd.sizeOf3
  v3 := Tryd.zeroValue3
  i3 := by kernel_rfl
  t4 := Tryd.underlying4
  a4 := Tryd.isAgg4
  z4 := Tryd.sizeOf4
  v4 := Tryd.zeroValue4
  i4 := by kernel_rfl
  t9 := Tryd.underlying9
  a9 := Tryd.isAgg9
  z9 := Tryd.sizeOf9
  v9 := Tryd.zeroValue9
  i9 := by kernel_rfl
  t21 := Tryd.underlying21
  a21 := Tryd.isAgg21
  z21 := Tryd.sizeOf21
  v21 := Tryd.zeroValue21
  i21 := by kernel_rfl
  t23 := Tryd.underlying71
  a23 := Tryd.isAgg71
  z23 := Tryd.sizeOf71
  v23 := Tryd.zeroValue71
  i23 := by kernel_rfl }
open Go.RowKit Go.Lib in
theorem Tryd.strings_IndexFunc_grows (g : Nat) (lb : Array Value) (eg : ∀ args w, (callFunc g args).run Tryd.prog w = .ok (.enter g args) w) (p : Nat → Bool) (s : ByteArray) (w : World) (hp : PredGrows Tryd.prog g lb p w) :
    Calls Tryd.prog 47 #[.string s, .func (.func g) #[] lb] w fun e w' => e = .returned (.int .i64 (Lib.idxFunc p true s)) ∧ Below w.heap.size w w' := Any.strings_IndexFunc_grows Tryd.laysGw15 g lb eg p s w hp
end Go.Proofs


namespace Go.AS.C
open Go Go.Proofs
/-! The kit's contracts, told of abstract states. -/
/-- The type of operations. -/
abbrev opT : TypeId := 23
theorem opU : type_of% @Tryd.underlying23 := Tryd.underlying23
abbrev bytesT : TypeId := 24
theorem bytesU : type_of% @Tryd.underlying24 := Tryd.underlying24
theorem joinsTexts : JoinsTexts Tryd.prog strings_Join :=
  ⟨fun bk o c xs sep w h1 h2 h3 h4 h5 => Tryd.strings_Join bk o c xs sep w h1 h2 h3 h4 h5, fun a c sep w => Tryd.strings_Join_none a c sep w⟩
theorem idxFuncs : IdxFuncs Tryd.prog strings_IndexFunc :=
  fun g p s w eg hp => Tryd.strings_IndexFunc_grows g #[] eg p s w hp
end Go.AS.C


namespace Go.AS.C
open Go Go.Proofs
set_option linter.unusedVariables false
set_option linter.unusedSimpArgs false
set_option maxRecDepth 10000

theorem ids_Right_spec {A : AH} {s : ByteArray} {Q : Value → AH → Prop} (hq : Q (.bool (decide (s.size = 32))) A) : ACalls 1 Tryd.prog ids_Right [.string s] Q A := by
  refine ACalls.of_fits mixed fits_ids_Right rfl ?_
  unfold ic_ids_Right
  have i0 : initA [.string s] 0 = .string s := rfl
  generalize initA [.string s] = a at i0
  by_cases h : s.size = 32
  · rw [decide_eq_true h] at hq
    simp (maxSteps := 1000000) (disch := omega) only [stepS, reduceIte, Nat.reduceBEq, Nat.reduceEqDiff, tupleOf, stepT, i0]
    exact hq
  · rw [decide_eq_false h] at hq
    simp (maxSteps := 1000000) (disch := omega) only [stepS, reduceIte, Nat.reduceBEq, Nat.reduceEqDiff, tupleOf, stepT, i0]
    exact hq
end Go.AS.C


namespace Go.AS.C
open Go Go.Proofs
set_option linter.unusedVariables false
set_option linter.unusedSimpArgs false
set_option maxRecDepth 10000

/-! op.has, op.Name, op.bare, op.Check; the reference's Has, Name, Check. -/
theorem op_has_spec {A : AH} {k : Int} {Q : Value → AH → Prop} (hq : Q (ii (hasO k)) A) : ACalls 1 Tryd.prog op_has [ii k] Q A := by
  refine ACalls.of_fits mixed fits_op_has rfl ?_
  unfold ic_op_has
  have i0 : initA [ii k] 0 = ii k := rfl
  generalize initA [ii k] = a at i0
  by_cases h1 : k = 1
  · subst h1; simp (maxSteps := 1000000) (disch := omega) only [stepS, reduceIte, Nat.reduceBEq, Nat.reduceEqDiff, tupleOf, stepT, i0]; exact hq
  by_cases h2 : k = 2
  · subst h2; simp (maxSteps := 1000000) (disch := omega) only [stepS, reduceIte, Nat.reduceBEq, Nat.reduceEqDiff, tupleOf, stepT, i0]; exact hq
  by_cases h3 : k = 3
  · subst h3; simp (maxSteps := 1000000) (disch := omega) only [stepS, reduceIte, Nat.reduceBEq, Nat.reduceEqDiff, tupleOf, stepT, i0]; exact hq
  by_cases h4 : k = 4
  · subst h4; simp (maxSteps := 1000000) (disch := omega) only [stepS, reduceIte, Nat.reduceBEq, Nat.reduceEqDiff, tupleOf, stepT, i0]; exact hq
  by_cases h5 : k = 5
  · subst h5; simp (maxSteps := 1000000) (disch := omega) only [stepS, reduceIte, Nat.reduceBEq, Nat.reduceEqDiff, tupleOf, stepT, i0]; exact hq
  by_cases h6 : k = 6
  · subst h6; simp (maxSteps := 1000000) (disch := omega) only [stepS, reduceIte, Nat.reduceBEq, Nat.reduceEqDiff, tupleOf, stepT, i0]; exact hq
  by_cases h7 : k = 7
  · subst h7; simp (maxSteps := 1000000) (disch := omega) only [stepS, reduceIte, Nat.reduceBEq, Nat.reduceEqDiff, tupleOf, stepT, i0]; exact hq
  have e : hasO k = -1 := by unfold hasO; simp [h1, h2, h3, h4, h5, h6, h7]
  rw [e] at hq
  simp (maxSteps := 1000000) (disch := omega) only [stepS, reduceIte, Nat.reduceBEq, Nat.reduceEqDiff, tupleOf, stepT, i0]
  exact hq

def oddR (r : Nat) : Bool := !decide (97 ≤ r ∧ r ≤ 122 ∨ 48 ≤ r ∧ r ≤ 57 ∨ r = 45)
theorem geq32 (a b : Int) : binA .geq (.int .i32 a) (.int .i32 b) = some (.bool (decide (a ≥ b))) := by simp [binA]
theorem leq32 (a b : Int) : binA .leq (.int .i32 a) (.int .i32 b) = some (.bool (decide (a ≤ b))) := by simp [binA]
theorem fits0_op_Name_1 : Fits Tryd.prog (0) op_Name_1 ic_op_Name_1 [.tmp 2] 1 := by
  have h : ((Tryd.prog.funcs[op_Name_1]?).bind fun fn => fn.body.bind (cCode Tryd.prog (0) fn.ntmps)) = some ic_op_Name_1 := by kernel_rfl
  obtain ⟨fn, h1, h2, h3, h4⟩ := fits_op_Name_1
  rw [h1] at h
  exact ⟨fn, h1, h2, h, h4⟩
theorem op_Name_1_spec (r : Nat) : ACalls (0) Tryd.prog op_Name_1 [.int .i32 r] (fun v _ => v = .bool (oddR r)) [] := by
  refine ACalls.of_fits mixed fits0_op_Name_1 rfl ?_
  unfold ic_op_Name_1
  have i0 : initA [.int .i32 r] 0 = .int .i32 r := rfl
  generalize initA [.int .i32 r] = a at i0
  unfold oddR
  by_cases h1 : 97 ≤ r
  · by_cases h2 : r ≤ 122
    · simp (maxSteps := 1000000) (disch := omega) only [stepS, reduceIte, Nat.reduceBEq, Nat.reduceEqDiff, tupleOf, stepT, i0, geq32, leq32]
      try (simp [*]; done)
      try (simp; omega)
    · simp (maxSteps := 1000000) (disch := omega) only [stepS, reduceIte, Nat.reduceBEq, Nat.reduceEqDiff, tupleOf, stepT, i0, geq32, leq32]
      try (simp [*]; done)
      try (simp; omega)
  · by_cases h3 : 48 ≤ r
    · by_cases h4 : r ≤ 57
      · simp (maxSteps := 1000000) (disch := omega) only [stepS, reduceIte, Nat.reduceBEq, Nat.reduceEqDiff, tupleOf, stepT, i0, geq32, leq32]
        try (simp [*]; done)
        try (simp; omega)
      · simp (maxSteps := 1000000) (disch := omega) only [stepS, reduceIte, Nat.reduceBEq, Nat.reduceEqDiff, tupleOf, stepT, i0, geq32, leq32]
        try (simp [*]; done)
        try (simp; omega)
    · by_cases h5 : r = 45
      · subst h5
        simp (maxSteps := 1000000) (disch := omega) only [stepS, reduceIte, Nat.reduceBEq, Nat.reduceEqDiff, tupleOf, stepT, i0, geq32, leq32]
        try (simp [*]; done)
        try (simp; omega)
      · simp (maxSteps := 1000000) (disch := omega) only [stepS, reduceIte, Nat.reduceBEq, Nat.reduceEqDiff, tupleOf, stepT, i0, geq32, leq32]
        try (simp [*]; done)
        try (simp; omega)
theorem decode_hi {s : ByteArray} {i : Nat} (h : 128 ≤ (s.get! i).toNat) : 128 ≤ (Utf8.decode s i).1 := by
  unfold Utf8.decode
  simp only [Nat.add_zero]
  rw [if_neg (by omega)]
  unfold Utf8.runeError
  repeat' split
  all_goals simp only []
  all_goals first | omega | (rename_i h; simp only [Bool.and_eq_true, decide_eq_true_eq] at h; omega) | skip
theorem decode_lo {s : ByteArray} {i : Nat} (h : (s.get! i).toNat < 128) : Utf8.decode s i = ((s.get! i).toNat, 1) := by
  unfold Utf8.decode
  simp only [Nat.add_zero]
  rw [if_pos (by omega)]
theorem idx_from {s : ByteArray} : ∀ (f pos : Nat), s.size ≤ pos + f → (Lib.idxFuncFrom oddR true s f pos < 0 ↔ ∀ b ∈ (bl s).drop pos, nameB b = true)
  | f, pos, hf => by
    by_cases hp : pos < s.size
    · obtain ⟨f, rfl⟩ : ∃ f', f = f' + 1 := ⟨f - 1, by omega⟩
      unfold Lib.idxFuncFrom
      rw [if_pos hp]
      have hl : pos < (bl s).length := by rw [bl_size]; exact hp
      have hg : s.get! pos = (bl s)[pos] := by
        cases s with
        | mk d =>
          show d[pos]! = _
          simp only [bl] at hl ⊢
          rw [getElem!_pos d pos (by simpa using hl)]
          simp
      rw [List.drop_eq_getElem_cons hl]
      simp only [List.mem_cons, forall_eq_or_imp]
      rcases Nat.lt_or_ge (s.get! pos).toNat 128 with h | h
      · rw [decode_lo h]
        simp only
        have ih := idx_from (s := s) f (pos + 1) (by omega)
        have hn : nameB (bl s)[pos] = !oddR (s.get! pos).toNat := by
          rw [← hg]; unfold nameB oddR; simp
        cases ho : oddR (s.get! pos).toNat with
        | true =>
          rw [ho] at hn
          rw [if_pos rfl, hn]
          simp
        | false =>
          rw [ho] at hn
          rw [if_neg (by simp), hn, ih]
          simp
      · have hr := decode_hi h
        have ho : oddR (Utf8.decode s pos).1 = true := by
          unfold oddR
          all_goals (first | (simp; done) | (simp; omega))
        rw [ho, if_pos rfl]
        have hn : nameB (bl s)[pos] = false := by
          rw [← hg]; unfold nameB; simp; omega
        rw [hn]
        simp
    · rw [Lib.idxFuncFrom_end _ _ _ _ _ hp, List.drop_of_length_le (by rw [bl_size]; omega)]
      simp
theorem idx_name (s : ByteArray) : (Lib.idxFunc oddR true s < 0) ↔ (bl s).all nameB = true := by
  unfold Lib.idxFunc
  rw [idx_from s.size 0 (by omega), List.drop_zero, List.all_eq_true]
theorem op_Name_1_ok : calleeOk Tryd.prog op_Name_1 = true := by kernel_rfl
theorem op_Name_spec {A : AH} {s : ByteArray} {Q : Value → AH → Prop} (hq : Q (.bool (nameOk s)) A) : ACalls 1 Tryd.prog op_Name [.string s] Q A := by
  refine ACalls.of_fits mixed fits_op_Name rfl ?_
  unfold ic_op_Name
  have i0 : initA [.string s] 0 = .string s := rfl
  generalize initA [.string s] = a at i0
  simp (maxSteps := 1000000) (disch := omega) only [stepS, reduceIte, Nat.reduceBEq, Nat.reduceEqDiff, tupleOf, stepT, i0]
  refine idxfunc_spec idxFuncs (p := oddR) op_Name_1_ok (fun x _ => ?_) ?_
  · exact op_Name_1_spec x
  have hx := idx_name s
  generalize Lib.idxFunc oddR true s = x at hx
  unfold nameOk at hq
  by_cases h1 : x < 0
  · rw [hx.1 h1, Bool.true_and] at hq
    by_cases h2 : 1 ≤ s.size
    · by_cases h3 : s.size ≤ 12
      · rw [decide_eq_true ⟨h2, h3⟩] at hq
        simp (maxSteps := 1000000) (disch := omega) only [stepS, reduceIte, Nat.reduceBEq, Nat.reduceEqDiff, tupleOf, stepT, i0]
        exact hq
      · rw [decide_eq_false (fun h => h3 h.2)] at hq
        simp (maxSteps := 1000000) (disch := omega) only [stepS, reduceIte, Nat.reduceBEq, Nat.reduceEqDiff, tupleOf, stepT, i0]
        exact hq
    · rw [decide_eq_false (fun h => h2 h.1)] at hq
      simp (maxSteps := 1000000) (disch := omega) only [stepS, reduceIte, Nat.reduceBEq, Nat.reduceEqDiff, tupleOf, stepT, i0]
      exact hq
  · rw [Bool.eq_false_iff.2 (fun h => h1 (hx.2 h)), Bool.false_and] at hq
    simp (maxSteps := 1000000) (disch := omega) only [stepS, reduceIte, Nat.reduceBEq, Nat.reduceEqDiff, tupleOf, stepT, i0]
    exact hq

theorem andH : (∀ m : Int, m = 1 ∨ m = 2 ∨ m = 4 ∨ m = 8 → binA .and (ii (-1)) (ii m) = some (ii m)) ∧ (binA .and (ii 5) (ii 1) = some (ii 1) ∧ binA .and (ii 5) (ii 2) = some (ii 0) ∧ binA .and (ii 5) (ii 4) = some (ii 4) ∧ binA .and (ii 5) (ii 8) = some (ii 0)) ∧
    (binA .and (ii 3) (ii 1) = some (ii 1) ∧ binA .and (ii 3) (ii 2) = some (ii 2) ∧ binA .and (ii 3) (ii 4) = some (ii 0) ∧ binA .and (ii 3) (ii 8) = some (ii 0)) ∧ (binA .and (ii 11) (ii 1) = some (ii 1) ∧ binA .and (ii 11) (ii 2) = some (ii 2) ∧ binA .and (ii 11) (ii 4) = some (ii 0) ∧ binA .and (ii 11) (ii 8) = some (ii 8)) ∧
    (binA .and (ii 9) (ii 1) = some (ii 1) ∧ binA .and (ii 9) (ii 2) = some (ii 0) ∧ binA .and (ii 9) (ii 4) = some (ii 0) ∧ binA .and (ii 9) (ii 8) = some (ii 8)) ∧ (binA .and (ii 0) (ii 1) = some (ii 0) ∧ binA .and (ii 0) (ii 2) = some (ii 0) ∧ binA .and (ii 0) (ii 4) = some (ii 0) ∧ binA .and (ii 0) (ii 8) = some (ii 0)) := by
  refine ⟨?_, ⟨rfl, rfl, rfl, rfl⟩, ⟨rfl, rfl, rfl, rfl⟩, ⟨rfl, rfl, rfl, rfl⟩, ⟨rfl, rfl, rfl, rfl⟩, rfl, rfl, rfl, rfl⟩
  rintro m (rfl | rfl | rfl | rfl) <;> rfl
/-- What a kind has, as the bits tell. -/
theorem and_has {k : Int} (h : hK k = true) : binA .and (ii (hasO k)) (ii 1) = some (ii (if hN k then 1 else 0)) ∧ binA .and (ii (hasO k)) (ii 2) = some (ii (if hT k then 2 else 0)) ∧ binA .and (ii (hasO k)) (ii 4) = some (ii (if hI k then 4 else 0)) ∧
    binA .and (ii (hasO k)) (ii 8) = some (ii (if hA k then 8 else 0)) ∧ 0 ≤ hasO k := by
  rcases opKind h with rfl | rfl | rfl | rfl | rfl | rfl | rfl <;> exact ⟨rfl, rfl, rfl, rfl, by decide⟩
theorem OpV.v_eq (o : OpV) : o.v = .agg #[ii o.k, .string o.name, .string o.text, ii o.n, .string o.place] := rfl
theorem op_bare_spec {A : AH} {o : OpV} {Q : Value → AH → Prop} (hk : hK o.k = true) (hq : Q (bareO o).v A) : ACalls 1 Tryd.prog op_bare [o.v] Q A := by
  refine ACalls.pure1 _ rfl hq fun Q hq => ?_
  refine ACalls.of_fits mixed fits_op_bare rfl ?_
  unfold ic_op_bare
  have i0 : initA [o.v] 0 = o.v := rfl
  generalize initA [o.v] = a at i0
  obtain ⟨k, name, text, n, place⟩ := o
  rw [OpV.v_eq] at i0 hq
  simp only [bareO] at i0 hk hq
  rcases opKind hk with rfl | rfl | rfl | rfl | rfl | rfl | rfl
  all_goals (
    simp only [hN, hT, hI, hA, Int.reduceLE, and_true, true_and, and_false, false_and, decide_true, decide_false, if_true, if_false, Bool.false_eq_true, Int.reduceEq] at hq
    simp (maxSteps := 1000000) (disch := omega) only [stepS, reduceIte, Nat.reduceBEq, Nat.reduceEqDiff, tupleOf, stepT, stepX, heapR, lensR, Nat.reduceAdd, Nat.reduceLeDiff, i0]
    refine W_alt ?_ ?_
    · simp (maxSteps := 1000000) (disch := omega) only [stepS, reduceIte, Nat.reduceBEq, Nat.reduceEqDiff, tupleOf, stepT, stepX, heapR, lensR, Nat.reduceAdd, Nat.reduceLeDiff]
      refine op_has_spec ?_
      simp only [hasO, if_true, if_false, Int.reduceEq, or_true, true_or, or_false, Int.reduceNeg]
      simp (maxSteps := 1000000) (disch := omega) only [stepS, reduceIte, Nat.reduceBEq, Nat.reduceEqDiff, tupleOf, stepT, stepX, heapR, lensR, Nat.reduceAdd, Nat.reduceLeDiff, andH]
      exact hq _ (by (repeat first | exact Le.refl _ | assumption | refine Le.app ?_ _ | refine Le.set ?_ ?_ | omega | (simp only [List.length_append, List.length_singleton, List.length_set]; omega)))
    · simp (maxSteps := 1000000) (disch := omega) only [stepS, reduceIte, Nat.reduceBEq, Nat.reduceEqDiff, tupleOf, stepT, stepX, heapR, lensR, Nat.reduceAdd, Nat.reduceLeDiff]
      refine op_has_spec ?_
      simp only [hasO, if_true, if_false, Int.reduceEq, or_true, true_or, or_false, Int.reduceNeg]
      simp (maxSteps := 1000000) (disch := omega) only [stepS, reduceIte, Nat.reduceBEq, Nat.reduceEqDiff, tupleOf, stepT, stepX, heapR, lensR, Nat.reduceAdd, Nat.reduceLeDiff, andH]
      exact hq _ (by (repeat first | exact Le.refl _ | assumption | refine Le.app ?_ _ | refine Le.set ?_ ?_ | omega | (simp only [List.length_append, List.length_singleton, List.length_set]; omega))))
def opKs : List FK := [.int .i64, .str, .str, .int .i64, .str]
theorem flat_op : flatS Tryd.prog opT opKs = true := by kernel_rfl
theorem OpV.Fin.has {o : OpV} (h : o.Fin) : All2 (fun v k => FK.Has k v) o.cs opKs := by
  obtain ⟨h1, h2, h3, h4, h5⟩ := h
  have hm : maxLen = 9223372036854775807 := by decide
  exact ⟨FK.hasI h1, show _ ≤ maxLen by omega, show _ ≤ maxLen by omega, FK.hasI h2, show _ ≤ maxLen by omega, trivial⟩
theorem eqop (A : AH) (neg : Bool) {a b : OpV} (ha : a.Fin) (hb : b.Fin) : sEqagg A neg (Tryd.prog.keyLits 8 opT) a.v b.v = some (.bool (decide (a = b) != neg), A) := by
  refine eqagg_flat flat_op ha.has hb.has ?_
  rw [decide_eq_true_eq]
  cases a; cases b
  simp [OpV.cs]
theorem bareO_fin {o : OpV} (h : o.Fin) : (bareO o).Fin := by
  obtain ⟨h1, h2, h3, h4, h5⟩ := h
  unfold bareO
  have e : e0.size = 0 := rfl
  refine ⟨h1, ?_, ?_, ?_, ?_⟩ <;> simp only <;> split <;> first | assumption | omega
theorem bare_ok {o : OpV} : bareO o = o ↔ (hN o.k = true ∨ o.name = e0) ∧ (hT o.k = true ∨ o.text = e0) ∧ (hI o.k = true ∨ o.n = 0) ∧ (hA o.k = true ∨ o.place = e0) := by
  obtain ⟨k, name, text, n, place⟩ := o
  unfold bareO
  simp only [OpV.mk.injEq, true_and]
  cases hN k <;> cases hT k <;> cases hI k <;> cases hA k <;> simp [eq_comm]
def checkO (o : OpV) : Int := if opOk o then 0 else 1
theorem op_Check_spec {A : AH} {o : OpV} {Q : Value → AH → Prop} (hs : o.Fin) (hq : Q (ii (checkO o)) A) : ACalls 1 Tryd.prog op_Check [o.v] Q A := by
  refine ACalls.pure1 _ rfl hq fun Q hq => ?_
  have hbad : opOk o = false → ∀ A', Le A A' → Q (ii 1) A' := fun h A' k => by have := hq A' k; unfold checkO at this; rw [h] at this; exact this
  have hgood : opOk o = true → ∀ A', Le A A' → Q (ii 0) A' := fun h A' k => by have := hq A' k; unfold checkO at this; rw [h] at this; exact this
  have hiff := @opOk_iff o
  have hbare := @bare_ok o
  have hs2 := hs.2.1
  have hs3 := hs.2.2.2.1
  refine ACalls.of_fits mixed fits_op_Check rfl ?_
  unfold ic_op_Check
  have i0 : initA [o.v] 0 = o.v := rfl
  generalize initA [o.v] = a at i0
  rw [OpV.v_eq] at i0
  have eb : ∀ A, sEqagg A true (Tryd.prog.keyLits 8 opT) (bareO o).v (.agg #[ii o.k, .string o.name, .string o.text, ii o.n, .string o.place]) = some (.bool (decide (bareO o = o) != true), A) := fun A => eqop A true (bareO_fin hs) hs
  have hA : ∀ {B : AH}, B = A ++ [.row [ii o.k, .string o.name, .string o.text, ii o.n, .string o.place] .own 0 true] → rowAt B A.length = some ([ii o.k, .string o.name, .string o.text, ii o.n, .string o.place], .own, 0, true) := fun h => by subst h; simp (maxSteps := 1000000) (disch := omega) only [stepS, reduceIte, Nat.reduceBEq, Nat.reduceEqDiff, tupleOf, stepT, stepX, heapR, lensR, Nat.reduceAdd, Nat.reduceLeDiff]
  refine W_mid (fun a B => B = A ++ [.row [ii o.k, .string o.name, .string o.text, ii o.n, .string o.place] .own 0 true] ∧ a 1 = ptr A.length) ?_ ?_
  · simp (maxSteps := 1000000) (disch := omega) only [stepS, reduceIte, Nat.reduceBEq, Nat.reduceEqDiff, tupleOf, stepT, stepX, heapR, lensR, Nat.reduceAdd, Nat.reduceLeDiff, i0]
  rintro a B ⟨hB, g1⟩
  have r1 := hA hB
  have hl : Le A B := by rw [hB]; exact .push _ _
  clear hA i0 hB
  refine W_mid (fun a B' => B' = B ∧ a 1 = ptr A.length ∧ a 3 = ii (hasO o.k)) ?_ ?_
  · simp (maxSteps := 1000000) (disch := omega) only [stepS, reduceIte, Nat.reduceBEq, Nat.reduceEqDiff, tupleOf, stepT, stepX, heapR, lensR, Nat.reduceAdd, Nat.reduceLeDiff, g1, r1]
    refine op_has_spec ?_
    simp (maxSteps := 1000000) (disch := omega) only [stepS, reduceIte, Nat.reduceBEq, Nat.reduceEqDiff, tupleOf, stepT, stepX, heapR, lensR, Nat.reduceAdd, Nat.reduceLeDiff, g1]
  rintro a B ⟨rfl, g1, g3⟩
  by_cases hk : hK o.k = true
  · obtain ⟨b1, b2, b4, b8, hp⟩ := and_has hk
    have hlt : ¬ hasO o.k < 0 := by omega
    refine W_mid (fun a B' => B' = B ∧ a 1 = ptr A.length ∧ a 3 = ii (hasO o.k) ∧ a 4 = .bool (!hN o.k || nameOk o.name)) ?_ ?_
    · by_cases hn : hN o.k = true
      · rw [if_pos hn] at b1
        simp (maxSteps := 1000000) (disch := omega) only [stepS, reduceIte, Nat.reduceBEq, Nat.reduceEqDiff, tupleOf, stepT, stepX, heapR, lensR, Nat.reduceAdd, Nat.reduceLeDiff, g1, g3, r1, b1]
        refine op_Name_spec ?_
        simp (maxSteps := 1000000) (disch := omega) only [stepS, reduceIte, Nat.reduceBEq, Nat.reduceEqDiff, tupleOf, stepT, stepX, heapR, lensR, Nat.reduceAdd, Nat.reduceLeDiff, g1, g3]
        simp [hn]
      · rw [if_neg hn] at b1
        simp (maxSteps := 1000000) (disch := omega) only [stepS, reduceIte, Nat.reduceBEq, Nat.reduceEqDiff, tupleOf, stepT, stepX, heapR, lensR, Nat.reduceAdd, Nat.reduceLeDiff, g1, g3, r1, b1]
        simp [hn]
    rintro a B ⟨rfl, g1, g3, g4⟩
    refine W_mid (fun a B' => B' = B ∧ a 1 = ptr A.length ∧ a 3 = ii (hasO o.k) ∧ a 4 = .bool (!hN o.k || nameOk o.name) ∧ a 5 = .bool (decide (o.text.size ≤ 48 ∧ -2147483647 ≤ o.n ∧ o.n ≤ 2147483647))) ?_ ?_
    · by_cases w1 : o.text.size ≤ 48
      · by_cases w2 : o.n ≥ -2147483647
        · simp (maxSteps := 1000000) (disch := omega) only [stepS, reduceIte, Nat.reduceBEq, Nat.reduceEqDiff, tupleOf, stepT, stepX, heapR, lensR, Nat.reduceAdd, Nat.reduceLeDiff, g1, g3, g4, r1]
          simp [w1, w2]
        · simp (maxSteps := 1000000) (disch := omega) only [stepS, reduceIte, Nat.reduceBEq, Nat.reduceEqDiff, tupleOf, stepT, stepX, heapR, lensR, Nat.reduceAdd, Nat.reduceLeDiff, g1, g3, g4, r1]
          all_goals (first | (simp; done) | (simp; omega))
      · simp (maxSteps := 1000000) (disch := omega) only [stepS, reduceIte, Nat.reduceBEq, Nat.reduceEqDiff, tupleOf, stepT, stepX, heapR, lensR, Nat.reduceAdd, Nat.reduceLeDiff, g1, g3, g4, r1]
        all_goals (first | (simp; done) | (simp; omega))
    rintro a B ⟨rfl, g1, g3, g4, g5⟩
    refine W_mid (fun a B' => B' = B ∧ a 1 = ptr A.length ∧ a 3 = ii (hasO o.k) ∧ a 4 = .bool (!hN o.k || nameOk o.name) ∧ a 5 = .bool (decide (o.text.size ≤ 48 ∧ -2147483647 ≤ o.n ∧ o.n ≤ 2147483647)) ∧ a 6 = .bool (decide (o.place = e0 ∨ o.place.size = 32))) ?_ ?_
    · by_cases hpl : o.place = e0
      · simp (maxSteps := 1000000) (disch := omega) only [stepS, reduceIte, Nat.reduceBEq, Nat.reduceEqDiff, tupleOf, stepT, stepX, heapR, lensR, Nat.reduceAdd, Nat.reduceLeDiff, g1, g3, g4, g5, r1, hpl]
        simp
      · simp (maxSteps := 1000000) (disch := omega) only [stepS, reduceIte, Nat.reduceBEq, Nat.reduceEqDiff, tupleOf, stepT, stepX, heapR, lensR, Nat.reduceAdd, Nat.reduceLeDiff, g1, g3, g4, g5, r1, hpl]
        refine ids_Right_spec ?_
        simp (maxSteps := 1000000) (disch := omega) only [stepS, reduceIte, Nat.reduceBEq, Nat.reduceEqDiff, tupleOf, stepT, stepX, heapR, lensR, Nat.reduceAdd, Nat.reduceLeDiff, g1, g3, g4, g5]
        simp [hpl]
    rintro a B ⟨rfl, g1, g3, g4, g5, g6⟩
    have fail : opOk o = false → Q (ii 1) B := fun h => hbad h _ hl
    by_cases hb : bareO o = o
    · rw [decide_eq_true hb] at eb
      change ∀ A, _ = some (Value.bool false, A) at eb
      have hb2 := hbare.1 hb
      by_cases q1 : (!hN o.k || nameOk o.name) = true
      · rw [q1] at g4
        by_cases q2 : o.text.size ≤ 48 ∧ -2147483647 ≤ o.n ∧ o.n ≤ 2147483647
        · rw [decide_eq_true q2] at g5
          by_cases q3 : o.place = e0 ∨ o.place.size = 32
          · rw [decide_eq_true q3] at g6
            by_cases q4 : o.k = 5
            · by_cases q5 : o.text = e0
              · skip
                simp (maxSteps := 1000000) (disch := omega) only [stepS, reduceIte, Nat.reduceBEq, Nat.reduceEqDiff, tupleOf, stepT, stepX, heapR, lensR, Nat.reduceAdd, Nat.reduceLeDiff, g1, g3, g4, g5, g6, r1, hlt]
                refine op_bare_spec hk ?_
                simp (maxSteps := 1000000) (disch := omega) only [stepS, reduceIte, Nat.reduceBEq, Nat.reduceEqDiff, tupleOf, stepT, stepX, heapR, lensR, Nat.reduceAdd, Nat.reduceLeDiff, g1, g4, g5, g6, r1, eb, decide_eq_true q5]
                exact fail (by rw [← Bool.not_eq_true, hiff]; exact fun h => h.2.2.2.2.2.2.2.2.1 ⟨q4, q5⟩)
              · skip
                simp (maxSteps := 1000000) (disch := omega) only [stepS, reduceIte, Nat.reduceBEq, Nat.reduceEqDiff, tupleOf, stepT, stepX, heapR, lensR, Nat.reduceAdd, Nat.reduceLeDiff, g1, g3, g4, g5, g6, r1, hlt]
                refine op_bare_spec hk ?_
                simp (maxSteps := 1000000) (disch := omega) only [stepS, reduceIte, Nat.reduceBEq, Nat.reduceEqDiff, tupleOf, stepT, stepX, heapR, lensR, Nat.reduceAdd, Nat.reduceLeDiff, g1, g4, g5, g6, r1, eb, decide_eq_false q5]
                refine hgood (hiff.2 ⟨hk, ?_, q2.1, hb2.2.1, hb2.2.2.1, hb2.2.2.2, q2.2, q3, fun h => q5 h.2, fun h => by omega⟩) _ hl
                split
                · rename_i hn; rw [hn] at q1; simpa using q1
                · rename_i hn; exact hb2.1.resolve_left hn
            · by_cases q6 : o.k = 6
              · by_cases q7 : o.place = e0
                · skip
                  simp (maxSteps := 1000000) (disch := omega) only [stepS, reduceIte, Nat.reduceBEq, Nat.reduceEqDiff, tupleOf, stepT, stepX, heapR, lensR, Nat.reduceAdd, Nat.reduceLeDiff, g1, g3, g4, g5, g6, r1, hlt]
                  refine op_bare_spec hk ?_
                  simp (maxSteps := 1000000) (disch := omega) only [stepS, reduceIte, Nat.reduceBEq, Nat.reduceEqDiff, tupleOf, stepT, stepX, heapR, lensR, Nat.reduceAdd, Nat.reduceLeDiff, g1, g4, g5, g6, r1, eb, decide_eq_true q7]
                  exact fail (by rw [← Bool.not_eq_true, hiff]; exact fun h => h.2.2.2.2.2.2.2.2.2 ⟨q6, q7⟩)
                · skip
                  simp (maxSteps := 1000000) (disch := omega) only [stepS, reduceIte, Nat.reduceBEq, Nat.reduceEqDiff, tupleOf, stepT, stepX, heapR, lensR, Nat.reduceAdd, Nat.reduceLeDiff, g1, g3, g4, g5, g6, r1, hlt]
                  refine op_bare_spec hk ?_
                  simp (maxSteps := 1000000) (disch := omega) only [stepS, reduceIte, Nat.reduceBEq, Nat.reduceEqDiff, tupleOf, stepT, stepX, heapR, lensR, Nat.reduceAdd, Nat.reduceLeDiff, g1, g4, g5, g6, r1, eb, decide_eq_false q7]
                  refine hgood (hiff.2 ⟨hk, ?_, q2.1, hb2.2.1, hb2.2.2.1, hb2.2.2.2, q2.2, q3, fun h => by omega, fun h => q7 h.2⟩) _ hl
                  split
                  · rename_i hn; rw [hn] at q1; simpa using q1
                  · rename_i hn; exact hb2.1.resolve_left hn
              · skip
                simp (maxSteps := 1000000) (disch := omega) only [stepS, reduceIte, Nat.reduceBEq, Nat.reduceEqDiff, tupleOf, stepT, stepX, heapR, lensR, Nat.reduceAdd, Nat.reduceLeDiff, g1, g3, g4, g5, g6, r1, hlt]
                refine op_bare_spec hk ?_
                simp (maxSteps := 1000000) (disch := omega) only [stepS, reduceIte, Nat.reduceBEq, Nat.reduceEqDiff, tupleOf, stepT, stepX, heapR, lensR, Nat.reduceAdd, Nat.reduceLeDiff, g1, g4, g5, g6, r1, eb]
                refine hgood (hiff.2 ⟨hk, ?_, q2.1, hb2.2.1, hb2.2.2.1, hb2.2.2.2, q2.2, q3, fun h => q4 h.1, fun h => q6 h.1⟩) _ hl
                split
                · rename_i hn; rw [hn] at q1; simpa using q1
                · rename_i hn; exact hb2.1.resolve_left hn
          · rw [decide_eq_false q3] at g6
            simp (maxSteps := 1000000) (disch := omega) only [stepS, reduceIte, Nat.reduceBEq, Nat.reduceEqDiff, tupleOf, stepT, stepX, heapR, lensR, Nat.reduceAdd, Nat.reduceLeDiff, g1, g3, g4, g5, g6, r1, hlt]
            refine op_bare_spec hk ?_
            simp (maxSteps := 1000000) (disch := omega) only [stepS, reduceIte, Nat.reduceBEq, Nat.reduceEqDiff, tupleOf, stepT, stepX, heapR, lensR, Nat.reduceAdd, Nat.reduceLeDiff, g1, g4, g5, g6, r1, eb]
            exact fail (by rw [← Bool.not_eq_true, hiff]; exact fun h => q3 h.2.2.2.2.2.2.2.1)
        · rw [decide_eq_false q2] at g5
          simp (maxSteps := 1000000) (disch := omega) only [stepS, reduceIte, Nat.reduceBEq, Nat.reduceEqDiff, tupleOf, stepT, stepX, heapR, lensR, Nat.reduceAdd, Nat.reduceLeDiff, g1, g3, g4, g5, g6, r1, hlt]
          refine op_bare_spec hk ?_
          simp (maxSteps := 1000000) (disch := omega) only [stepS, reduceIte, Nat.reduceBEq, Nat.reduceEqDiff, tupleOf, stepT, stepX, heapR, lensR, Nat.reduceAdd, Nat.reduceLeDiff, g1, g4, g5, g6, r1, eb]
          exact fail (by rw [← Bool.not_eq_true, hiff]; exact fun h => q2 ⟨h.2.2.1, h.2.2.2.2.2.2.1⟩)
      · rw [Bool.not_eq_true] at q1
        rw [q1] at g4
        simp (maxSteps := 1000000) (disch := omega) only [stepS, reduceIte, Nat.reduceBEq, Nat.reduceEqDiff, tupleOf, stepT, stepX, heapR, lensR, Nat.reduceAdd, Nat.reduceLeDiff, g1, g3, g4, g5, g6, r1, hlt]
        refine op_bare_spec hk ?_
        simp (maxSteps := 1000000) (disch := omega) only [stepS, reduceIte, Nat.reduceBEq, Nat.reduceEqDiff, tupleOf, stepT, stepX, heapR, lensR, Nat.reduceAdd, Nat.reduceLeDiff, g1, g4, g5, g6, r1, eb]
        refine fail ?_
        rw [← Bool.not_eq_true, hiff]
        intro h
        rw [Bool.or_eq_false_iff] at q1
        have hn : hN o.k = true := by simpa using q1.1
        have := h.2.1
        rw [if_pos hn, q1.2] at this
        cases this
    · rw [decide_eq_false hb] at eb
      change ∀ A, _ = some (Value.bool true, A) at eb
      simp (maxSteps := 1000000) (disch := omega) only [stepS, reduceIte, Nat.reduceBEq, Nat.reduceEqDiff, tupleOf, stepT, stepX, heapR, lensR, Nat.reduceAdd, Nat.reduceLeDiff, g1, g3, g4, g5, g6, r1, hlt]
      refine op_bare_spec hk ?_
      simp (maxSteps := 1000000) (disch := omega) only [stepS, reduceIte, Nat.reduceBEq, Nat.reduceEqDiff, tupleOf, stepT, stepX, heapR, lensR, Nat.reduceAdd, Nat.reduceLeDiff, g1, g4, g5, g6, r1, eb]
      refine fail ?_
      rw [← Bool.not_eq_true, hiff]
      intro h
      refine hb (hbare.2 ⟨?_, h.2.2.2.1, h.2.2.2.2.1, h.2.2.2.2.2.1⟩)
      have h2 := h.2.1
      by_cases hn : hN o.k = true
      · exact .inl hn
      · rw [if_neg hn] at h2; exact .inr h2
  · have fail : Q (ii 1) B := hbad (by rw [← Bool.not_eq_true, hiff]; exact fun h => hk h.1) _ hl
    have hh : hasO o.k = -1 := by
      unfold hK at hk
      rw [decide_eq_true_eq] at hk
      unfold hasO
      rw [if_neg (by omega), if_neg (by omega), if_neg (by omega), if_neg (by omega), if_neg (by omega)]
    rw [hh] at g3
    refine W_mid (fun a B' => B' = B ∧ a 1 = ptr A.length ∧ a 3 = ii (-1)) ?_ ?_
    · simp (maxSteps := 1000000) (disch := omega) only [stepS, reduceIte, Nat.reduceBEq, Nat.reduceEqDiff, tupleOf, stepT, stepX, heapR, lensR, Nat.reduceAdd, Nat.reduceLeDiff, g1, g3, r1, andH]
      refine op_Name_spec ?_
      simp (maxSteps := 1000000) (disch := omega) only [stepS, reduceIte, Nat.reduceBEq, Nat.reduceEqDiff, tupleOf, stepT, stepX, heapR, lensR, Nat.reduceAdd, Nat.reduceLeDiff, g1, g3]
    rintro a B ⟨rfl, g1, g3⟩
    refine W_mid (fun a B' => B' = B ∧ a 1 = ptr A.length ∧ a 3 = ii (-1)) ?_ ?_
    · by_cases w1 : o.text.size ≤ 48
      · by_cases w2 : o.n ≥ -2147483647
        · simp (maxSteps := 1000000) (disch := omega) only [stepS, reduceIte, Nat.reduceBEq, Nat.reduceEqDiff, tupleOf, stepT, stepX, heapR, lensR, Nat.reduceAdd, Nat.reduceLeDiff, g1, g3, r1]
        · simp (maxSteps := 1000000) (disch := omega) only [stepS, reduceIte, Nat.reduceBEq, Nat.reduceEqDiff, tupleOf, stepT, stepX, heapR, lensR, Nat.reduceAdd, Nat.reduceLeDiff, g1, g3, r1]
      · simp (maxSteps := 1000000) (disch := omega) only [stepS, reduceIte, Nat.reduceBEq, Nat.reduceEqDiff, tupleOf, stepT, stepX, heapR, lensR, Nat.reduceAdd, Nat.reduceLeDiff, g1, g3, r1]
    rintro a B ⟨rfl, g1, g3⟩
    refine W_mid (fun a B' => B' = B ∧ a 1 = ptr A.length ∧ a 3 = ii (-1)) ?_ ?_
    · by_cases hpl : o.place = e0
      · simp (maxSteps := 1000000) (disch := omega) only [stepS, reduceIte, Nat.reduceBEq, Nat.reduceEqDiff, tupleOf, stepT, stepX, heapR, lensR, Nat.reduceAdd, Nat.reduceLeDiff, g1, g3, r1, hpl]
      · simp (maxSteps := 1000000) (disch := omega) only [stepS, reduceIte, Nat.reduceBEq, Nat.reduceEqDiff, tupleOf, stepT, stepX, heapR, lensR, Nat.reduceAdd, Nat.reduceLeDiff, g1, g3, r1, hpl]
        refine ids_Right_spec ?_
        simp (maxSteps := 1000000) (disch := omega) only [stepS, reduceIte, Nat.reduceBEq, Nat.reduceEqDiff, tupleOf, stepT, stepX, heapR, lensR, Nat.reduceAdd, Nat.reduceLeDiff, g1, g3]
    rintro a B ⟨rfl, g1, g3⟩
    simp (maxSteps := 1000000) (disch := omega) only [stepS, reduceIte, Nat.reduceBEq, Nat.reduceEqDiff, tupleOf, stepT, stepX, heapR, lensR, Nat.reduceAdd, Nat.reduceLeDiff, g1, g3, r1]
    exact fail
end Go.AS.C


namespace Go.AS.C
open Go Go.Proofs
set_option linter.unusedVariables false
set_option linter.unusedSimpArgs false
set_option maxRecDepth 10000

theorem num_Put_spec {A : AH} {n : Int} {Q : Value → AH → Prop} (hok : ∀ t A', 0 ≤ n → n ≤ 2147483647 → Le A A' → OwnB A.length A' t (putN n.toNat) → Q (.tuple #[t, ii 0]) A')
    (hbad : ¬ (0 ≤ n ∧ n ≤ 2147483647) → Q (.tuple #[.slice none 0 0, ii 1]) A) : ACalls 1 Tryd.prog num_Put [ii n] Q A := by
  refine ACalls.of_fits mixed fits_num_Put rfl ?_
  unfold ic_num_Put
  have i0 : initA [ii n] 0 = ii n := rfl
  generalize initA [ii n] = a at i0
  simp (maxSteps := 1000000) (disch := omega) only [stepS, reduceIte, Nat.reduceBEq, Nat.reduceEqDiff, tupleOf, stepT, i0]
  refine num_is_spec ?_
  by_cases h : 0 ≤ n ∧ n ≤ 2147483647
  · obtain ⟨m, rfl⟩ : ∃ m : Nat, n = m := ⟨n.toNat, by omega⟩
    simp (maxSteps := 1000000) (disch := omega) only [stepS, reduceIte, Nat.reduceBEq, Nat.reduceEqDiff, tupleOf, stepT, i0]
    refine W_loop (fun a' B => ∃ (k : Nat) (z : List UInt8), Le A B ∧ k ≤ m ∧ z.length ≤ 5 ∧ a' 0 = ii k ∧ OwnB A.length B (a' 4) z ∧ z ++ putN k = putN m) (fun a' _ => (iv (a' 0)).toNat) ?_ ?_
    · refine ⟨m, [], .refl _, Nat.le_refl _, by simp, ?_⟩
      simp (maxSteps := 1000000) (disch := omega) only [stepS, reduceIte, Nat.reduceBEq, Nat.reduceEqDiff, tupleOf, stepT, i0]
      exact OwnB.nil _ _
    · rintro a2 B ⟨k, z, hle, hk, hz5, g0, g4, hz⟩
      by_cases hge : 128 ≤ k
      · have l1 := litB B [UInt8.ofNat k ||| 128] (len := 1) (ps := [(0, 1, by8 (UInt8.ofNat k ||| 128))]) rfl rfl
        have k1 : Le B (B ++ [.row (List.map by8 [UInt8.ofNat k ||| 128]) .own 1 true]) := .push _ _
        obtain ⟨v2, A2, p1, p2, p3, _⟩ := app_bytes (hle.trans k1) (OwnS.le g4 k1) (byt_last B [UInt8.ofNat k ||| 128]) (by simp; omega)
        rw [List.length_singleton] at p1
        simp only [List.map_cons, List.map_nil, List.length_singleton] at l1 p1
        simp (maxSteps := 1000000) (disch := omega) only [stepS, reduceIte, Nat.reduceBEq, Nat.reduceEqDiff, tupleOf, stepT, g0, conv_u8_ii, b8_128, binA_or8, l1, p1]
        have hlen := congrArg List.length hz
        rw [List.length_append] at hlen
        have h5 := putN_len5 (n := m) (by omega)
        have h1 := putN_pos k
        refine ⟨⟨k / 128, z ++ [UInt8.ofNat k ||| 128], p2, by omega, by simp; omega, by simp, p3, ?_⟩, by first | omega | (simp; omega)⟩
        rw [← hz, putN_big hge, or128]
        simp
      · have l1 := litB B [UInt8.ofNat k] (len := 1) (ps := [(0, 1, by8 (UInt8.ofNat k))]) rfl rfl
        have k1 : Le B (B ++ [.row (List.map by8 [UInt8.ofNat k]) .own 1 true]) := .push _ _
        obtain ⟨v2, A2, p1, p2, p3, _⟩ := app_bytes (hle.trans k1) (OwnS.le g4 k1) (byt_last B [UInt8.ofNat k]) (by simp; omega)
        rw [List.length_singleton] at p1
        simp only [List.map_cons, List.map_nil, List.length_singleton] at l1 p1
        simp (maxSteps := 1000000) (disch := omega) only [stepS, reduceIte, Nat.reduceBEq, Nat.reduceEqDiff, tupleOf, stepT, g0, conv_u8_ii, l1, p1]
        refine hok _ _ (by omega) (by omega) p2 ?_
        rw [putN_small (by omega)] at hz
        rw [hz] at p3
        exact p3
  · simp (maxSteps := 1000000) (disch := omega) only [stepS, reduceIte, Nat.reduceBEq, Nat.reduceEqDiff, tupleOf, stepT, i0]
    exact hbad h

theorem ref01_Put_spec {A : AH} {n : Int} {Q : Value → AH → Prop} (hok : ∀ t A', 0 ≤ n → n ≤ 2147483647 → Le A A' → OwnB A.length A' t (putN n.toNat) → Q (.tuple #[t, ii 0]) A')
    (hbad : ¬ (0 ≤ n ∧ n ≤ 2147483647) → Q (.tuple #[.slice none 0 0, ii 1]) A) : ACalls 1 Tryd.prog chantryref01_Put [ii n] Q A := by
  refine ACalls.of_fits mixed fits_chantryref01_Put rfl ?_
  unfold ic_chantryref01_Put
  have i0 : initA [ii n] 0 = ii n := rfl
  generalize initA [ii n] = a at i0
  by_cases h : 0 ≤ n ∧ n ≤ 2147483647
  · obtain ⟨m, rfl⟩ : ∃ m : Nat, n = m := ⟨n.toNat, by omega⟩
    simp (maxSteps := 1000000) (disch := omega) only [stepS, reduceIte, Nat.reduceBEq, Nat.reduceEqDiff, tupleOf, stepT, i0]
    refine W_loop (fun a' B => ∃ (k : Nat) (z : List UInt8), Le A B ∧ k ≤ m ∧ z.length ≤ 5 ∧ a' 0 = ii k ∧ OwnB A.length B (a' 4) z ∧ z ++ putN k = putN m) (fun a' _ => (iv (a' 0)).toNat) ?_ ?_
    · refine ⟨m, [], .refl _, Nat.le_refl _, by simp, ?_⟩
      simp (maxSteps := 1000000) (disch := omega) only [stepS, reduceIte, Nat.reduceBEq, Nat.reduceEqDiff, tupleOf, stepT, i0]
      exact OwnB.nil _ _
    · rintro a2 B ⟨k, z, hle, hk, hz5, g0, g4, hz⟩
      by_cases hge : 128 ≤ k
      · have e8 : ∀ A, sConv A .u8 (.int .i64 ((k : Int) % 128 + 128)) = some (by8 (UInt8.ofNat (k % 128 + 128)), A) := fun A => conv_u8_ii A (k % 128 + 128)
        have l1 := litB B [UInt8.ofNat (k % 128 + 128)] (len := 1) (ps := [(0, 1, by8 (UInt8.ofNat (k % 128 + 128)))]) rfl rfl
        have k1 : Le B (B ++ [.row (List.map by8 [UInt8.ofNat (k % 128 + 128)]) .own 1 true]) := .push _ _
        obtain ⟨v2, A2, p1, p2, p3, _⟩ := app_bytes (hle.trans k1) (OwnS.le g4 k1) (byt_last B [UInt8.ofNat (k % 128 + 128)]) (by simp; omega)
        rw [List.length_singleton] at p1
        simp only [List.map_cons, List.map_nil, List.length_singleton] at l1 p1
        simp (maxSteps := 1000000) (disch := omega) only [stepS, reduceIte, Nat.reduceBEq, Nat.reduceEqDiff, tupleOf, stepT, g0, e8, l1, p1]
        have hlen := congrArg List.length hz
        rw [List.length_append] at hlen
        have h5 := putN_len5 (n := m) (by omega)
        have h1 := putN_pos k
        refine ⟨⟨k / 128, z ++ [UInt8.ofNat (k % 128 + 128)], p2, by omega, by simp; omega, by simp, p3, ?_⟩, by first | omega | (simp; omega)⟩
        rw [← hz, putN_big hge]
        simp
      · have l1 := litB B [UInt8.ofNat k] (len := 1) (ps := [(0, 1, by8 (UInt8.ofNat k))]) rfl rfl
        have k1 : Le B (B ++ [.row (List.map by8 [UInt8.ofNat k]) .own 1 true]) := .push _ _
        obtain ⟨v2, A2, p1, p2, p3, _⟩ := app_bytes (hle.trans k1) (OwnS.le g4 k1) (byt_last B [UInt8.ofNat k]) (by simp; omega)
        rw [List.length_singleton] at p1
        simp only [List.map_cons, List.map_nil, List.length_singleton] at l1 p1
        simp (maxSteps := 1000000) (disch := omega) only [stepS, reduceIte, Nat.reduceBEq, Nat.reduceEqDiff, tupleOf, stepT, g0, conv_u8_ii, l1, p1]
        refine hok _ _ (by omega) (by omega) p2 ?_
        rw [putN_small (by omega)] at hz
        rw [hz] at p3
        exact p3
  · by_cases h0 : n < 0
    · simp (maxSteps := 1000000) (disch := omega) only [stepS, reduceIte, Nat.reduceBEq, Nat.reduceEqDiff, tupleOf, stepT, i0]
      exact hbad h
    · simp (maxSteps := 1000000) (disch := omega) only [stepS, reduceIte, Nat.reduceBEq, Nat.reduceEqDiff, tupleOf, stepT, i0]
      exact hbad h
end Go.AS.C


namespace Go.AS.C
open Go Go.Proofs
set_option linter.unusedVariables false
set_option linter.unusedSimpArgs false
set_option maxRecDepth 10000

theorem slices_Grow_nil {A : AH} {n : Nat} {Q : Value → AH → Prop} (hn : n ≤ 2 ^ 40) (hq : ∀ v A', Le A A' → OwnB A.length A' v [] → Q v A') : ACalls 1 Tryd.prog slices_Grow_byte_byte [.slice none 0 0, ii n] Q A := by
  refine ACalls.of_fits mixed fits_slices_Grow_byte_byte rfl ?_
  unfold ic_slices_Grow_byte_byte
  have i0 : initA [.slice none 0 0, ii n] 0 = .slice none 0 0 := rfl
  have i1 : initA [.slice none 0 0, ii n] 1 = ii n := rfl
  generalize initA [.slice none 0 0, ii n] = a at i0 i1
  have c1 : ((n : Int) < 0) = False := by simp
  have c2 : sCapn A (.slice none 0 0) = some (ii 0, A) := rfl
  have c3 : binA .sub (ii 0) (ii ((0 : Nat) : Int)) = some (ii 0) := by rw [binA_subi _ _ (by omega) (by omega)]; rfl
  have c4 : binA .sub (ii n) (ii 0) = some (ii n) := by rw [binA_subi _ _ (by omega) (by omega)]; simp
  by_cases h0 : n = 0
  · subst h0
    have c5 : (((0 : Nat) : Int) > 0) = False := by simp
    simp only [stepS, reduceIte, Nat.reduceBEq, Nat.reduceEqDiff, tupleOf, i0, i1, binA_lss, c1, c2, lens_sl, c3, c4, binA_gtr, c5]
    exact hq _ _ (.refl _) (OwnB.nil _ _)
  · have c5 : ((n : Int) > 0) = True := by simp; omega
    have c6 : sSll A (.slice none 0 0) none (some (ii 0)) none 1 = some (.slice none 0 0, A) := rfl
    obtain ⟨v', A', e1, e2, e3, _⟩ := app_own (A0 := A) (A := A) (v := .slice none 0 0) (new := (List.replicate n [Value.int .u8 0]).flatten) (k := n) (bytes := 1) (.refl _) (OwnS.nil A.length A 1) (by omega) (by omega) (by omega) (by simp) (by
      unfold ones
      rw [List.all_eq_true]
      intro x hx
      rw [List.mem_flatten] at hx
      obtain ⟨l, hl, hx⟩ := hx
      obtain rfl := List.eq_of_mem_replicate hl
      rw [List.mem_singleton] at hx
      subst hx; rfl)
    have c7 : sAppz A (.slice none 0 0) (ii n) [.int .u8 0] 1 = some (v', A') := by
      rw [appz_eq (by omega), Int.toNat_natCast]
      exact e1
    have c8 : ∃ u, sSll A' v' none (some (ii ((0 : Nat) : Int))) none 1 = some (u, A') ∧ OwnB A.length A' u [] := by
      obtain ⟨f0, f⟩ := e3
      rcases f with ⟨rfl, f⟩ | ⟨rfl, f⟩ | ⟨i, o, c, rc, ex, rfl, f1, f2, f3, f4, f5⟩
      · omega
      · omega
      · refine ⟨.slice (some ⟨i, o, none⟩) 0 c, ?_, ⟨by simp, .inr (.inr ⟨i, o, c, rc, ex, rfl, by simp, f2, f3, by simp; omega, fun j hj => by simp at hj⟩)⟩⟩
        unfold sSll boundsA rowSz
        simp only [f3]
        simp [asI]
    obtain ⟨u, c8, c9⟩ := c8
    simp only [stepS, reduceIte, Nat.reduceBEq, Nat.reduceEqDiff, tupleOf, i0, i1, binA_lss, c1, c2, lens_sl, c3, c4, binA_gtr, c5, c6, c7, c8]
    exact hq _ _ e2 c9

theorem slices_Concat_spec {A : AH} {v : Value} {vs : List Value} {bss : List (List UInt8)} {Q : Value → AH → Prop} (hv : Sl A 1 v vs.length vs) (hn : vs.length = bss.length)
    (hb : ∀ (j : Nat) x bs, vs[j]? = some x → bss[j]? = some bs → Byt A x bs) (hl : bss.flatten.length ≤ 2 ^ 40) (hc : bss.length ≤ 2 ^ 40) (hq : ∀ v A', Le A A' → OwnB A.length A' v bss.flatten → Q v A') :
    ACalls 1 Tryd.prog slices_Concat_byte_byte [v] Q A := by
  refine ACalls.of_fits mixed fits_slices_Concat_byte_byte rfl ?_
  unfold ic_slices_Concat_byte_byte
  have i0 : initA [v] 0 = v := rfl
  generalize initA [v] = a at i0
  simp only [stepS, reduceIte, Nat.reduceBEq, Nat.reduceEqDiff, tupleOf, i0, hv.len]
  refine W_loop (fun a' A' => A' = A ∧ ∃ k : Nat, k ≤ bss.length ∧ a' 0 = v ∧ a' 9 = v ∧ a' 10 = ii vs.length ∧ a' 11 = ii k ∧ a' 3 = ii (((bss.take k).flatten.length : Nat) : Int)) (fun a' _ => (bss.length - (iv (a' 11)).toNat)) ?_ ?_
  · refine ⟨rfl, 0, by omega, ?_⟩
    simp only [stepS, reduceIte, Nat.reduceBEq, Nat.reduceEqDiff, tupleOf, i0]
    simp
  · rintro a A' ⟨rfl, k, hk, g0, g9, g10, g11, g3⟩
    rcases Nat.lt_or_ge k bss.length with hlt | hge
    · have hc1 : ((k : Int) < (vs.length : Int)) = True := by simp; omega
      obtain ⟨x, hx⟩ : ∃ b, vs[k]? = some b := ⟨_, List.getElem?_eq_getElem (by omega)⟩
      obtain ⟨bs, hbs⟩ : ∃ b, bss[k]? = some b := ⟨_, List.getElem?_eq_getElem hlt⟩
      obtain ⟨p, hp1, hp2⟩ := hv.at1 hx
      have hle := flat_take_le bss (k + 1)
      have hsu := flat_take_succ bss hbs
      rw [hsu, List.length_append] at hle
      have hadd : binA .add (ii (((bss.take k).flatten.length : Nat) : Int)) (ii (bs.length : Nat)) = some (ii (((bss.take (k + 1)).flatten.length : Nat) : Int)) := by
        rw [binA_addi _ _ (by omega) (by omega), hsu, List.length_append]
        simp
      have hc2 : ((((bss.take (k + 1)).flatten.length : Nat) : Int) < 0) = False := by simp
      simp only [stepS, reduceIte, Nat.reduceBEq, Nat.reduceEqDiff, tupleOf, g0, g9, g10, g11, g3, binA_lss, hc1, hp1, hp2, (hb k x bs hx hbs).len, hadd, hc2, binA_add1 k (by omega)]
      exact ⟨⟨k + 1, by omega, rfl, rfl⟩, by omega⟩
    · have hc1 : ((k : Int) < (vs.length : Int)) = False := by simp; omega
      have hk : k = bss.length := by omega
      subst hk
      simp only [stepS, reduceIte, Nat.reduceBEq, Nat.reduceEqDiff, tupleOf, g0, g9, g10, g11, g3, binA_lss, hc1]
      rw [List.take_length]
      refine slices_Grow_nil hl fun u A1 hle1 hown => ?_
      simp only [stepS, reduceIte, Nat.reduceBEq, Nat.reduceEqDiff, tupleOf, g0, (hv.le hle1).len]
      refine W_loop (fun a' B => ∃ k : Nat, k ≤ bss.length ∧ Le A' B ∧ a' 25 = v ∧ a' 26 = ii vs.length ∧ a' 27 = ii k ∧ OwnB A'.length B (a' 6) (bss.take k).flatten) (fun a' _ => (bss.length - (iv (a' 27)).toNat)) ?_ ?_
      · refine ⟨0, by omega, hle1, ?_⟩
        simp only [stepS, reduceIte, Nat.reduceBEq, Nat.reduceEqDiff, tupleOf]
        simpa using hown
      · rintro a2 B ⟨k, hk, hle2, f25, f26, f27, f6⟩
        rcases Nat.lt_or_ge k bss.length with hlt | hge
        · have hc1 : ((k : Int) < (vs.length : Int)) = True := by simp; omega
          obtain ⟨x, hx⟩ : ∃ b, vs[k]? = some b := ⟨_, List.getElem?_eq_getElem (by omega)⟩
          obtain ⟨bs, hbs⟩ : ∃ b, bss[k]? = some b := ⟨_, List.getElem?_eq_getElem hlt⟩
          obtain ⟨p, hp1, hp2⟩ := (hv.le hle2).at1 hx
          have hle := flat_take_le bss (k + 1)
          have hsu := flat_take_succ bss hbs
          rw [hsu, List.length_append] at hle
          obtain ⟨v', B', q1, q2, q3, _⟩ := app_bytes hle2 f6 ((hb k x bs hx hbs).le hle2) (by omega)
          rw [← hsu] at q3
          simp only [stepS, reduceIte, Nat.reduceBEq, Nat.reduceEqDiff, tupleOf, f25, f26, f27, binA_lss, hc1, hp1, hp2, q1, binA_add1 k (by omega)]
          exact ⟨⟨k + 1, by omega, q2, rfl, q3⟩, by omega⟩
        · have hc1 : ((k : Int) < (vs.length : Int)) = False := by simp; omega
          have hk : k = bss.length := by omega
          subst hk
          simp only [stepS, reduceIte, Nat.reduceBEq, Nat.reduceEqDiff, tupleOf, f25, f26, f27, binA_lss, hc1]
          rw [List.take_length] at f6
          exact hq _ _ hle2 f6

end Go.AS.C


namespace Go.AS.C
open Go Go.Proofs
set_option linter.unusedVariables false
set_option linter.unusedSimpArgs false
set_option maxRecDepth 10000

theorem num_Text_spec {A : AH} {v : Value} {bs : List UInt8} {Q : Value → AH → Prop} (hv : Byt A v bs) (hok : ∀ t A', bs.length ≤ 262144 → Le A A' → OwnB A.length A' t (textN bs) → Q (.tuple #[t, ii 0]) A')
    (hbad : 262144 < bs.length → Q (.tuple #[.slice none 0 0, ii 3]) A) : ACalls 1 Tryd.prog num_Text [v] Q A := by
  refine ACalls.of_fits mixed fits_num_Text rfl ?_
  unfold ic_num_Text
  have i0 : initA [v] 0 = v := rfl
  generalize initA [v] = a at i0
  by_cases h : bs.length ≤ 262144
  · simp (maxSteps := 1000000) (disch := omega) only [stepS, reduceIte, Nat.reduceBEq, Nat.reduceEqDiff, tupleOf, stepT, i0, hv.len]
    refine num_Put_spec (fun t A1 _ _ h1 o1 => ?_) (fun h => absurd h (by omega))
    rw [Int.toNat_natCast] at o1
    have l1 := lit1 (A := A1) (z := .slice none 0 0) (len := 2) (ps := [(0, 1, t), (1, 1, v)]) [t, v] rfl rfl (by
      intro x hx
      simp only [List.mem_cons, List.not_mem_nil, or_false] at hx
      rcases hx with rfl | rfl
      · obtain ⟨p, c, hs, _⟩ := o1.byt.shape
        rw [hs]; exact one1_sl _ _ _
      · obtain ⟨p, c, hs, _⟩ := hv.shape
        rw [hs]; exact one1_sl _ _ _)
    have k1 : Le A1 (A1 ++ [.row [t, v] .own 1 true]) := .push _ _
    simp (maxSteps := 1000000) (disch := omega) only [stepS, reduceIte, Nat.reduceBEq, Nat.reduceEqDiff, tupleOf, stepT, i0, hv.len, l1]
    refine slices_Concat_spec (vs := [t, v]) (bss := [putN bs.length, bs]) (sl_last A1 (cs := [t, v]) (by simp) (by simp)) rfl ?_ ?_ (by simp) (fun u A2 h2 o2 => ?_)
    · intro j x b hx hb
      cases j with
      | zero =>
        simp only [List.getElem?_cons_zero, Option.some.injEq] at hx hb
        subst hx hb
        exact o1.byt.le k1
      | succ j =>
        cases j with
        | zero =>
          simp only [List.getElem?_cons_succ, List.getElem?_cons_zero, Option.some.injEq] at hx hb
          subst hx hb
          exact hv.le (h1.trans k1)
        | succ j => simp at hx
    · have := putN_len5 (n := bs.length) (by omega)
      simp; omega
    · simp (maxSteps := 1000000) (disch := omega) only [stepS, reduceIte, Nat.reduceBEq, Nat.reduceEqDiff, tupleOf, stepT]
      refine hok _ _ h ((h1.trans k1).trans h2) ?_
      have e : [putN bs.length, bs].flatten = textN bs := by simp [textN]
      rw [e] at o2
      exact OwnS.mono o2 (h1.trans k1).len
  · simp (maxSteps := 1000000) (disch := omega) only [stepS, reduceIte, Nat.reduceBEq, Nat.reduceEqDiff, tupleOf, stepT, i0, hv.len]
    exact hbad (by omega)

theorem ref01_Text_spec {A : AH} {v : Value} {bs : List UInt8} {Q : Value → AH → Prop} (hv : Byt A v bs) (hok : ∀ t A', bs.length ≤ 262144 → Le A A' → OwnB A.length A' t (textN bs) → Q (.tuple #[t, ii 0]) A')
    (hbad : 262144 < bs.length → Q (.tuple #[.slice none 0 0, ii 3]) A) : ACalls 1 Tryd.prog chantryref01_Text [v] Q A := by
  refine ACalls.of_fits mixed fits_chantryref01_Text rfl ?_
  unfold ic_chantryref01_Text
  have i0 : initA [v] 0 = v := rfl
  generalize initA [v] = a at i0
  by_cases h : bs.length ≤ 262144
  · simp (maxSteps := 1000000) (disch := omega) only [stepS, reduceIte, Nat.reduceBEq, Nat.reduceEqDiff, tupleOf, stepT, i0, hv.len]
    refine ref01_Put_spec (fun t A1 _ _ h1 o1 => ?_) (fun h => absurd h (by omega))
    rw [Int.toNat_natCast] at o1
    have := putN_len5 (n := bs.length) (by omega)
    obtain ⟨v2, A2, p1, p2, p3, _⟩ := app_bytes h1 o1 (hv.le h1) (by omega)
    simp (maxSteps := 1000000) (disch := omega) only [stepS, reduceIte, Nat.reduceBEq, Nat.reduceEqDiff, tupleOf, stepT, i0, p1]
    exact hok _ _ h p2 p3
  · simp (maxSteps := 1000000) (disch := omega) only [stepS, reduceIte, Nat.reduceBEq, Nat.reduceEqDiff, tupleOf, stepT, i0, hv.len]
    exact hbad (by omega)
end Go.AS.C


namespace Go.AS.C
open Go Go.Proofs
set_option linter.unusedVariables false
set_option linter.unusedSimpArgs false
set_option maxRecDepth 10000

/-- num.Fix, of a number that fits. -/
theorem num_Fix_ok {A : AH} {n w : Nat} {Q : Value → AH → Prop} (h1 : 1 ≤ w) (h4 : w ≤ 4) (hn : n ≤ 2147483647) (hw : n / 2 ^ (8 * w) = 0)
    (hq : Q (.tuple #[.slice (some ⟨A.length, 0, none⟩) w w, ii 0]) (A ++ [.row ((leB n w).map by8) .own 1 true])) : ACalls 1 Tryd.prog num_Fix [ii n, ii w] Q A := by
  refine ACalls.of_fits mixed fits_num_Fix rfl ?_
  unfold ic_num_Fix
  have i0 : initA [ii n, ii w] 0 = ii n := rfl
  have i1 : initA [ii n, ii w] 1 = ii w := rfl
  generalize initA [ii n, ii w] = a at i0 i1
  have c1 : ((w : Int) < 1) = False := by simp; omega
  have c2 : ((w : Int) > 4) = False := by simp; omega
  simp only [stepS, reduceIte, Nat.reduceBEq, Nat.reduceEqDiff, tupleOf, i0, i1, binA_lss, binA_gtr, c1, c2]
  refine num_is_spec ?_
  have c3 : ((0 : Int) ≤ n ∧ (n : Int) ≤ 2147483647) = True := by simp; omega
  have c4 : binA .mul (ii 8) (ii w) = some (ii ((8 * w : Nat) : Int)) := mul_ii 8 w (by omega)
  have c5 := shr_ii n .i64 (8 * w) (by omega)
  have c6 : (((0 : Nat) : Int) > 0) = False := by simp
  simp only [stepS, reduceIte, Nat.reduceBEq, Nat.reduceEqDiff, tupleOf, i1, i0, c3, c4, c5, hw, binA_gtr, c6]
  simp only [stepS, reduceIte, Nat.reduceBEq, Nat.reduceEqDiff, tupleOf, i1, i0, mk_bytes A w (by omega), lens_sl]
  refine W_loop (fun a' A' => ∃ k : Nat, k ≤ w ∧ a' 0 = ii n ∧ a' 6 = .slice (some ⟨A.length, 0, none⟩) w w ∧ a' 29 = ii w ∧ a' 30 = ii k ∧
      A' = A ++ [.row (((leB n w).take k ++ List.replicate (w - k) (0 : UInt8)).map by8) .own 1 true]) (fun a' _ => w - (iv (a' 30)).toNat) ?_ ?_
  · refine ⟨0, by omega, ?_⟩
    simp only [stepS, reduceIte, Nat.reduceBEq, Nat.reduceEqDiff, tupleOf, i0]
    simp
  · rintro a A' ⟨k, hk, g0, g6, g29, g30, rfl⟩
    rcases Nat.lt_or_ge k w with hlt | hge
    · have hc : ((k : Int) < (w : Int)) = True := by simp; omega
      have d1 : binA .mul (ii 8) (ii k) = some (ii ((8 * k : Nat) : Int)) := mul_ii 8 k (by omega)
      have d2 := shr_ii n .i64 (8 * k) (by omega)
      have d3 := iaddr1 (A := A ++ [.row (((leB n w).take k ++ List.replicate (w - k) (0 : UInt8)).map by8) .own 1 true]) (i := A.length) (o := 0) (c := w) hlt
      have d4 := store_by8 (o := 0 + k) (x := UInt8.ofNat (n / 2 ^ (8 * k))) (get_last A (.row (((leB n w).take k ++ List.replicate (w - k) (0 : UInt8)).map by8) .own 1 true)) (by simp [leB_length]; omega)
      simp only [stepS, reduceIte, Nat.reduceBEq, Nat.reduceEqDiff, tupleOf, g0, g6, g29, g30, binA_lss, hc, d1, d2, conv_u8_ii, d3, d4, set_last, binA_add1 k (by omega)]
      refine ⟨⟨k + 1, by omega, rfl, ?_⟩, by omega⟩
      rw [Nat.zero_add, fill_step (leB n w) 0 _ (leB_length n w) hlt]
      simp [leB, hlt]
    · have hc : ((k : Int) < (w : Int)) = False := by simp; omega
      have hkw : k = w := by omega
      subst hkw
      simp only [stepS, reduceIte, Nat.reduceBEq, Nat.reduceEqDiff, tupleOf, g0, g6, g29, g30, binA_lss, hc]
      have e : (leB n k).take k ++ List.replicate (k - k) (0 : UInt8) = leB n k := by
        rw [Nat.sub_self, List.replicate_zero, List.append_nil, List.take_of_length_le (by rw [leB_length]; exact Nat.le_refl _)]
      rw [e]
      simpa using hq

theorem num_Fix_own {A : AH} {n w : Nat} {Q : Value → AH → Prop} (h1 : 1 ≤ w) (h4 : w ≤ 4) (hn : n ≤ 2147483647) (hw : n / 2 ^ (8 * w) = 0)
    (hq : ∀ v A', Le A A' → OwnB A.length A' v (leB n w) → Q (.tuple #[v, ii 0]) A') : ACalls 1 Tryd.prog num_Fix [ii n, ii w] Q A :=
  num_Fix_ok h1 h4 hn hw (hq _ _ (.push _ _) (own_row (get_last _ _) (leB_length n w).symm (Nat.le_refl _) (Nat.le_refl _)))

end Go.AS.C


namespace Go.AS.C
open Go Go.Proofs
set_option linter.unusedVariables false
set_option linter.unusedSimpArgs false
set_option maxRecDepth 10000

theorem num_Fix_spec {A : AH} {n w : Int} {Q : Value → AH → Prop} (hok : ∀ z t A', fixF n w = some z → Le A A' → OwnB A.length A' t z → Q (.tuple #[t, ii 0]) A') (hbad : fixF n w = none → Q (.tuple #[.slice none 0 0, ii 1]) A) :
    ACalls 1 Tryd.prog num_Fix [ii n, ii w] Q A := by
  by_cases h : (1 ≤ w ∧ w ≤ 4) ∧ (0 ≤ n ∧ n ≤ 2147483647) ∧ n.toNat / 256 ^ w.toNat = 0
  · obtain ⟨⟨h1, h4⟩, ⟨h0, hm⟩, hz⟩ := h
    have e : fixF n w = some (leB n.toNat w.toNat) := by unfold fixF; rw [if_pos ⟨⟨h1, h4⟩, ⟨h0, hm⟩, hz⟩]
    obtain ⟨m, rfl⟩ : ∃ m : Nat, n = m := ⟨n.toNat, by omega⟩
    obtain ⟨k, rfl⟩ : ∃ k : Nat, w = k := ⟨w.toNat, by omega⟩
    simp only [Int.toNat_natCast] at hz e
    exact num_Fix_own (by omega) (by omega) (by omega) (by rw [pow256]; exact hz) (fun v A' h1 h2 => hok _ _ _ e h1 h2)
  · have e : fixF n w = none := by unfold fixF; rw [if_neg h]
    refine ACalls.of_fits mixed fits_num_Fix rfl ?_
    unfold ic_num_Fix
    have i0 : initA [ii n, ii w] 0 = ii n := rfl
    have i1 : initA [ii n, ii w] 1 = ii w := rfl
    generalize initA [ii n, ii w] = a at i0 i1
    by_cases h1 : w < 1
    · simp (maxSteps := 1000000) (disch := omega) only [stepS, reduceIte, Nat.reduceBEq, Nat.reduceEqDiff, tupleOf, stepT, i0, i1]
      exact hbad e
    · by_cases h4 : w > 4
      · simp (maxSteps := 1000000) (disch := omega) only [stepS, reduceIte, Nat.reduceBEq, Nat.reduceEqDiff, tupleOf, stepT, i0, i1]
        exact hbad e
      · simp (maxSteps := 1000000) (disch := omega) only [stepS, reduceIte, Nat.reduceBEq, Nat.reduceEqDiff, tupleOf, stepT, i0, i1]
        refine num_is_spec ?_
        by_cases h2 : 0 ≤ n ∧ n ≤ 2147483647
        · obtain ⟨m, rfl⟩ : ∃ m : Nat, n = m := ⟨n.toNat, by omega⟩
          obtain ⟨k, rfl⟩ : ∃ k : Nat, w = k := ⟨w.toNat, by omega⟩
          have hz : m / 2 ^ (8 * k) ≠ 0 := by
            intro hz
            refine h ⟨⟨by omega, by omega⟩, ⟨by omega, by omega⟩, ?_⟩
            rw [pow256] at hz
            simpa using hz
          have c5 : binA .shr (ii m) (.int .i64 (8 * (k : Int))) = some (ii ((m / 2 ^ (8 * k) : Nat) : Int)) := shr_ii m .i64 (8 * k) (by omega)
          have hzz : 0 < m / 2 ^ (8 * k) := Nat.pos_of_ne_zero hz
          generalize m / 2 ^ (8 * k) = q at c5 hzz
          simp (maxSteps := 1000000) (disch := omega) only [stepS, reduceIte, Nat.reduceBEq, Nat.reduceEqDiff, tupleOf, stepT, i0, i1, c5]
          exact hbad e
        · simp (maxSteps := 1000000) (disch := omega) only [stepS, reduceIte, Nat.reduceBEq, Nat.reduceEqDiff, tupleOf, stepT, i0, i1]
          exact hbad e

theorem leB_succ (n w : Nat) : leB n (w + 1) = leB n w ++ [UInt8.ofNat (n / 256 ^ w)] := by
  unfold leB
  rw [List.range_succ, List.map_append, List.map_singleton, pow256]
theorem ref01_Fix_spec {A : AH} {n w : Int} {Q : Value → AH → Prop} (hok : ∀ z t A', fixF n w = some z → Le A A' → OwnB A.length A' t z → Q (.tuple #[t, ii 0]) A') (hbad : fixF n w = none → ∀ A', Le A A' → Q (.tuple #[.slice none 0 0, ii 1]) A') :
    ACalls 1 Tryd.prog chantryref01_Fix [ii n, ii w] Q A := by
  refine ACalls.of_fits mixed fits_chantryref01_Fix rfl ?_
  unfold ic_chantryref01_Fix
  have i0 : initA [ii n, ii w] 0 = ii n := rfl
  have i1 : initA [ii n, ii w] 1 = ii w := rfl
  generalize initA [ii n, ii w] = a at i0 i1
  by_cases h : (1 ≤ w ∧ w ≤ 4) ∧ (0 ≤ n ∧ n ≤ 2147483647)
  · obtain ⟨m, rfl⟩ : ∃ m : Nat, n = m := ⟨n.toNat, by omega⟩
    obtain ⟨k, rfl⟩ : ∃ k : Nat, w = k := ⟨w.toNat, by omega⟩
    simp (maxSteps := 1000000) (disch := omega) only [stepS, reduceIte, Nat.reduceBEq, Nat.reduceEqDiff, tupleOf, stepT, i0, i1]
    refine W_loop (fun a' B => ∃ j : Nat, j ≤ k ∧ Le A B ∧ a' 1 = ii k ∧ a' 0 = ii (m / 256 ^ j : Nat) ∧ a' 7 = ii j ∧ OwnB A.length B (a' 6) (leB m j)) (fun a' _ => k - (iv (a' 7)).toNat) ?_ ?_
    · refine ⟨0, by omega, .refl _, ?_⟩
      simp (maxSteps := 1000000) (disch := omega) only [stepS, reduceIte, Nat.reduceBEq, Nat.reduceEqDiff, tupleOf, stepT, i0, i1]
      exact ⟨by simp, rfl, OwnB.nil _ _⟩
    · rintro a2 B ⟨j, hj, hle, g1, g0, g7, g6⟩
      have hdm : m / 256 ^ j ≤ m := Nat.div_le_self _ _
      rcases Nat.lt_or_ge j k with hlt | hge
      · generalize hq0 : m / 256 ^ j = q at g0 hdm
        have e8 : ∀ A, sConv A .u8 (.int .i64 ((q : Int) % 256)) = some (by8 (UInt8.ofNat q), A) := fun A => by
          have := conv_u8_ii A (q % 256)
          rw [show UInt8.ofNat (q % 256) = UInt8.ofNat q from u8eq (by omega)] at this
          exact this
        have l1 := litB B [UInt8.ofNat q] (len := 1) (ps := [(0, 1, by8 (UInt8.ofNat q))]) rfl rfl
        have k1 : Le B (B ++ [.row (List.map by8 [UInt8.ofNat q]) .own 1 true]) := .push _ _
        obtain ⟨v2, A2, p1, p2, p3, _⟩ := app_bytes (hle.trans k1) (OwnS.le g6 k1) (byt_last B [UInt8.ofNat q]) (by simp [leB_length]; omega)
        rw [List.length_singleton] at p1
        simp only [List.map_cons, List.map_nil, List.length_singleton] at l1 p1
        simp (maxSteps := 1000000) (disch := omega) only [stepS, reduceIte, Nat.reduceBEq, Nat.reduceEqDiff, tupleOf, stepT, g0, g1, g7, e8, l1, p1]
        refine ⟨⟨j + 1, by omega, p2, ?_, rfl, ?_⟩, by omega⟩
        · rw [Nat.pow_succ, ← Nat.div_div_eq_div_mul, hq0]
          rfl
        · rw [leB_succ, hq0]
          exact p3
      · have hjk : j = k := by omega
        subst hjk
        generalize hq0 : m / 256 ^ j = q at g0 hdm
        by_cases hz : q = 0
        · simp (maxSteps := 1000000) (disch := omega) only [stepS, reduceIte, Nat.reduceBEq, Nat.reduceEqDiff, tupleOf, stepT, g0, g1, g7]
          have e : fixF m j = some (leB m j) := by
            unfold fixF
            rw [if_pos ⟨⟨by omega, by omega⟩, ⟨by omega, by omega⟩, by simpa [hq0] using hz⟩]
            rfl
          exact hok _ _ _ e hle g6
        · simp (maxSteps := 1000000) (disch := omega) only [stepS, reduceIte, Nat.reduceBEq, Nat.reduceEqDiff, tupleOf, stepT, g0, g1, g7]
          refine hbad ?_ _ hle
          unfold fixF
          rw [if_neg]
          rintro ⟨_, _, h3⟩
          simp [hq0] at h3
          omega
  · have e : fixF n w = none := by
      unfold fixF
      rw [if_neg (fun hc => h ⟨hc.1, hc.2.1⟩)]
    by_cases h1 : w < 1
    · simp (maxSteps := 1000000) (disch := omega) only [stepS, reduceIte, Nat.reduceBEq, Nat.reduceEqDiff, tupleOf, stepT, i0, i1]
      exact hbad e _ (.refl _)
    · by_cases h4 : w > 4
      · simp (maxSteps := 1000000) (disch := omega) only [stepS, reduceIte, Nat.reduceBEq, Nat.reduceEqDiff, tupleOf, stepT, i0, i1]
        exact hbad e _ (.refl _)
      · by_cases h0 : n < 0
        · simp (maxSteps := 1000000) (disch := omega) only [stepS, reduceIte, Nat.reduceBEq, Nat.reduceEqDiff, tupleOf, stepT, i0, i1]
          exact hbad e _ (.refl _)
        · simp (maxSteps := 1000000) (disch := omega) only [stepS, reduceIte, Nat.reduceBEq, Nat.reduceEqDiff, tupleOf, stepT, i0, i1]
          exact hbad e _ (.refl _)
end Go.AS.C


namespace Go.AS.C
open Go Go.Proofs
set_option linter.unusedVariables false
set_option linter.unusedSimpArgs false
set_option maxRecDepth 10000

/-! op.Put. -/
theorem op_truth_spec {A : AH} {b : Bool} {Q : Value → AH → Prop} (hq : Q (by8 (if b then 1 else 0)) A) : ACalls 1 Tryd.prog op_truth [.bool b] Q A := by
  refine ACalls.of_fits mixed fits_op_truth rfl ?_
  unfold ic_op_truth
  have i0 : initA [.bool b] 0 = .bool b := rfl
  generalize initA [.bool b] = a at i0
  cases b
  · simp (maxSteps := 1000000) (disch := omega) only [stepS, reduceIte, Nat.reduceBEq, Nat.reduceEqDiff, tupleOf, stepT, i0]
    exact hq
  · simp (maxSteps := 1000000) (disch := omega) only [stepS, reduceIte, Nat.reduceBEq, Nat.reduceEqDiff, tupleOf, stepT, i0]
    exact hq
/-- Bytes that are put together behind a pointer. -/
structure OutA (A0 A : AH) (i : Nat) (bs : List UInt8) : Prop where
  le : Le A0 A
  ge : A0.length ≤ i
  cell : ∃ v, A[i]? = some (.row [v] .own 0 true) ∧ OwnB A0.length A v bs
theorem OutA.more {A0 A B : AH} {i : Nat} {bs : List UInt8} (h : OutA A0 A i bs) (hl : Le A B) : OutA A0 B i bs := by
  obtain ⟨h1, h2, v, h3, h4⟩ := h
  exact ⟨h1.trans hl, h2, v, hl.get h3, h4.le hl⟩
/-- Something is appended. -/
theorem OutA.app {A0 A : AH} {i : Nat} {bs xs : List UInt8} {x : Value} (h : OutA A0 A i bs) (hx : Byt A x xs) (hb : bs.length + xs.length ≤ 2 ^ 47) :
    ∃ v u B C, sLoad1 A (ptr i) = some (v, A) ∧ (∀ k ∈ blkOf v, k ≠ i) ∧ sApp A v x 1 1 = some (u, B) ∧ sStore B (ptr i) u 1 = some (undef, C) ∧ OutA A0 C i (bs ++ xs) ∧ (∀ k cs ex, k ≠ i → A[k]? = some (.row cs .own 0 ex) → C[k]? = some (.row cs .own 0 ex)) := by
  obtain ⟨h1, h2, v, h3, h4⟩ := h
  obtain ⟨u, B, p1, p2, p3, p4, p5, p6, p7⟩ := app_put (o := 0) h1 h2 h3 rfl h4 hx hb
  refine ⟨v, u, B, _, row_load h3 (by simp) rfl, Sl.blk h4.sl h3 (by decide), p1, p3, ⟨p4, h2, u, p6, p5⟩, fun k cs ex hk hr => p7 k _ hk hr fun hm => ?_⟩
  exact Sl.blk h4.sl hr (by decide) k hm rfl
theorem OutA.appV {A0 A : AH} {i : Nat} {bs xs : List UInt8} {v x : Value} (h1 : Le A0 A) (h2 : A0.length ≤ i) (h3 : A[i]? = some (.row [v] .own 0 true)) (h4 : OwnB A0.length A v bs) (hx : Byt A x xs) (hb : bs.length + xs.length ≤ 2 ^ 47) :
    ∃ u B C, sApp A v x 1 1 = some (u, B) ∧ sStore B (ptr i) u 1 = some (undef, C) ∧ OutA A0 C i (bs ++ xs) ∧ (∀ k cs ex, k ≠ i → A[k]? = some (.row cs .own 0 ex) → C[k]? = some (.row cs .own 0 ex)) := by
  obtain ⟨u, B, p1, p2, p3, p4, p5, p6, p7⟩ := app_put (o := 0) h1 h2 h3 rfl h4 hx hb
  refine ⟨u, B, _, p1, p3, ⟨p4, h2, u, p6, p5⟩, fun k cs ex hk hr => p7 k _ hk hr fun hm => ?_⟩
  exact Sl.blk h4.sl hr (by decide) k hm rfl
/-- Two things are appended. -/
theorem OutA.app2 {A0 A : AH} {i : Nat} {bs xs ys : List UInt8} {v x y : Value} (h1 : Le A0 A) (h2 : A0.length ≤ i) (h3 : A[i]? = some (.row [v] .own 0 true)) (h4 : OwnB A0.length A v bs) (hx : Byt A x xs) (hy : Byt A y ys) (hd : ∀ k ∈ blkOf y, k ∉ blkOf v) (hb : bs.length + xs.length + ys.length ≤ 2 ^ 47) :
    ∃ u1 B1 u B C, sApp A v x 1 1 = some (u1, B1) ∧ sApp B1 u1 y 1 1 = some (u, B) ∧ sStore B (ptr i) u 1 = some (undef, C) ∧ OutA A0 C i (bs ++ xs ++ ys) ∧ (∀ k cs ex, k ≠ i → A[k]? = some (.row cs .own 0 ex) → C[k]? = some (.row cs .own 0 ex)) := by
  obtain ⟨u1, B1, p1, p2, p3, p4⟩ := app_bytes h1 h4 hx (by omega)
  have keepz : ∀ (k : Nat) (cs : List Value) (ex : Bool), A[k]? = some (Blk.row cs .own 0 ex) → B1[k]? = some (Blk.row cs .own 0 ex) := fun k cs ex hr => p4 k _ hr fun o c e => Sl.blk h4.sl hr (by decide) k (by rw [e]; simp [blkOf]) rfl
  have hy1 : Byt B1 y ys := hy.keepB fun k b hb hk => p4 k b hb fun o c e => hd k hk (by rw [e]; simp [blkOf])
  obtain ⟨u, B, p5, p6, p7, p8⟩ := app_bytes p2 p3 hy1 (by simp only [List.length_append]; omega)
  have keepz2 : ∀ (k : Nat) (cs : List Value) (ex : Bool), A[k]? = some (Blk.row cs .own 0 ex) → B[k]? = some (Blk.row cs .own 0 ex) := fun k cs ex hr => p8 k _ (keepz k cs ex hr) fun o c e => Sl.blk p3.sl (keepz k cs ex hr) (by decide) k (by rw [e]; simp [blkOf]) rfl
  have g := keepz2 i _ _ h3
  have h1u : one1 u := by obtain ⟨p, c, hs, _⟩ := p7.byt.shape; rw [hs]; exact one1_sl _ _ _
  refine ⟨u1, B1, u, B, _, p1, p5, row_store g (by simp) h1u, ⟨p6.set h2, h2, u, set_get g, OwnB.kp p7 (Keep.set _ _ _) g⟩, fun k cs ex hk hr => ?_⟩
  rw [List.getElem?_set_ne (Ne.symm hk)]
  exact keepz2 k cs ex hr
theorem negI (n : Int) (h1 : -9223372036854775808 < n) (h2 : n < 9223372036854775808) : unA .neg (.int .i64 n) = some (.int .i64 (0 - n)) := by
  simp only [unA]
  rw [wrap_i64 _ (by omega) (by omega)]
theorem op_Put_1_fits : Fits Tryd.prog 1 op_Put_1 ic_op_Put_1 [] 2 := fits_op_Put_1.more 2 (by kernel_rfl)
theorem op_Put_1_ok : calleeOk Tryd.prog op_Put_1 = true := by kernel_rfl
theorem op_Put_1_spec {A A0 : AH} {i : Nat} {s : ByteArray} {bs : List UInt8} {Q : Value → AH → Prop} (h : OutA A0 A i bs) (hs : s.size ≤ 1000) (hb : bs.length ≤ 1000)
    (hq : ∀ A', OutA A0 A' i (bs ++ textN (bl s)) → (∀ k cs ex, k ≠ i → A[k]? = some (.row cs .own 0 ex) → A'[k]? = some (.row cs .own 0 ex)) → Q (.tuple #[]) A') : ACalls 1 Tryd.prog op_Put_1 [.string s, ptr i] Q A := by
  refine ACalls.of_fits mixed op_Put_1_fits rfl ?_
  unfold ic_op_Put_1
  have i0 : initA [.string s, ptr i] 0 = .string s := rfl
  have i1 : initA [.string s, ptr i] 1 = ptr i := rfl
  generalize initA [.string s, ptr i] = a at i0 i1
  simp (maxSteps := 1000000) (disch := omega) only [stepS, reduceIte, Nat.reduceBEq, Nat.reduceEqDiff, tupleOf, stepT, i0, i1, s2b_eq]
  have k1 : Le A (A ++ [.row (s.data.toList.map by8) .own 1 false]) := .push _ _
  refine num_Text_spec (byt_s2b s) (fun t A1 h1 k2 o1 => ?_) (fun h => absurd h (by rw [bl_size]; omega))
  have hto : (textN (bl s)).length ≤ 1100 := by
    unfold textN
    have := putN_len5 (n := (bl s).length) (by rw [bl_size]; omega)
    rw [List.length_append, bl_size]
    rw [bl_size] at this
    omega
  obtain ⟨v, u, B, C, q1, _, q2, q3, q4, q5⟩ := (h.more (k1.trans k2)).app (xs := textN (bl s)) o1.byt (by omega)
  simp (maxSteps := 1000000) (disch := omega) only [stepS, reduceIte, Nat.reduceBEq, Nat.reduceEqDiff, tupleOf, stepT, i0, i1, q1, q2, q3]
  exact hq _ q4 fun k cs ex hk hr => q5 k cs ex hk ((k1.trans k2).get hr)
theorem lit_by8 (A : AH) (b : UInt8) : sLit A [.int .u8 0] 1 1 [(0, 1, by8 b)] = some (.slice (some ⟨A.length, 0, none⟩) 1 1, A ++ [.row [by8 b] .own 1 true]) := litB A [b] rfl rfl
theorem byt_by8 (A : AH) (b : UInt8) : Byt (A ++ [.row [by8 b] .own 1 true]) (.slice (some ⟨A.length, 0, none⟩) 1 1) [b] := byt_last A [b]
def pA (o : OpV) : List UInt8 := [UInt8.ofNat o.k.toNat]
def pB (o : OpV) : List UInt8 := pA o ++ (if hN o.k then textN (bl o.name) else [])
def pC (o : OpV) : List UInt8 := pB o ++ (if hT o.k then textN (bl o.text) else [])
def pD (o : OpV) : List UInt8 := pC o ++ (if hI o.k then numO o.n else [])
def pE (o : OpV) : List UInt8 := pD o ++ (if o.k = 5 then [if o.place = e0 then 0 else 1] else [])
theorem putO_pE (o : OpV) : putO o = pE o ++ bl o.place := by
  unfold pE pD pC pB pA putO
  simp
theorem textN_len {s : ByteArray} (h : s.size ≤ 300) : (textN (bl s)).length ≤ 310 := by
  unfold textN
  have := putN_len5 (n := (bl s).length) (by rw [bl_size]; omega)
  rw [List.length_append, bl_size]
  rw [bl_size] at this
  omega
theorem conv_kind {k : Int} (h : hK k = true) (A : AH) : sConv A .u8 (ii k) = some (by8 (UInt8.ofNat k.toNat), A) := by
  have hk : 1 ≤ k ∧ k ≤ 7 := by unfold hK at h; rw [decide_eq_true_eq] at h; exact h
  obtain ⟨m, rfl⟩ : ∃ m : Nat, k = m := ⟨k.toNat, by omega⟩
  exact conv_u8_ii A m
theorem op_Put_spec {A : AH} {o : OpV} {Q : Value → AH → Prop} (hs : o.Fin) (hok : opOk o = true → ∀ A' t, Le A A' → OwnB A.length A' t (putO o) → Q (.tuple #[t, ii 0]) A') (hbad : opOk o = false → ∀ A', Le A A' → Q (.tuple #[.slice none 0 0, ii 1]) A') : ACalls 1 Tryd.prog op_Put [o.v] Q A := by
  refine ACalls.of_fits mixed fits_op_Put rfl ?_
  unfold ic_op_Put
  have i0 : initA [o.v] 0 = o.v := rfl
  generalize initA [o.v] = a at i0
  rw [OpV.v_eq] at i0
  have hA : ∀ {B : AH}, B = A ++ [.row [ii o.k, .string o.name, .string o.text, ii o.n, .string o.place] .own 0 true] → rowAt B A.length = some ([ii o.k, .string o.name, .string o.text, ii o.n, .string o.place], .own, 0, true) := fun h => by subst h; simp (maxSteps := 1000000) (disch := omega) only [stepS, reduceIte, Nat.reduceBEq, Nat.reduceEqDiff, tupleOf, stepT, stepX, heapR, lensR, Nat.reduceAdd, Nat.reduceLeDiff]
  refine W_mid (fun a B => B = A ++ [.row [ii o.k, .string o.name, .string o.text, ii o.n, .string o.place] .own 0 true] ∧ a 1 = ptr A.length) ?_ ?_
  · simp (maxSteps := 1000000) (disch := omega) only [stepS, reduceIte, Nat.reduceBEq, Nat.reduceEqDiff, tupleOf, stepT, stepX, heapR, lensR, Nat.reduceAdd, Nat.reduceLeDiff, i0]
  rintro a B ⟨hB, g1⟩
  have r1 := hA hB
  have hl : Le A B := by rw [hB]; exact .push _ _
  have hlen : B.length = A.length + 1 := by rw [hB]; simp
  clear hA i0 hB
  refine W_midR (fun a B' => opOk o = true ∧ B' = B ∧ a 1 = ptr A.length) ?_ ?_
  · simp (maxSteps := 1000000) (disch := omega) only [stepS, reduceIte, Nat.reduceBEq, Nat.reduceEqDiff, tupleOf, stepT, stepX, heapR, lensR, Nat.reduceAdd, Nat.reduceLeDiff, g1, r1]
    refine op_Check_spec hs ?_
    unfold checkO
    cases hop : opOk o with
    | false =>
      simp (maxSteps := 1000000) (disch := omega) only [stepS, reduceIte, Nat.reduceBEq, Nat.reduceEqDiff, tupleOf, stepT, stepX, heapR, lensR, Nat.reduceAdd, Nat.reduceLeDiff, g1, r1, reduceCtorEq, false_and, false_or, true_and]
      exact hbad hop _ hl
    | true =>
      simp (maxSteps := 1000000) (disch := omega) only [stepS, reduceIte, Nat.reduceBEq, Nat.reduceEqDiff, tupleOf, stepT, stepX, heapR, lensR, Nat.reduceAdd, Nat.reduceLeDiff, g1, r1, reduceCtorEq, false_and, or_false, true_and]
  rintro a B ⟨hop, rfl, g1⟩
  obtain ⟨h1, h2, h3, h4, h5, h6, h7, h8, h9, h10⟩ := opOk_iff.1 hop
  obtain ⟨b1, b2, b4, b8, hp⟩ := and_has h1
  have hck := conv_kind h1
  clear hbad
  refine W_mid (fun a B' => B' = B ∧ a 1 = ptr A.length ∧ a 5 = ii (hasO o.k)) ?_ ?_
  · simp (maxSteps := 1000000) (disch := omega) only [stepS, reduceIte, Nat.reduceBEq, Nat.reduceEqDiff, tupleOf, stepT, stepX, heapR, lensR, Nat.reduceAdd, Nat.reduceLeDiff, g1, r1]
    refine op_has_spec ?_
    simp (maxSteps := 1000000) (disch := omega) only [stepS, reduceIte, Nat.reduceBEq, Nat.reduceEqDiff, tupleOf, stepT, stepX, heapR, lensR, Nat.reduceAdd, Nat.reduceLeDiff, g1]
  rintro a B ⟨rfl, g1, g5⟩
  have hj : A.length < B.length := lt_of_get (rowAt_get r1)
  refine W_mid (fun a B' => OutA A B' (B.length + 1) (pA o) ∧ rowAt B' A.length = some ([ii o.k, .string o.name, .string o.text, ii o.n, .string o.place], .own, 0, true) ∧ a 1 = ptr A.length ∧ a 5 = ii (hasO o.k) ∧ a 6 = ptr (B.length + 1)) ?_ ?_
  · simp (maxSteps := 1000000) (disch := omega) only [stepS, reduceIte, Nat.reduceBEq, Nat.reduceEqDiff, tupleOf, stepT, stepX, heapR, lensR, Nat.reduceAdd, Nat.reduceLeDiff, g1, g5, r1, hck, lit_by8]
    refine ⟨?_, by omega, .slice (some ⟨B.length, 0, none⟩) 1 1, rowAt_get (ex := true) (by simp (maxSteps := 1000000) (disch := omega) only [stepS, reduceIte, Nat.reduceBEq, Nat.reduceEqDiff, tupleOf, stepT, stepX, heapR, lensR, Nat.reduceAdd, Nat.reduceLeDiff]), own_row (bs := pA o) (ex := true) (rowAt_get (by simp (maxSteps := 1000000) (disch := omega) only [stepS, reduceIte, Nat.reduceBEq, Nat.reduceEqDiff, tupleOf, stepT, stepX, heapR, lensR, Nat.reduceAdd, Nat.reduceLeDiff, pA, List.map_cons, List.map_nil])) rfl (by omega) (by omega)⟩
    (repeat first | exact Le.refl _ | assumption | refine Le.app ?_ _ | refine Le.set ?_ ?_ | omega | (simp only [List.length_append, List.length_singleton, List.length_set]; omega))
  rintro a B' ⟨o1, r1, g1, g5, g6⟩
  generalize hi : B.length + 1 = i at *
  have hji : A.length ≠ i := by omega
  clear hl
  refine W_mid (fun a B => B = B' ∧ a 1 = ptr A.length ∧ a 5 = ii (hasO o.k) ∧ a 6 = ptr i ∧ a 7 = .func (.func op_Put_1) #[] #[ptr i]) ?_ ?_
  · simp (maxSteps := 1000000) (disch := omega) only [stepS, reduceIte, Nat.reduceBEq, Nat.reduceEqDiff, tupleOf, stepT, stepX, heapR, lensR, Nat.reduceAdd, Nat.reduceLeDiff, g1, g5, g6]
    all_goals (first | trivial | rfl)
  rintro a B ⟨rfl, g1, g5, g6, g7⟩
  have lenA : (pA o).length = 1 := rfl
  have nm : hN o.k = true → o.name.size ≤ 12 := fun h => by rw [if_pos h] at h2; exact (nameOk_size h2).2
  have keep : ∀ {C D : AH}, rowAt C A.length = some ([ii o.k, .string o.name, .string o.text, ii o.n, .string o.place], .own, 0, true) → (∀ k cs ex, k ≠ i → C[k]? = some (.row cs .own 0 ex) → D[k]? = some (.row cs .own 0 ex)) → rowAt D A.length = some ([ii o.k, .string o.name, .string o.text, ii o.n, .string o.place], .own, 0, true) :=
    fun h1 h2 => rowAt_own (h2 _ _ _ hji (rowAt_get h1))
  refine W_mid (fun a B' => OutA A B' i (pB o) ∧ rowAt B' A.length = some ([ii o.k, .string o.name, .string o.text, ii o.n, .string o.place], .own, 0, true) ∧ a 1 = ptr A.length ∧ a 5 = ii (hasO o.k) ∧ a 6 = ptr i ∧ a 7 = .func (.func op_Put_1) #[] #[ptr i]) ?_ ?_
  · cases hn : hN o.k with
    | true =>
      have e : pB o = pA o ++ textN (bl o.name) := by unfold pB; rw [hn]; rfl
      rw [hn, if_pos rfl] at b1
      have := nm hn
      simp (maxSteps := 1000000) (disch := omega) only [stepS, reduceIte, Nat.reduceBEq, Nat.reduceEqDiff, tupleOf, stepT, stepX, heapR, lensR, Nat.reduceAdd, Nat.reduceLeDiff, g1, g5, g6, g7, b1, r1]
      refine ⟨op_Put_1_ok, op_Put_1_spec o1 (by omega) (by omega) fun C o2 kk => ?_⟩
      simp (maxSteps := 1000000) (disch := omega) only [stepS, reduceIte, Nat.reduceBEq, Nat.reduceEqDiff, tupleOf, stepT, stepX, heapR, lensR, Nat.reduceAdd, Nat.reduceLeDiff, g1, g5, g6, g7]
      rw [e]
      exact ⟨o2, keep r1 kk⟩
    | false =>
      have e : pB o = pA o := by unfold pB; rw [hn]; simp
      rw [hn, if_neg (by simp)] at b1
      simp (maxSteps := 1000000) (disch := omega) only [stepS, reduceIte, Nat.reduceBEq, Nat.reduceEqDiff, tupleOf, stepT, stepX, heapR, lensR, Nat.reduceAdd, Nat.reduceLeDiff, g1, g5, g6, g7, b1, r1]
      rw [e]
      exact o1
  rintro a B' ⟨o2, r2, g1, g5, g6, g7⟩
  have lenB : (pB o).length ≤ 400 := by
    unfold pB
    cases hn : hN o.k with
    | true => have := nm hn; have := textN_len (s := o.name) (by omega); simp; omega
    | false => simp; omega
  clear r1 o1 B
  refine W_mid (fun a B => OutA A B i (pC o) ∧ rowAt B A.length = some ([ii o.k, .string o.name, .string o.text, ii o.n, .string o.place], .own, 0, true) ∧ a 1 = ptr A.length ∧ a 5 = ii (hasO o.k) ∧ a 6 = ptr i) ?_ ?_
  · cases hn : hT o.k with
    | true =>
      have e : pC o = pB o ++ textN (bl o.text) := by unfold pC; rw [hn]; rfl
      rw [hn, if_pos rfl] at b2
      simp (maxSteps := 1000000) (disch := omega) only [stepS, reduceIte, Nat.reduceBEq, Nat.reduceEqDiff, tupleOf, stepT, stepX, heapR, lensR, Nat.reduceAdd, Nat.reduceLeDiff, g1, g5, g6, g7, b2, r2]
      refine ⟨op_Put_1_ok, op_Put_1_spec o2 (by omega) (by omega) fun C o3 kk => ?_⟩
      simp (maxSteps := 1000000) (disch := omega) only [stepS, reduceIte, Nat.reduceBEq, Nat.reduceEqDiff, tupleOf, stepT, stepX, heapR, lensR, Nat.reduceAdd, Nat.reduceLeDiff, g1, g5, g6, g7]
      rw [e]
      exact ⟨o3, keep r2 kk⟩
    | false =>
      have e : pC o = pB o := by unfold pC; rw [hn]; simp
      rw [hn, if_neg (by simp)] at b2
      simp (maxSteps := 1000000) (disch := omega) only [stepS, reduceIte, Nat.reduceBEq, Nat.reduceEqDiff, tupleOf, stepT, stepX, heapR, lensR, Nat.reduceAdd, Nat.reduceLeDiff, g1, g5, g6, g7, b2, r2]
      rw [e]
      exact o2
  rintro a B ⟨o3, r3, g1, g5, g6⟩
  have lenC : (pC o).length ≤ 800 := by
    unfold pC
    have := textN_len (s := o.text) (by omega)
    cases hn : hT o.k with
    | true => simp; omega
    | false => simp; omega
  clear r2 o2 B'
  refine W_mid (fun a B => OutA A B i (pD o) ∧ rowAt B A.length = some ([ii o.k, .string o.name, .string o.text, ii o.n, .string o.place], .own, 0, true) ∧ a 1 = ptr A.length ∧ a 6 = ptr i) ?_ ?_
  · cases hn : hI o.k with
    | true =>
      rw [hn, if_pos rfl] at b4
      have hf : fixF (max o.n (0 - o.n)) 4 = some (leB o.n.natAbs 4) := by
        have hm : max o.n (0 - o.n) = (o.n.natAbs : Int) := by omega
        rw [hm]
        unfold fixF
        have : o.n.natAbs / 256 ^ 4 = 0 := Nat.div_eq_of_lt (by omega)
        rw [if_pos ⟨by omega, by omega, by simpa using this⟩]
        rfl
      simp (maxSteps := 1000000) (disch := omega) only [stepS, reduceIte, Nat.reduceBEq, Nat.reduceEqDiff, tupleOf, stepT, stepX, heapR, lensR, Nat.reduceAdd, Nat.reduceLeDiff, g1, g5, g6, b4, r3, negI]
      refine num_Fix_spec (fun z t C hz k1 o4 => ?_) (fun h => by rw [hf] at h; cases h)
      rw [hf] at hz
      obtain rfl := Option.some.inj hz
      obtain ⟨c1, c2, v, c3, c4⟩ := o3
      have c5 := k1.get c3
      have r4 := k1.row r3
      have hlt : ∀ k ∈ blkOf v, k < B.length := fun k hk => (OwnS.ge c4 k hk).2
      have e : pD o = pC o ++ [if o.n < 0 then 1 else 0] ++ leB o.n.natAbs 4 := by unfold pD; rw [hn]; simp [numO]
      simp (maxSteps := 1000000) (disch := omega) only [stepS, reduceIte, Nat.reduceBEq, Nat.reduceEqDiff, tupleOf, stepT, stepX, heapR, lensR, Nat.reduceAdd, Nat.reduceLeDiff, g1, g5, g6, r4, rowAt_own c5]
      refine op_truth_spec ?_
      rw [show (if decide (o.n < 0) = true then (1 : UInt8) else 0) = (if o.n < 0 then 1 else 0) by simp]
      have k2 : Le C (C ++ [.row [by8 (if o.n < 0 then 1 else 0)] .own 1 true]) := .push _ _
      obtain ⟨u1, D1, u, D, E, q1, q2, q3, q4, q5⟩ := OutA.app2 ((c1.trans k1).trans k2) c2 (k2.get c5) (c4.le (k1.trans k2)) (byt_by8 C _) (o4.byt.le k2) (fun k hk hv => by have h1 := hlt k hv; have h2 := (OwnS.ge o4 k hk).1; omega) (by simp [leB_length]; omega)
      simp (maxSteps := 1000000) (disch := omega) only [stepS, reduceIte, Nat.reduceBEq, Nat.reduceEqDiff, tupleOf, stepT, stepX, heapR, lensR, Nat.reduceAdd, Nat.reduceLeDiff, g1, g5, g6, lit_by8, q1, q2, q3]
      rw [e]
      exact ⟨q4, keep (k2.row r4) q5⟩
    | false =>
      have e : pD o = pC o := by unfold pD; rw [hn]; simp
      rw [hn, if_neg (by simp)] at b4
      simp (maxSteps := 1000000) (disch := omega) only [stepS, reduceIte, Nat.reduceBEq, Nat.reduceEqDiff, tupleOf, stepT, stepX, heapR, lensR, Nat.reduceAdd, Nat.reduceLeDiff, g1, g5, g6, b4, r3]
      rw [e]
      exact o3
  rintro a B' ⟨o4, r4, g1, g6⟩
  have lenD : (pD o).length ≤ 900 := by
    unfold pD
    cases hn : hI o.k with
    | true => simp [numO, leB_length]; omega
    | false => simp; omega
  clear r3 o3 B
  refine W_mid (fun a B => OutA A B i (pE o) ∧ rowAt B A.length = some ([ii o.k, .string o.name, .string o.text, ii o.n, .string o.place], .own, 0, true) ∧ a 1 = ptr A.length ∧ a 6 = ptr i) ?_ ?_
  · by_cases k5 : o.k = 5
    · obtain ⟨c1, c2, v, c3, c4⟩ := o4
      have e : pE o = pD o ++ [if decide (o.place ≠ e0) = true then 1 else 0] := by unfold pE; rw [if_pos k5]; congr 2; by_cases h : o.place = e0 <;> simp [h]
      simp (maxSteps := 1000000) (disch := omega) only [stepS, reduceIte, Nat.reduceBEq, Nat.reduceEqDiff, tupleOf, stepT, stepX, heapR, lensR, Nat.reduceAdd, Nat.reduceLeDiff, g1, g6, r4, rowAt_own c3]
      refine op_truth_spec ?_
      generalize (if decide (o.place ≠ e0) = true then (1 : UInt8) else 0) = b8 at e ⊢
      have k2 : Le B' (B' ++ [.row [by8 b8] .own 1 true]) := .push _ _
      obtain ⟨u, D, E, q1, q2, q3, q4⟩ := OutA.appV (c1.trans k2) c2 (k2.get c3) (c4.le k2) (byt_by8 B' _) (by simp; omega)
      simp (maxSteps := 1000000) (disch := omega) only [stepS, reduceIte, Nat.reduceBEq, Nat.reduceEqDiff, tupleOf, stepT, stepX, heapR, lensR, Nat.reduceAdd, Nat.reduceLeDiff, g1, g6, lit_by8, q1, q2]
      rw [e]
      exact ⟨q3, keep (k2.row r4) q4⟩
    · have e : pE o = pD o := by unfold pE; rw [if_neg k5]; simp
      simp (maxSteps := 1000000) (disch := omega) only [stepS, reduceIte, Nat.reduceBEq, Nat.reduceEqDiff, tupleOf, stepT, stepX, heapR, lensR, Nat.reduceAdd, Nat.reduceLeDiff, g1, g6, r4]
      rw [e]
      exact o4
  rintro a B ⟨o5, r5, g1, g6⟩
  have lenE : (pE o).length ≤ 901 := by
    unfold pE
    split <;> simp <;> omega
  obtain ⟨c1, c2, v, c3, c4⟩ := o5
  have hsz : o.place.size ≤ 32 := by
    rcases h8 with h | h
    · rw [h]; decide
    · omega
  obtain ⟨u, C, q1, q2, q3, _⟩ := apps_bytes (s := o.place) c1 c4 (by omega)
  have q4 := row_load c3 (by simp) (o := 0) (v := v) rfl
  simp (maxSteps := 1000000) (disch := omega) only [stepS, reduceIte, Nat.reduceBEq, Nat.reduceEqDiff, tupleOf, stepT, g1, g6, q4, q1, faddr_ptr, row_load (rowAt_get r5) (by simp) (o := 0 + 4) (v := .string o.place) rfl]
  refine hok hop _ _ q2 ?_
  rw [putO_pE]
  exact q3
end Go.AS.C


namespace Go.AS.C
open Go Go.Proofs
set_option linter.unusedVariables false
set_option linter.unusedSimpArgs false
set_option maxRecDepth 10000

/-! The reference's Has, Name, Check of operations. -/
theorem idx_byte {A : AH} {s : ByteArray} {j : Nat} {b : UInt8} (h : (bl s)[j]? = some b) : sIdxs A (.string s) (.int .i64 (j : Int)) = some (.int .u8 (b.toNat : Int), A) := by
  unfold sIdxs asI
  simp only [Option.bind_some, Int.toNat_natCast]
  rw [if_pos (by omega)]
  have e : s[j]? = some b := by
    cases s with
    | mk d =>
      have h' : d.toList[j]? = some b := h
      rw [Array.getElem?_toList] at h'
      have hj := (Array.getElem?_eq_some_iff.1 h').1
      show (if h : j < d.size then some d[j] else none) = _
      rw [dif_pos hj]
      rw [Array.getElem?_eq_getElem hj] at h'
      exact h'
  rw [e]; rfl
theorem ref14_Name_spec {A : AH} {s : ByteArray} {Q : Value → AH → Prop} (hs : s.size < 2 ^ 50) (hq : Q (.bool (nameOk s)) A) : ACalls 1 Tryd.prog chantryref14_Name [.string s] Q A := by
  refine ACalls.of_fits mixed fits_chantryref14_Name rfl ?_
  unfold ic_chantryref14_Name
  have i0 : initA [.string s] 0 = .string s := rfl
  generalize initA [.string s] = a at i0
  simp (maxSteps := 1000000) (disch := omega) only [stepS, reduceIte, Nat.reduceBEq, Nat.reduceEqDiff, tupleOf, stepT, i0]
  refine W_loop (fun a' B => B = A ∧ ∃ k : Nat, k ≤ s.size ∧ ((bl s).take k).all nameB = true ∧ a' 0 = .string s ∧ a' 3 = ii k) (fun a' _ => s.size - (iv (a' 3)).toNat) ?_ ?_
  · refine ⟨rfl, 0, by omega, ?_⟩
    simp (maxSteps := 1000000) (disch := omega) only [stepS, reduceIte, Nat.reduceBEq, Nat.reduceEqDiff, tupleOf, stepT, i0]
    simp
  · rintro a2 B ⟨rfl, k, hk, hall, g0, g3⟩
    rcases Nat.lt_or_ge k s.size with hlt | hge
    · obtain ⟨b, hb⟩ : ∃ b, (bl s)[k]? = some b := ⟨_, List.getElem?_eq_getElem (by rw [bl_size]; exact hlt)⟩
      have e1 := idx_byte (A := B) hb
      have htk : (bl s).take (k + 1) = (bl s).take k ++ [b] := by rw [List.take_add_one, hb]; rfl
      have good : nameB b = true → ((bl s).take (k + 1)).all nameB = true := fun h => by rw [htk, List.all_append, hall]; simp [h]
      have bad : nameB b = false → Q (.bool false) B := fun h => by
        have : (bl s).all nameB = false := by
          rw [← Bool.not_eq_true, List.all_eq_true]
          intro h2
          rw [h2 b (List.mem_of_getElem? hb)] at h
          cases h
        unfold nameOk at hq
        rw [this] at hq
        exact hq
      by_cases h1 : 97 ≤ b.toNat
      · by_cases h2 : b.toNat ≤ 122
        · simp (maxSteps := 1000000) (disch := omega) only [stepS, reduceIte, Nat.reduceBEq, Nat.reduceEqDiff, tupleOf, stepT, g0, g3, e1]
          exact ⟨⟨k + 1, by omega, good (by simp [nameB, h1, h2]), rfl⟩, by omega⟩
        · simp (maxSteps := 1000000) (disch := omega) only [stepS, reduceIte, Nat.reduceBEq, Nat.reduceEqDiff, tupleOf, stepT, g0, g3, e1]
          exact bad (by simp [nameB]; omega)
      · by_cases h3 : 48 ≤ b.toNat
        · by_cases h4 : b.toNat ≤ 57
          · simp (maxSteps := 1000000) (disch := omega) only [stepS, reduceIte, Nat.reduceBEq, Nat.reduceEqDiff, tupleOf, stepT, g0, g3, e1]
            exact ⟨⟨k + 1, by omega, good (by simp [nameB]; omega), rfl⟩, by omega⟩
          · simp (maxSteps := 1000000) (disch := omega) only [stepS, reduceIte, Nat.reduceBEq, Nat.reduceEqDiff, tupleOf, stepT, g0, g3, e1]
            exact bad (by simp [nameB]; omega)
        · by_cases h5 : b.toNat = 45
          · simp (maxSteps := 1000000) (disch := omega) only [stepS, reduceIte, Nat.reduceBEq, Nat.reduceEqDiff, tupleOf, stepT, g0, g3, e1]
            exact ⟨⟨k + 1, by omega, good (by simp [nameB, h5]), rfl⟩, by omega⟩
          · simp (maxSteps := 1000000) (disch := omega) only [stepS, reduceIte, Nat.reduceBEq, Nat.reduceEqDiff, tupleOf, stepT, g0, g3, e1]
            exact bad (by simp [nameB]; omega)
    · have hall2 : (bl s).all nameB = true := by rw [List.take_of_length_le (by rw [bl_size]; omega)] at hall; exact hall
      unfold nameOk at hq
      rw [hall2, Bool.true_and] at hq
      by_cases h2 : 1 ≤ s.size
      · by_cases h3 : s.size ≤ 12
        · rw [decide_eq_true ⟨h2, h3⟩] at hq
          simp (maxSteps := 1000000) (disch := omega) only [stepS, reduceIte, Nat.reduceBEq, Nat.reduceEqDiff, tupleOf, stepT, g0, g3]
          exact hq
        · rw [decide_eq_false (fun h => h3 h.2)] at hq
          simp (maxSteps := 1000000) (disch := omega) only [stepS, reduceIte, Nat.reduceBEq, Nat.reduceEqDiff, tupleOf, stepT, g0, g3]
          exact hq
      · rw [decide_eq_false (fun h => h2 h.1)] at hq
        simp (maxSteps := 1000000) (disch := omega) only [stepS, reduceIte, Nat.reduceBEq, Nat.reduceEqDiff, tupleOf, stepT, g0, g3]
        exact hq
theorem ref14_Has_spec {A : AH} {k : Int} {Q : Value → AH → Prop} (hq : Q (.tuple #[.bool (hN k), .bool (hT k), .bool (hI k), .bool (hA k), .bool (hK k)]) A) : ACalls 1 Tryd.prog chantryref14_Has [ii k] Q A := by
  refine ACalls.of_fits mixed fits_chantryref14_Has rfl ?_
  unfold ic_chantryref14_Has
  have i0 : initA [ii k] 0 = ii k := rfl
  generalize initA [ii k] = a at i0
  by_cases h1 : k = 1
  · subst h1; simp (maxSteps := 1000000) (disch := omega) only [stepS, reduceIte, Nat.reduceBEq, Nat.reduceEqDiff, tupleOf, stepT, i0]; exact hq
  by_cases h2 : k = 2
  · subst h2; simp (maxSteps := 1000000) (disch := omega) only [stepS, reduceIte, Nat.reduceBEq, Nat.reduceEqDiff, tupleOf, stepT, i0]; exact hq
  by_cases h3 : k = 3
  · subst h3; simp (maxSteps := 1000000) (disch := omega) only [stepS, reduceIte, Nat.reduceBEq, Nat.reduceEqDiff, tupleOf, stepT, i0]; exact hq
  by_cases h4 : k = 4
  · subst h4; simp (maxSteps := 1000000) (disch := omega) only [stepS, reduceIte, Nat.reduceBEq, Nat.reduceEqDiff, tupleOf, stepT, i0]; exact hq
  by_cases h5 : k = 5
  · subst h5; simp (maxSteps := 1000000) (disch := omega) only [stepS, reduceIte, Nat.reduceBEq, Nat.reduceEqDiff, tupleOf, stepT, i0]; exact hq
  by_cases h6 : k = 6
  · subst h6; simp (maxSteps := 1000000) (disch := omega) only [stepS, reduceIte, Nat.reduceBEq, Nat.reduceEqDiff, tupleOf, stepT, i0]; exact hq
  by_cases h7 : k = 7
  · subst h7; simp (maxSteps := 1000000) (disch := omega) only [stepS, reduceIte, Nat.reduceBEq, Nat.reduceEqDiff, tupleOf, stepT, i0]; exact hq
  have e : hN k = false ∧ hT k = false ∧ hI k = false ∧ hA k = false ∧ hK k = false := by
    unfold hN hT hI hA hK
    simp only [decide_eq_false_iff_not]
    omega
  rw [e.1, e.2.1, e.2.2.1, e.2.2.2.1, e.2.2.2.2] at hq
  simp (maxSteps := 1000000) (disch := omega) only [stepS, reduceIte, Nat.reduceBEq, Nat.reduceEqDiff, tupleOf, stepT, i0]
  exact hq
def ck1 (o : OpV) : Bool := hK o.k
def ck2 (o : OpV) : Bool := ck1 o && (!hN o.k || nameOk o.name)
def ck3 (o : OpV) : Bool := ck2 o && (hN o.k || decide (o.name = e0))
def ck4 (o : OpV) : Bool := ck3 o && decide (o.text.size ≤ 48)
def ck5 (o : OpV) : Bool := ck4 o && (hT o.k || decide (o.text = e0))
def ck6 (o : OpV) : Bool := ck5 o && (hI o.k || decide (o.n = 0))
def ck7 (o : OpV) : Bool := ck6 o && (hA o.k || decide (o.place = e0))
theorem ck_ok {o : OpV} : opOk o = true ↔ ck7 o = true ∧ (-2147483647 ≤ o.n ∧ o.n ≤ 2147483647) ∧ (o.place = e0 ∨ o.place.size = 32) ∧ ¬ (o.k = 5 ∧ o.text = e0) ∧ ¬ (o.k = 6 ∧ o.place = e0) := by
  rw [opOk_iff]
  unfold ck7 ck6 ck5 ck4 ck3 ck2 ck1
  simp only [Bool.and_eq_true, Bool.or_eq_true, decide_eq_true_eq, Bool.not_eq_true']
  cases hN o.k <;> simp <;> constructor <;> (intro h; simp only [h, not_false_eq_true, and_self, and_true, true_and, imp_self]) <;> grind
theorem ref14_Check_spec {A : AH} {o : OpV} {Q : Value → AH → Prop} (hs : o.Fin) (hq : Q (.bool (opOk o)) A) : ACalls 1 Tryd.prog chantryref14_Check [o.v] Q A := by
  refine ACalls.pure1 _ rfl hq fun Q hq => ?_
  obtain ⟨hs1, hs2, hs3, hs4, hs5⟩ := hs
  refine ACalls.of_fits mixed fits_chantryref14_Check rfl ?_
  unfold ic_chantryref14_Check
  have i0 : initA [o.v] 0 = o.v := rfl
  generalize initA [o.v] = a at i0
  rw [OpV.v_eq] at i0
  have hA : ∀ {B : AH}, B = A ++ [.row [ii o.k, .string o.name, .string o.text, ii o.n, .string o.place] .own 0 true] → rowAt B A.length = some ([ii o.k, .string o.name, .string o.text, ii o.n, .string o.place], .own, 0, true) := fun h => by subst h; simp (maxSteps := 1000000) (disch := omega) only [stepS, reduceIte, Nat.reduceBEq, Nat.reduceEqDiff, tupleOf, stepT, stepX, heapR, lensR, Nat.reduceAdd, Nat.reduceLeDiff]
  refine W_mid (fun a B => B = A ++ [.row [ii o.k, .string o.name, .string o.text, ii o.n, .string o.place] .own 0 true] ∧ a 1 = ptr A.length) ?_ ?_
  · simp (maxSteps := 1000000) (disch := omega) only [stepS, reduceIte, Nat.reduceBEq, Nat.reduceEqDiff, tupleOf, stepT, stepX, heapR, lensR, Nat.reduceAdd, Nat.reduceLeDiff, i0]
  rintro a B ⟨hB, g1⟩
  have r1 := hA hB
  have hl : Le A B := by rw [hB]; exact .push _ _
  clear hA i0 hB
  refine W_mid (fun a B' => B' = B ∧ a 1 = ptr A.length ∧ a 3 = .bool (hN o.k) ∧ a 4 = .bool (hT o.k) ∧ a 5 = .bool (hI o.k) ∧ a 6 = .bool (hA o.k) ∧ a 7 = .bool (hK o.k)) ?_ ?_
  · simp (maxSteps := 1000000) (disch := omega) only [stepS, reduceIte, Nat.reduceBEq, Nat.reduceEqDiff, tupleOf, stepT, stepX, heapR, lensR, Nat.reduceAdd, Nat.reduceLeDiff, g1, r1]
    refine ref14_Has_spec ?_
    simp (maxSteps := 1000000) (disch := omega) only [stepS, reduceIte, Nat.reduceBEq, Nat.reduceEqDiff, tupleOf, stepT, stepX, heapR, lensR, Nat.reduceAdd, Nat.reduceLeDiff, g1, sExt, List.getElem?_toArray]
  rintro a B ⟨rfl, g1, g3, g4, g5, g6, g7⟩
  have fin : ∀ b, opOk o = b → Q (.bool b) B := fun b h => by rw [← h]; exact hq _ hl
  clear hq
  rw [W_seq, W_seq, W_ops]
  refine Wops_cut 3 (fun a B' => B' = B ∧ a 1 = ptr A.length ∧ a 3 = .bool (hN o.k) ∧ a 4 = .bool (hT o.k) ∧ a 5 = .bool (hI o.k) ∧ a 6 = .bool (hA o.k) ∧ a 19 = .bool (!ck1 o)) rfl ?_ ?_
  · simp (maxSteps := 1000000) (disch := omega) only [stepS, reduceIte, Nat.reduceBEq, Nat.reduceEqDiff, tupleOf, stepT, stepX, heapR, lensR, Nat.reduceAdd, Nat.reduceLeDiff, g1, g3, g4, g5, g6, g7]
    rfl
  rintro a B' ⟨rfl, g1, g3, g4, g5, g6, g7⟩
  simp only [List.drop_succ_cons, List.drop_zero]
  refine Wops_cut 9 (fun a B => B = B' ∧ a 1 = ptr A.length ∧ a 3 = .bool (hN o.k) ∧ a 4 = .bool (hT o.k) ∧ a 5 = .bool (hI o.k) ∧ a 6 = .bool (hA o.k) ∧ a 28 = .bool (!ck2 o)) rfl ?_ ?_
  · cases hc : ck1 o with
    | false =>
      rw [hc] at g7
      change _ = Value.bool true at g7
      simp (maxSteps := 1000000) (disch := omega) only [stepS, reduceIte, Nat.reduceBEq, Nat.reduceEqDiff, tupleOf, stepT, stepX, heapR, lensR, Nat.reduceAdd, Nat.reduceLeDiff, g1, g3, g4, g5, g6, g7]
      simp [ck2, hc]
    | true =>
      rw [hc] at g7
      change _ = Value.bool false at g7
      skip
      · cases hn : hN o.k with
        | true =>
          rw [hn] at g3
          simp (maxSteps := 1000000) (disch := omega) only [stepS, reduceIte, Nat.reduceBEq, Nat.reduceEqDiff, tupleOf, stepT, stepX, heapR, lensR, Nat.reduceAdd, Nat.reduceLeDiff, g1, g3, g4, g5, g6, g7, r1]
          refine ref14_Name_spec (by omega) ?_
          simp (maxSteps := 1000000) (disch := omega) only [stepS, reduceIte, Nat.reduceBEq, Nat.reduceEqDiff, tupleOf, stepT, stepX, heapR, lensR, Nat.reduceAdd, Nat.reduceLeDiff, g1, g3, g4, g5, g6, g7]
          simp [ck2, hc, hn]
        | false =>
          rw [hn] at g3
          simp (maxSteps := 1000000) (disch := omega) only [stepS, reduceIte, Nat.reduceBEq, Nat.reduceEqDiff, tupleOf, stepT, stepX, heapR, lensR, Nat.reduceAdd, Nat.reduceLeDiff, g1, g3, g4, g5, g6, g7]
          simp [ck2, hc, hn]
  rintro a B' ⟨rfl, g1, g3, g4, g5, g6, g7⟩
  simp only [List.drop_succ_cons, List.drop_zero]
  refine Wops_cut 9 (fun a B => B = B' ∧ a 1 = ptr A.length ∧ a 3 = .bool (hN o.k) ∧ a 4 = .bool (hT o.k) ∧ a 5 = .bool (hI o.k) ∧ a 6 = .bool (hA o.k) ∧ a 37 = .bool (!ck3 o)) rfl ?_ ?_
  · cases hc : ck2 o with
    | false =>
      rw [hc] at g7
      change _ = Value.bool true at g7
      simp (maxSteps := 1000000) (disch := omega) only [stepS, reduceIte, Nat.reduceBEq, Nat.reduceEqDiff, tupleOf, stepT, stepX, heapR, lensR, Nat.reduceAdd, Nat.reduceLeDiff, g1, g3, g4, g5, g6, g7]
      simp [ck3, hc]
    | true =>
      rw [hc] at g7
      change _ = Value.bool false at g7
      skip
      · cases hn : hN o.k with
        | true =>
          rw [hn] at g3
          simp (maxSteps := 1000000) (disch := omega) only [stepS, reduceIte, Nat.reduceBEq, Nat.reduceEqDiff, tupleOf, stepT, stepX, heapR, lensR, Nat.reduceAdd, Nat.reduceLeDiff, g1, g3, g4, g5, g6, g7, r1]
          simp [ck3, hc, hn]
        | false =>
          rw [hn] at g3
          simp (maxSteps := 1000000) (disch := omega) only [stepS, reduceIte, Nat.reduceBEq, Nat.reduceEqDiff, tupleOf, stepT, stepX, heapR, lensR, Nat.reduceAdd, Nat.reduceLeDiff, g1, g3, g4, g5, g6, g7, r1]
          simp [ck3, hc, hn]
  rintro a B' ⟨rfl, g1, g3, g4, g5, g6, g7⟩
  simp only [List.drop_succ_cons, List.drop_zero]
  refine Wops_cut 6 (fun a B => B = B' ∧ a 1 = ptr A.length ∧ a 3 = .bool (hN o.k) ∧ a 4 = .bool (hT o.k) ∧ a 5 = .bool (hI o.k) ∧ a 6 = .bool (hA o.k) ∧ a 43 = .bool (!ck4 o)) rfl ?_ ?_
  · cases hc : ck3 o with
    | false =>
      rw [hc] at g7
      change _ = Value.bool true at g7
      simp (maxSteps := 1000000) (disch := omega) only [stepS, reduceIte, Nat.reduceBEq, Nat.reduceEqDiff, tupleOf, stepT, stepX, heapR, lensR, Nat.reduceAdd, Nat.reduceLeDiff, g1, g3, g4, g5, g6, g7]
      simp [ck4, hc]
    | true =>
      rw [hc] at g7
      change _ = Value.bool false at g7
      skip
      · by_cases hn : o.text.size ≤ 48
        · simp (maxSteps := 1000000) (disch := omega) only [stepS, reduceIte, Nat.reduceBEq, Nat.reduceEqDiff, tupleOf, stepT, stepX, heapR, lensR, Nat.reduceAdd, Nat.reduceLeDiff, g1, g3, g4, g5, g6, g7, r1]
          simp [ck4, hc, hn]
        · simp (maxSteps := 1000000) (disch := omega) only [stepS, reduceIte, Nat.reduceBEq, Nat.reduceEqDiff, tupleOf, stepT, stepX, heapR, lensR, Nat.reduceAdd, Nat.reduceLeDiff, g1, g3, g4, g5, g6, g7, r1]
          simp [ck4, hc, hn]
  rintro a B' ⟨rfl, g1, g3, g4, g5, g6, g7⟩
  simp only [List.drop_succ_cons, List.drop_zero]
  refine Wops_cut 9 (fun a B => B = B' ∧ a 1 = ptr A.length ∧ a 3 = .bool (hN o.k) ∧ a 4 = .bool (hT o.k) ∧ a 5 = .bool (hI o.k) ∧ a 6 = .bool (hA o.k) ∧ a 52 = .bool (!ck5 o)) rfl ?_ ?_
  · cases hc : ck4 o with
    | false =>
      rw [hc] at g7
      change _ = Value.bool true at g7
      simp (maxSteps := 1000000) (disch := omega) only [stepS, reduceIte, Nat.reduceBEq, Nat.reduceEqDiff, tupleOf, stepT, stepX, heapR, lensR, Nat.reduceAdd, Nat.reduceLeDiff, g1, g3, g4, g5, g6, g7]
      simp [ck5, hc]
    | true =>
      rw [hc] at g7
      change _ = Value.bool false at g7
      skip
      · cases hn : hT o.k with
        | true =>
          rw [hn] at g4
          simp (maxSteps := 1000000) (disch := omega) only [stepS, reduceIte, Nat.reduceBEq, Nat.reduceEqDiff, tupleOf, stepT, stepX, heapR, lensR, Nat.reduceAdd, Nat.reduceLeDiff, g1, g3, g4, g5, g6, g7, r1]
          simp [ck5, hc, hn]
        | false =>
          rw [hn] at g4
          simp (maxSteps := 1000000) (disch := omega) only [stepS, reduceIte, Nat.reduceBEq, Nat.reduceEqDiff, tupleOf, stepT, stepX, heapR, lensR, Nat.reduceAdd, Nat.reduceLeDiff, g1, g3, g4, g5, g6, g7, r1]
          simp [ck5, hc, hn]
  rintro a B' ⟨rfl, g1, g3, g4, g5, g6, g7⟩
  simp only [List.drop_succ_cons, List.drop_zero]
  refine Wops_cut 9 (fun a B => B = B' ∧ a 1 = ptr A.length ∧ a 3 = .bool (hN o.k) ∧ a 4 = .bool (hT o.k) ∧ a 5 = .bool (hI o.k) ∧ a 6 = .bool (hA o.k) ∧ a 61 = .bool (!ck6 o)) rfl ?_ ?_
  · cases hc : ck5 o with
    | false =>
      rw [hc] at g7
      change _ = Value.bool true at g7
      simp (maxSteps := 1000000) (disch := omega) only [stepS, reduceIte, Nat.reduceBEq, Nat.reduceEqDiff, tupleOf, stepT, stepX, heapR, lensR, Nat.reduceAdd, Nat.reduceLeDiff, g1, g3, g4, g5, g6, g7]
      simp [ck6, hc]
    | true =>
      rw [hc] at g7
      change _ = Value.bool false at g7
      skip
      · cases hn : hI o.k with
        | true =>
          rw [hn] at g5
          simp (maxSteps := 1000000) (disch := omega) only [stepS, reduceIte, Nat.reduceBEq, Nat.reduceEqDiff, tupleOf, stepT, stepX, heapR, lensR, Nat.reduceAdd, Nat.reduceLeDiff, g1, g3, g4, g5, g6, g7, r1]
          simp [ck6, hc, hn]
        | false =>
          rw [hn] at g5
          simp (maxSteps := 1000000) (disch := omega) only [stepS, reduceIte, Nat.reduceBEq, Nat.reduceEqDiff, tupleOf, stepT, stepX, heapR, lensR, Nat.reduceAdd, Nat.reduceLeDiff, g1, g3, g4, g5, g6, g7, r1]
          simp [ck6, hc, hn]
  rintro a B ⟨rfl, g1, g3, g4, g5, g6, g7⟩
  simp only [List.drop_succ_cons, List.drop_zero]
  cases hc : ck6 o with
  | false =>
    rw [hc] at g7
    change _ = Value.bool true at g7
    simp (maxSteps := 1000000) (disch := omega) only [stepS, reduceIte, Nat.reduceBEq, Nat.reduceEqDiff, tupleOf, stepT, stepX, heapR, lensR, Nat.reduceAdd, Nat.reduceLeDiff, g1, g3, g4, g5, g6, g7]
    refine fin _ ?_
    rw [← Bool.not_eq_true, ck_ok]
    intro h
    have := h.1
    unfold ck7 at this
    rw [hc] at this
    cases this
  | true =>
    rw [hc] at g7
    change _ = Value.bool false at g7
    have bad : ck7 o = false → Q (.bool false) B := fun h => fin _ (by rw [← Bool.not_eq_true, ck_ok, h]; intro k; cases k.1)
    have good : ck7 o = true → (opOk o = true ↔ (-2147483647 ≤ o.n ∧ o.n ≤ 2147483647) ∧ (o.place = e0 ∨ o.place.size = 32) ∧ ¬ (o.k = 5 ∧ o.text = e0) ∧ ¬ (o.k = 6 ∧ o.place = e0)) := fun h => by rw [ck_ok, h]; simp
    by_cases hn : ck7 o = true
    · have hopt := good hn
      have hh : hA o.k = true ∨ (hA o.k = false ∧ decide (o.place ≠ e0) = false) := by
        unfold ck7 at hn
        rw [hc] at hn
        cases hq : hA o.k with
        | true => exact .inl rfl
        | false => rw [hq] at hn; exact .inr ⟨rfl, by simpa using hn⟩
      rcases hh with hh | ⟨hh, hz⟩
      · rw [hh] at g6
        have hz : True := trivial
        have hp' : o.place = e0 ∨ (True ∧ ¬ o.place = e0) := by by_cases h : o.place = e0; exact .inl h; exact .inr ⟨trivial, h⟩
        by_cases w1 : o.n < -2147483647
        · simp (maxSteps := 1000000) (disch := omega) only [stepS, reduceIte, Nat.reduceBEq, Nat.reduceEqDiff, tupleOf, stepT, stepX, heapR, lensR, Nat.reduceAdd, Nat.reduceLeDiff, g1, g6, g7, r1, hz]
          exact fin _ (by rw [← Bool.not_eq_true, hopt]; intro h; omega)
        · by_cases w2 : o.n > 2147483647
          · simp (maxSteps := 1000000) (disch := omega) only [stepS, reduceIte, Nat.reduceBEq, Nat.reduceEqDiff, tupleOf, stepT, stepX, heapR, lensR, Nat.reduceAdd, Nat.reduceLeDiff, g1, g6, g7, r1, hz]
            exact fin _ (by rw [← Bool.not_eq_true, hopt]; intro h; omega)
          · rcases hp' with p | ⟨hh2, p⟩
            · by_cases k5 : o.k = 5
              · by_cases t0 : o.text = e0
                · simp (maxSteps := 1000000) (disch := omega) only [stepS, reduceIte, Nat.reduceBEq, Nat.reduceEqDiff, tupleOf, stepT, stepX, heapR, lensR, Nat.reduceAdd, Nat.reduceLeDiff, g1, g6, g7, r1, hz, decide_eq_false (fun h => h p : ¬ o.place ≠ e0), decide_eq_true p, decide_eq_true t0]
                  exact fin _ (by rw [← Bool.not_eq_true, hopt]; intro h; exact h.2.2.1 ⟨k5, t0⟩)
                · simp (maxSteps := 1000000) (disch := omega) only [stepS, reduceIte, Nat.reduceBEq, Nat.reduceEqDiff, tupleOf, stepT, stepX, heapR, lensR, Nat.reduceAdd, Nat.reduceLeDiff, g1, g6, g7, r1, hz, decide_eq_false (fun h => h p : ¬ o.place ≠ e0), decide_eq_true p, decide_eq_false t0]
                  exact fin _ (hopt.2 ⟨by omega, .inl p, fun h => t0 h.2, fun h => by omega⟩)
              · by_cases k6 : o.k = 6
                · simp (maxSteps := 1000000) (disch := omega) only [stepS, reduceIte, Nat.reduceBEq, Nat.reduceEqDiff, tupleOf, stepT, stepX, heapR, lensR, Nat.reduceAdd, Nat.reduceLeDiff, g1, g6, g7, r1, hz, decide_eq_false (fun h => h p : ¬ o.place ≠ e0), decide_eq_true p]
                  exact fin _ (by rw [← Bool.not_eq_true, hopt]; intro h; exact h.2.2.2 ⟨k6, p⟩)
                · simp (maxSteps := 1000000) (disch := omega) only [stepS, reduceIte, Nat.reduceBEq, Nat.reduceEqDiff, tupleOf, stepT, stepX, heapR, lensR, Nat.reduceAdd, Nat.reduceLeDiff, g1, g6, g7, r1, hz, decide_eq_false (fun h => h p : ¬ o.place ≠ e0), decide_eq_true p]
                  exact fin _ (hopt.2 ⟨by omega, .inl p, fun h => k5 h.1, fun h => k6 h.1⟩)
            · by_cases s32 : o.place.size = 32
              · by_cases k5 : o.k = 5
                · by_cases t0 : o.text = e0
                  · simp (maxSteps := 1000000) (disch := omega) only [stepS, reduceIte, Nat.reduceBEq, Nat.reduceEqDiff, tupleOf, stepT, stepX, heapR, lensR, Nat.reduceAdd, Nat.reduceLeDiff, g1, g6, g7, r1, hz, decide_eq_true (show o.place ≠ e0 from p), decide_eq_false p, decide_eq_true t0]
                    exact fin _ (by rw [← Bool.not_eq_true, hopt]; intro h; exact h.2.2.1 ⟨k5, t0⟩)
                  · simp (maxSteps := 1000000) (disch := omega) only [stepS, reduceIte, Nat.reduceBEq, Nat.reduceEqDiff, tupleOf, stepT, stepX, heapR, lensR, Nat.reduceAdd, Nat.reduceLeDiff, g1, g6, g7, r1, hz, decide_eq_true (show o.place ≠ e0 from p), decide_eq_false p, decide_eq_false t0]
                    first | exact hh2.elim | exact fin _ (hopt.2 ⟨by omega, .inr s32, fun h => t0 h.2, fun h => by omega⟩)
                · by_cases k6 : o.k = 6
                  · simp (maxSteps := 1000000) (disch := omega) only [stepS, reduceIte, Nat.reduceBEq, Nat.reduceEqDiff, tupleOf, stepT, stepX, heapR, lensR, Nat.reduceAdd, Nat.reduceLeDiff, g1, g6, g7, r1, hz, decide_eq_true (show o.place ≠ e0 from p), decide_eq_false p]
                    first | exact hh2.elim | exact fin _ (hopt.2 ⟨by omega, .inr s32, fun h => k5 h.1, fun h => p h.2⟩)
                  · simp (maxSteps := 1000000) (disch := omega) only [stepS, reduceIte, Nat.reduceBEq, Nat.reduceEqDiff, tupleOf, stepT, stepX, heapR, lensR, Nat.reduceAdd, Nat.reduceLeDiff, g1, g6, g7, r1, hz, decide_eq_true (show o.place ≠ e0 from p), decide_eq_false p]
                    first | exact hh2.elim | exact fin _ (hopt.2 ⟨by omega, .inr s32, fun h => k5 h.1, fun h => k6 h.1⟩)
              · simp (maxSteps := 1000000) (disch := omega) only [stepS, reduceIte, Nat.reduceBEq, Nat.reduceEqDiff, tupleOf, stepT, stepX, heapR, lensR, Nat.reduceAdd, Nat.reduceLeDiff, g1, g6, g7, r1, hz, decide_eq_true (show o.place ≠ e0 from p), decide_eq_false p]
                exact fin _ (by rw [← Bool.not_eq_true, hopt]; intro h; exact h.2.1.elim p s32)
      · rw [hh] at g6
        have hp' : o.place = e0 ∨ (False ∧ ¬ o.place = e0) := .inl (by simpa using hz)
        by_cases w1 : o.n < -2147483647
        · simp (maxSteps := 1000000) (disch := omega) only [stepS, reduceIte, Nat.reduceBEq, Nat.reduceEqDiff, tupleOf, stepT, stepX, heapR, lensR, Nat.reduceAdd, Nat.reduceLeDiff, g1, g6, g7, r1, hz]
          exact fin _ (by rw [← Bool.not_eq_true, hopt]; intro h; omega)
        · by_cases w2 : o.n > 2147483647
          · simp (maxSteps := 1000000) (disch := omega) only [stepS, reduceIte, Nat.reduceBEq, Nat.reduceEqDiff, tupleOf, stepT, stepX, heapR, lensR, Nat.reduceAdd, Nat.reduceLeDiff, g1, g6, g7, r1, hz]
            exact fin _ (by rw [← Bool.not_eq_true, hopt]; intro h; omega)
          · rcases hp' with p | ⟨hh2, p⟩
            · by_cases k5 : o.k = 5
              · by_cases t0 : o.text = e0
                · simp (maxSteps := 1000000) (disch := omega) only [stepS, reduceIte, Nat.reduceBEq, Nat.reduceEqDiff, tupleOf, stepT, stepX, heapR, lensR, Nat.reduceAdd, Nat.reduceLeDiff, g1, g6, g7, r1, hz, decide_eq_false (fun h => h p : ¬ o.place ≠ e0), decide_eq_true p, decide_eq_true t0]
                  exact fin _ (by rw [← Bool.not_eq_true, hopt]; intro h; exact h.2.2.1 ⟨k5, t0⟩)
                · simp (maxSteps := 1000000) (disch := omega) only [stepS, reduceIte, Nat.reduceBEq, Nat.reduceEqDiff, tupleOf, stepT, stepX, heapR, lensR, Nat.reduceAdd, Nat.reduceLeDiff, g1, g6, g7, r1, hz, decide_eq_false (fun h => h p : ¬ o.place ≠ e0), decide_eq_true p, decide_eq_false t0]
                  exact fin _ (hopt.2 ⟨by omega, .inl p, fun h => t0 h.2, fun h => by omega⟩)
              · by_cases k6 : o.k = 6
                · simp (maxSteps := 1000000) (disch := omega) only [stepS, reduceIte, Nat.reduceBEq, Nat.reduceEqDiff, tupleOf, stepT, stepX, heapR, lensR, Nat.reduceAdd, Nat.reduceLeDiff, g1, g6, g7, r1, hz, decide_eq_false (fun h => h p : ¬ o.place ≠ e0), decide_eq_true p]
                  exact fin _ (by rw [← Bool.not_eq_true, hopt]; intro h; exact h.2.2.2 ⟨k6, p⟩)
                · simp (maxSteps := 1000000) (disch := omega) only [stepS, reduceIte, Nat.reduceBEq, Nat.reduceEqDiff, tupleOf, stepT, stepX, heapR, lensR, Nat.reduceAdd, Nat.reduceLeDiff, g1, g6, g7, r1, hz, decide_eq_false (fun h => h p : ¬ o.place ≠ e0), decide_eq_true p]
                  exact fin _ (hopt.2 ⟨by omega, .inl p, fun h => k5 h.1, fun h => k6 h.1⟩)
            · by_cases s32 : o.place.size = 32
              · by_cases k5 : o.k = 5
                · by_cases t0 : o.text = e0
                  · simp (maxSteps := 1000000) (disch := omega) only [stepS, reduceIte, Nat.reduceBEq, Nat.reduceEqDiff, tupleOf, stepT, stepX, heapR, lensR, Nat.reduceAdd, Nat.reduceLeDiff, g1, g6, g7, r1, hz, decide_eq_true (show o.place ≠ e0 from p), decide_eq_false p, decide_eq_true t0]
                    exact fin _ (by rw [← Bool.not_eq_true, hopt]; intro h; exact h.2.2.1 ⟨k5, t0⟩)
                  · simp (maxSteps := 1000000) (disch := omega) only [stepS, reduceIte, Nat.reduceBEq, Nat.reduceEqDiff, tupleOf, stepT, stepX, heapR, lensR, Nat.reduceAdd, Nat.reduceLeDiff, g1, g6, g7, r1, hz, decide_eq_true (show o.place ≠ e0 from p), decide_eq_false p, decide_eq_false t0]
                    first | exact hh2.elim | exact fin _ (hopt.2 ⟨by omega, .inr s32, fun h => t0 h.2, fun h => by omega⟩)
                · by_cases k6 : o.k = 6
                  · simp (maxSteps := 1000000) (disch := omega) only [stepS, reduceIte, Nat.reduceBEq, Nat.reduceEqDiff, tupleOf, stepT, stepX, heapR, lensR, Nat.reduceAdd, Nat.reduceLeDiff, g1, g6, g7, r1, hz, decide_eq_true (show o.place ≠ e0 from p), decide_eq_false p]
                    first | exact hh2.elim | exact fin _ (hopt.2 ⟨by omega, .inr s32, fun h => k5 h.1, fun h => p h.2⟩)
                  · simp (maxSteps := 1000000) (disch := omega) only [stepS, reduceIte, Nat.reduceBEq, Nat.reduceEqDiff, tupleOf, stepT, stepX, heapR, lensR, Nat.reduceAdd, Nat.reduceLeDiff, g1, g6, g7, r1, hz, decide_eq_true (show o.place ≠ e0 from p), decide_eq_false p]
                    first | exact hh2.elim | exact fin _ (hopt.2 ⟨by omega, .inr s32, fun h => k5 h.1, fun h => k6 h.1⟩)
              · simp (maxSteps := 1000000) (disch := omega) only [stepS, reduceIte, Nat.reduceBEq, Nat.reduceEqDiff, tupleOf, stepT, stepX, heapR, lensR, Nat.reduceAdd, Nat.reduceLeDiff, g1, g6, g7, r1, hz, decide_eq_true (show o.place ≠ e0 from p), decide_eq_false p]
                exact fin _ (by rw [← Bool.not_eq_true, hopt]; intro h; exact h.2.1.elim p s32)
    · have hn : ck7 o = false := by simpa using hn
      have hz : hA o.k = false ∧ decide (o.place ≠ e0) = true := by
        unfold ck7 at hn
        rw [hc] at hn
        cases hq : hA o.k with
        | true => rw [hq] at hn; cases hn
        | false => rw [hq] at hn; exact ⟨rfl, by simpa using hn⟩
      rw [hz.1] at g6
      simp (maxSteps := 1000000) (disch := omega) only [stepS, reduceIte, Nat.reduceBEq, Nat.reduceEqDiff, tupleOf, stepT, stepX, heapR, lensR, Nat.reduceAdd, Nat.reduceLeDiff, g1, g3, g4, g5, g6, g7, r1, hz]
      exact bad hn
end Go.AS.C


namespace Go.AS.C
open Go Go.Proofs
set_option linter.unusedVariables false
set_option linter.unusedSimpArgs false
set_option maxRecDepth 10000

def RangeO (o : OpV) : Prop := (-9223372036854775808 ≤ o.k ∧ o.k < 9223372036854775808) ∧ (-9223372036854775808 ≤ o.n ∧ o.n < 9223372036854775808)
abbrev cellsO (o : OpV) : List Value := [ii o.k, .string o.name, .string o.text, ii o.n, .string o.place]
/-- An argument that is an operation. -/
theorem good_op {A : AH} {F : Nat} {cs : List Value} (h : Good Tryd.prog A (F + 2) opT cs) : ∃ o : OpV, cs = cellsO o ∧ RangeO o := by
  obtain ⟨hl, hf⟩ := good_fields opU h
  have hc : Tryd.prog.cellsOf opT = 5 := by kernel_rfl
  rw [hc] at hl
  match cs, hl with
  | [c0, c1, c2, c3, c4], _ =>
    have e3 : Tryd.prog.cellsOf 3 = 1 := by kernel_rfl
    have e9 : Tryd.prog.cellsOf 9 = 1 := by kernel_rfl
    simp only [List.forall_mem_cons, e3, e9, List.drop_zero, List.drop_succ_cons, List.take_succ_cons, List.take_zero] at hf
    obtain ⟨h0, h1, h2, h3, h4, _⟩ := hf
    obtain ⟨k, r0, b0⟩ := cell_int Tryd.underlying3 h0
    obtain ⟨s1, r1, b1⟩ := cell_str Tryd.underlying9 h1
    obtain ⟨s2, r2, b2⟩ := cell_str Tryd.underlying9 h2
    obtain ⟨n, r3, b3⟩ := cell_int Tryd.underlying3 h3
    obtain ⟨s4, r4, b4⟩ := cell_str Tryd.underlying9 h4
    injection r0 with r0 _
    injection r1 with r1 _
    injection r2 with r2 _
    injection r3 with r3 _
    injection r4 with r4 _
    subst r0 r1 r2 r3 r4
    exact ⟨⟨k, s1, s2, n, s4⟩, rfl, b0, b3⟩
end Go.AS.C


namespace Go.AS.C
open Go Go.Proofs
set_option linter.unusedVariables false
set_option linter.unusedSimpArgs false
set_option maxRecDepth 10000

/-! op.Show; the reference's. -/
theorem kinds_row (A : AH) : sLit A [.string ⟨#[]⟩] 1 7 [(0, 1, .string ⟨#[99, 111, 117, 110, 116]⟩), (1, 1, .string ⟨#[97, 100, 100]⟩), (2, 1, .string ⟨#[114, 101, 109, 111, 118, 101]⟩), (3, 1, .string ⟨#[119, 114, 105, 116, 101]⟩), (4, 1, .string ⟨#[105, 110, 115, 101, 114, 116]⟩), (5, 1, .string ⟨#[100, 101, 108, 101, 116, 101]⟩), (6, 1, .string ⟨#[109, 101, 114, 103, 101]⟩)] = some (.slice (some ⟨A.length, 0, none⟩) 7 7, A ++ [.row (kindT.map .string) .own 1 true]) := rfl
theorem op_names_spec {A : AH} {Q : Value → AH → Prop} (hq : Q (.slice (some ⟨A.length, 0, none⟩) 7 7) (A ++ [.row (kindT.map .string) .own 1 true])) : ACalls 1 Tryd.prog op_names [] Q A := by
  refine ACalls.of_fits mixed fits_op_names rfl ?_
  unfold ic_op_names
  generalize initA [] = a
  simp (maxSteps := 1000000) (disch := omega) only [stepS, reduceIte, Nat.reduceBEq, Nat.reduceEqDiff, tupleOf, stepT, kinds_row]
  exact hq
theorem kinds_sl (A : AH) : SlT (A ++ [.row (kindT.map .string) .own 1 true]) (.slice (some ⟨A.length, 0, none⟩) 7 7) kindT := sl_last A (by decide) (Nat.le_refl _)
theorem own_lit {D : AH} {b : Nat} {s : ByteArray} (h : b ≤ D.length) : OwnT b (D ++ [.row [.string s] .own 1 true]) (.slice (some ⟨D.length, 0, none⟩) 1 1) [s] :=
  ⟨rfl, .inr (.inr ⟨D.length, 0, 1, [.string s], true, rfl, Nat.le_refl _, h, get_last _ _, by simp, fun j hj => by
    have : j = 0 := by simp at hj; exact hj
    subst this; rfl⟩)⟩
theorem sL_len (o : OpV) : (s0 o).length ≤ 5 ∧ (sN o).length ≤ 5 ∧ (sT o).length ≤ 5 ∧ (sI o).length ≤ 5 ∧ (sA o).length ≤ 5 := by
  unfold sA sI sT sN s0
  refine ⟨?_, ?_, ?_, ?_, ?_⟩ <;> ((repeat' split) <;> simp)
theorem op_Show_walk {A : AH} {o : OpV} {Q : Value → AH → Prop} (hs : o.Fin) (hIt : opOk o = true → ∀ (B : AH) (K : Value → AH → Prop), Le A B → K (.string (numT o.n)) B → ACalls 1 Tryd.prog strconv_Itoa [ii o.n] K B) (hq : Q (.string (showB o)) A) : ACalls 1 Tryd.prog op_Show [o.v] Q A := by
  refine ACalls.pure1 _ rfl hq fun Q hq => ?_
  refine ACalls.of_fits mixed fits_op_Show rfl ?_
  unfold ic_op_Show
  have i0 : initA [o.v] 0 = o.v := rfl
  generalize initA [o.v] = a at i0
  rw [OpV.v_eq] at i0
  refine W_mid (fun a B => B = A ++ [.row (cellsO o) .own 0 true] ∧ a 1 = ptr A.length) ?_ ?_
  · simp (maxSteps := 1000000) (disch := omega) only [stepS, reduceIte, Nat.reduceBEq, Nat.reduceEqDiff, tupleOf, stepT, stepX, heapR, lensR, Nat.reduceAdd, Nat.reduceLeDiff, i0]
  rintro a B ⟨hB, g1⟩
  have r1 : rowAt B A.length = some (cellsO o, .own, 0, true) := by rw [hB]; exact rowAt_own (get_last _ _)
  have hl : Le A B := by rw [hB]; exact .push _ _
  clear i0 hB
  refine W_midR (fun a B' => opOk o = true ∧ B' = B ∧ a 1 = ptr A.length) ?_ ?_
  · simp (maxSteps := 1000000) (disch := omega) only [stepS, reduceIte, Nat.reduceBEq, Nat.reduceEqDiff, tupleOf, stepT, stepX, heapR, lensR, Nat.reduceAdd, Nat.reduceLeDiff, g1, r1]
    refine op_Check_spec hs ?_
    unfold checkO
    cases hop : opOk o with
    | false =>
      simp (maxSteps := 1000000) (disch := omega) only [stepS, reduceIte, Nat.reduceBEq, Nat.reduceEqDiff, tupleOf, stepT, stepX, heapR, lensR, Nat.reduceAdd, Nat.reduceLeDiff, g1, r1, reduceCtorEq, false_and, false_or, true_and]
      have := hq _ hl
      unfold showB at this
      rw [hop] at this
      exact this
    | true =>
      simp (maxSteps := 1000000) (disch := omega) only [stepS, reduceIte, Nat.reduceBEq, Nat.reduceEqDiff, tupleOf, stepT, stepX, heapR, lensR, Nat.reduceAdd, Nat.reduceLeDiff, g1, r1, reduceCtorEq, false_and, or_false, true_and]
  rintro a B' ⟨hop, rfl, g1⟩
  obtain ⟨h1, h2, h3, h4, h5, h6, h7, h8, h9, h10⟩ := opOk_iff.1 hop
  obtain ⟨b1, b2, b4, b8, hp⟩ := and_has h1
  obtain ⟨n1, n2, j, n3, n4⟩ := nmT_at h1
  refine W_mid (fun a B => ∃ v, Le B' B ∧ OwnT B'.length B v (s0 o) ∧ a 1 = ptr A.length ∧ a 3 = ii (hasO o.k) ∧ a 4 = v) ?_ ?_
  · simp (maxSteps := 1000000) (disch := omega) only [stepS, reduceIte, Nat.reduceBEq, Nat.reduceEqDiff, tupleOf, stepT, stepX, heapR, lensR, Nat.reduceAdd, Nat.reduceLeDiff, g1, r1]
    refine op_has_spec ?_
    simp (maxSteps := 1000000) (disch := omega) only [stepS, reduceIte, Nat.reduceBEq, Nat.reduceEqDiff, tupleOf, stepT, stepX, heapR, lensR, Nat.reduceAdd, Nat.reduceLeDiff, g1, r1]
    refine op_names_spec ?_
    have hk := kinds_sl B'
    have e : (o.k - 1).toNat = j := by omega
    rw [e] at n1
    obtain ⟨p, p1, p2⟩ := hk.at n1
    have p3 := p2 _ (.refl _)
    have l1 := lit1 (A := B' ++ [.row (kindT.map .string) .own 1 true]) (z := .string ⟨#[]⟩) (len := 1) (ps := [(0, 1, .string (nmT o.k))]) [.string (nmT o.k)] rfl rfl (fun x hx => by simp at hx; subst hx; exact one1_str _)
    simp (maxSteps := 1000000) (disch := omega) only [stepS, reduceIte, Nat.reduceBEq, Nat.reduceEqDiff, tupleOf, stepT, stepX, heapR, lensR, Nat.reduceAdd, Nat.reduceLeDiff, g1, n3, p1, p3, l1]
    refine ⟨_, ?_, ?_, rfl⟩
    · (repeat first | exact Le.refl _ | assumption | refine Le.app ?_ _ | refine Le.set ?_ ?_ | omega | (simp only [List.length_append, List.length_singleton, List.length_set]; omega))
    · have := own_lit (D := B' ++ [.row (kindT.map .string) .own 1 true]) (b := B'.length) (s := nmT o.k) (by simp)
      rw [List.length_append] at this
      exact this
  rintro a B ⟨v, hle, ho, g1, g3, g4⟩
  have r2 := hle.row r1
  refine W_mid (fun a B => ∃ v, Le B' B ∧ OwnT B'.length B v (sN o) ∧ a 1 = ptr A.length ∧ a 3 = ii (hasO o.k) ∧ a 4 = v) ?_ ?_
  · cases hn : hN o.k with
    | true =>
      rw [hn] at b1
      obtain ⟨l1, w, D, q1, q2, q3, q4, q5⟩ := OwnT.push o.name hle ho (by simp [s0])
      simp (maxSteps := 1000000) (disch := omega) only [stepS, reduceIte, Nat.reduceBEq, Nat.reduceEqDiff, tupleOf, stepT, stepX, heapR, lensR, Nat.reduceAdd, Nat.reduceLeDiff, g1, g3, g4, r2, b1, l1, q1]
      refine ⟨_, q2, ?_, rfl⟩
      unfold sN
      rw [hn]
      exact q3
    | false =>
      rw [hn] at b1
      simp (maxSteps := 1000000) (disch := omega) only [stepS, reduceIte, Nat.reduceBEq, Nat.reduceEqDiff, tupleOf, stepT, stepX, heapR, lensR, Nat.reduceAdd, Nat.reduceLeDiff, g1, g3, g4, r2, b1]
      refine ⟨_, hle, ?_, rfl⟩
      unfold sN
      rw [hn]
      simpa using ho
  clear g1 g3 g4 ho r2 hle
  rintro a B ⟨v, hle, ho, g1, g3, g4⟩
  have r2 := hle.row r1
  have hpl : o.place.size ≤ 32 := by
    rcases h8 with h | h
    · rw [h]; decide
    · omega
  refine W_mid (fun a B => ∃ v, Le B' B ∧ OwnT B'.length B v (sT o) ∧ a 1 = ptr A.length ∧ a 3 = ii (hasO o.k) ∧ a 4 = v) ?_ ?_
  · cases hn : hT o.k with
    | true =>
      rw [hn] at b2
      simp (maxSteps := 1000000) (disch := omega) only [stepS, reduceIte, Nat.reduceBEq, Nat.reduceEqDiff, tupleOf, stepT, stepX, heapR, lensR, Nat.reduceAdd, Nat.reduceLeDiff, g1, g3, g4, r2, b2]
      refine ids_Hex_spec (by omega) fun C kC => ?_
      have c1 := cat_str ⟨[35].toArray⟩ ⟨(hexP o.text.data.toList).toArray⟩ (by show 1 + (hexP o.text.data.toList).length < _; rw [hexP_len, ← size_bytes]; omega)
      rw [ba_cat] at c1
      obtain ⟨l1, w, D, q1, q2, q3, q4, q5⟩ := OwnT.push (hexT o.text) (hle.trans kC) (OwnT.le ho kC) (by have := sL_len o; omega)
      unfold hexT at l1 q1
      have r3 := kC.row r2
      simp (maxSteps := 1000000) (disch := omega) only [stepS, reduceIte, Nat.reduceBEq, Nat.reduceEqDiff, tupleOf, stepT, stepX, heapR, lensR, Nat.reduceAdd, Nat.reduceLeDiff, g1, g3, g4, r3, c1, l1, q1]
      refine ⟨_, q2, ?_, rfl⟩
      unfold sT
      rw [hn]
      exact q3
    | false =>
      rw [hn] at b2
      simp (maxSteps := 1000000) (disch := omega) only [stepS, reduceIte, Nat.reduceBEq, Nat.reduceEqDiff, tupleOf, stepT, stepX, heapR, lensR, Nat.reduceAdd, Nat.reduceLeDiff, g1, g3, g4, r2, b2]
      refine ⟨_, hle, ?_, rfl⟩
      unfold sT
      rw [hn]
      simpa using ho
  clear g1 g3 g4 ho r2 hle
  rintro a B ⟨v, hle, ho, g1, g3, g4⟩
  have r2 := hle.row r1
  refine W_mid (fun a B => ∃ v, Le B' B ∧ OwnT B'.length B v (sI o) ∧ a 1 = ptr A.length ∧ a 3 = ii (hasO o.k) ∧ a 4 = v) ?_ ?_
  · cases hn : hI o.k with
    | true =>
      rw [hn] at b4
      simp (maxSteps := 1000000) (disch := omega) only [stepS, reduceIte, Nat.reduceBEq, Nat.reduceEqDiff, tupleOf, stepT, stepX, heapR, lensR, Nat.reduceAdd, Nat.reduceLeDiff, g1, g3, g4, r2, b4]
      refine hIt hop _ _ (hl.trans hle) ?_
      obtain ⟨l1, w, D, q1, q2, q3, q4, q5⟩ := OwnT.push (numT o.n) hle ho (by have := sL_len o; omega)
      simp (maxSteps := 1000000) (disch := omega) only [stepS, reduceIte, Nat.reduceBEq, Nat.reduceEqDiff, tupleOf, stepT, stepX, heapR, lensR, Nat.reduceAdd, Nat.reduceLeDiff, g1, g3, g4, r2, l1, q1]
      refine ⟨_, q2, ?_, rfl⟩
      unfold sI
      rw [hn]
      exact q3
    | false =>
      rw [hn] at b4
      simp (maxSteps := 1000000) (disch := omega) only [stepS, reduceIte, Nat.reduceBEq, Nat.reduceEqDiff, tupleOf, stepT, stepX, heapR, lensR, Nat.reduceAdd, Nat.reduceLeDiff, g1, g3, g4, r2, b4]
      refine ⟨_, hle, ?_, rfl⟩
      unfold sI
      rw [hn]
      simpa using ho
  clear g1 g3 g4 ho r2 hle
  rintro a B ⟨v, hle, ho, g1, g3, g4⟩
  have r2 := hle.row r1
  refine W_mid (fun a B => ∃ v, Le B' B ∧ OwnT B'.length B v (sA o) ∧ a 1 = ptr A.length ∧ a 3 = ii (hasO o.k) ∧ a 4 = v) ?_ ?_
  · cases hn : hA o.k with
    | true =>
      rw [hn] at b8
      simp (maxSteps := 1000000) (disch := omega) only [stepS, reduceIte, Nat.reduceBEq, Nat.reduceEqDiff, tupleOf, stepT, stepX, heapR, lensR, Nat.reduceAdd, Nat.reduceLeDiff, g1, g3, g4, r2, b8]
      refine ids_Hex_spec (by omega) fun C kC => ?_
      have c1 := cat_str ⟨[35].toArray⟩ ⟨(hexP o.place.data.toList).toArray⟩ (by show 1 + (hexP o.place.data.toList).length < _; rw [hexP_len, ← size_bytes]; omega)
      rw [ba_cat] at c1
      obtain ⟨l1, w, D, q1, q2, q3, q4, q5⟩ := OwnT.push (hexT o.place) (hle.trans kC) (OwnT.le ho kC) (by have := sL_len o; omega)
      unfold hexT at l1 q1
      have r3 := kC.row r2
      simp (maxSteps := 1000000) (disch := omega) only [stepS, reduceIte, Nat.reduceBEq, Nat.reduceEqDiff, tupleOf, stepT, stepX, heapR, lensR, Nat.reduceAdd, Nat.reduceLeDiff, g1, g3, g4, r3, c1, l1, q1]
      refine ⟨_, q2, ?_, rfl⟩
      unfold sA
      rw [hn]
      exact q3
    | false =>
      rw [hn] at b8
      simp (maxSteps := 1000000) (disch := omega) only [stepS, reduceIte, Nat.reduceBEq, Nat.reduceEqDiff, tupleOf, stepT, stepX, heapR, lensR, Nat.reduceAdd, Nat.reduceLeDiff, g1, g3, g4, r2, b8]
      refine ⟨_, hle, ?_, rfl⟩
      unfold sA
      rw [hn]
      simpa using ho
  clear g1 g3 g4 ho r2 hle
  rintro a B ⟨v, hle, ho, g1, g3, g4⟩
  have r2 := hle.row r1
  have hj := joinT_sA o
  have htl := (tA_len hop).2.2.2.2
  simp (maxSteps := 1000000) (disch := omega) only [stepS, reduceIte, Nat.reduceBEq, Nat.reduceEqDiff, tupleOf, stepT, stepX, heapR, lensR, Nat.reduceAdd, Nat.reduceLeDiff, g4]
  refine join_spec joinsTexts (OwnT.sl ho) (by have := sL_len o; omega) (by rw [hj]; show (tA o).length ≤ _; omega) ?_
  simp (maxSteps := 1000000) (disch := omega) only [stepS, reduceIte, Nat.reduceBEq, Nat.reduceEqDiff, tupleOf, stepT, stepX, heapR, lensR, Nat.reduceAdd, Nat.reduceLeDiff]
  have := hq _ (hl.trans hle)
  unfold showB at this
  rw [hop] at this
  exact this
end Go.AS.C


namespace Go.AS.C
open Go Go.Proofs
set_option linter.unusedVariables false
set_option linter.unusedSimpArgs false
set_option maxRecDepth 10000

theorem cat3 {t p x : List UInt8} (h : t.length + p.length + x.length < 2 ^ 50) : binA .add (.string ⟨t.toArray⟩) (.string ⟨p.toArray⟩) = some (.string ⟨(t ++ p).toArray⟩) ∧ binA .add (.string ⟨(t ++ p).toArray⟩) (.string ⟨x.toArray⟩) = some (.string ⟨(t ++ (p ++ x)).toArray⟩) := by
  refine ⟨?_, ?_⟩
  · rw [cat_str _ _ (by show t.length + p.length < _; omega), ba_cat]
  · rw [cat_str _ _ (by show (t ++ p).length + x.length < _; rw [List.length_append]; omega), ba_cat, List.append_assoc]
theorem str_bl (s : ByteArray) : Value.string s = .string ⟨s.data.toList.toArray⟩ := by cases s; rfl
theorem ref14_Show_spec {A : AH} {o : OpV} {Q : Value → AH → Prop} (hs : o.Fin) (hq : Q (.string (showB o)) A) : ACalls 1 Tryd.prog chantryref14_Show [o.v] Q A := by
  refine ACalls.pure1 _ rfl hq fun Q hq => ?_
  refine ACalls.of_fits mixed fits_chantryref14_Show rfl ?_
  unfold ic_chantryref14_Show
  have i0 : initA [o.v] 0 = o.v := rfl
  generalize initA [o.v] = a at i0
  rw [OpV.v_eq] at i0
  refine W_mid (fun a B => B = A ++ [.row (cellsO o) .own 0 true] ∧ a 1 = ptr A.length) ?_ ?_
  · simp (maxSteps := 1000000) (disch := omega) only [stepS, reduceIte, Nat.reduceBEq, Nat.reduceEqDiff, tupleOf, stepT, stepX, heapR, lensR, Nat.reduceAdd, Nat.reduceLeDiff, i0]
  rintro a B ⟨hB, g1⟩
  have r1 : rowAt B A.length = some (cellsO o, .own, 0, true) := by rw [hB]; exact rowAt_own (get_last _ _)
  have hl : Le A B := by rw [hB]; exact .push _ _
  clear i0 hB
  refine W_midR (fun a B' => opOk o = true ∧ B' = B ∧ a 1 = ptr A.length) ?_ ?_
  · simp (maxSteps := 1000000) (disch := omega) only [stepS, reduceIte, Nat.reduceBEq, Nat.reduceEqDiff, tupleOf, stepT, stepX, heapR, lensR, Nat.reduceAdd, Nat.reduceLeDiff, g1, r1]
    refine ref14_Check_spec hs ?_
    cases hop : opOk o with
    | false =>
      simp (maxSteps := 1000000) (disch := omega) only [stepS, reduceIte, Nat.reduceBEq, Nat.reduceEqDiff, tupleOf, stepT, stepX, heapR, lensR, Nat.reduceAdd, Nat.reduceLeDiff, g1, r1, reduceCtorEq, false_and, false_or, true_and]
      have := hq _ hl
      unfold showB at this
      rw [hop] at this
      exact this
    | true =>
      simp (maxSteps := 1000000) (disch := omega) only [stepS, reduceIte, Nat.reduceBEq, Nat.reduceEqDiff, tupleOf, stepT, stepX, heapR, lensR, Nat.reduceAdd, Nat.reduceLeDiff, g1, r1, reduceCtorEq, false_and, or_false, true_and]
  rintro a B' ⟨hop, rfl, g1⟩
  obtain ⟨h1, h2, h3, h4, h5, h6, h7, h8, h9, h10⟩ := opOk_iff.1 hop
  obtain ⟨n1, n2, j, n3, n4⟩ := nmT_at h1
  obtain ⟨L0, LN, LT, LI, LA⟩ := tA_len hop
  have hpl : o.place.size ≤ 32 := by
    rcases h8 with h | h
    · rw [h]; decide
    · omega
  refine W_mid (fun a B => B = B' ++ [.row (kindT.map .string) .own 1 true] ∧ a 1 = ptr A.length ∧ a 3 = .slice (some ⟨B'.length, 0, none⟩) 7 7) ?_ ?_
  · simp (maxSteps := 1000000) (disch := omega) only [stepS, reduceIte, Nat.reduceBEq, Nat.reduceEqDiff, tupleOf, stepT, stepX, heapR, lensR, Nat.reduceAdd, Nat.reduceLeDiff, g1, kinds_row]
  rintro a B ⟨hB, g1, g3⟩
  have hk : SlT B (.slice (some ⟨B'.length, 0, none⟩) 7 7) kindT := by rw [hB]; exact kinds_sl B'
  have hle : Le B' B := by rw [hB]; exact .push _ _
  have r2 := hle.row r1
  have hlB := hl.trans hle
  clear hB
  have e : (o.k - 1).toNat = j := by omega
  rw [e] at n1
  obtain ⟨p, p1, p2⟩ := hk.at n1
  have p3 := p2 _ (.refl _)
  refine W_mid (fun a B1 => B1 = B ∧ a 1 = ptr A.length ∧ a 4 = .string ⟨(t0 o).toArray⟩) ?_ ?_
  · simp (maxSteps := 1000000) (disch := omega) only [stepS, reduceIte, Nat.reduceBEq, Nat.reduceEqDiff, tupleOf, stepT, stepX, heapR, lensR, Nat.reduceAdd, Nat.reduceLeDiff, g1, g3, r2, n3, p1, p3]
    unfold t0
    exact str_bl _
  clear g1 g3
  rintro a B1 ⟨rfl, g1, g4⟩
  refine W_mid (fun a B => B = B1 ∧ a 1 = ptr A.length ∧ a 4 = .string ⟨(t0 o).toArray⟩ ∧ a 5 = .bool (hN o.k) ∧ a 6 = .bool (hT o.k) ∧ a 7 = .bool (hI o.k) ∧ a 8 = .bool (hA o.k)) ?_ ?_
  · simp (maxSteps := 1000000) (disch := omega) only [stepS, reduceIte, Nat.reduceBEq, Nat.reduceEqDiff, tupleOf, stepT, stepX, heapR, lensR, Nat.reduceAdd, Nat.reduceLeDiff, g1, g4, r2]
    refine ref14_Has_spec ?_
    simp (maxSteps := 1000000) (disch := omega) only [stepS, reduceIte, Nat.reduceBEq, Nat.reduceEqDiff, tupleOf, stepT, stepX, heapR, lensR, Nat.reduceAdd, Nat.reduceLeDiff, g1, g4, sExt, List.getElem?_toArray]
  clear g1 g4
  rintro a B ⟨rfl, g1, g4, g5, g6, g7, g8⟩
  refine W_mid (fun a B2 => B2 = B ∧ a 1 = ptr A.length ∧ a 4 = .string ⟨(tN o).toArray⟩ ∧ a 6 = .bool (hT o.k) ∧ a 7 = .bool (hI o.k) ∧ a 8 = .bool (hA o.k)) ?_ ?_
  · cases hn : hN o.k with
    | true =>
      rw [hn] at g5
      have hnm : o.name.size ≤ 12 := by rw [if_pos hn] at h2; exact (nameOk_size h2).2
      obtain ⟨c1, c2⟩ := cat3 (t := t0 o) (p := [32]) (x := o.name.data.toList) (by simp [← size_bytes]; omega)
      rw [← str_bl] at c2
      simp (maxSteps := 1000000) (disch := omega) only [stepS, reduceIte, Nat.reduceBEq, Nat.reduceEqDiff, tupleOf, stepT, stepX, heapR, lensR, Nat.reduceAdd, Nat.reduceLeDiff, g1, g4, g5, g6, g7, g8, r2, c1, c2]
      unfold tN
      rw [hn]
      rfl
    | false =>
      rw [hn] at g5
      simp (maxSteps := 1000000) (disch := omega) only [stepS, reduceIte, Nat.reduceBEq, Nat.reduceEqDiff, tupleOf, stepT, stepX, heapR, lensR, Nat.reduceAdd, Nat.reduceLeDiff, g1, g4, g5, g6, g7, g8, r2]
      unfold tN
      rw [hn]
      simp
  clear g1 g4 g5 g6 g7 g8
  rintro a B2 ⟨rfl, g1, g4, g6, g7, g8⟩
  refine W_mid (fun a B => Le B2 B ∧ rowAt B A.length = some (cellsO o, .own, 0, true) ∧ a 1 = ptr A.length ∧ a 4 = .string ⟨(tT o).toArray⟩ ∧ a 7 = .bool (hI o.k) ∧ a 8 = .bool (hA o.k)) ?_ ?_
  · cases hn : hT o.k with
    | true =>
      rw [hn] at g6
      have hxl := hexP_len o.text.data.toList
      rw [← size_bytes] at hxl
      obtain ⟨c1, c2⟩ := cat3 (t := tN o) (p := [32, 35]) (x := hexP o.text.data.toList) (by simp; omega)
      simp (maxSteps := 1000000) (disch := omega) only [stepS, reduceIte, Nat.reduceBEq, Nat.reduceEqDiff, tupleOf, stepT, stepX, heapR, lensR, Nat.reduceAdd, Nat.reduceLeDiff, g1, g4, g6, g7, g8, r2, c1]
      refine ref04_Hex_spec (s := o.text) (by omega) fun C kC => ?_
      have r3 := kC.row r2
      simp (maxSteps := 1000000) (disch := omega) only [stepS, reduceIte, Nat.reduceBEq, Nat.reduceEqDiff, tupleOf, stepT, stepX, heapR, lensR, Nat.reduceAdd, Nat.reduceLeDiff, g1, g4, g6, g7, g8, r3, c1, c2]
      refine ⟨kC, ?_⟩
      unfold tT
      rw [hn]
      rfl
    | false =>
      rw [hn] at g6
      simp (maxSteps := 1000000) (disch := omega) only [stepS, reduceIte, Nat.reduceBEq, Nat.reduceEqDiff, tupleOf, stepT, stepX, heapR, lensR, Nat.reduceAdd, Nat.reduceLeDiff, g1, g4, g6, g7, g8, r2]
      refine ⟨.refl _, ?_⟩
      unfold tT
      rw [hn]
      simp
  clear g1 g4 g6 g7 g8
  rintro a B ⟨k3, r3, g1, g4, g7, g8⟩
  refine W_mid (fun a B1 => B1 = B ∧ a 1 = ptr A.length ∧ a 4 = .string ⟨(tI o).toArray⟩ ∧ a 8 = .bool (hA o.k)) ?_ ?_
  · cases hn : hI o.k with
    | true =>
      rw [hn] at g7
      have hnl := numT_size (n := o.n) (by omega) (by omega)
      have hnl : (Lib.itoa o.n).length ≤ 21 := hnl
      obtain ⟨c1, c2⟩ := cat3 (t := tT o) (p := [32]) (x := Lib.itoa o.n) (by simp; omega)
      simp (maxSteps := 1000000) (disch := omega) only [stepS, reduceIte, Nat.reduceBEq, Nat.reduceEqDiff, tupleOf, stepT, stepX, heapR, lensR, Nat.reduceAdd, Nat.reduceLeDiff, g1, g4, g7, g8, r3, c1]
      refine ref14_Digits_spec (n := o.n) (by omega) (by omega) ?_
      simp (maxSteps := 1000000) (disch := omega) only [stepS, reduceIte, Nat.reduceBEq, Nat.reduceEqDiff, tupleOf, stepT, stepX, heapR, lensR, Nat.reduceAdd, Nat.reduceLeDiff, g1, g4, g7, g8, r3, c1, c2]
      unfold tI
      rw [hn]
      rfl
    | false =>
      rw [hn] at g7
      simp (maxSteps := 1000000) (disch := omega) only [stepS, reduceIte, Nat.reduceBEq, Nat.reduceEqDiff, tupleOf, stepT, stepX, heapR, lensR, Nat.reduceAdd, Nat.reduceLeDiff, g1, g4, g7, g8, r3]
      unfold tI
      rw [hn]
      simp
  clear g1 g4 g7 g8 r2
  rintro a B1 ⟨rfl, g1, g4, g8⟩
  have r2 := r3
  refine W_mid (fun a B => Le B1 B ∧ a 4 = .string ⟨(tA o).toArray⟩) ?_ ?_
  · cases hn : hA o.k with
    | true =>
      rw [hn] at g8
      have hxl := hexP_len o.place.data.toList
      rw [← size_bytes] at hxl
      obtain ⟨c1, c2⟩ := cat3 (t := tI o) (p := [32, 35]) (x := hexP o.place.data.toList) (by simp; omega)
      simp (maxSteps := 1000000) (disch := omega) only [stepS, reduceIte, Nat.reduceBEq, Nat.reduceEqDiff, tupleOf, stepT, stepX, heapR, lensR, Nat.reduceAdd, Nat.reduceLeDiff, g1, g4, g8, r2, c1]
      refine ref04_Hex_spec (s := o.place) (by omega) fun C kC => ?_
      have r3 := kC.row r2
      simp (maxSteps := 1000000) (disch := omega) only [stepS, reduceIte, Nat.reduceBEq, Nat.reduceEqDiff, tupleOf, stepT, stepX, heapR, lensR, Nat.reduceAdd, Nat.reduceLeDiff, g1, g4, g8, r3, c1, c2]
      refine ⟨kC, ?_⟩
      unfold tA
      rw [hn]
      rfl
    | false =>
      rw [hn] at g8
      simp (maxSteps := 1000000) (disch := omega) only [stepS, reduceIte, Nat.reduceBEq, Nat.reduceEqDiff, tupleOf, stepT, stepX, heapR, lensR, Nat.reduceAdd, Nat.reduceLeDiff, g1, g4, g8, r2]
      refine ⟨.refl _, ?_⟩
      unfold tA
      rw [hn]
      simp
  clear g1 g4 g8
  rintro a B ⟨k4, g4⟩
  simp (maxSteps := 1000000) (disch := omega) only [stepS, reduceIte, Nat.reduceBEq, Nat.reduceEqDiff, tupleOf, stepT, stepX, heapR, lensR, Nat.reduceAdd, Nat.reduceLeDiff, g4]
  have := hq _ ((hlB.trans k3).trans k4)
  unfold showB at this
  rw [hop, if_pos rfl, joinT_sA] at this
  exact this
end Go.AS.C


namespace Go.AS.C
open Go Go.Proofs Go.RowKit Go.Sort
set_option linter.unusedVariables false
set_option linter.unusedSimpArgs false
set_option maxRecDepth 10000

/-! strconv.Itoa, where its table is laid. -/
def kI : List Int := Lib.pow10Tab
def kV : List Value := kI.map fun n => .int .u64 n
theorem kI_cells : (kI.map fun m => Value.int .u64 m) = kV := id rfl
theorem kI_flat : ∀ v ∈ kV, flatV v = true ∧ v.oneCell' = true := by
  intro v hv
  unfold kV at hv
  rw [List.mem_map] at hv
  obtain ⟨n, _, rfl⟩ := hv
  exact ⟨rfl, rfl⟩
/-- The block of the package variable. -/
def kB : Blk := .row kV .ro 0 true
theorem below_grow (w : World) (k : Nat) (os : Array Obj) : Below w.heap.size w (grow (w.drewN k) os) :=
  ⟨rfl, rfl, rfl, by simp [grow, World.drewN], fun i hi => by
    show (w.heap ++ os)[i]? = _
    rw [Array.getElem?_append_left hi]⟩
theorem tab_is {μ : Mu} {A : AH} {w : World} (hg : Le [kB] A) (hr : Rel 1 μ A w) : Lib.TabIs Tryd.prog w "internal/strconv.uint64pow10" .u64 Lib.pow10Tab := by
  obtain ⟨e, he, hb, ho⟩ := hr.glo 0 (by omega)
  have h0 : A[0]? = some (.row kV .ro 0 true) := hg.get (show [kB][0]? = some kB from rfl)
  obtain ⟨rc, T, fr, g1, g2, _, g4⟩ := hr.row 0 kV .ro 0 true e h0 he (by decide)
  have hs := g4.2 rfl
  rw [ho] at g2 hs
  rw [hb] at g1
  have hl : rc.toList = kV := by
    apply List.ext_getElem?
    intro j
    rcases Nat.lt_or_ge j kV.length with hj | hj
    · have hv : kV[j]? = some kV[j] := List.getElem?_eq_getElem hj
      obtain ⟨_, v', q1, q2⟩ := g2 j _ hv
      rw [Nat.zero_add, q2.eq_of_flat (kI_flat _ (List.getElem_mem hj)).1] at q1
      rw [hv, Array.getElem?_toList, q1]
    · rw [List.getElem?_eq_none (by rw [Array.length_toList]; omega), List.getElem?_eq_none hj]
  unfold Lib.TabIs World.var?
  have hn : Tryd.prog.globalNamed "internal/strconv.uint64pow10" = some 0 := by kernel_rfl
  rw [hn]
  simp only [Option.bind_some, g1]
  rw [← Array.toArray_toList (xs := rc), hl]
  rfl
theorem itoa_spec {A : AH} {n : Int} {Q : Value → AH → Prop} (hg : Le [kB] A) (h0 : -9223372036854775808 ≤ n) (h1 : n ≤ 9223372036854775807) (hq : Q (.string (numT n)) A) : ACalls 1 Tryd.prog strconv_Itoa [ii n] Q A := by
  intro μ args' w hr k1 k2
  obtain ⟨v', rfl⟩ : ∃ v', args' = #[v'] := by
    have : args'.size = 1 := by simpa using k1
    exact ⟨args'[0], by apply Array.ext (by simpa using this); intro i hi1 hi2; simp at hi2; subst hi2; rfl⟩
  have hv := k2 0 _ v' rfl rfl
  have e : v' = ii n := hv.eq_of_flat rfl
  subst e
  refine (Tryd.strconv_Itoa n h0 h1 w (tab_is hg hr)).mono ?_
  rintro en w' ⟨rfl, k, os, rfl⟩
  obtain ⟨hr1, hs1⟩ := hr.below (below_grow w k os)
  exact ⟨_, _, μ, A, rfl, .flat rfl, hr1, hs1, hq⟩
theorem op_Show_spec {A : AH} {o : OpV} {Q : Value → AH → Prop} (hg : Le [kB] A) (hs : o.Fin) (hq : Q (.string (showB o)) A) : ACalls 1 Tryd.prog op_Show [o.v] Q A :=
  op_Show_walk hs (fun hop B K hl k => itoa_spec (hg.trans hl) (by have := hs.2.1; omega) (by have := hs.2.1; omega) k) hq
end Go.AS.C


namespace Go.AS.C
open Go Go.Proofs
set_option linter.unusedVariables false
set_option linter.unusedSimpArgs false
set_option maxRecDepth 10000

/-- The reference's cursor, as a value. -/
def refV (b : Value) (at_ : Nat) (bad : Bool) : Value := .agg #[b, ii at_, .bool bad]
def RefA (rb : Nat) (A : AH) (v : Value) (st : CurS) : Prop := match st with
  | none => v = refV (.slice none 0 0) 0 true
  | some r => ∃ (b : Value) (k : Nat) (all : List UInt8), v = refV b k false ∧ Byt A b all ∧ k ≤ all.length ∧ r = all.drop k ∧ all.length ≤ 2 ^ 40 ∧ ∀ j ∈ blkOf b, j < rb
variable {rb : Nat}
/-- Bytes that lie in a block ahead of rb. -/
def BytR (rb : Nat) (A : AH) (t : Value) (bs : List UInt8) : Prop := Byt A t bs ∧ ∀ j ∈ blkOf t, j < rb
theorem BytR.nil (rb : Nat) (A : AH) : BytR rb A (.slice none 0 0) [] := ⟨⟨rfl, .inl ⟨rfl, rfl⟩⟩, fun _ h => by cases h⟩
theorem RefA.le {A B : AH} {v : Value} {st : CurS} (h : RefA rb A v st) (hl : Le A B) : RefA rb B v st := by
  cases st with
  | none => exact h
  | some r =>
    obtain ⟨b, k, all, h1, h2, h3, h4⟩ := h
    exact ⟨b, k, all, h1, h2.le hl, h3, h4⟩
theorem RefA.kp {A B : AH} {i : Nat} {v : Value} {st : CurS} (h : RefA rb A v st) (hk : Keep A i B) {zc : List Value} {zst : St} {zex : Bool} (hi : A[i]? = some (.row zc zst 0 zex)) : RefA rb B v st := by
  cases st with
  | none => exact h
  | some r =>
    obtain ⟨b, k, all, h1, h2, h3, h4⟩ := h
    exact ⟨b, k, all, h1, h2.kp hk hi, h3, h4⟩
/-- What a reader leads to is as it was, as it stood there at the start. -/
theorem RefA.base {A0 A B : AH} {v : Value} {st : CurS} (hA : Le A0 A) (hB : Le A0 B) (h : RefA A0.length A v st) : RefA A0.length B v st := by
  cases st with
  | none => exact h
  | some r =>
    obtain ⟨b, k, all, h1, h2, h3, h4, h5, h6⟩ := h
    refine ⟨b, k, all, h1, h2.keepB fun j c hc hj => ?_, h3, h4, h5, h6⟩
    have hlt := h6 j hj
    obtain ⟨c0, hc0⟩ : ∃ c0, A0[j]? = some c0 := ⟨_, List.getElem?_eq_getElem hlt⟩
    rw [hA.get hc0] at hc
    rw [← hc]
    exact hB.get hc0
/-- Whatever state: the value's three cells. -/
theorem RefA.cells {A : AH} {v : Value} {st : CurS} (h : RefA rb A v st) : ∃ (b : Value) (k : Nat), v = refV b k st.isNone ∧ one1 b := by
  cases st with
  | none => exact ⟨_, _, h, one1_sl _ _ _⟩
  | some r =>
    obtain ⟨b, k, all, h1, h2, h3, h4⟩ := h
    obtain ⟨p, c, hs, _⟩ := h2.shape
    exact ⟨b, k, h1, by rw [hs]; exact one1_sl _ _ _⟩
end Go.AS.C


namespace Go.AS.C
open Go Go.Proofs
set_option linter.unusedVariables false
set_option linter.unusedSimpArgs false
set_option maxRecDepth 10000

variable {rb : Nat}
section
variable {A A0 : AH} {i : Nat} {st : CurS} {Q : Value → AH → Prop}
theorem cur_Byte_spec (hl : Le A0 A) (hc : CurA A0.length A i st) (hq : ∀ A', Le A0 A' → Keep A i A' → CurA A0.length A' i (byteC st).1 → Q (ii ((byteC st).2 : Nat)) A') : ACalls 1 Tryd.prog num_Cursor_Byte [ptr i] Q A := by
  refine ACalls.of_fits mixed fits_num_Cursor_Byte rfl ?_
  unfold ic_num_Cursor_Byte
  have i0 : initA [ptr i] 0 = ptr i := rfl
  generalize initA [ptr i] = a at i0
  simp (maxSteps := 1000000) (disch := omega) only [stepS, reduceIte, Nat.reduceBEq, Nat.reduceEqDiff, tupleOf, stepT, i0]
  refine cur_Take_spec (n := 1) hl hc fun A' v k1 k2 k3 k4 => ?_
  rw [byteC_take] at hq
  have hlen := k4.byt.len
  simp (maxSteps := 1000000) (disch := omega) only [stepS, reduceIte, Nat.reduceBEq, Nat.reduceEqDiff, tupleOf, stepT, i0, hlen]
  generalize hr : (takeC st 1) = r at k3 k4 hq hlen ⊢
  obtain ⟨st', bs⟩ := r
  refine W_loop (fun a' B => B = A' ∧ a' 6 = v ∧ a' 7 = ii bs.length ∧ a' 8 = ii 0) (fun a' _ => 0) ?_ ?_
  · simp (maxSteps := 1000000) (disch := omega) only [stepS, reduceIte, Nat.reduceBEq, Nat.reduceEqDiff, tupleOf, stepT, i0]
  · rintro a2 B ⟨rfl, g6, g7, g8⟩
    cases bs with
    | nil =>
      have e : ((0 : Int) < (([] : List UInt8).length : Nat)) = False := by simp
      simp (maxSteps := 1000000) (disch := omega) only [stepS, reduceIte, Nat.reduceBEq, Nat.reduceEqDiff, tupleOf, stepT, g6, g7, g8, e]
      exact hq _ k1 k2 k3
    | cons b r =>
      obtain ⟨p, p1, p2⟩ := k4.byt.at1 (j := 0) (b := b) rfl
      have e : ((0 : Int) < ((b :: r).length : Nat)) = True := by simp only [List.length_cons, eq_iff_iff, iff_true]; omega
      have p1' : sIaddr B v (.int .i64 0) 1 = some (p, B) := p1
      simp (maxSteps := 1000000) (disch := omega) only [stepS, reduceIte, Nat.reduceBEq, Nat.reduceEqDiff, tupleOf, stepT, g6, g7, g8, e, p1', p2, conv_i64_by8]
      exact hq _ k1 k2 k3

end
end Go.AS.C


namespace Go.AS.C
open Go Go.Proofs
set_option linter.unusedVariables false
set_option linter.unusedSimpArgs false
set_option maxRecDepth 10000

theorem num_Unfix_spec {A : AH} {v : Value} {bs : List UInt8} {Q : Value → AH → Prop} (hv : Byt A v bs) (hq : Q (.tuple #[ii ((unfixN bs).1 : Nat), ii ((unfixN bs).2 : Nat)]) A) : ACalls 1 Tryd.prog num_Unfix [v] Q A := by
  refine ACalls.of_fits mixed fits_num_Unfix rfl ?_
  unfold ic_num_Unfix
  have i0 : initA [v] 0 = v := rfl
  generalize initA [v] = a at i0
  by_cases h1 : bs.length < 1
  · have c1 : ((bs.length : Int) < 1) = True := by simp; omega
    simp only [stepS, reduceIte, Nat.reduceBEq, Nat.reduceEqDiff, tupleOf, i0, hv.len, binA_lss, c1]
    have e : unfixN bs = (0, 1) := by unfold unfixN; rw [if_pos (.inl h1)]
    rw [e] at hq
    exact hq
  · have c1 : ((bs.length : Int) < 1) = False := by simp; omega
    by_cases h4 : 4 < bs.length
    · have c2 : ((bs.length : Int) > 4) = True := by simp; omega
      simp only [stepS, reduceIte, Nat.reduceBEq, Nat.reduceEqDiff, tupleOf, i0, hv.len, binA_lss, c1, binA_gtr, c2]
      have e : unfixN bs = (0, 1) := by unfold unfixN; rw [if_pos (.inr h4)]
      rw [e] at hq
      exact hq
    · have c2 : ((bs.length : Int) > 4) = False := by simp; omega
      simp only [stepS, reduceIte, Nat.reduceBEq, Nat.reduceEqDiff, tupleOf, i0, hv.len, binA_lss, c1, binA_gtr, c2]
      refine W_loop (fun a' A' => A' = A ∧ ∃ k : Nat, k ≤ bs.length ∧ a' 15 = v ∧ a' 16 = ii bs.length ∧ a' 17 = ii k ∧ a' 4 = ii (leN (bs.take k) : Nat)) (fun a' _ => (bs.length - (iv (a' 17)).toNat)) ?_ ?_
      · refine ⟨rfl, 0, by omega, ?_⟩
        simp only [stepS, reduceIte, Nat.reduceBEq, Nat.reduceEqDiff, tupleOf, i0]
        simp [leN]
      · rintro a A' ⟨rfl, k, hk, g15, g16, g17, g4⟩
        rcases Nat.lt_or_ge k bs.length with hlt | hge
        · have hc : ((k : Int) < (bs.length : Int)) = True := by simp; omega
          obtain ⟨b, hb⟩ : ∃ b, bs[k]? = some b := ⟨_, List.getElem?_eq_getElem hlt⟩
          obtain ⟨p, hp1, hp2⟩ := hv.at1 hb
          have hb8 := b.toNat_lt
          have hk3 : k ≤ 3 := by omega
          have hpk : 2 ^ (8 * k) ≤ 2 ^ 24 := Nat.pow_le_pow_right (by omega) (by omega)
          have hlow := leN_lt (bs.take k)
          have hlen : (bs.take k).length = k := by simp; omega
          rw [hlen, ← pow256] at hlow
          have hm : b.toNat * 2 ^ (8 * k) ≤ 256 * 2 ^ 24 := Nat.mul_le_mul (by omega) hpk
          have d1 : binA .mul (ii 8) (ii k) = some (ii ((8 * k : Nat) : Int)) := mul_ii 8 k (by omega)
          have d2 := shl_ii b.toNat .i64 (8 * k) (by omega) (by omega)
          have d3 := or_ii (leN (bs.take k)) (b.toNat * 2 ^ (8 * k)) (by omega) (by omega)
          simp only [stepS, reduceIte, Nat.reduceBEq, Nat.reduceEqDiff, tupleOf, g15, g16, g17, g4, binA_lss, hc, hp1, hp2, conv_i64_by8, d1, d2, d3, binA_add1 k (by omega)]
          refine ⟨⟨k + 1, by omega, rfl, ?_⟩, by omega⟩
          rw [List.take_add_one, hb, leN_append, hlen, or_low _ _ _ hlow, pow256]
          simp only [Option.toList_some, leN, Nat.mul_zero, Nat.add_zero]
          rw [Nat.mul_comm b.toNat]
        · have hc : ((k : Int) < (bs.length : Int)) = False := by simp; omega
          simp only [stepS, reduceIte, Nat.reduceBEq, Nat.reduceEqDiff, tupleOf, g15, g16, g17, g4, binA_lss, hc]
          rw [List.take_of_length_le hge]
          refine num_is_spec ?_
          by_cases hmax : leN bs ≤ 2147483647
          · have c3 : ((0 : Int) ≤ (leN bs : Nat) ∧ ((leN bs : Nat) : Int) ≤ 2147483647) = True := by simp; omega
            have e : unfixN bs = (leN bs, 0) := by unfold unfixN; rw [if_neg (by omega), if_pos hmax]
            rw [e] at hq
            rw [List.take_of_length_le hge] at g4
            simp only [stepS, reduceIte, Nat.reduceBEq, Nat.reduceEqDiff, tupleOf, c3, g4]
            exact hq
          · have c3 : ((0 : Int) ≤ (leN bs : Nat) ∧ ((leN bs : Nat) : Int) ≤ 2147483647) = False := by simp; omega
            have e : unfixN bs = (0, 5) := by unfold unfixN; rw [if_neg (by omega), if_neg hmax]
            rw [e] at hq
            simp only [stepS, reduceIte, Nat.reduceBEq, Nat.reduceEqDiff, tupleOf, c3, g4]
            exact hq
end Go.AS.C


namespace Go.AS.C
open Go Go.Proofs
set_option linter.unusedVariables false
set_option linter.unusedSimpArgs false
set_option maxRecDepth 10000

/-! op.Get. -/
theorem unfixN_le (bs : List UInt8) : (unfixN bs).1 ≤ 2147483647 := by
  unfold unfixN
  split
  · simp
  · split
    · assumption
    · simp
theorem byteC_le (st : CurS) : (byteC st).2 ≤ 255 := by
  unfold byteC
  split
  · simp
  · simp
  · rename_i b r; have := b.toNat_lt; simp only; omega
theorem op_number_spec {A A0 : AH} {i : Nat} {st : CurS} {Q : Value → AH → Prop} (hl : Le A0 A) (hc : CurA A0.length A i st)
    (hq : ∀ A', Le A0 A' → Keep A i A' → CurA A0.length A' i (numS st).1 → Q (.tuple #[ii (numS st).2.1, .bool (numS st).2.2]) A') : ACalls 1 Tryd.prog op_number [ptr i] Q A := by
  refine ACalls.of_fits mixed fits_op_number rfl ?_
  unfold ic_op_number
  have i0 : initA [ptr i] 0 = ptr i := rfl
  generalize initA [ptr i] = a at i0
  simp (maxSteps := 1000000) (disch := omega) only [stepS, reduceIte, Nat.reduceBEq, Nat.reduceEqDiff, tupleOf, stepT, i0]
  refine cur_Byte_spec hl hc fun A1 k1 p1 c1 => ?_
  simp (maxSteps := 1000000) (disch := omega) only [stepS, reduceIte, Nat.reduceBEq, Nat.reduceEqDiff, tupleOf, stepT, i0]
  refine cur_Take_spec (n := 4) k1 c1 fun A2 v k2 p2 c2 o2 => ?_
  simp (maxSteps := 1000000) (disch := omega) only [stepS, reduceIte, Nat.reduceBEq, Nat.reduceEqDiff, tupleOf, stepT, i0]
  refine num_Unfix_spec o2.byt ?_
  have hu := unfixN_le (takeC (byteC st).1 4).2
  have hs := byteC_le st
  have hres : ∀ n b, (numS st).2 = (n, b) → Q (.tuple #[ii n, .bool b]) A2 := fun n b h => by
    have := hq A2 k2 (p1.trans p2) c2
    rw [h] at this
    exact this
  unfold numS at hres
  simp only at hres
  generalize (takeC (byteC st).1 4).2 = t at hu hres ⊢
  generalize (byteC st).2 = s at hs hres ⊢
  by_cases h1 : s > 1
  · simp (maxSteps := 1000000) (disch := omega) only [stepS, reduceIte, Nat.reduceBEq, Nat.reduceEqDiff, tupleOf, stepT, i0]
    exact hres _ _ (if_pos (.inl (by omega)))
  · by_cases h2 : s = 1
    · by_cases h3 : (unfixN t).1 = 0
      · simp (maxSteps := 1000000) (disch := omega) only [stepS, reduceIte, Nat.reduceBEq, Nat.reduceEqDiff, tupleOf, stepT, i0]
        exact hres _ _ (if_pos (.inr ⟨h2, h3⟩))
      · subst h2
        have m1 : binA .mul (.int .i64 2) (.int .i64 ((1 : Nat) : Int)) = some (.int .i64 2) := rfl
        have m2 : binA .sub (.int .i64 1) (.int .i64 2) = some (.int .i64 (-1)) := rfl
        have m3 : binA .mul (ii ((unfixN t).1 : Nat)) (.int .i64 (-1)) = some (ii (((unfixN t).1 : Int) * (1 - 2 * ((1 : Nat) : Int)))) := mulI _ _ (by omega) (by omega)
        simp (maxSteps := 1000000) (disch := omega) only [stepS, reduceIte, Nat.reduceBEq, Nat.reduceEqDiff, tupleOf, stepT, i0, m1, m2, m3]
        rw [show (decide (((unfixN t).2 : Int) = 0)) = decide ((unfixN t).2 = 0) by rw [decide_eq_decide]; omega]
        exact hres _ _ (if_neg (by omega))
    · obtain rfl : s = 0 := by omega
      have m1 : binA .mul (.int .i64 2) (.int .i64 ((0 : Nat) : Int)) = some (.int .i64 0) := rfl
      have m2 : binA .sub (.int .i64 1) (.int .i64 0) = some (.int .i64 1) := rfl
      have m3 : binA .mul (ii ((unfixN t).1 : Nat)) (.int .i64 1) = some (ii (((unfixN t).1 : Int) * (1 - 2 * ((0 : Nat) : Int)))) := mulI _ _ (by omega) (by omega)
      simp (maxSteps := 1000000) (disch := omega) only [stepS, reduceIte, Nat.reduceBEq, Nat.reduceEqDiff, tupleOf, stepT, i0, m1, m2, m3]
      rw [show (decide (((unfixN t).2 : Int) = 0)) = decide ((unfixN t).2 = 0) by rw [decide_eq_decide]; omega]
      exact hres _ _ (if_neg (by omega))
theorem op_place_spec {A A0 : AH} {i : Nat} {k : Int} {st : CurS} {Q : Value → AH → Prop} (hl : Le A0 A) (hc : CurA A0.length A i st)
    (hq : ∀ A', Le A0 A' → Keep A i A' → CurA A0.length A' i (plS k st).1 → Q (.tuple #[.string (bA (plS k st).2.1), .bool (plS k st).2.2]) A') : ACalls 1 Tryd.prog op_place [ptr i, ii k] Q A := by
  refine ACalls.of_fits mixed fits_op_place rfl ?_
  unfold ic_op_place
  have i0 : initA [ptr i, ii k] 0 = ptr i := rfl
  have i1 : initA [ptr i, ii k] 1 = ii k := rfl
  generalize initA [ptr i, ii k] = a at i0 i1
  unfold plS at hq
  by_cases h5 : k = 5
  · rw [if_pos h5] at hq
    simp (maxSteps := 1000000) (disch := omega) only [stepS, reduceIte, Nat.reduceBEq, Nat.reduceEqDiff, tupleOf, stepT, i0, i1]
    refine cur_Byte_spec hl hc fun A1 k1 p1 c1 => ?_
    by_cases h0 : (byteC st).2 = 0
    · rw [if_pos h0] at hq
      simp (maxSteps := 1000000) (disch := omega) only [stepS, reduceIte, Nat.reduceBEq, Nat.reduceEqDiff, tupleOf, stepT, i0, i1]
      exact hq _ k1 p1 c1
    · rw [if_neg h0] at hq
      by_cases h1 : (byteC st).2 = 1
      · rw [if_pos h1] at hq
        simp (maxSteps := 1000000) (disch := omega) only [stepS, reduceIte, Nat.reduceBEq, Nat.reduceEqDiff, tupleOf, stepT, i0, i1]
        refine cur_Take_spec (n := 32) k1 c1 fun A2 v k2 p2 c2 o2 => ?_
        simp (maxSteps := 1000000) (disch := omega) only [stepS, reduceIte, Nat.reduceBEq, Nat.reduceEqDiff, tupleOf, stepT, i0, i1, o2.byt.str]
        exact hq _ k2 (p1.trans p2) c2
      · rw [if_neg h1] at hq
        simp (maxSteps := 1000000) (disch := omega) only [stepS, reduceIte, Nat.reduceBEq, Nat.reduceEqDiff, tupleOf, stepT, i0, i1]
        exact hq _ k1 p1 c1
  · rw [if_neg h5] at hq
    simp (maxSteps := 1000000) (disch := omega) only [stepS, reduceIte, Nat.reduceBEq, Nat.reduceEqDiff, tupleOf, stepT, i0, i1]
    refine cur_Take_spec (n := 32) hl hc fun A2 v k2 p2 c2 o2 => ?_
    simp (maxSteps := 1000000) (disch := omega) only [stepS, reduceIte, Nat.reduceBEq, Nat.reduceEqDiff, tupleOf, stepT, i0, i1, o2.byt.str]
    exact hq _ k2 p2 c2

structure GetH (A B : AH) (z i j : Nat) (st : CurS) (o : OpV) : Prop where
  le : Le A B
  cur : CurA A.length B i st
  rj : rowAt B j = some ([ii o.k, .string o.name, .string o.text, ii o.n, .string o.place], .own, 0, true)
  rz : rowAt B z = some ([.int .i64 0, .string e0, .string e0, .int .i64 0, .string e0], .own, 0, true)
theorem GetH.step {A B C : AH} {z i j : Nat} {st st' : CurS} {o : OpV} (h : GetH A B z i j st o) (hj : j ≠ i) (hz : z ≠ i) (hl : Le A C) (hk : Keep B i C) (hc : CurA A.length C i st') : GetH A C z i j st' o :=
  ⟨hl, hc, rowAt_own (hk.2 _ _ hj (rowAt_get h.rj)), rowAt_own (hk.2 _ _ hz (rowAt_get h.rz))⟩
theorem GetH.put {A B : AH} {z i j : Nat} {st : CurS} {o o' : OpV} (h : GetH A B z i j st o) (hj : j ≠ i) (hz : z ≠ j) (hg : A.length ≤ j) {cs : List Value} (hcs : cs = [ii o'.k, .string o'.name, .string o'.text, ii o'.n, .string o'.place]) : GetH A (B.set j (.row cs .own 0 true)) z i j st o' := by
  subst hcs
  have g := rowAt_get h.rj
  refine ⟨h.le.set hg, h.cur.keep (Keep.set _ _ _) (Ne.symm hj) (fun c hc => ?_), rowAt_own (set_get g), rowAt_own (by rw [List.getElem?_set_ne (Ne.symm hz)]; exact rowAt_get h.rz)⟩
  rw [g] at hc
  obtain rfl := (Option.some.inj hc).symm
  exact ⟨_, _, _, _, rfl, by decide⟩
theorem has_pos {k : Int} (h : hN k = true ∨ hT k = true ∨ hI k = true ∨ hA k = true) : hK k = true ∧ 0 < hasO k := by
  unfold hN hT hI hA at h
  simp only [decide_eq_true_eq] at h
  have hk : hK k = true := by unfold hK; rw [decide_eq_true_eq]; omega
  refine ⟨hk, ?_⟩
  rcases opKind hk with rfl | rfl | rfl | rfl | rfl | rfl | rfl <;> first | decide | omega
theorem has_kind {k : Int} (h : 0 < hasO k) : hK k = true := by
  unfold hK
  rw [decide_eq_true_eq]
  unfold hasO at h
  by_cases h1 : 1 ≤ k ∧ k ≤ 7
  · exact h1
  · rw [if_neg (by omega), if_neg (by omega), if_neg (by omega), if_neg (by omega), if_neg (by omega)] at h
    omega
theorem op_Get_spec {A : AH} {v : Value} {bs : List UInt8} {Q : Value → AH → Prop} (hv : Byt A v bs) (hl : bs.length ≤ 2 ^ 40) (hq : Q (getOV bs) A) : ACalls 1 Tryd.prog op_Get [v] Q A := by
  refine ACalls.pure1 _ (getOV_flat bs) hq fun Q hq => ?_
  refine ACalls.of_fits mixed fits_op_Get rfl ?_
  unfold ic_op_Get
  have i0 : initA [v] 0 = v := rfl
  generalize initA [v] = a at i0
  have k0 : Le A (A ++ [.row [.int .i64 0, .string e0, .string e0, .int .i64 0, .string e0] .own 0 true]) := .push _ _
  refine W_mid (fun a B => B = A ++ [.row [.int .i64 0, .string e0, .string e0, .int .i64 0, .string e0] .own 0 true] ∧ a 0 = v ∧ a 2 = ptr A.length) ?_ ?_
  · simp (maxSteps := 1000000) (disch := omega) only [stepS, reduceIte, Nat.reduceBEq, Nat.reduceEqDiff, tupleOf, stepT, stepX, heapR, lensR, Nat.reduceAdd, Nat.reduceLeDiff, i0]
    all_goals trivial
  rintro a B ⟨rfl, g0, g2⟩
  refine W_mid (fun a B => ∃ i, a 0 = v ∧ a 2 = ptr A.length ∧ a 5 = ptr i ∧ i ≠ A.length ∧ Le A B ∧ CurA A.length B i (some bs) ∧ rowAt B A.length = some ([.int .i64 0, .string e0, .string e0, .int .i64 0, .string e0], .own, 0, true)) ?_ ?_
  · simp (maxSteps := 1000000) (disch := omega) only [stepS, reduceIte, Nat.reduceBEq, Nat.reduceEqDiff, tupleOf, stepT, stepX, heapR, lensR, Nat.reduceAdd, Nat.reduceLeDiff, g0, g2]
    refine num_From_spec (hv.le k0) hl fun B i k1 c1 => ?_
    simp (maxSteps := 1000000) (disch := omega) only [stepS, reduceIte, Nat.reduceBEq, Nat.reduceEqDiff, tupleOf, stepT, stepX, heapR, lensR, Nat.reduceAdd, Nat.reduceLeDiff, g0, g2]
    refine ⟨i, rfl, ?_, k0.trans k1, ?_, k1.row (by simp (maxSteps := 1000000) (disch := omega) only [stepS, reduceIte, Nat.reduceBEq, Nat.reduceEqDiff, tupleOf, stepT, stepX, heapR, lensR, Nat.reduceAdd, Nat.reduceLeDiff])⟩
    · obtain ⟨w, ⟨h1, _⟩, _⟩ := c1
      simp at h1
      omega
    · obtain ⟨w, ⟨h1, h2⟩, h3⟩ := c1
      exact ⟨w, ⟨by simp at h1; omega, h2⟩, h3⟩
  rintro a B ⟨i, g0, g2, g5, hzi, kB, cB, rz⟩
  generalize hk : (byteC (some bs)).2 = kn
  have hkle : kn ≤ 255 := by rw [← hk]; exact byteC_le _
  generalize hkk : (kn : Int) = k
  generalize hst0 : (byteC (some bs)).1 = st0
  refine W_mid (fun a B => ∃ j, a 0 = v ∧ a 2 = ptr A.length ∧ a 5 = ptr i ∧ a 6 = ptr j ∧ j ≠ i ∧ A.length ≠ j ∧ A.length ≤ j ∧ GetH A B A.length i j st0 ⟨k, e0, e0, 0, e0⟩) ?_ ?_
  · simp (maxSteps := 1000000) (disch := omega) only [stepS, reduceIte, Nat.reduceBEq, Nat.reduceEqDiff, tupleOf, stepT, stepX, heapR, lensR, Nat.reduceAdd, Nat.reduceLeDiff, g0, g2, g5]
    refine cur_Byte_spec kB cB fun C k1 p1 c1 => ?_
    rw [hk, hkk, hst0] at *
    simp (maxSteps := 1000000) (disch := omega) only [stepS, reduceIte, Nat.reduceBEq, Nat.reduceEqDiff, tupleOf, stepT, stepX, heapR, lensR, Nat.reduceAdd, Nat.reduceLeDiff, g0, g2, g5]
    have hi := c1.lt
    have hz := lt_of_get (rowAt_get (rowAt_own (p1.2 _ _ (Ne.symm hzi) (rowAt_get rz))))
    refine ⟨C.length, rfl, by omega, by omega, by omega, ?_, ?_, ?_, ?_⟩
    · (repeat first | exact Le.refl _ | assumption | refine Le.app ?_ _ | refine Le.set ?_ ?_ | omega | (simp only [List.length_append, List.length_singleton, List.length_set]; omega))
    · refine CurA.keep (c1.le (.push _ _)) (Keep.set _ _ _) (by omega) (fun c hc => ?_)
      rw [get_last] at hc
      obtain rfl := (Option.some.inj hc).symm
      exact ⟨_, _, _, _, rfl, by decide⟩
    · simp (maxSteps := 1000000) (disch := omega) only [stepS, reduceIte, Nat.reduceBEq, Nat.reduceEqDiff, tupleOf, stepT, stepX, heapR, lensR, Nat.reduceAdd, Nat.reduceLeDiff]
    · have rz2 := rowAt_own (p1.2 _ _ (Ne.symm hzi) (rowAt_get rz))
      simp (maxSteps := 1000000) (disch := omega) only [stepS, reduceIte, Nat.reduceBEq, Nat.reduceEqDiff, tupleOf, stepT, stepX, heapR, lensR, Nat.reduceAdd, Nat.reduceLeDiff, rz2]
  rintro a B ⟨j, g0, g2, g5, g6, hji, hzj, hlj, hh⟩
  clear kB cB rz
  refine W_mid (fun a B' => B' = B ∧ a 0 = v ∧ a 2 = ptr A.length ∧ a 5 = ptr i ∧ a 6 = ptr j ∧ a 7 = ii (hasO k) ∧ a 8 = .bool true ∧ a 9 = .bool true) ?_ ?_
  · have rj := hh.rj
    simp (maxSteps := 1000000) (disch := omega) only [stepS, reduceIte, Nat.reduceBEq, Nat.reduceEqDiff, tupleOf, stepT, stepX, heapR, lensR, Nat.reduceAdd, Nat.reduceLeDiff, g0, g2, g5, g6, rj]
    refine op_has_spec ?_
    simp (maxSteps := 1000000) (disch := omega) only [stepS, reduceIte, Nat.reduceBEq, Nat.reduceEqDiff, tupleOf, stepT, stepX, heapR, lensR, Nat.reduceAdd, Nat.reduceLeDiff, g0, g2, g5, g6]
  rintro a B ⟨rfl, g0, g2, g5, g6, g7, g8, g9⟩
  generalize hs1 : tIf (hN k) st0 = s1
  refine W_mid (fun a B => GetH A B A.length i j s1.1 ⟨k, bA s1.2, e0, 0, e0⟩ ∧ a 0 = v ∧ a 2 = ptr A.length ∧ a 5 = ptr i ∧ a 6 = ptr j ∧ a 7 = ii (hasO k) ∧ a 8 = .bool true ∧ a 9 = .bool true) ?_ ?_
  · cases hn : hN k with
    | true =>
      obtain ⟨q1, q2⟩ := has_pos (.inl hn)
      have b1 := (and_has q1).1
      rw [hn, if_pos rfl] at b1
      simp (maxSteps := 1000000) (disch := omega) only [stepS, reduceIte, Nat.reduceBEq, Nat.reduceEqDiff, tupleOf, stepT, stepX, heapR, lensR, Nat.reduceAdd, Nat.reduceLeDiff, g0, g2, g5, g6, g7, g8, g9, b1]
      refine cur_Text_spec hh.le hh.cur fun C u k1 p1 c1 o1 => ?_
      have hC := hh.step hji (Ne.symm hzi) k1 p1 c1
      have rj := hC.rj
      simp (maxSteps := 1000000) (disch := omega) only [stepS, reduceIte, Nat.reduceBEq, Nat.reduceEqDiff, tupleOf, stepT, stepX, heapR, lensR, Nat.reduceAdd, Nat.reduceLeDiff, g0, g2, g5, g6, g7, g8, g9, o1.byt.str, rj]
      rw [← hs1, hn]
      exact hC.put hji hzj hlj rfl
    | false =>
      have e : s1 = (st0, []) := by rw [← hs1, hn]; rfl
      rw [e]
      by_cases hp : 0 < hasO k
      · have b1 := (and_has (has_kind hp)).1
        rw [hn, if_neg (by simp)] at b1
        simp (maxSteps := 1000000) (disch := omega) only [stepS, reduceIte, Nat.reduceBEq, Nat.reduceEqDiff, tupleOf, stepT, stepX, heapR, lensR, Nat.reduceAdd, Nat.reduceLeDiff, g0, g2, g5, g6, g7, g8, g9, b1]
        exact hh
      · simp (maxSteps := 1000000) (disch := omega) only [stepS, reduceIte, Nat.reduceBEq, Nat.reduceEqDiff, tupleOf, stepT, stepX, heapR, lensR, Nat.reduceAdd, Nat.reduceLeDiff, g0, g2, g5, g6, g7, g8, g9]
        exact hh
  rintro a B' ⟨hh, g0, g2, g5, g6, g7, g8, g9⟩
  generalize hs2 : tIf (hT k) s1.1 = s2
  refine W_mid (fun a B => GetH A B A.length i j s2.1 ⟨k, bA s1.2, bA s2.2, 0, e0⟩ ∧ a 0 = v ∧ a 2 = ptr A.length ∧ a 5 = ptr i ∧ a 6 = ptr j ∧ a 7 = ii (hasO k) ∧ a 8 = .bool true ∧ a 9 = .bool true) ?_ ?_
  · cases hn : hT k with
    | true =>
      obtain ⟨q1, q2⟩ := has_pos (.inr (.inl hn))
      have b1 := (and_has q1).2.1
      rw [hn, if_pos rfl] at b1
      simp (maxSteps := 1000000) (disch := omega) only [stepS, reduceIte, Nat.reduceBEq, Nat.reduceEqDiff, tupleOf, stepT, stepX, heapR, lensR, Nat.reduceAdd, Nat.reduceLeDiff, g0, g2, g5, g6, g7, g8, g9, b1]
      refine cur_Text_spec hh.le hh.cur fun C u k1 p1 c1 o1 => ?_
      have hC := hh.step hji (Ne.symm hzi) k1 p1 c1
      have rj := hC.rj
      simp (maxSteps := 1000000) (disch := omega) only [stepS, reduceIte, Nat.reduceBEq, Nat.reduceEqDiff, tupleOf, stepT, stepX, heapR, lensR, Nat.reduceAdd, Nat.reduceLeDiff, g0, g2, g5, g6, g7, g8, g9, o1.byt.str, rj]
      rw [← hs2, hn]
      exact hC.put hji hzj hlj rfl
    | false =>
      have e : s2 = (s1.1, []) := by rw [← hs2, hn]; rfl
      rw [e]
      by_cases hp : 0 < hasO k
      · have b1 := (and_has (has_kind hp)).2.1
        rw [hn, if_neg (by simp)] at b1
        simp (maxSteps := 1000000) (disch := omega) only [stepS, reduceIte, Nat.reduceBEq, Nat.reduceEqDiff, tupleOf, stepT, stepX, heapR, lensR, Nat.reduceAdd, Nat.reduceLeDiff, g0, g2, g5, g6, g7, g8, g9, b1]
        exact hh
      · simp (maxSteps := 1000000) (disch := omega) only [stepS, reduceIte, Nat.reduceBEq, Nat.reduceEqDiff, tupleOf, stepT, stepX, heapR, lensR, Nat.reduceAdd, Nat.reduceLeDiff, g0, g2, g5, g6, g7, g8, g9]
        exact hh
  rintro a B ⟨hh, g0, g2, g5, g6, g7, g8, g9⟩
  generalize hs3 : nIf (hI k) s2.1 = s3
  refine W_mid (fun a B => GetH A B A.length i j s3.1 ⟨k, bA s1.2, bA s2.2, s3.2.1, e0⟩ ∧ a 0 = v ∧ a 2 = ptr A.length ∧ a 5 = ptr i ∧ a 6 = ptr j ∧ a 7 = ii (hasO k) ∧ a 8 = .bool s3.2.2 ∧ a 9 = .bool true) ?_ ?_
  · cases hn : hI k with
    | true =>
      obtain ⟨q1, q2⟩ := has_pos (.inr (.inr (.inl hn)))
      have b1 := (and_has q1).2.2.1
      rw [hn, if_pos rfl] at b1
      simp (maxSteps := 1000000) (disch := omega) only [stepS, reduceIte, Nat.reduceBEq, Nat.reduceEqDiff, tupleOf, stepT, stepX, heapR, lensR, Nat.reduceAdd, Nat.reduceLeDiff, g0, g2, g5, g6, g7, g8, g9, b1]
      refine op_number_spec hh.le hh.cur fun C k1 p1 c1 => ?_
      have hC := hh.step hji (Ne.symm hzi) k1 p1 c1
      have rj := hC.rj
      simp (maxSteps := 1000000) (disch := omega) only [stepS, reduceIte, Nat.reduceBEq, Nat.reduceEqDiff, tupleOf, stepT, stepX, heapR, lensR, Nat.reduceAdd, Nat.reduceLeDiff, g0, g2, g5, g6, g7, g8, g9, rj]
      rw [← hs3, hn]
      exact ⟨hC.put hji hzj hlj rfl, rfl⟩
    | false =>
      have e : s3 = (s2.1, 0, true) := by rw [← hs3, hn]; rfl
      rw [e]
      by_cases hp : 0 < hasO k
      · have b1 := (and_has (has_kind hp)).2.2.1
        rw [hn, if_neg (by simp)] at b1
        simp (maxSteps := 1000000) (disch := omega) only [stepS, reduceIte, Nat.reduceBEq, Nat.reduceEqDiff, tupleOf, stepT, stepX, heapR, lensR, Nat.reduceAdd, Nat.reduceLeDiff, g0, g2, g5, g6, g7, g8, g9, b1]
        exact hh
      · simp (maxSteps := 1000000) (disch := omega) only [stepS, reduceIte, Nat.reduceBEq, Nat.reduceEqDiff, tupleOf, stepT, stepX, heapR, lensR, Nat.reduceAdd, Nat.reduceLeDiff, g0, g2, g5, g6, g7, g8, g9]
        exact hh
  rintro a B' ⟨hh, g0, g2, g5, g6, g7, g8, g9⟩
  generalize hs4 : pIf (hA k) k s3.1 = s4
  refine W_mid (fun a B => GetH A B A.length i j s4.1 ⟨k, bA s1.2, bA s2.2, s3.2.1, bA s4.2.1⟩ ∧ a 0 = v ∧ a 2 = ptr A.length ∧ a 5 = ptr i ∧ a 6 = ptr j ∧ a 8 = .bool s3.2.2 ∧ a 9 = .bool s4.2.2) ?_ ?_
  · cases hn : hA k with
    | true =>
      obtain ⟨q1, q2⟩ := has_pos (.inr (.inr (.inr hn)))
      have b1 := (and_has q1).2.2.2.1
      rw [hn, if_pos rfl] at b1
      have rj0 := hh.rj
      simp (maxSteps := 1000000) (disch := omega) only [stepS, reduceIte, Nat.reduceBEq, Nat.reduceEqDiff, tupleOf, stepT, stepX, heapR, lensR, Nat.reduceAdd, Nat.reduceLeDiff, g0, g2, g5, g6, g7, g8, g9, b1, rj0]
      refine op_place_spec hh.le hh.cur fun C k1 p1 c1 => ?_
      have hC := hh.step hji (Ne.symm hzi) k1 p1 c1
      have rj := hC.rj
      simp (maxSteps := 1000000) (disch := omega) only [stepS, reduceIte, Nat.reduceBEq, Nat.reduceEqDiff, tupleOf, stepT, stepX, heapR, lensR, Nat.reduceAdd, Nat.reduceLeDiff, g0, g2, g5, g6, g7, g8, g9, rj]
      rw [← hs4, hn]
      exact ⟨hC.put hji hzj hlj rfl, rfl⟩
    | false =>
      have e : s4 = (s3.1, [], true) := by rw [← hs4, hn]; rfl
      rw [e]
      by_cases hp : 0 < hasO k
      · have b1 := (and_has (has_kind hp)).2.2.2.1
        rw [hn, if_neg (by simp)] at b1
        simp (maxSteps := 1000000) (disch := omega) only [stepS, reduceIte, Nat.reduceBEq, Nat.reduceEqDiff, tupleOf, stepT, stepX, heapR, lensR, Nat.reduceAdd, Nat.reduceLeDiff, g0, g2, g5, g6, g7, g8, g9, b1]
        exact hh
      · simp (maxSteps := 1000000) (disch := omega) only [stepS, reduceIte, Nat.reduceBEq, Nat.reduceEqDiff, tupleOf, stepT, stepX, heapR, lensR, Nat.reduceAdd, Nat.reduceLeDiff, g0, g2, g5, g6, g7, g8, g9]
        exact hh
  rintro a B ⟨hh, g0, g2, g5, g6, g8, g9⟩
  have hP : parseP (some bs) = (⟨k, bA s1.2, bA s2.2, s3.2.1, bA s4.2.1⟩, s4.1, s3.2.2 && s4.2.2) := by
    unfold parseP
    simp only [hk, hkk, hst0, hs1, hs2, hs3, hs4]
  have hfin : (⟨k, bA s1.2, bA s2.2, s3.2.1, bA s4.2.1⟩ : OpV).Fin := by
    have := parseP_fin hl
    rw [hP] at this
    exact this
  have hG : getP bs = if s4.1.isSome && (s3.2.2 && s4.2.2) && opOk ⟨k, bA s1.2, bA s2.2, s3.2.1, bA s4.2.1⟩ then some (⟨k, bA s1.2, bA s2.2, s3.2.1, bA s4.2.1⟩, bs.length - leftC s4.1) else none := by
    unfold getP
    rw [hP]
  clear hP hs1 hs2 hs3 hs4 hk hkk hst0
  generalize (⟨k, bA s1.2, bA s2.2, s3.2.1, bA s4.2.1⟩ : OpV) = o at hh hG hfin
  generalize s4.1 = st at hh hG
  generalize s3.2.2 = ok1 at g8 hG
  generalize s4.2.2 = ok2 at g9 hG
  have bad : getP bs = none → ∀ A', Le A A' → Q (.tuple #[OpV.zero.v, ii 0, ii 5]) A' := fun h A' k => by have := hq A' k; unfold getOV at this; rw [h] at this; exact this
  rw [OpV.v_eq] at bad
  simp only [OpV.zero] at bad
  have rz := hh.rz
  have rj := hh.rj
  have hle := hh.le
  have hvB := (hv.le hle).len
  have hlt : A.length < B.length := lt_of_get (rowAt_get rz)
  have badE : getP bs = none → Q (.tuple #[.agg #[ii 0, .string e0, .string e0, ii 0, .string e0], ii 0, ii 5]) (B.set A.length (.row [ii 0, .string e0, .string e0, ii 0, .string e0] .own 0 true)) := fun h => bad h _ (hle.set (Nat.le_refl _))
  simp (maxSteps := 1000000) (disch := omega) only [stepS, reduceIte, Nat.reduceBEq, Nat.reduceEqDiff, tupleOf, stepT, stepX, heapR, lensR, Nat.reduceAdd, Nat.reduceLeDiff, g0, g2, g5, g6, g8, g9, rj, rz]
  refine cur_Bad_spec hh.cur ?_
  cases st with
  | none =>
    have e : (none : CurS).isNone = true := rfl
    rw [e]
    simp (maxSteps := 1000000) (disch := omega) only [stepS, reduceIte, Nat.reduceBEq, Nat.reduceEqDiff, tupleOf, stepT, stepX, heapR, lensR, Nat.reduceAdd, Nat.reduceLeDiff, g0, g2, g5, g6, g8, g9, rj, rz]
    exact badE (by rw [hG]; rfl)
  | some r =>
    have e : (some r : CurS).isNone = false := rfl
    rw [e]
    cases ok1 with
    | false =>
      simp (maxSteps := 1000000) (disch := omega) only [stepS, reduceIte, Nat.reduceBEq, Nat.reduceEqDiff, tupleOf, stepT, stepX, heapR, lensR, Nat.reduceAdd, Nat.reduceLeDiff, g0, g2, g5, g6, g8, g9, rj, rz]
      exact badE (by rw [hG]; rfl)
    | true =>
      cases ok2 with
      | false =>
        simp (maxSteps := 1000000) (disch := omega) only [stepS, reduceIte, Nat.reduceBEq, Nat.reduceEqDiff, tupleOf, stepT, stepX, heapR, lensR, Nat.reduceAdd, Nat.reduceLeDiff, g0, g2, g5, g6, g8, g9, rj, rz]
        exact badE (by rw [hG]; rfl)
      | true =>
        simp (maxSteps := 1000000) (disch := omega) only [stepS, reduceIte, Nat.reduceBEq, Nat.reduceEqDiff, tupleOf, stepT, stepX, heapR, lensR, Nat.reduceAdd, Nat.reduceLeDiff, g0, g2, g5, g6, g8, g9, rj, rz]
        refine op_Check_spec hfin ?_
        unfold checkO
        cases ho : opOk o with
        | false =>
          simp (maxSteps := 1000000) (disch := omega) only [stepS, reduceIte, Nat.reduceBEq, Nat.reduceEqDiff, tupleOf, stepT, stepX, heapR, lensR, Nat.reduceAdd, Nat.reduceLeDiff, g0, g2, g5, g6, g8, g9, rj, rz]
          exact badE (by rw [hG, ho]; rfl)
        | true =>
          rw [ho] at hG
          simp only [Option.isSome_some, Bool.and_self, if_true] at hG
          simp (maxSteps := 1000000) (disch := omega) only [stepS, reduceIte, Nat.reduceBEq, Nat.reduceEqDiff, tupleOf, stepT, stepX, heapR, lensR, Nat.reduceAdd, Nat.reduceLeDiff, g0, g2, g5, g6, g8, g9, rj, rz, hvB]
          refine cur_Left_spec hh.cur ?_
          have hn := (getP_iff.1 hG).2.1
          have hp : 1 ≤ (putO o).length := by unfold putO; simp
          have good : ∀ A', Le A A' → Q (.tuple #[.agg #[ii o.k, .string o.name, .string o.text, ii o.n, .string o.place], ii ((bs.length : Int) - (leftC (some r) : Nat)), ii 0]) A' := fun A' k => by
            have := hq A' k
            unfold getOV at this
            rw [hG] at this
            rw [show ((bs.length : Int) - (leftC (some r) : Nat)) = ((bs.length - leftC (some r) : Nat) : Int) by omega]
            exact this
          simp (maxSteps := 1000000) (disch := omega) only [stepS, reduceIte, Nat.reduceBEq, Nat.reduceEqDiff, tupleOf, stepT, stepX, heapR, lensR, Nat.reduceAdd, Nat.reduceLeDiff, g0, g2, g5, g6, g8, g9, rj, rz]
          exact good _ (hle.set (Nat.le_refl _))
end Go.AS.C


namespace Go.AS.C
open Go Go.Proofs
set_option linter.unusedVariables false
set_option linter.unusedSimpArgs false
set_option maxRecDepth 100000

/-! The law's own example. -/
/-- The same text, of a number of one digit: the kernel can say it. -/
def numW (n : Int) : ByteArray := if n < 0 then ⟨#[45, UInt8.ofNat (48 + n.natAbs)]⟩ else ⟨#[UInt8.ofNat (48 + n.toNat)]⟩
theorem numW_eq {n : Int} (h0 : -10 < n) (h1 : n < 10) : numW n = numT n := by
  unfold numW numT Lib.itoa
  split
  · rw [Lib.decDigits_one (by omega)]
  · rw [Lib.decDigits_one (by omega)]
def showC (o : OpV) : ByteArray := if opOk o then joinT (sT o ++ (if hI o.k then [numW o.n] else []) ++ (if hA o.k then [hexT o.place] else [])) ⟨#[32]⟩ else ⟨#[63]⟩
theorem showC_eq {o : OpV} (h0 : -10 < o.n) (h1 : o.n < 10) : showC o = showB o := by
  unfold showC showB
  rw [numW_eq h0 h1]
  rfl
abbrev wA : OpV := ⟨1, ⟨#[110]⟩, ⟨#[]⟩, -5, ⟨#[]⟩⟩
abbrev wM : OpV := ⟨7, ⟨#[110]⟩, ⟨#[]⟩, 0, ⟨#[]⟩⟩
abbrev wI : OpV := ⟨5, ⟨#[108]⟩, ⟨#[97, 98]⟩, 0, ⟨#[]⟩⟩
abbrev wZ : OpV := ⟨0, ⟨#[]⟩, ⟨#[]⟩, 0, ⟨#[]⟩⟩
abbrev wE : OpV := ⟨7, ⟨#[]⟩, ⟨#[]⟩, 0, ⟨#[]⟩⟩
theorem fin_small {k n : Int} {a b c : ByteArray} (hk : -100 < k ∧ k < 100) (hn : -100 < n ∧ n < 100) (ha : a.size < 100) (hb : b.size < 100) (hc : c.size < 100) : (⟨k, a, b, n, c⟩ : OpV).Fin :=
  ⟨⟨by simp only; omega, by simp only; omega⟩, ⟨by simp only; omega, by simp only; omega⟩, by simp only; omega, by simp only; omega, by simp only; omega⟩
theorem wA_fin : wA.Fin := fin_small (by decide) (by decide) (by decide) (by decide) (by decide)
theorem wM_fin : wM.Fin := fin_small (by decide) (by decide) (by decide) (by decide) (by decide)
theorem wI_fin : wI.Fin := fin_small (by decide) (by decide) (by decide) (by decide) (by decide)
theorem wZ_fin : wZ.Fin := fin_small (by decide) (by decide) (by decide) (by decide) (by decide)
theorem wE_fin : wE.Fin := fin_small (by decide) (by decide) (by decide) (by decide) (by decide)
theorem wA_ok : opOk wA = true := by decide +kernel
theorem wM_ok : opOk wM = false := by decide +kernel
theorem wE_ok : opOk wE = true := by decide +kernel
theorem wA_put : putO wA = [1, 1, 110, 1, 5, 0, 0, 0] := by decide +kernel
theorem get9 : getP [9] = none := by decide +kernel
theorem get0 : getP [] = none := by decide +kernel
theorem getA : getP (putO wA ++ [9]) = some (wA, 8) := getP_iff.2 ⟨wA_ok, by rw [wA_put]; rfl, [9], rfl⟩
theorem showA : showB wA = ⟨#[99, 111, 117, 110, 116, 32, 110, 32, 45, 53]⟩ := by rw [← showC_eq (by decide) (by decide)]; decide +kernel
theorem showI : showB wI = ⟨#[105, 110, 115, 101, 114, 116, 32, 108, 32, 35, 54, 49, 54, 50, 32, 35]⟩ := by rw [← showC_eq (by decide) (by decide)]; decide +kernel
theorem showZ : showB wZ = ⟨#[63]⟩ := by rw [← showC_eq (by decide) (by decide)]; decide +kernel
theorem wnm1 : nameOk ⟨#[97, 45, 49]⟩ = true := by decide +kernel
theorem wnm2 : nameOk ⟨#[65]⟩ = false := by decide +kernel
theorem wck1 : checkO wA = 0 := by unfold checkO; rw [wA_ok]; rfl
theorem wck2 : checkO wE = 0 := by unfold checkO; rw [wE_ok]; rfl
theorem wake {A : AH} {Q : Value → AH → Prop} (hg : Le [kB] A) (hq : Q (.bool true) A) : ACalls 1 Tryd.prog chantrylaw14_awake [] Q A := by
  refine ACalls.pure1 _ rfl hq fun Q hq => ?_
  refine ACalls.of_fits mixed fits_chantrylaw14_awake rfl ?_
  unfold ic_chantrylaw14_awake
  generalize initA [] = a
  refine W_mid (fun _ B => B = A) ?_ ?_
  · simp (maxSteps := 1000000) (disch := omega) only [stepS, reduceIte, Nat.reduceBEq, Nat.reduceEqDiff, tupleOf, stepT, stepX, heapR, lensR, Nat.reduceAdd, Nat.reduceLeDiff]
  rintro a A2 hB
  obtain rfl : A = A2 := hB.symm
  have k1 : Le A ((A ++ [Blk.row [.int .i64 0, .string ⟨#[]⟩, .string ⟨#[]⟩, .int .i64 0, .string ⟨#[]⟩] .own 0 true]).set A.length (Blk.row (cellsO wA) .own 0 true)) := by (repeat first | exact Le.refl _ | assumption | refine Le.app ?_ _ | refine Le.set ?_ ?_ | omega | (simp only [List.length_append, List.length_singleton, List.length_set]; omega))
  refine W_mid (fun a B => Le A B ∧ a 1 = ptr A.length ∧ rowAt B A.length = some (cellsO wA, .own, 0, true)) ?_ ?_
  · simp (maxSteps := 1000000) (disch := omega) only [stepS, reduceIte, Nat.reduceBEq, Nat.reduceEqDiff, tupleOf, stepT, stepX, heapR, lensR, Nat.reduceAdd, Nat.reduceLeDiff]
    exact k1
  rintro a B ⟨hl, g1, r1⟩
  clear k1
  refine W_mid (fun a B' => ∃ t, Le B B' ∧ a 1 = ptr A.length ∧ a 2 = t ∧ a 3 = ii 0 ∧ Byt B' t (putO wA)) ?_ ?_
  · simp (maxSteps := 1000000) (disch := omega) only [stepS, reduceIte, Nat.reduceBEq, Nat.reduceEqDiff, tupleOf, stepT, stepX, heapR, lensR, Nat.reduceAdd, Nat.reduceLeDiff, g1, r1]
    refine op_Put_spec (o := wA) wA_fin (fun _ C t kC oC => ?_) (fun h => by rw [wA_ok] at h; cases h)
    simp (maxSteps := 1000000) (disch := omega) only [stepS, reduceIte, Nat.reduceBEq, Nat.reduceEqDiff, tupleOf, stepT, stepX, heapR, lensR, Nat.reduceAdd, Nat.reduceLeDiff, g1]
    exact ⟨_, kC, rfl, oC.byt⟩
  rintro a C ⟨t, k2, g1, g2, g3, ht⟩
  have r2 := k2.row r1
  have l0 : sLit C [.int .u8 0] 1 0 [] = some (.slice (some ⟨C.length, 0, none⟩) 0 0, C ++ [.row [] .own 1 true]) := rfl
  have k0 : Le C (C ++ [.row [] .own 1 true]) := .push _ _
  obtain ⟨w1, A1, e1, j1, o1, _⟩ := app_bytes k0 (own_lit_none (.refl C)) (ht.le k0) (by rw [wA_put]; simp)
  rw [List.nil_append] at o1
  have e1' : sApp (C ++ [.row [] .own 1 true]) (.slice (some ⟨C.length, 0, none⟩) 0 0) t 1 1 = some (w1, A1) := e1
  have m1 := lit_by8 A1 9
  have k9 : Le A1 (A1 ++ [.row [by8 9] .own 1 true]) := .push _ _
  obtain ⟨w2, A2, e2, j2, o2, _⟩ := app_bytes (j1.trans k9) (OwnS.le o1 k9) (byt_by8 A1 9) (by rw [wA_put]; simp)
  have m1' : sLit A1 [.int .u8 0] 1 1 [(0, 1, .int .u8 9)] = some (.slice (some ⟨A1.length, 0, none⟩) 1 1, A1 ++ [.row [by8 9] .own 1 true]) := m1
  have r3 := j2.row r2
  have h3 := lt_of_get (rowAt_get r3)
  refine W_mid (fun a B' => ∃ c, Le C B' ∧ a 1 = ptr A.length ∧ a 2 = t ∧ a 3 = ii 0 ∧ a 4 = ptr c ∧ a 5 = ii 8 ∧ a 6 = ii 0 ∧ rowAt B' c = some (cellsO wA, .own, 0, true)) ?_ ?_
  · simp (maxSteps := 1000000) (disch := omega) only [stepS, reduceIte, Nat.reduceBEq, Nat.reduceEqDiff, tupleOf, stepT, stepX, heapR, lensR, Nat.reduceAdd, Nat.reduceLeDiff, g1, g2, g3, l0, e1', m1', e2]
    refine op_Get_spec o2.byt (by rw [wA_put]; decide) ?_
    unfold getOV
    rw [getA]
    simp only [OpV.v_eq]
    have k4 : Le A2 ((A2 ++ [Blk.row [.int .i64 0, .string ⟨#[]⟩, .string ⟨#[]⟩, .int .i64 0, .string ⟨#[]⟩] .own 0 true]).set A2.length (Blk.row (cellsO wA) .own 0 true)) := by (repeat first | exact Le.refl _ | assumption | refine Le.app ?_ _ | refine Le.set ?_ ?_ | omega | (simp only [List.length_append, List.length_singleton, List.length_set]; omega))
    have r4 : rowAt ((A2 ++ [Blk.row [.int .i64 0, .string ⟨#[]⟩, .string ⟨#[]⟩, .int .i64 0, .string ⟨#[]⟩] .own 0 true]).set A2.length (Blk.row (cellsO wA) .own 0 true)) A2.length = some (cellsO wA, .own, 0, true) := by simp (maxSteps := 1000000) (disch := omega) only [stepS, reduceIte, Nat.reduceBEq, Nat.reduceEqDiff, tupleOf, stepT, stepX, heapR, lensR, Nat.reduceAdd, Nat.reduceLeDiff]
    simp (maxSteps := 1000000) (disch := omega) only [stepS, reduceIte, Nat.reduceBEq, Nat.reduceEqDiff, tupleOf, stepT, stepX, heapR, lensR, Nat.reduceAdd, Nat.reduceLeDiff, g1, g2, g3]
    refine ⟨A2.length, j2.trans k4, rfl, rfl, ?_⟩
    simp (maxSteps := 1000000) (disch := omega) only [stepS, reduceIte, Nat.reduceBEq, Nat.reduceEqDiff, tupleOf, stepT, stepX, heapR, lensR, Nat.reduceAdd, Nat.reduceLeDiff]
  clear g1 g2 g3 e1 e1' m1 m1' e2 l0 k0 k9 o1 o2 j1 h3 r3
  rintro a D ⟨c, k5, g1, g2, g3, g4, g5, g6, rc⟩
  have r5 := (k5.row r2)
  have tD := ht.le k5
  refine W_mid (fun a B' => Le D B' ∧ a 1 = ptr A.length ∧ a 2 = t ∧ a 3 = ii 0 ∧ a 4 = ptr c ∧ a 5 = ii 8 ∧ a 6 = ii 0 ∧ a 8 = ii 1) ?_ ?_
  · simp (maxSteps := 1000000) (disch := omega) only [stepS, reduceIte, Nat.reduceBEq, Nat.reduceEqDiff, tupleOf, stepT, stepX, heapR, lensR, Nat.reduceAdd, Nat.reduceLeDiff, g1, g2, g3, g4, g5, g6]
    refine op_Put_spec (o := wM) wM_fin (fun h => by rw [wM_ok] at h; cases h) (fun _ E kE => ?_)
    simp (maxSteps := 1000000) (disch := omega) only [stepS, reduceIte, Nat.reduceBEq, Nat.reduceEqDiff, tupleOf, stepT, stepX, heapR, lensR, Nat.reduceAdd, Nat.reduceLeDiff, g1, g2, g3, g4, g5, g6]
    exact kE
  clear g1 g2 g3 g4 g5 g6
  rintro a E ⟨k6, g1, g2, g3, g4, g5, g6, g8⟩
  have m9 := lit_by8 E 9
  have m9' : sLit E [.int .u8 0] 1 1 [(0, 1, .int .u8 9)] = some (.slice (some ⟨E.length, 0, none⟩) 1 1, E ++ [.row [by8 9] .own 1 true]) := m9
  refine W_mid (fun a B' => Le E B' ∧ a 1 = ptr A.length ∧ a 2 = t ∧ a 3 = ii 0 ∧ a 4 = ptr c ∧ a 5 = ii 8 ∧ a 6 = ii 0 ∧ a 8 = ii 1 ∧ a 11 = ii 5) ?_ ?_
  · simp (maxSteps := 1000000) (disch := omega) only [stepS, reduceIte, Nat.reduceBEq, Nat.reduceEqDiff, tupleOf, stepT, stepX, heapR, lensR, Nat.reduceAdd, Nat.reduceLeDiff, g1, g2, g3, g4, g5, g6, g8, m9']
    refine op_Get_spec (byt_by8 E 9) (by decide) ?_
    unfold getOV
    rw [get9]
    simp only [OpV.v_eq, OpV.zero]
    have k7 : Le E (((E ++ [Blk.row [by8 9] .own 1 true]) ++ [Blk.row [.int .i64 0, .string ⟨#[]⟩, .string ⟨#[]⟩, .int .i64 0, .string ⟨#[]⟩] .own 0 true]).set (E.length + 1) (Blk.row [ii 0, .string e0, .string e0, ii 0, .string e0] .own 0 true)) := by (repeat first | exact Le.refl _ | assumption | refine Le.app ?_ _ | refine Le.set ?_ ?_ | omega | (simp only [List.length_append, List.length_singleton, List.length_set]; omega))
    simp (maxSteps := 1000000) (disch := omega) only [stepS, reduceIte, Nat.reduceBEq, Nat.reduceEqDiff, tupleOf, stepT, stepX, heapR, lensR, Nat.reduceAdd, Nat.reduceLeDiff, g1, g2, g3, g4, g5, g6, g8]
    exact k7
  clear g1 g2 g3 g4 g5 g6 g8
  rintro a F ⟨k7, g1, g2, g3, g4, g5, g6, g8, g11⟩
  refine W_mid (fun a B' => Le F B' ∧ a 1 = ptr A.length ∧ a 2 = t ∧ a 3 = ii 0 ∧ a 4 = ptr c ∧ a 5 = ii 8 ∧ a 6 = ii 0 ∧ a 8 = ii 1 ∧ a 11 = ii 5 ∧ a 14 = ii 5) ?_ ?_
  · simp (maxSteps := 1000000) (disch := omega) only [stepS, reduceIte, Nat.reduceBEq, Nat.reduceEqDiff, tupleOf, stepT, stepX, heapR, lensR, Nat.reduceAdd, Nat.reduceLeDiff, g1, g2, g3, g4, g5, g6, g8, g11]
    refine op_Get_spec (bs := []) ⟨rfl, .inl ⟨rfl, rfl⟩⟩ (by decide) ?_
    unfold getOV
    rw [get0]
    simp only [OpV.v_eq, OpV.zero]
    have k8 : Le F ((F ++ [Blk.row [.int .i64 0, .string ⟨#[]⟩, .string ⟨#[]⟩, .int .i64 0, .string ⟨#[]⟩] .own 0 true]).set F.length (Blk.row [ii 0, .string e0, .string e0, ii 0, .string e0] .own 0 true)) := by (repeat first | exact Le.refl _ | assumption | refine Le.app ?_ _ | refine Le.set ?_ ?_ | omega | (simp only [List.length_append, List.length_singleton, List.length_set]; omega))
    simp (maxSteps := 1000000) (disch := omega) only [stepS, reduceIte, Nat.reduceBEq, Nat.reduceEqDiff, tupleOf, stepT, stepX, heapR, lensR, Nat.reduceAdd, Nat.reduceLeDiff, g1, g2, g3, g4, g5, g6, g8, g11]
    exact k8
  clear g1 g2 g3 g4 g5 g6 g8 g11
  rintro a B' ⟨k8, g1, g2, g3, g4, g5, g6, g8, g11, g14⟩
  have k9 := (k6.trans k7).trans k8
  have ra := k9.row r5
  have rb := k9.row rc
  have ts := (tD.le k9).str
  rw [wA_put] at ts
  have eo : sEqagg B' false (Tryd.prog.keyLits 8 opT) (.agg #[ii 1, .string ⟨#[110]⟩, .string ⟨#[]⟩, ii (-5), .string ⟨#[]⟩]) (.agg #[ii 1, .string ⟨#[110]⟩, .string ⟨#[]⟩, ii (-5), .string ⟨#[]⟩]) = some (.bool true, B') := by
    have := eqop B' false wA_fin wA_fin
    rw [decide_eq_true rfl] at this
    exact this
  have hgB := hg.trans (((hl.trans k2).trans k5).trans k9)
  have hAB := (((hl.trans k2).trans k5).trans k9)
  simp (maxSteps := 1000000) (disch := omega) only [stepS, reduceIte, Nat.reduceBEq, Nat.reduceEqDiff, tupleOf, stepT, stepX, heapR, lensR, Nat.reduceAdd, Nat.reduceLeDiff, g1, g2, g3, g4, g5, g6, g8, g11, g14, ra, rb, ts, eo]
  refine op_Show_spec (o := wA) hgB wA_fin ?_
  rw [showA]
  simp (maxSteps := 1000000) (disch := omega) only [stepS, reduceIte, Nat.reduceBEq, Nat.reduceEqDiff, tupleOf, stepT, stepX, heapR, lensR, Nat.reduceAdd, Nat.reduceLeDiff, g1, ra]
  refine op_Show_spec (o := wI) hgB wI_fin ?_
  rw [showI]
  simp (maxSteps := 1000000) (disch := omega) only [stepS, reduceIte, Nat.reduceBEq, Nat.reduceEqDiff, tupleOf, stepT, stepX, heapR, lensR, Nat.reduceAdd, Nat.reduceLeDiff, g1, ra]
  refine op_Show_spec (o := wZ) hgB wZ_fin ?_
  rw [showZ]
  simp (maxSteps := 1000000) (disch := omega) only [stepS, reduceIte, Nat.reduceBEq, Nat.reduceEqDiff, tupleOf, stepT, stepX, heapR, lensR, Nat.reduceAdd, Nat.reduceLeDiff, g1, ra]
  refine op_Name_spec ?_
  rw [wnm1]
  simp (maxSteps := 1000000) (disch := omega) only [stepS, reduceIte, Nat.reduceBEq, Nat.reduceEqDiff, tupleOf, stepT, stepX, heapR, lensR, Nat.reduceAdd, Nat.reduceLeDiff, g1, ra]
  refine op_Name_spec ?_
  rw [wnm2]
  simp (maxSteps := 1000000) (disch := omega) only [stepS, reduceIte, Nat.reduceBEq, Nat.reduceEqDiff, tupleOf, stepT, stepX, heapR, lensR, Nat.reduceAdd, Nat.reduceLeDiff, g1, ra]
  refine op_Check_spec (o := wA) wA_fin ?_
  rw [wck1]
  simp (maxSteps := 1000000) (disch := omega) only [stepS, reduceIte, Nat.reduceBEq, Nat.reduceEqDiff, tupleOf, stepT, stepX, heapR, lensR, Nat.reduceAdd, Nat.reduceLeDiff, g1, ra]
  refine op_Check_spec (o := wE) wE_fin ?_
  rw [wck2]
  simp (maxSteps := 1000000) (disch := omega) only [stepS, reduceIte, Nat.reduceBEq, Nat.reduceEqDiff, tupleOf, stepT, stepX, heapR, lensR, Nat.reduceAdd, Nat.reduceLeDiff, g1, ra]
  exact hq _ hAB
end Go.AS.C


namespace Go.AS.C
open Go Go.Proofs
set_option linter.unusedVariables false
set_option linter.unusedSimpArgs false
set_option maxRecDepth 10000

/-! Two operations that are shown so are the same. -/
end Go.AS.C


namespace Go.AS.C
open Go Go.Proofs
set_option linter.unusedVariables false
set_option linter.unusedSimpArgs false
set_option maxRecDepth 10000

/-! The reference's Put of operations. -/
theorem own_app {A0 A : AH} {bs xs : List UInt8} {v x : Value} (h1 : Le A0 A) (h4 : OwnB A0.length A v bs) (hx : Byt A x xs) (hb : bs.length + xs.length ≤ 2 ^ 47) :
    ∃ u B, sApp A v x 1 1 = some (u, B) ∧ Le A0 B ∧ OwnB A0.length B u (bs ++ xs) ∧ (∀ (k : Nat) (cs : List Value) (ex : Bool), A[k]? = some (Blk.row cs .own 0 ex) → B[k]? = some (Blk.row cs .own 0 ex)) ∧ (∀ y ys, Byt A y ys → (∀ k ∈ blkOf y, k ∉ blkOf v) → Byt B y ys) := by
  obtain ⟨u1, B1, p1, p2, p3, p4⟩ := app_bytes h1 h4 hx (by omega)
  refine ⟨u1, B1, p1, p2, p3, fun k cs ex hr => p4 k _ hr fun o c e => Sl.blk h4.sl hr (by decide) k (by rw [e]; simp [blkOf]) rfl, fun y ys hy hd => hy.keepB fun k b hb hk => p4 k b hb fun o c e => hd k hk (by rw [e]; simp [blkOf])⟩
theorem ref14_Put_spec {A : AH} {o : OpV} {Q : Value → AH → Prop} (hs : o.Fin) (hok : opOk o = true → ∀ A' t, Le A A' → OwnB A.length A' t (putO o) → Q (.tuple #[t, ii 0]) A') (hbad : opOk o = false → ∀ A', Le A A' → Q (.tuple #[.slice none 0 0, ii 1]) A') : ACalls 1 Tryd.prog chantryref14_Put [o.v] Q A := by
  refine ACalls.of_fits mixed fits_chantryref14_Put rfl ?_
  unfold ic_chantryref14_Put
  have i0 : initA [o.v] 0 = o.v := rfl
  generalize initA [o.v] = a at i0
  rw [OpV.v_eq] at i0
  have hA : ∀ {B : AH}, B = A ++ [.row [ii o.k, .string o.name, .string o.text, ii o.n, .string o.place] .own 0 true] → rowAt B A.length = some ([ii o.k, .string o.name, .string o.text, ii o.n, .string o.place], .own, 0, true) := fun h => by subst h; simp (maxSteps := 1000000) (disch := omega) only [stepS, reduceIte, Nat.reduceBEq, Nat.reduceEqDiff, tupleOf, stepT, stepX, heapR, lensR, Nat.reduceAdd, Nat.reduceLeDiff]
  refine W_mid (fun a B => B = A ++ [.row [ii o.k, .string o.name, .string o.text, ii o.n, .string o.place] .own 0 true] ∧ a 1 = ptr A.length) ?_ ?_
  · simp (maxSteps := 1000000) (disch := omega) only [stepS, reduceIte, Nat.reduceBEq, Nat.reduceEqDiff, tupleOf, stepT, stepX, heapR, lensR, Nat.reduceAdd, Nat.reduceLeDiff, i0]
  rintro a B ⟨hB, g1⟩
  have r1 := hA hB
  have hl : Le A B := by rw [hB]; exact .push _ _
  clear hA i0 hB
  refine W_midR (fun a B' => opOk o = true ∧ B' = B ∧ a 1 = ptr A.length) ?_ ?_
  · simp (maxSteps := 1000000) (disch := omega) only [stepS, reduceIte, Nat.reduceBEq, Nat.reduceEqDiff, tupleOf, stepT, stepX, heapR, lensR, Nat.reduceAdd, Nat.reduceLeDiff, g1, r1]
    refine ref14_Check_spec hs ?_
    cases hop : opOk o with
    | false =>
      simp (maxSteps := 1000000) (disch := omega) only [stepS, reduceIte, Nat.reduceBEq, Nat.reduceEqDiff, tupleOf, stepT, stepX, heapR, lensR, Nat.reduceAdd, Nat.reduceLeDiff, g1, r1, reduceCtorEq, false_and, false_or, true_and]
      exact hbad hop _ hl
    | true =>
      simp (maxSteps := 1000000) (disch := omega) only [stepS, reduceIte, Nat.reduceBEq, Nat.reduceEqDiff, tupleOf, stepT, stepX, heapR, lensR, Nat.reduceAdd, Nat.reduceLeDiff, g1, r1, reduceCtorEq, false_and, or_false, true_and]
  rintro a B ⟨hop, rfl, g1⟩
  obtain ⟨h1, h2, h3, h4, h5, h6, h7, h8, h9, h10⟩ := opOk_iff.1 hop
  have hck := conv_kind h1
  clear hbad
  refine W_mid (fun a B' => B' = B ∧ a 1 = ptr A.length ∧ a 4 = .bool (hN o.k) ∧ a 5 = .bool (hT o.k) ∧ a 6 = .bool (hI o.k) ∧ a 7 = .bool (hA o.k)) ?_ ?_
  · simp (maxSteps := 1000000) (disch := omega) only [stepS, reduceIte, Nat.reduceBEq, Nat.reduceEqDiff, tupleOf, stepT, stepX, heapR, lensR, Nat.reduceAdd, Nat.reduceLeDiff, g1, r1]
    refine ref14_Has_spec ?_
    simp (maxSteps := 1000000) (disch := omega) only [stepS, reduceIte, Nat.reduceBEq, Nat.reduceEqDiff, tupleOf, stepT, stepX, heapR, lensR, Nat.reduceAdd, Nat.reduceLeDiff, g1, sExt, List.getElem?_toArray]
    all_goals trivial
  rintro a B ⟨rfl, g1, g4, g5, g6, g7⟩
  have nm : hN o.k = true → o.name.size ≤ 12 := fun h => by rw [if_pos h] at h2; exact (nameOk_size h2).2
  have lenA : (pA o).length = 1 := rfl
  refine W_mid (fun a B' => Le A B' ∧ OwnB A.length B' (a 9) (pA o) ∧ rowAt B' A.length = some ([ii o.k, .string o.name, .string o.text, ii o.n, .string o.place], .own, 0, true) ∧ a 1 = ptr A.length ∧ a 4 = .bool (hN o.k) ∧ a 5 = .bool (hT o.k) ∧ a 6 = .bool (hI o.k) ∧ a 7 = .bool (hA o.k)) ?_ ?_
  · have k2 : Le B (B ++ [.row [by8 (UInt8.ofNat o.k.toNat)] .own 1 true]) := .push _ _
    have r2 := k2.row r1
    have hj : A.length < B.length := lt_of_get (rowAt_get r1)
    simp (maxSteps := 1000000) (disch := omega) only [stepS, reduceIte, Nat.reduceBEq, Nat.reduceEqDiff, tupleOf, stepT, stepX, heapR, lensR, Nat.reduceAdd, Nat.reduceLeDiff, g1, g4, g5, g6, g7, r1, hck, lit_by8]
    exact ⟨hl.trans k2, own_row (bs := pA o) (get_last _ _) rfl (Nat.le_refl _) hl.len⟩
  rintro a B' ⟨hl, o1, r1, g1, g4, g5, g6, g7⟩
  have keep : ∀ {C D : AH}, rowAt C A.length = some ([ii o.k, .string o.name, .string o.text, ii o.n, .string o.place], .own, 0, true) → (∀ (k : Nat) (cs : List Value) (ex : Bool), C[k]? = some (Blk.row cs .own 0 ex) → D[k]? = some (Blk.row cs .own 0 ex)) → rowAt D A.length = some ([ii o.k, .string o.name, .string o.text, ii o.n, .string o.place], .own, 0, true) :=
    fun h1 h2 => rowAt_own (h2 _ _ _ (rowAt_get h1))
  refine W_mid (fun a B' => Le A B' ∧ OwnB A.length B' (a 9) (pB o) ∧ rowAt B' A.length = some ([ii o.k, .string o.name, .string o.text, ii o.n, .string o.place], .own, 0, true) ∧ a 1 = ptr A.length ∧ a 5 = .bool (hT o.k) ∧ a 6 = .bool (hI o.k) ∧ a 7 = .bool (hA o.k)) ?_ ?_
  · cases hn : hN o.k with
    | true =>
      have e : pB o = pA o ++ textN (bl o.name) := by unfold pB; rw [hn]; rfl
      rw [hn] at g4
      have h12 := nm hn
      have k1 : Le B' (B' ++ [.row (o.name.data.toList.map by8) .own 1 false]) := .push _ _
      simp (maxSteps := 1000000) (disch := omega) only [stepS, reduceIte, Nat.reduceBEq, Nat.reduceEqDiff, tupleOf, stepT, stepX, heapR, lensR, Nat.reduceAdd, Nat.reduceLeDiff, g1, g4, g5, g6, g7, r1, s2b_eq]
      refine ref01_Text_spec (byt_s2b o.name) (fun t C ht k2 o2 => ?_) (fun h => absurd h (by rw [bl_size]; omega))
      have := textN_len (s := o.name) (by omega)
      obtain ⟨y, g9⟩ : ∃ y, a 9 = y := ⟨_, rfl⟩
      rw [g9] at o1
      obtain ⟨u, D, q1, q2, q3, q4, _⟩ := own_app (xs := textN (bl o.name)) ((hl.trans k1).trans k2) (o1.le (k1.trans k2)) o2.byt (by omega)
      simp (maxSteps := 1000000) (disch := omega) only [stepS, reduceIte, Nat.reduceBEq, Nat.reduceEqDiff, tupleOf, stepT, stepX, heapR, lensR, Nat.reduceAdd, Nat.reduceLeDiff, g1, g4, g5, g6, g7, g9, q1]
      rw [e]
      exact ⟨q2, q3, keep ((k1.trans k2).row r1) q4⟩
    | false =>
      have e : pB o = pA o := by unfold pB; rw [hn]; simp
      rw [hn] at g4
      rw [e]
      simp (maxSteps := 1000000) (disch := omega) only [stepS, reduceIte, Nat.reduceBEq, Nat.reduceEqDiff, tupleOf, stepT, stepX, heapR, lensR, Nat.reduceAdd, Nat.reduceLeDiff, g1, g4, g5, g6, g7, r1]
      exact ⟨hl, o1⟩
  rintro a B ⟨hl, o1, r1, g1, g5, g6, g7⟩
  have lenB : (pB o).length ≤ 400 := by
    unfold pB
    cases hn : hN o.k with
    | true => have := nm hn; have := textN_len (s := o.name) (by omega); simp; omega
    | false => simp; omega
  refine W_mid (fun a B' => Le A B' ∧ OwnB A.length B' (a 9) (pC o) ∧ rowAt B' A.length = some ([ii o.k, .string o.name, .string o.text, ii o.n, .string o.place], .own, 0, true) ∧ a 1 = ptr A.length ∧ a 6 = .bool (hI o.k) ∧ a 7 = .bool (hA o.k)) ?_ ?_
  · cases hn : hT o.k with
    | true =>
      have e : pC o = pB o ++ textN (bl o.text) := by unfold pC; rw [hn]; rfl
      rw [hn] at g5
      have k1 : Le B (B ++ [.row (o.text.data.toList.map by8) .own 1 false]) := .push _ _
      simp (maxSteps := 1000000) (disch := omega) only [stepS, reduceIte, Nat.reduceBEq, Nat.reduceEqDiff, tupleOf, stepT, stepX, heapR, lensR, Nat.reduceAdd, Nat.reduceLeDiff, g1, g5, g6, g7, r1, s2b_eq]
      refine ref01_Text_spec (byt_s2b o.text) (fun t C ht k2 o2 => ?_) (fun h => absurd h (by rw [bl_size]; omega))
      have := textN_len (s := o.text) (by omega)
      obtain ⟨y, g9⟩ : ∃ y, a 9 = y := ⟨_, rfl⟩
      rw [g9] at o1
      obtain ⟨u, D, q1, q2, q3, q4, _⟩ := own_app (xs := textN (bl o.text)) ((hl.trans k1).trans k2) (o1.le (k1.trans k2)) o2.byt (by omega)
      simp (maxSteps := 1000000) (disch := omega) only [stepS, reduceIte, Nat.reduceBEq, Nat.reduceEqDiff, tupleOf, stepT, stepX, heapR, lensR, Nat.reduceAdd, Nat.reduceLeDiff, g1, g5, g6, g7, g9, q1]
      rw [e]
      exact ⟨q2, q3, keep ((k1.trans k2).row r1) q4⟩
    | false =>
      have e : pC o = pB o := by unfold pC; rw [hn]; simp
      rw [hn] at g5
      rw [e]
      simp (maxSteps := 1000000) (disch := omega) only [stepS, reduceIte, Nat.reduceBEq, Nat.reduceEqDiff, tupleOf, stepT, stepX, heapR, lensR, Nat.reduceAdd, Nat.reduceLeDiff, g1, g5, g6, g7, r1]
      exact ⟨hl, o1⟩
  rintro a B ⟨hl, o1, r1, g1, g6, g7⟩
  have lenC : (pC o).length ≤ 800 := by
    unfold pC
    have := textN_len (s := o.text) (by omega)
    cases hn : hT o.k with
    | true => simp; omega
    | false => simp; omega
  refine W_mid (fun a B' => Le A B' ∧ OwnB A.length B' (a 9) (pD o) ∧ rowAt B' A.length = some ([ii o.k, .string o.name, .string o.text, ii o.n, .string o.place], .own, 0, true) ∧ a 1 = ptr A.length ∧ a 7 = .bool (hA o.k)) ?_ ?_
  · cases hn : hI o.k with
    | true =>
      have hf : fixF (o.n.natAbs : Int) 4 = some (leB o.n.natAbs 4) := by
        unfold fixF
        have : o.n.natAbs / 256 ^ 4 = 0 := Nat.div_eq_of_lt (by omega)
        rw [if_pos ⟨by omega, by omega, by simpa using this⟩]
        rfl
      rw [hn] at g6
      have e : pD o = pC o ++ [if o.n < 0 then 1 else 0] ++ leB o.n.natAbs 4 := by unfold pD; rw [hn]; simp [numO]
      by_cases hneg : o.n < 0
      · simp (maxSteps := 1000000) (disch := omega) only [stepS, reduceIte, Nat.reduceBEq, Nat.reduceEqDiff, tupleOf, stepT, stepX, heapR, lensR, Nat.reduceAdd, Nat.reduceLeDiff, g1, g6, g7, r1, negI]
        rw [e, if_pos hneg]
        have hf : fixF (0 - o.n) 4 = some (leB o.n.natAbs 4) := by rw [show (0 - o.n) = (o.n.natAbs : Int) by omega]; exact hf
        generalize hsg : (1 : UInt8) = sg
        have l8 : ∀ A, sLit A [.int .u8 0] 1 1 [(0, 1, .int .u8 1)] = some (.slice (some ⟨A.length, 0, none⟩) 1 1, A ++ [.row [by8 sg] .own 1 true]) := fun A => by rw [← hsg]; exact lit_by8 A 1
        refine ref01_Fix_spec (fun z t C hz k1 o2 => ?_) (fun h => by rw [hf] at h; cases h)
        rw [hf] at hz
        obtain rfl := Option.some.inj hz
        obtain ⟨y, g9⟩ : ∃ y, a 9 = y := ⟨_, rfl⟩
        rw [g9] at o1
        have hlt : ∀ k ∈ blkOf y, k < B.length := fun k hk => (OwnS.ge o1 k hk).2
        have k2 : Le C (C ++ [.row [by8 sg] .own 1 true]) := .push _ _
        obtain ⟨u1, D1, p1, p2, p3, p4, p5⟩ := own_app ((hl.trans k1).trans k2) (o1.le (k1.trans k2)) (byt_by8 C sg) (by simp; omega)
        have hy := p5 t _ (o2.byt.le k2) (fun k hk hv => by have h1 := hlt k hv; have h2 := (OwnS.ge o2 k hk).1; omega)
        obtain ⟨u, D, q1, q2, q3, q4, _⟩ := own_app p2 p3 hy (by simp [leB_length]; omega)
        simp (maxSteps := 1000000) (disch := omega) only [stepS, reduceIte, Nat.reduceBEq, Nat.reduceEqDiff, tupleOf, stepT, stepX, heapR, lensR, Nat.reduceAdd, Nat.reduceLeDiff, g1, g6, g7, g9, l8, p1, q1]
        exact ⟨q2, q3, keep (keep ((k1.trans k2).row r1) p4) q4⟩
      · simp (maxSteps := 1000000) (disch := omega) only [stepS, reduceIte, Nat.reduceBEq, Nat.reduceEqDiff, tupleOf, stepT, stepX, heapR, lensR, Nat.reduceAdd, Nat.reduceLeDiff, g1, g6, g7, r1, negI]
        rw [e, if_neg hneg]
        have hf : fixF o.n 4 = some (leB o.n.natAbs 4) := by
          have e2 : o.n = (o.n.natAbs : Int) := by omega
          rw [← e2] at hf; exact hf
        generalize hsg : (0 : UInt8) = sg
        have l8 : ∀ A, sLit A [.int .u8 0] 1 1 [(0, 1, .int .u8 0)] = some (.slice (some ⟨A.length, 0, none⟩) 1 1, A ++ [.row [by8 sg] .own 1 true]) := fun A => by rw [← hsg]; exact lit_by8 A 0
        refine ref01_Fix_spec (fun z t C hz k1 o2 => ?_) (fun h => by rw [hf] at h; cases h)
        rw [hf] at hz
        obtain rfl := Option.some.inj hz
        obtain ⟨y, g9⟩ : ∃ y, a 9 = y := ⟨_, rfl⟩
        rw [g9] at o1
        have hlt : ∀ k ∈ blkOf y, k < B.length := fun k hk => (OwnS.ge o1 k hk).2
        have k2 : Le C (C ++ [.row [by8 sg] .own 1 true]) := .push _ _
        obtain ⟨u1, D1, p1, p2, p3, p4, p5⟩ := own_app ((hl.trans k1).trans k2) (o1.le (k1.trans k2)) (byt_by8 C sg) (by simp; omega)
        have hy := p5 t _ (o2.byt.le k2) (fun k hk hv => by have h1 := hlt k hv; have h2 := (OwnS.ge o2 k hk).1; omega)
        obtain ⟨u, D, q1, q2, q3, q4, _⟩ := own_app p2 p3 hy (by simp [leB_length]; omega)
        simp (maxSteps := 1000000) (disch := omega) only [stepS, reduceIte, Nat.reduceBEq, Nat.reduceEqDiff, tupleOf, stepT, stepX, heapR, lensR, Nat.reduceAdd, Nat.reduceLeDiff, g1, g6, g7, g9, l8, p1, q1]
        exact ⟨q2, q3, keep (keep ((k1.trans k2).row r1) p4) q4⟩
    | false =>
      have e : pD o = pC o := by unfold pD; rw [hn]; simp
      rw [hn] at g6
      rw [e]
      simp (maxSteps := 1000000) (disch := omega) only [stepS, reduceIte, Nat.reduceBEq, Nat.reduceEqDiff, tupleOf, stepT, stepX, heapR, lensR, Nat.reduceAdd, Nat.reduceLeDiff, g1, g6, g7, r1]
      exact ⟨hl, o1⟩
  rintro a B ⟨hl, o1, r1, g1, g7⟩
  have lenD : (pD o).length ≤ 900 := by
    unfold pD
    cases hn : hI o.k with
    | true => simp [numO, leB_length]; omega
    | false => simp; omega
  refine W_mid (fun a B' => Le A B' ∧ OwnB A.length B' (a 9) (pE o) ∧ rowAt B' A.length = some ([ii o.k, .string o.name, .string o.text, ii o.n, .string o.place], .own, 0, true) ∧ a 1 = ptr A.length) ?_ ?_
  · by_cases k5 : o.k = 5
    · have hA5 : hA o.k = true := by unfold hA; rw [decide_eq_true_eq]; omega
      have e : pE o = pD o ++ [if o.place = e0 then 0 else 1] := by unfold pE; rw [if_pos k5]
      rw [hA5] at g7
      obtain ⟨y, g9⟩ : ∃ y, a 9 = y := ⟨_, rfl⟩
      rw [g9] at o1
      by_cases hp : o.place = e0
      · rw [e, if_pos hp]
        have k2 : Le B (B ++ [.row [by8 0] .own 1 true]) := .push _ _
        obtain ⟨u, D, q1, q2, q3, q4, _⟩ := own_app (hl.trans k2) (o1.le k2) (byt_by8 B 0) (by simp; omega)
        have l8 : ∀ A, sLit A [.int .u8 0] 1 1 [(0, 1, .int .u8 0)] = some (.slice (some ⟨A.length, 0, none⟩) 1 1, A ++ [.row [by8 0] .own 1 true]) := fun A => lit_by8 A 0
        simp (maxSteps := 1000000) (disch := omega) only [stepS, reduceIte, Nat.reduceBEq, Nat.reduceEqDiff, tupleOf, stepT, stepX, heapR, lensR, Nat.reduceAdd, Nat.reduceLeDiff, g1, g7, g9, r1, decide_eq_false (fun h => h hp : ¬ o.place ≠ e0), l8, q1]
        exact ⟨q2, q3, keep (k2.row r1) q4⟩
      · rw [e, if_neg hp]
        have k2 : Le B (B ++ [.row [by8 1] .own 1 true]) := .push _ _
        obtain ⟨u, D, q1, q2, q3, q4, _⟩ := own_app (hl.trans k2) (o1.le k2) (byt_by8 B 1) (by simp; omega)
        have l8 : ∀ A, sLit A [.int .u8 0] 1 1 [(0, 1, .int .u8 1)] = some (.slice (some ⟨A.length, 0, none⟩) 1 1, A ++ [.row [by8 1] .own 1 true]) := fun A => lit_by8 A 1
        simp (maxSteps := 1000000) (disch := omega) only [stepS, reduceIte, Nat.reduceBEq, Nat.reduceEqDiff, tupleOf, stepT, stepX, heapR, lensR, Nat.reduceAdd, Nat.reduceLeDiff, g1, g7, g9, r1, decide_eq_true (show o.place ≠ e0 from hp), l8, q1]
        exact ⟨q2, q3, keep (k2.row r1) q4⟩
    · have e : pE o = pD o := by unfold pE; rw [if_neg k5]; simp
      rw [e]
      cases hn : hA o.k with
      | true =>
        rw [hn] at g7
        simp (maxSteps := 1000000) (disch := omega) only [stepS, reduceIte, Nat.reduceBEq, Nat.reduceEqDiff, tupleOf, stepT, stepX, heapR, lensR, Nat.reduceAdd, Nat.reduceLeDiff, g1, g7, r1]
        exact ⟨hl, o1⟩
      | false =>
        rw [hn] at g7
        simp (maxSteps := 1000000) (disch := omega) only [stepS, reduceIte, Nat.reduceBEq, Nat.reduceEqDiff, tupleOf, stepT, stepX, heapR, lensR, Nat.reduceAdd, Nat.reduceLeDiff, g1, g7, r1]
        exact ⟨hl, o1⟩
  rintro a B ⟨hl, o1, r1, g1⟩
  have lenE : (pE o).length ≤ 901 := by
    unfold pE
    split <;> simp <;> omega
  have hsz : o.place.size ≤ 32 := by
    rcases h8 with h | h
    · rw [h]; decide
    · omega
  obtain ⟨y, g9⟩ : ∃ y, a 9 = y := ⟨_, rfl⟩
  rw [g9] at o1
  obtain ⟨u, C, q1, q2, q3, _⟩ := apps_bytes (s := o.place) hl o1 (by omega)
  simp (maxSteps := 1000000) (disch := omega) only [stepS, reduceIte, Nat.reduceBEq, Nat.reduceEqDiff, tupleOf, stepT, stepX, heapR, lensR, Nat.reduceAdd, Nat.reduceLeDiff, g1, g9, r1, q1]
  refine hok hop _ _ q2 ?_
  rw [putO_pE]
  exact q3
end Go.AS.C


namespace Go.AS.C
open Go Go.Proofs
set_option linter.unusedVariables false
set_option linter.unusedSimpArgs false
set_option maxRecDepth 10000

end Go.AS.C


namespace Go.AS.C
open Go Go.Proofs
set_option linter.unusedVariables false
set_option linter.unusedSimpArgs false
set_option maxRecDepth 10000

/-! The reference's Get of operations. -/
structure RefH (R B : AH) (z c j : Nat) (st : CurS) (o : OpV) : Prop where
  le : Le R B
  rr : ∃ (b : Value) (k : Nat), one1 b ∧ RefA R.length B (.agg #[b, ii k, .bool st.isNone]) st ∧ rowAt B c = some ([b, ii k, .bool st.isNone], .own, 0, true)
  rj : rowAt B j = some ([ii o.k, .string o.name, .string o.text, ii o.n, .string o.place], .own, 0, true)
  rz : rowAt B z = some ([.int .i64 0, .string e0, .string e0, .int .i64 0, .string e0], .own, 0, true)
theorem BytR.base {R C D : AH} {t : Value} {bs : List UInt8} (h : BytR R.length C t bs) (hC : Le R C) (hD : Le R D) : Byt D t bs := by
  refine h.1.keepB fun i b hb hi => ?_
  have hlt := h.2 i hi
  obtain ⟨c0, hc0⟩ : ∃ c0, R[i]? = some c0 := ⟨_, List.getElem?_eq_getElem hlt⟩
  rw [hC.get hc0] at hb
  rw [← hb]
  exact hD.get hc0
abbrev rowC (b : Value) (k : Nat) (d : Bool) : Blk := .row [b, ii k, .bool d] .own 0 true
abbrev rowZ : Blk := .row [.slice none 0 0, .int .i64 0, .bool false] .own 0 true
/-- What a reading leaves: the reader's new state, put in its place. -/
abbrev afterR (C : AH) (c : Nat) (b : Value) (k : Nat) (d : Bool) : AH := ((C ++ [rowZ]).set C.length (rowC b k d)).set c (rowC b k d)
theorem RefH.read {R B C : AH} {z c j : Nat} {st st' : CurS} {o : OpV} {b : Value} {k : Nat} (h : RefH R B z c j st o) (hz : z < R.length) (hc : R.length ≤ c) (hj : R.length ≤ j) (hcj : c ≠ j) (hl : Le B C) (hb : one1 b) (hr : RefA R.length C (refV b k st'.isNone) st') : RefH R (afterR C c b k st'.isNone) z c j st' o := by
  obtain ⟨h1, ⟨b0, k0, _, _, h3⟩, h4, h5⟩ := h
  have kC := h1.trans hl
  have c1 := lt_of_get (rowAt_get (hl.row h3))
  have c2 := lt_of_get (rowAt_get (hl.row h4))
  have c3 := lt_of_get (rowAt_get (hl.row h5))
  have r3 := hl.row h3
  have r4 := hl.row h4
  have r5 := hl.row h5
  have hC := kC.len
  have kD : Le R (afterR C c b k st'.isNone) := by unfold afterR; (repeat first | exact Le.refl _ | assumption | refine Le.app ?_ _ | refine Le.set ?_ ?_ | omega | (simp only [List.length_append, List.length_singleton, List.length_set]; omega))
  refine ⟨kD, ⟨b, k, hb, RefA.base kC kD hr, ?_⟩, ?_, ?_⟩
  · simp (maxSteps := 1000000) (disch := omega) only [stepS, reduceIte, Nat.reduceBEq, Nat.reduceEqDiff, tupleOf, stepT, stepX, heapR, lensR, Nat.reduceAdd, Nat.reduceLeDiff]
  · simp (maxSteps := 1000000) (disch := omega) only [stepS, reduceIte, Nat.reduceBEq, Nat.reduceEqDiff, tupleOf, stepT, stepX, heapR, lensR, Nat.reduceAdd, Nat.reduceLeDiff, r4]
  · simp (maxSteps := 1000000) (disch := omega) only [stepS, reduceIte, Nat.reduceBEq, Nat.reduceEqDiff, tupleOf, stepT, stepX, heapR, lensR, Nat.reduceAdd, Nat.reduceLeDiff, r5]
theorem RefH.put {R B : AH} {z c j : Nat} {st : CurS} {o o' : OpV} (h : RefH R B z c j st o) (hz : z < R.length) (hj : R.length ≤ j) (hcj : c ≠ j) {cs : List Value} (hcs : cs = [ii o'.k, .string o'.name, .string o'.text, ii o'.n, .string o'.place]) : RefH R (B.set j (.row cs .own 0 true)) z c j st o' := by
  subst hcs
  obtain ⟨h1, ⟨b0, k0, h2, h2b, h3⟩, h4, h5⟩ := h
  have c2 := lt_of_get (rowAt_get h4)
  have kD : Le R (B.set j (.row [ii o'.k, .string o'.name, .string o'.text, ii o'.n, .string o'.place] .own 0 true)) := h1.set hj
  refine ⟨kD, ⟨b0, k0, h2, RefA.base h1 kD h2b, ?_⟩, ?_, ?_⟩
  · simp (maxSteps := 1000000) (disch := omega) only [stepS, reduceIte, Nat.reduceBEq, Nat.reduceEqDiff, tupleOf, stepT, stepX, heapR, lensR, Nat.reduceAdd, Nat.reduceLeDiff, h3]
  · simp (maxSteps := 1000000) (disch := omega) only [stepS, reduceIte, Nat.reduceBEq, Nat.reduceEqDiff, tupleOf, stepT, stepX, heapR, lensR, Nat.reduceAdd, Nat.reduceLeDiff]
  · simp (maxSteps := 1000000) (disch := omega) only [stepS, reduceIte, Nat.reduceBEq, Nat.reduceEqDiff, tupleOf, stepT, stepX, heapR, lensR, Nat.reduceAdd, Nat.reduceLeDiff, h5]
end Go.AS.C
