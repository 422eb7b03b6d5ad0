import Derived.Test.YtgeoeagohhojbaaAs23
namespace Go.AS
open Go
set_option linter.unusedVariables false
set_option linter.unusedSimpArgs false

section
variable {A A0 B : AH} {v : Value} {sz n a0 : Nat} {cs : List Value}

theorem asI_ii {k : IntKind} {n : Int} : asI (.int k n) = some n := rfl
theorem bnd_lo {k c : Nat} (h : k ≤ n) (hc : n ≤ c) : boundsA n c (some (ii k)) none none = some (k, n, c) := by
  unfold boundsA
  simp only [ii, asI, Option.bind_some]
  rw [if_pos (by omega)]
  simp
theorem bnd_hi {k c : Nat} (h : k ≤ c) : boundsA n c none (some (ii k)) none = some (0, k, c) := by
  unfold boundsA
  simp only [ii, asI, Option.bind_some]
  rw [if_pos (by omega)]
  simp
theorem bnd_both {k l c : Nat} (h0 : l ≤ k) (h : k ≤ c) : boundsA n c (some (ii l)) (some (ii k)) none = some (l, k, c) := by
  unfold boundsA
  simp only [ii, asI, Option.bind_some]
  rw [if_pos (by omega)]
  simp only [Option.bind_some, Int.toNat_natCast]
  rw [if_pos (by omega)]
  simp

theorem Sl.cut (h : Sl A sz v n cs) {lo hi : Option Value} {l k : Nat} (hlk : l ≤ k) (hk : k ≤ n) (hb : ∀ c, n ≤ c → boundsA n c lo hi none = some (l, k, c)) :
    ∃ u, sSll A v lo hi none sz = some (u, A) ∧ Sl A sz u (k - l) ((cs.drop (l * sz)).take ((k - l) * sz)) := by
  obtain ⟨h0, h⟩ := h
  have hmul : l * sz + (k - l) * sz ≤ n * sz := by rw [← Nat.add_mul]; exact Nat.mul_le_mul_right _ (by omega)
  rcases h with ⟨rfl, rfl⟩ | ⟨rfl, rfl⟩ | ⟨i, o, c, rc, st, ex, rfl, h2, h3, h4, h5, h6⟩
  · have : l = 0 := by omega
    have : k = 0 := by omega
    subst l k
    refine ⟨.slice none 0 0, ?_, ⟨by simp [h0], .inl ⟨rfl, rfl⟩⟩⟩
    unfold sSll
    simp only [hb 0 (Nat.le_refl _)]
    rfl
  · have : l = 0 := by omega
    have : k = 0 := by omega
    subst l k
    refine ⟨.slice (some zmk) 0 0, ?_, ⟨by simp [h0], .inr (.inl ⟨rfl, rfl⟩)⟩⟩
    unfold sSll zmk
    simp only [hb 0 (Nat.le_refl _)]
    rfl
  · refine ⟨.slice (some ⟨i, o + l * sz, none⟩) (k - l) (c - l), ?_, ⟨by rw [List.length_take, List.length_drop]; omega, .inr (.inr ⟨i, o + l * sz, c - l, rc, st, ex, rfl, by omega, h3, h4, by omega, ?_⟩)⟩⟩
    · unfold sSll
      simp only [hb c h2, Option.bind_some]
      unfold rowSz
      rw [h3]
      simp
    · intro j hj
      rw [List.getElem?_take_of_lt hj, List.getElem?_drop, Nat.add_assoc, h6 _ (by omega)]

theorem Byt.cut {bs : List UInt8} (h : Byt A v bs) {lo hi : Option Value} {l k : Nat} (hlk : l ≤ k) (hk : k ≤ bs.length) (hb : ∀ c, bs.length ≤ c → boundsA bs.length c lo hi none = some (l, k, c)) :
    ∃ u, sSll A v lo hi none 1 = some (u, A) ∧ Byt A u ((bs.drop l).take (k - l)) := by
  obtain ⟨u, h1, h2⟩ := Sl.cut h hlk hk hb
  refine ⟨u, h1, ?_⟩
  unfold Byt
  have e : ((bs.drop l).take (k - l)).length = k - l := by rw [List.length_take, List.length_drop]; omega
  rw [e]
  simpa using h2
theorem Byt.from {bs : List UInt8} (h : Byt A v bs) {l : Nat} (hl : l ≤ bs.length) : ∃ u, sSll A v (some (ii l)) none none 1 = some (u, A) ∧ Byt A u (bs.drop l) := by
  obtain ⟨u, h1, h2⟩ := h.cut (lo := some (ii l)) (hi := none) hl (Nat.le_refl _) (fun c hc => bnd_lo hl hc)
  rw [List.take_of_length_le (by simp)] at h2
  exact ⟨u, h1, h2⟩
theorem Byt.upto {bs : List UInt8} (h : Byt A v bs) {k : Nat} (hk : k ≤ bs.length) : ∃ u, sSll A v none (some (ii k)) none 1 = some (u, A) ∧ Byt A u (bs.take k) := by
  obtain ⟨u, h1, h2⟩ := h.cut (lo := none) (hi := some (ii k)) (Nat.zero_le _) hk (fun c hc => bnd_hi (by omega))
  exact ⟨u, h1, by simpa using h2⟩

/-- The places of a literal whose elements are one cell each. -/
def mkP : Nat → List Value → List (Nat × Nat × Value)
  | _, [] => []
  | k, x :: r => (k, 1, x) :: mkP (k + 1) r
def one1 (x : Value) : Prop := x.cells = #[x] ∧ x.oneCell' = true
theorem one1_by8 (b : UInt8) : one1 (by8 b) := ⟨rfl, rfl⟩
theorem one1_int (k : IntKind) (b : Int) : one1 (.int k b) := ⟨rfl, rfl⟩
theorem one1_str (b : ByteArray) : one1 (.string b) := ⟨rfl, rfl⟩
theorem one1_sl (p : Option Addr) (n c : Nat) : one1 (.slice p n c) := ⟨rfl, rfl⟩
theorem fill_mkP : ∀ (xs : List Value) (pre post : List Value), (∀ x ∈ xs, one1 x) → post.length = xs.length → fillA (pre ++ post) (mkP pre.length xs) = some (pre ++ xs)
  | [], pre, post, _, hl => by
    have : post = [] := by simpa using hl
    subst this; rfl
  | x :: r, pre, post, hx, hl => by
    cases post with
    | nil => simp at hl
    | cons y post =>
      obtain ⟨h1, h2⟩ := hx x (by simp)
      simp only [mkP, fillA, h1]
      have ho : ones [x] = true := by simp [ones, h2]
      rw [if_pos ⟨by simp, by simp, by simpa using ho⟩]
      have e : setAll (pre ++ y :: post) pre.length #[x].toList = (pre ++ [x]) ++ post := by
        unfold setAll
        simp
      rw [e]
      have := fill_mkP r (pre ++ [x]) post (fun x hx' => hx x (by simp [hx'])) (by simpa using hl)
      simpa using this
theorem lit1 {z : Value} {len : Nat} {ps : List (Nat × Nat × Value)} (xs : List Value) (hp : ps = mkP 0 xs) (hl : len = xs.length) (hx : ∀ x ∈ xs, one1 x) :
    sLit A [z] 1 len ps = some (.slice (some ⟨A.length, 0, none⟩) xs.length xs.length, A ++ [.row xs .own 1 true]) := by
  subst hp hl
  unfold sLit
  have e : (List.replicate xs.length [z]).flatten = List.replicate xs.length z := by simp
  have := fill_mkP xs [] (List.replicate xs.length z) hx (by simp)
  simp only [List.nil_append, List.length_nil] at this
  rw [e, this]
  rfl

theorem own_row {i : Nat} {ex : Bool} {bs : List UInt8} {n c : Nat} (h : A[i]? = some (.row (bs.map by8) .own 1 ex)) (hn : n = bs.length) (hc : n ≤ c) (ha : a0 ≤ i) : OwnB a0 A (.slice (some ⟨i, 0, none⟩) n c) bs := by
  subst hn
  exact ⟨by simp, .inr (.inr ⟨i, 0, c, bs.map by8, ex, rfl, hc, ha, h, by simp, fun j _ => by rw [Nat.zero_add]⟩)⟩
theorem litB (A : AH) {len : Nat} {ps : List (Nat × Nat × Value)} (bs : List UInt8) (hp : ps = mkP 0 (bs.map by8)) (hl : len = bs.length) :
    sLit A [.int .u8 0] 1 len ps = some (.slice (some ⟨A.length, 0, none⟩) bs.length bs.length, A ++ [.row (bs.map by8) .own 1 true]) := by
  have := lit1 (A := A) (z := .int .u8 0) (len := len) (ps := ps) (bs.map by8) hp (by simpa using hl) (by
    intro x hx
    rw [List.mem_map] at hx
    obtain ⟨b, _, rfl⟩ := hx
    exact one1_by8 b)
  simpa using this
theorem mks_last (A : AH) {cs : List Value} {ex : Bool} {n c : Nat} (hn : 0 < n) :
    sMks (A ++ [.row cs .own sz ex]) (.slice (some ⟨A.length, 0, none⟩) n c) = some (.slice (some ⟨A.length, 0, none⟩) n c, A ++ [.row cs .own sz ex]) := by
  unfold sMks
  simp [hn]
theorem byt_last (A : AH) {ex : Bool} (bs : List UInt8) : Byt (A ++ [.row (bs.map by8) .own 1 ex]) (.slice (some ⟨A.length, 0, none⟩) bs.length bs.length) bs :=
  (own_row (a0 := 0) (get_last _ _) rfl (Nat.le_refl _) (Nat.zero_le _)).byt
/-- A store into bytes of the call's own. -/
theorem own_store {bs : List UInt8} {k : Nat} (x : UInt8) (hl : Le A0 A) (h : OwnB A0.length A v bs) (hk : k < bs.length) :
    ∃ p A', sIaddr A v (ii k) 1 = some (p, A) ∧ sStore A p (by8 x) 1 = some (undef, A') ∧ OwnB A0.length A' v (bs.set k x) ∧ Le A0 A' := by
  obtain ⟨h0, h⟩ := h
  rcases h with ⟨rfl, h⟩ | ⟨rfl, h⟩ | ⟨i, o, c, rc, ex, rfl, h1, h2, h3, h4, h5⟩
  · omega
  · omega
  · have hs := store1 (o := o + k) (x := by8 x) h3 (by omega) rfl rfl
    refine ⟨.pointer (some ⟨i, o + k, none⟩), _, iaddr1 hk, hs, ⟨by simp, .inr (.inr ⟨i, o, c, rc.set (o + k) (by8 x), ex, by rw [List.length_set], by rw [List.length_set]; exact h1, h2, ?_, by simp; omega, ?_⟩)⟩, hl.set h2⟩
    · rw [List.getElem?_set_self (lt_of_get h3)]
    · intro j hj
      rw [List.length_set] at hj
      rw [List.getElem?_set, List.getElem?_map, List.getElem?_set]
      by_cases hjk : j = k
      · subst hjk
        rw [if_pos rfl, if_pos rfl, if_pos (by omega), if_pos hk]; rfl
      · rw [if_neg (by omega), if_neg (by omega), h5 j hj, List.getElem?_map]
theorem by8_wf (x : UInt8) : (Lit.int .u8 (x.toNat : Int)).wf = true := by
  have := x.toNat_lt
  simp [Lit.wf, IntKind.bits, IntKind.signed, IntKind.min, IntKind.max]
  omega
theorem ext0 {x y : Value} : sExt A (.tuple #[x, y]) 0 = some (x, A) := id rfl
theorem ext1 {x y : Value} : sExt A (.tuple #[x, y]) 1 = some (y, A) := id rfl

/-- Bytes as a text. -/
theorem bytesA_by8 (bs : List UInt8) : bytesA (bs.map by8) = some bs := by
  induction bs with
  | nil => rfl
  | cons b r ih =>
    simp only [List.map_cons, bytesA, ih, Option.map_some]
    simp [by8, asByte]
theorem Byt.str {bs : List UInt8} (h : Byt A v bs) : sB2s A v = some (.string ⟨bs.toArray⟩, A) := by
  unfold sB2s
  rw [h.rd]
  simp only [Option.bind_some, bytesA_by8]
  rfl
theorem Byt.shape {bs : List UInt8} (h : Byt A v bs) : ∃ p c, v = .slice p bs.length c ∧ (p = none → bs = []) := by
  obtain ⟨_, hx⟩ := h
  rcases hx with ⟨rfl, h⟩ | ⟨rfl, h⟩ | ⟨i, o, c, rc, st, ex, rfl, _⟩
  · exact ⟨_, _, by rw [h], fun _ => by simpa using h⟩
  · exact ⟨_, _, by rw [h], fun h => by cases h⟩
  · exact ⟨_, _, rfl, fun h => by cases h⟩
theorem toList_loop (b : ByteArray) : ∀ (n i : Nat) (r : List UInt8), b.size - i = n → ByteArray.toList.loop b i r = r.reverse ++ b.data.toList.drop i
  | 0, i, r, h => by
    unfold ByteArray.toList.loop
    have hs : b.size = b.data.toList.length := by rw [Array.length_toList]; rfl
    rw [if_neg (by omega), List.drop_of_length_le (by omega), List.append_nil]
  | n + 1, i, r, h => by
    unfold ByteArray.toList.loop
    have hs : b.size = b.data.toList.length := by rw [Array.length_toList]; rfl
    rw [if_pos (by omega), toList_loop b n (i + 1) _ (by omega)]
    have hi : i < b.data.toList.length := by omega
    rw [List.drop_eq_getElem_cons hi]
    have e : b.get! i = b.data.toList[i] := by
      show b.data[i]! = _
      rw [getElem!_pos b.data i (by simpa using hi)]
      simp
    rw [e]
    simp
theorem toList_data (b : ByteArray) : b.toList = b.data.toList := by
  unfold ByteArray.toList
  rw [toList_loop b _ 0 [] rfl]
  simp
theorem eq_str (a b : List UInt8) : binA .eql (.string ⟨a.toArray⟩) (.string ⟨b.toArray⟩) = some (.bool (a == b)) := by
  simp only [binA, toList_data]
theorem ne_str (a b : List UInt8) : binA .neq (.string ⟨a.toArray⟩) (.string ⟨b.toArray⟩) = some (.bool (a != b)) := by
  simp only [binA, toList_data]
  rfl
end
end Go.AS
