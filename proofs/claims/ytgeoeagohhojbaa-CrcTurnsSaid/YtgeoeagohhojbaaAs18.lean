import Derived.Test.YtgeoeagohhojbaaAs17
import Derived.Deep.LoopGhost
namespace Go.AS
open Go
set_option linter.unusedVariables false
set_option linter.unusedSimpArgs false

def chk (f : List Nat → Nat → Bool) : List Nat → List Nat → Bool
  | _, [] => true
  | p, i :: r => f p i && chk f (p ++ [i]) r

theorem chk_spec {f : List Nat → Nat → Bool} : ∀ (l p0 : List Nat), chk f p0 l = true → ∀ p i r, l = p ++ i :: r → f (p0 ++ p) i = true
  | [], _, _, p, i, r, h => by cases p <;> cases h
  | x :: l, p0, h, p, i, r, hl => by
    simp only [chk, Bool.and_eq_true] at h
    cases p with
    | nil =>
      injection hl with h1 h2; subst h1
      simpa using h.1
    | cons y p =>
      injection hl with h1 h2; subst h1
      have := chk_spec l (p0 ++ [x]) h.2 p i r h2
      simpa using this

/-- What is ahead of each operation. -/
def befs (ops : Array Oper) : List (List Nat) :=
  ops.toList.foldl (fun acc o => acc ++ [(o.after.toList.filter fun e => Region.binds .any e).foldl (fun s e =>
    let t := if s.contains e.on then s else s ++ [e.on]
    (acc.getD e.on []).foldl (fun s k => if s.contains k then s else s ++ [k]) t) []]) []

def greedy (ios : List IOp) (B : List (List Nat)) : Nat → List Nat → List Nat
  | 0, dn => dn
  | n + 1, dn =>
    let can := (List.range ios.length).filter fun i => !dn.contains i && (B.getD i []).all dn.contains
    match can.find? (fun i => match ios[i]? with | some io => kd io.op != 2 | none => false) with
    | some i => greedy ios B n (dn ++ [i])
    | none => match can.head? with
      | some i => greedy ios B n (dn ++ [i])
      | none => dn

def flags (ios : List IOp) (B : List (List Nat)) (ord : List Nat) : List Bool :=
  (List.range ios.length).map fun i => match ios[i]? with
    | some io => kd io.op == 2 && (ord.takeWhile (· != i)).any fun q => (match ios[q]? with | some ioq => kd ioq.op == 1 | none => false) && !(B.getD i []).contains q
    | none => false

def dOk (ops : Array Oper) (ios : List IOp) (B : List (List Nat)) (ord : List Nat) (fl : List Bool) : Bool :=
  ios.length == ops.size &&
  (List.range ops.size).all ord.contains &&
  chk (fun p i => !p.contains i) [] ord &&
  ((List.range ops.size).all fun i => match ops[i]? with
    | some o => o.after.toList.all fun e => !Region.binds .any e || (decide (e.on < ops.size) && (B.getD i []).contains e.on)
    | none => true) &&
  ((List.range ops.size).all fun i => (B.getD i []).all fun k => match ops[i]? with
    | some o => o.after.toList.any fun e => Region.binds .any e && (k == e.on || (B.getD e.on []).contains k)
    | none => false) &&
  chk (fun p i => (B.getD i []).all p.contains) [] ord &&
  ((List.range ops.size).all fun i => (List.range ops.size).all fun j => match ops[i]?, ops[j]? with
    | some oi, some oj => i == j || oi.dst.isNone || oi.dst != oj.dst
    | _, _ => true) &&
  ((List.range ops.size).all fun j => match ops[j]? with
    | some oj => (looks ops oj).all fun t => (List.range ops.size).all fun i => match ops[i]? with
      | some oi => oi.dst != some t || (B.getD j []).contains i || i == j || (B.getD i []).contains j
      | none => true
    | none => true) &&
  chk (fun p i => p.all fun j => match ios[j]? with | some io => kd io.op != 2 || (B.getD i []).contains j | none => true) [] ord &&
  chk (fun p i => (match ios[i]? with | some io => kd io.op != 2 | none => true) || p.all fun q => match ios[q]? with | some io => kd io.op != 1 || (B.getD i []).contains q || fl.getD i false | none => true) [] ord

theorem nodup_of_chk : ∀ (l p0 : List Nat), chk (fun p i => !p.contains i) p0 l = true → l.Nodup ∧ ∀ i ∈ l, i ∉ p0
  | [], _, _ => ⟨List.nodup_nil, fun i h => by cases h⟩
  | x :: l, p0, h => by
    simp only [chk, Bool.and_eq_true] at h
    obtain ⟨h1, h2⟩ := h
    have h1 : x ∉ p0 := by simpa using h1
    obtain ⟨h3, h4⟩ := nodup_of_chk l (p0 ++ [x]) h2
    refine ⟨List.nodup_cons.2 ⟨fun hx => h4 x hx (by simp), h3⟩, fun i hi => ?_⟩
    rcases List.mem_cons.1 hi with rfl | hi
    · exact h1
    · exact fun hp => h4 i hi (by simp [hp])

theorem dOk_sound {ops : Array Oper} {ios : List IOp} {B : List (List Nat)} {ord : List Nat} {fl : List Bool} (h : dOk ops ios B ord fl = true) : DOk ops ios B ord fl := by
  unfold dOk at h
  simp only [Bool.and_eq_true] at h
  obtain ⟨⟨⟨⟨⟨⟨⟨⟨⟨h1, h2⟩, h3⟩, h4⟩, h5⟩, h6⟩, h7⟩, h8⟩, h9⟩, h10⟩ := h
  have lt : ∀ {i : Nat} {o : Oper}, ops[i]? = some o → i ∈ List.range ops.size := by
    intro i o ho
    rw [List.mem_range]
    rcases Nat.lt_or_ge i ops.size with h' | h'
    · exact h'
    · rw [Array.getElem?_eq_none h'] at ho; cases ho
  simp only [List.all_eq_true] at h2 h4 h5 h7 h8
  have hedge : ∀ (i : Nat) o, ops[i]? = some o → ∀ e ∈ o.after, Region.binds .any e = true → e.on < ops.size ∧ e.on ∈ B.getD i [] := by
    intro i o ho e he hb
    have := h4 i (lt ho)
    rw [ho] at this
    simp only [List.all_eq_true] at this
    have := this e (by simpa using he)
    simpa [hb] using this
  refine ⟨by simpa using h1, ?_, (nodup_of_chk _ _ h3).1, fun i o ho e he hb => (hedge i o ho e he hb).1, fun i o ho e he hb => (hedge i o ho e he hb).2, ?_, ?_, ?_, ?_, ?_, ?_⟩
  · intro i hi
    have := h2 i (by rw [List.mem_range]; exact hi)
    simpa using this
  · intro i hi k hk
    have := h5 i (by rw [List.mem_range]; exact hi) k hk
    split at this
    · rename_i o ho
      rw [List.any_eq_true] at this
      obtain ⟨e, he, hq⟩ := this
      rw [Bool.and_eq_true, Bool.or_eq_true] at hq
      refine ⟨o, ho, e, by simpa using he, hq.1, ?_⟩
      rcases hq.2 with hq | hq
      · exact .inl (by simpa using hq)
      · exact .inr (by simpa using hq)
    · cases this
  · intro p i r hor k hk
    have := chk_spec ord [] h6 p i r hor
    rw [List.all_eq_true] at this
    have := this k hk
    simpa using this
  · intro i j oi oj t hi hj hti htj
    have := h7 i (lt hi) j (lt hj)
    rw [hi, hj] at this
    simpa [hti, htj] using this
  · intro i j oi oj t hi hj hti ht
    have := h8 j (lt hj)
    rw [hj] at this
    rw [List.all_eq_true] at this
    have := this t ht
    rw [List.all_eq_true] at this
    have := this i (lt hi)
    rw [hi] at this
    simp only [hti, bne_self_eq_false, Bool.false_or, Bool.or_eq_true, List.contains_eq_mem, decide_eq_true_eq, beq_iff_eq] at this
    rcases this with (h | h) | h
    · exact .inl h
    · exact .inr (.inl h)
    · exact .inr (.inr h)
  · intro p i r hor j ioj hj hio hk
    have := chk_spec ord [] h9 p i r hor
    rw [List.all_eq_true] at this
    have := this j (by simpa using hj)
    rw [hio] at this
    simpa [hk] using this
  · intro p i r hor ioi hioi hki q ioq hq hio hk
    have := chk_spec ord [] h10 p i r hor
    rw [hioi] at this
    simp only [hki, bne_self_eq_false, Bool.false_or] at this
    rw [List.all_eq_true] at this
    have := this q (by simpa using hq)
    rw [hio] at this
    simpa [hk] using this

def cDraw (P : Program) (G N : Nat) (ops : Array Oper) : Option (List IOp) :=
  (cIOps P G N ops ops.toList).bind fun ios =>
    let B := befs ops
    let ord := greedy ios B ios.length []
    let fl := flags ios B ord
    if dOk ops ios B ord fl then some (ord.filterMap (withFl ios fl)) else none

def cCode (P : Program) (G N : Nat) : Code → Option IC
  | .skip => some .skip
  | .label _ => some .skip
  | .region _ ops draw => if draw then (cDraw P G N ops).map .draw else (cIOps P G N ops ops.toList).map .ops
  | .seq x y => (cCode P G N x).bind fun a => (cCode P G N y).map fun b => .seq a b
  | .cond c x y => if opOk G N c then (cCode P G N x).bind fun a => (cCode P G N y).map fun b => .cond c a b else none
  | .block id x => (cCode P G N x).map fun a => .block id a
  | .loop x => (cCode P G N x).map fun a => .loop a
  | .exit id => some (.exit id)
  | .ret => some .ret
  | .scope x => (cCode P G N x).map fun a => .scope a
  | _ => none

section
variable {G : Nat} {P : Program} {N : Nat}

def okE (e : Exit) : Prop := e = .normal ∨ e = .ret ∨ ∃ i, e = .exit i

/-- What the machine's code comes to, told from a state. -/
def Post (G N : Nat) (μ : Mu) (A : AH) (w : World) (Q : Exit → AT → AH → Prop) : Exit → Act → World → Prop :=
  fun e r' w' => ∃ μ' a' A', Rel G μ' A' w' ∧ ActR μ' N a' r' ∧ Stp μ A w μ' A' w' ∧ Q e a' A' ∧ okE e

theorem Post.trans {μ μ1 : Mu} {A A1 : AH} {w w1 : World} {Q : Exit → AT → AH → Prop} (h : Stp μ A w μ1 A1 w1) {e : Exit} {r : Act} {w' : World} (k : Post G N μ1 A1 w1 Q e r w') : Post G N μ A w Q e r w' := by
  obtain ⟨μ', a', A', h1, h2, h3, h4, h5⟩ := k
  exact ⟨μ', a', A', h1, h2, h.trans h3, h4, h5⟩

theorem W_sound (hm : P.follows .mixedOrders = true) : ∀ (c : Code) (ic : IC) (Q : Exit → AT → AH → Prop) (a : AT) (A : AH), cCode P G N c = some ic → W G P ic Q a A →
    ∀ (μ : Mu) (r : Act) (w : World), Rel G μ A w → ActR μ N a r → c.wp P (Post G N μ A w Q) r w
  | .skip, ic, Q, a, A, hc, hw, μ, r, w, hr, ha => by
    simp only [cCode, Option.some.injEq] at hc; subst hc
    exact wp_skip ⟨μ, a, A, hr, ha, Stp.refl _ _ _, hw, .inl rfl⟩
  | .label l, ic, Q, a, A, hc, hw, μ, r, w, hr, ha => by
    simp only [cCode, Option.some.injEq] at hc; subst hc
    exact wp_label ⟨μ, a, A, hr, ha, Stp.refl _ _ _, hw, .inl rfl⟩
  | .region id ops draw, ic, Q, a, A, hc, hw, μ, r, w, hr, ha => by
    simp only [cCode] at hc
    cases draw with
    | false =>
      simp only [Bool.false_eq_true, if_false, Option.map_eq_some_iff] at hc
      obtain ⟨il, h1, rfl⟩ := hc
      refine wp_region ?_
      have := Wops_sound (G := G) (P := P) (N := N) (ops := ops) (Q := Q .normal) (Q' := Post G N μ A w Q) (μ0 := μ) (A0 := A) (w0 := w)
        (fun μ' a' A' r' w' h2 h3 h4 h5 => ⟨μ', a', A', h2, h3, h4, h5, .inl rfl⟩) ops.toList il 0 μ a A r w h1 rfl hr ha (Stp.refl _ _ _) hw
      rw [List.range_eq_range']
      simpa using this
    | true =>
      simp only [if_true, Option.map_eq_some_iff] at hc
      obtain ⟨il, h1, rfl⟩ := hc
      simp only [cDraw, Option.bind_eq_some_iff] at h1
      obtain ⟨ios, h2, h3⟩ := h1
      split at h3
      · rename_i hok
        injection h3 with h3; subst h3
        have hd := dOk_sound hok
        have hw : Wops G P (Q .normal) ((greedy ios (befs ops) ios.length []).filterMap (withFl ios (flags ios (befs ops) (greedy ios (befs ops) ios.length [])))) a A := hw
        refine wp_region_any hm ?_
        have hI : Inv ops ios (befs ops) (greedy ios (befs ops) ios.length []) (Array.replicate ops.size false) [] (greedy ios (befs ops) ios.length []) a a A := by
          refine ⟨rfl, by simp, ?_, (fun i io hi => by cases hi), ?_, (fun t _ => rfl), (fun i o io hi => by cases hi)⟩
          · intro i hi
            simp only [Array.getD_eq_getD_getElem?, Array.getElem?_replicate] at hi
            split at hi <;> cases hi
          · intro i hi
            simp only [Array.getD_eq_getD_getElem?, Array.getElem?_replicate] at hi
            split at hi <;> cases hi
        obtain ⟨dn', rest', aA', hI2, hw3, hh2, hkeep⟩ := advance hd h2 _ _ _ hI hw
        have hcur : ∀ aX : AT, cur ops (Array.replicate ops.size false) a aX = a := by
          intro aX
          funext t
          unfold cur
          cases writer ops t with
          | none => rfl
          | some k =>
            simp only
            rw [if_neg]
            simp only [Array.getD_eq_getD_getElem?, Array.getElem?_replicate]
            split <;> simp
        refine any_sound hd h2 (Q := Q .normal) (Q' := Post G N μ A w Q) (μ0 := μ) (A0 := A) (w0 := w) (a0 := a)
          (fun μ' a' A' r' w' h2 h3 h4 h5 => ⟨μ', a', A', h2, h3, h4, h5, .inl rfl⟩) ops.size _ dn' rest' aA' A μ r _ hI2 hw3 hh2 ?_ (hr.draw _) (by rw [hcur]; exact ha) (Stp.draw _ _ _ _)
        refine Nat.le_trans (List.length_filter_le _ _) (by simp)
      · cases h3
  | .seq x y, ic, Q, a, A, hc, hw, μ, r, w, hr, ha => by
    simp only [cCode, Option.bind_eq_some_iff, Option.map_eq_some_iff] at hc
    obtain ⟨ix, h1, iy, h2, rfl⟩ := hc
    refine wp_seq (wp_mono (W_sound hm x ix _ a A h1 hw μ r w hr ha) ?_)
    rintro e r1 w1 ⟨μ1, a1, A1, g1, g2, g3, g4, g5⟩
    cases e with
    | normal =>
      exact wp_mono (W_sound hm y iy Q a1 A1 h2 g4 μ1 r1 w1 g1 g2) (fun e r2 w2 h => Post.trans g3 h)
    | _ => exact ⟨μ1, a1, A1, g1, g2, g3, g4, g5⟩
  | .cond c x y, ic, Q, a, A, hc, hw, μ, r, w, hr, ha => by
    simp only [cCode] at hc
    split at hc
    · rename_i hop
      simp only [Option.bind_eq_some_iff, Option.map_eq_some_iff] at hc
      obtain ⟨ix, h1, iy, h2, rfl⟩ := hc
      have hv := ha.ev hr hop
      simp only [W] at hw
      split at hw
      · rename_i b heq
        rw [heq] at hv
        refine wp_cond (t := b) hv.bool ?_
        cases b with
        | true => exact W_sound hm x ix Q a A h1 hw μ r w hr ha
        | false => exact W_sound hm y iy Q a A h2 hw μ r w hr ha
      · exact hw.elim
    · cases hc
  | .block id x, ic, Q, a, A, hc, hw, μ, r, w, hr, ha => by
    simp only [cCode, Option.map_eq_some_iff] at hc
    obtain ⟨ix, h1, rfl⟩ := hc
    refine wp_block (wp_mono (W_sound hm x ix _ a A h1 hw μ r w hr ha) ?_)
    rintro e r1 w1 ⟨μ1, a1, A1, g1, g2, g3, g4, g5⟩
    cases e with
    | exit id' =>
      simp only [inBlockA] at g4
      simp only [Exit.inBlock]
      split
      · rename_i hid
        rw [if_pos hid] at g4
        exact ⟨μ1, a1, A1, g1, g2, g3, g4, .inl rfl⟩
      · rename_i hid
        rw [if_neg hid] at g4
        exact ⟨μ1, a1, A1, g1, g2, g3, g4, g5⟩
    | _ => exact ⟨μ1, a1, A1, g1, g2, g3, g4, g5⟩
  | .loop x, ic, Q, a, A, hc, hw, μ, r, w, hr, ha => by
    simp only [cCode, Option.map_eq_some_iff] at hc
    obtain ⟨ix, h1, rfl⟩ := hc
    obtain ⟨I, m, hI, hround⟩ := hw
    refine wp_loop_ghost (fun n r' w' => ∃ μ' a' A', Rel G μ' A' w' ∧ ActR μ' N a' r' ∧ Stp μ A w μ' A' w' ∧ I a' A' ∧ m a' A' = n) (m a A) ⟨μ, a, A, hr, ha, Stp.refl _ _ _, hI, rfl⟩ ?_
    rintro n r' w' ⟨μ', a', A', k1, k2, k3, k4, rfl⟩
    refine wp_mono (W_sound hm x ix _ a' A' h1 (hround a' A' k4) μ' r' w' k1 k2) ?_
    rintro e r1 w1 ⟨μ1, a1, A1, g1, g2, g3, g4, g5⟩
    cases e with
    | normal => exact ⟨_, g4.2, μ1, a1, A1, g1, g2, k3.trans g3, g4.1, rfl⟩
    | _ => exact ⟨μ1, a1, A1, g1, g2, k3.trans g3, g4, g5⟩
  | .exit id, ic, Q, a, A, hc, hw, μ, r, w, hr, ha => by
    simp only [cCode, Option.some.injEq] at hc; subst hc
    exact wp_exit ⟨μ, a, A, hr, ha, Stp.refl _ _ _, hw, .inr (.inr ⟨id, rfl⟩)⟩
  | .ret, ic, Q, a, A, hc, hw, μ, r, w, hr, ha => by
    simp only [cCode, Option.some.injEq] at hc; subst hc
    exact wp_ret ⟨μ, a, A, hr, ha, Stp.refl _ _ _, hw, .inr (.inl rfl)⟩
  | .scope x, ic, Q, a, A, hc, hw, μ, r, w, hr, ha => by
    simp only [cCode, Option.map_eq_some_iff] at hc
    obtain ⟨ix, h1, rfl⟩ := hc
    refine wp_scope_straight (wp_mono (W_sound hm x ix _ a A h1 hw μ r w hr ha) ?_)
    rintro e r1 w1 ⟨μ1, a1, A1, g1, g2, g3, g4, g5⟩
    cases e with
    | goto l => exact g4.elim
    | normal => exact ⟨μ1, a1, A1, g1, g2, g3, g4, g5⟩
    | exit i => exact ⟨μ1, a1, A1, g1, g2, g3, g4, g5⟩
    | ret => exact ⟨μ1, a1, A1, g1, g2, g3, g4, g5⟩
    | panic ch => exact ⟨μ1, a1, A1, g1, g2, g3, g4, g5⟩
    | outgrown => exact ⟨μ1, a1, A1, g1, g2, g3, g4, g5⟩
  | .goto _, _, _, _, _, hc, _, _, _, _, _, _ => by simp [cCode] at hc
  | .rangeFunc .., _, _, _, _, hc, _, _, _, _, _, _ => by simp [cCode] at hc
  | .refuse _, _, _, _, _, hc, _, _, _, _, _, _ => by simp [cCode] at hc

end
end Go.AS
