import Derived.Test.YtgeoeagohhojbaaAs10
namespace Go.AS
open Go
set_option linter.unusedVariables false
set_option linter.unusedSimpArgs false

section
variable {G : Nat} {μ : Mu} {A A' : AH} {w : World} {P : Program} {v : Value}

theorem append_run {ats : Array TypeId} {ty : TypeId} {s' x' : Value} {sT xT el : TypeId} {xd : TypeDesc} {base : Option Addr} {sLen sCap k : Nat} {inf : TypeInfo} (hs' : s' = .slice base sLen sCap)
    (h1 : ats[0]? = some sT) (h2 : P.underlying sT = some (.slice el)) (h3 : P.info? el = some inf) (h4 : ats[1]? = some xT) (h5 : P.underlying xT = some xd) (h6 : xd = .string ∨ ∃ e, xd = .slice e)
    (h7 : (Builtin.lenOf x').run P w = .ok k w) (hok : sCap < sLen + k → 2 * ((sLen + k) * inf.bytes) ≤ 2 ^ 48 ∧ 0 < inf.bytes) :
    (Builtin.append_ ats ty #[s', x']).run P w = (appTail el inf.size s' base sLen sCap k (pure ()) (Builtin.firstCells inf.size k x')).run P w := by
  subst hs'
  unfold Builtin.append_ appTail
  by_cases hcap : sLen + k ≤ sCap
  · rcases h6 with rfl | ⟨e, rfl⟩
    · simp only [h1, h4, List.getElem?_toArray, List.getElem?_cons_zero, List.getElem?_cons_succ, Sem.run_bind, run_underlying h2, run_size h3, run_underlying h5, Result.andThen_ok, Sem.run_pure, Bool.false_eq_true, if_false, h7,
        Bool.not_false, if_true, hcap]
      cases base <;> rfl
    · simp only [h1, h4, List.getElem?_toArray, List.getElem?_cons_zero, List.getElem?_cons_succ, Sem.run_bind, run_underlying h2, run_size h3, run_underlying h5, Result.andThen_ok, Sem.run_pure, Bool.false_eq_true, if_false, h7,
        Bool.not_false, if_true, hcap]
      cases base <;> rfl
  · obtain ⟨hb1, hb2⟩ := hok (by omega)
    have hn : Builtin.nextslicecap (sLen + k) sCap * inf.bytes ≤ 2 ^ 48 := by
      have := Nat.mul_le_mul_right inf.bytes (nextcap_le (sLen + k) sCap inf.bytes (by omega))
      rw [Nat.mul_assoc] at this
      omega
    have hn2 : ¬ (Builtin.nextslicecap (sLen + k) sCap * inf.bytes > 2 ^ 48) := by omega
    have hb3 : ¬ inf.bytes = 0 := by omega
    rcases h6 with rfl | ⟨e, rfl⟩
    · simp only [h1, h4, List.getElem?_toArray, List.getElem?_cons_zero, List.getElem?_cons_succ, Sem.run_bind, run_underlying h2, run_size h3, run_underlying h5, Result.andThen_ok, Sem.run_pure, Bool.false_eq_true, if_false, h7,
        Bool.not_false, if_true, hcap, false_or, run_typeInfo _ h3, hb3, and_false, hn2]
    · simp only [h1, h4, List.getElem?_toArray, List.getElem?_cons_zero, List.getElem?_cons_succ, Sem.run_bind, run_underlying h2, run_size h3, run_underlying h5, Result.andThen_ok, Sem.run_pure, Bool.false_eq_true, if_false, h7,
        Bool.not_false, if_true, hcap, false_or, run_typeInfo _ h3, hb3, and_false, hn2]

theorem appA_sl {s s' : Value} {new : List Value} {k sz bytes : Nat} {r : Value × AH} (h : appA A s new k sz bytes = some r) (hs : VR μ s s') :
    ∃ base sLen sCap, s' = .slice base sLen sCap ∧ (sCap < sLen + k → 2 * ((sLen + k) * bytes) ≤ 2 ^ 48 ∧ 0 < bytes) := by
  unfold appA at h
  split at h
  · rename_i hk
    subst hk
    split at h
    · cases hs with
      | flat h => exact ⟨_, _, _, rfl, fun h => by omega⟩
    · cases hs with
      | slc _ g1 g2 _ => exact ⟨_, _, _, rfl, fun h => by omega⟩
      | sle => exact ⟨_, _, _, rfl, fun h => by omega⟩
      | slz => exact ⟨_, _, _, rfl, fun h => by omega⟩
      | flat h => simp [flatV] at h
    · cases h
  · rw [Option.bind_eq_some_iff] at h
    obtain ⟨⟨old, A1, n⟩, hb, h⟩ := h
    simp only at h
    split at h
    · rename_i hc
      have key : ∃ base sCap, s' = .slice base n sCap := by
        unfold appBase at hb
        split at hb
        · injection hb with hb; injection hb with q1 q2; injection q2 with q2 q3; subst q3
          obtain ⟨b, c, rfl, _⟩ := hs.sl_inv
          exact ⟨_, _, rfl⟩
        · split at hb
          · split at hb
            · injection hb with hb; injection hb with q1 q2; injection q2 with q2 q3; subst q3
              obtain ⟨b, c, rfl, _⟩ := hs.sl_inv
              exact ⟨_, _, rfl⟩
            · cases hb
          · cases hb
        · injection hb with hb; injection hb with q1 q2; injection q2 with q2 q3; subst q3
          obtain ⟨b, c, rfl, _⟩ := hs.sl_inv
          exact ⟨_, _, rfl⟩
        · cases hb
      obtain ⟨base, sCap, rfl⟩ := key
      exact ⟨base, n, sCap, rfl, fun _ => ⟨hc.1, hc.2.1⟩⟩
    · cases h

theorem sim_app {s s' x x' : Value} {ats : Array TypeId} {ty sT xT el : TypeId} {xd : TypeDesc} {inf : TypeInfo} {z : Value} (hr : Rel G μ A w) (hsv : VR μ s s') (hx : VR μ x x')
    (h1 : ats[0]? = some sT) (h2 : P.underlying sT = some (.slice el)) (h3 : P.info? el = some inf) (h4 : ats[1]? = some xT) (h5 : P.underlying xT = some xd) (h6 : xd = .string ∨ ∃ e, xd = .slice e)
    (hz : inf.zero = some z) (hzs : z.cells.size = inf.size) (hpos : 0 < inf.size) (hs : sApp A s x inf.size inf.bytes = some (v, A')) :
    Sim G μ A w v A' ((do pure (.value (← Builtin.append_ ats ty #[s', x'])) : Sem Next).run P w) := by
  unfold sApp at hs
  split at hs
  · rename_i a k c
    rw [Option.bind_eq_some_iff] at hs
    obtain ⟨new, hnew, hs⟩ := hs
    obtain ⟨hl, new', hcr, hone, hrun⟩ := rdSl_rel (P := P) hr hx rfl hnew
    obtain ⟨a', c', rfl, _⟩ := hx.sl_inv
    obtain ⟨base, sLen, sCap, rfl, hok⟩ := appA_sl hs hsv
    refine sim_appTail (bad := pure ()) hr hsv h3 hz hzs hpos hcr hone hrun (fun a b c => rfl) hs (fun hk => by subst hk; simpa using hl) ?_
    have := append_run (P := P) (w := w) (ty := ty) rfl h1 h2 h3 h4 h5 h6 (x' := .slice a' k c') (base := base) (sLen := sLen) (sCap := sCap) (k := k) rfl hok
    simp only [Sem.run_bind, this]
  · cases hs

theorem firstCells_str (t : ByteArray) (size : Nat) (w : World) : (Builtin.firstCells size t.size (.string t)).run P w = .ok (u8s t).toArray w := by
  unfold Builtin.firstCells
  have e : ((t.extract 0 t.size).data.map fun b => Value.int .u8 (b.toNat : Int)) = (u8s t).toArray := by
    rw [ByteArray.extract_zero_size]
    unfold u8s
    apply Array.ext'
    rw [Array.toList_map]
  simp only [e]; rfl

theorem sim_apps {s s' x x' : Value} {ats : Array TypeId} {ty sT xT el : TypeId} {xd : TypeDesc} {inf : TypeInfo} {z : Value} (hr : Rel G μ A w) (hsv : VR μ s s') (hx : VR μ x x')
    (h1 : ats[0]? = some sT) (h2 : P.underlying sT = some (.slice el)) (h3 : P.info? el = some inf) (h4 : ats[1]? = some xT) (h5 : P.underlying xT = some xd) (h6 : xd = .string ∨ ∃ e, xd = .slice e)
    (hz : inf.zero = some z) (hzs : z.cells.size = inf.size) (hpos : inf.size = 1) (hs : sApps A s x inf.bytes = some (v, A')) :
    Sim G μ A w v A' ((do pure (.value (← Builtin.append_ ats ty #[s', x'])) : Sem Next).run P w) := by
  unfold sApps at hs
  split at hs
  · rename_i t
    obtain rfl := hx.string
    obtain ⟨base, sLen, sCap, rfl, hok⟩ := appA_sl hs hsv
    rw [← hpos] at hs
    refine sim_appTail (appended := Builtin.firstCells inf.size t.size (.string t)) (bad := pure ()) hr hsv h3 hz hzs (by omega) (CR.flat (u8s_flat t)) (ones_flat (u8s_flat t)) (fun d => firstCells_str t _ _) (fun a b c => rfl) hs
      (fun hk => by have := u8s_length t; rw [hk] at this; simpa using this) ?_
    have := append_run (P := P) (w := w) (ty := ty) rfl h1 h2 h3 h4 h5 h6 (x' := .string t) (base := base) (sLen := sLen) (sCap := sCap) (k := t.size) rfl hok
    simp only [Sem.run_bind, this]
  · cases hs

theorem CR.bytes {l l' : List Value} {bs : List UInt8} (h : CR μ l l') (hb : bytesA l = some bs) : l' = l := by
  have hf : l.all flatV = true := by
    clear h
    induction l generalizing bs with
    | nil => rfl
    | cons x r ih =>
      simp only [bytesA, Option.bind_eq_some_iff, Option.map_eq_some_iff] at hb
      obtain ⟨b, h1, bs', h2, _⟩ := hb
      simp only [List.all_cons, ih h2, Bool.and_true]
      cases x <;> first | rfl | (simp [asByte] at h1)
  apply List.ext_getElem?
  intro j
  rcases Nat.lt_or_ge j l.length with hj | hj
  · have h1 : l[j]? = some l[j] := List.getElem?_eq_getElem hj
    obtain ⟨y, h2, h3⟩ := h.get h1
    rw [List.all_eq_true] at hf
    rw [h1, h2, h3.eq_of_flat (hf _ (List.getElem_mem hj))]
  · rw [List.getElem?_eq_none hj, List.getElem?_eq_none (by rw [h.1]; exact hj)]

theorem b2s_loop (f : Value → ByteArray → Sem (ForInStep ByteArray)) (hf : ∀ n s, f (.int .u8 n) s = pure (ForInStep.yield (s.push (UInt8.ofNat n.toNat)))) : ∀ (l : List Value) (bs : List UInt8) (acc : ByteArray) (w : World), bytesA l = some bs →
    (forIn (m := Sem) l acc f).run P w = .ok (bs.foldl ByteArray.push acc) w
  | [], bs, acc, w, h => by
    simp only [bytesA, Option.some.injEq] at h
    subst h
    rfl
  | x :: r, bs, acc, w, h => by
    simp only [bytesA, Option.bind_eq_some_iff, Option.map_eq_some_iff] at h
    obtain ⟨b, h1, bs', h2, rfl⟩ := h
    rw [List.forIn_cons]
    unfold asByte at h1
    split at h1
    · obtain rfl := Option.some.inj h1
      rw [hf]
      simp only [Sem.run_bind, Sem.run_pure, Result.andThen_ok, List.foldl_cons]
      exact b2s_loop f hf r bs' _ w h2
    · cases h1

theorem foldl_push : ∀ (bs : List UInt8) (acc : ByteArray), bs.foldl ByteArray.push acc = ⟨acc.data ++ bs.toArray⟩
  | [], acc => by simp
  | b :: r, acc => by
    rw [List.foldl_cons, foldl_push r]
    simp only [ByteArray.push]
    congr 1
    simp

theorem sim_b2s {x x' : Value} {s d el : TypeId} (hr : Rel G μ A w) (hx : VR μ x x') (h1 : P.underlying s = some (.slice el)) (h2 : P.underlying d = some .string) (h3 : P.underlying el = some (.int .u8))
    (hs : sB2s A x = some (v, A')) : Sim G μ A w v A' ((do pure (.value (← convert s d x')) : Sem Next).run P w) := by
  unfold sB2s at hs
  rw [Option.bind_eq_some_iff] at hs
  obtain ⟨l, hl, hs⟩ := hs
  rw [Option.map_eq_some_iff] at hs
  obtain ⟨bs, hb, hs⟩ := hs
  injection hs with h5 h6; subst h5 h6
  have hxs : ∃ a k c, x = .slice a k c := by
    unfold rdSl at hl
    split at hl <;> first | exact ⟨_, _, _, rfl⟩ | cases hl
  obtain ⟨a, k, c, rfl⟩ := hxs
  obtain ⟨hlen, l', hcr, hone, hrun⟩ := rdSl_rel (P := P) hr hx rfl hl
  obtain ⟨a', c', rfl, _⟩ := hx.sl_inv
  obtain rfl := hcr.bytes hb
  refine Sim.flat hr (run_value ?_) rfl
  unfold convert
  rw [Sem.run_bind, run_underlying h1, Result.andThen_ok, Sem.run_bind, run_underlying h2, Result.andThen_ok]
  simp only [Sem.run_bind, run_underlying h3, Result.andThen_ok]
  unfold Conv.bytesToString
  cases a' with
  | none =>
    have := hrun w.drawn
    unfold Builtin.firstCells at this
    simp only [Sem.run_pure, Result.ok.injEq] at this
    have hl0 : l' = [] := by simpa using this.1.symm
    subst hl0
    simp only [bytesA, Option.some.injEq] at hb
    subst hb
    rfl
  | some ad =>
    have h := hrun w.drawn
    unfold Builtin.firstCells at h
    rw [Nat.mul_one] at h
    have h : (loadCells ad k).run P w = .ok l'.toArray w := h
    simp only [Sem.run_bind, h, Result.andThen_ok]
    rw [List.forIn_toArray, b2s_loop (P := P) _ (fun _ _ => rfl) l' bs ByteArray.empty w hb]
    simp only [Result.andThen_ok, Sem.run_pure, foldl_push]
    have e0 : (ByteArray.empty).data = #[] := rfl
    rw [e0]
    simp

theorem sim_copy {d d' s s' : Value} {ats : Array TypeId} {ty dT el : TypeId} {inf : TypeInfo} (hr : Rel G μ A w) (hd : VR μ d d') (hsv : VR μ s s')
    (h1 : ats[0]? = some dT) (h2 : P.underlying dT = some (.slice el)) (h3 : P.info? el = some inf) (hs : sCopy A d s inf.size = some (v, A')) :
    Sim G μ A w v A' ((do pure (.value (← Builtin.copy_ ats ty #[d', s'])) : Sem Next).run P w) := by
  have core : ∀ (m : Nat) (l l' : List Value) (a : Option Addr) (n c : Nat) (a' : Option Addr) (c' : Nat), d = .slice a n c → d' = .slice a' n c' → CR μ l l' → copyTo A d m l = some (v, A') → (m = 0 → l = []) → m ≤ n →
      ∃ w', (match a' with | some b => storeCells b l' | none => (pure () : Sem Unit)).run P w = .ok () w' ∧ v = .int .i64 m ∧ Rel G μ A' w' ∧ Stp μ A w μ A' w' := by
    intro m l l' a n c a' c' hda hda' hcr hc hm0 hmn
    unfold copyTo at hc
    split at hc
    · rename_i hm
      injection hc with hc; injection hc with h5 h6; subst h5 h6
      have hl := hm0 hm
      subst hl
      have hl' : l' = [] := by have := hcr.1; simpa using this
      subst hl'
      refine ⟨w, by cases a' <;> rfl, by rw [hm]; rfl, hr, Stp.refl _ _ _⟩
    · rename_i hm
      split at hc
      · rename_i i o n' c2
        rw [Option.map_eq_some_iff] at hc
        obtain ⟨A1, hw, hc⟩ := hc
        injection hc with h5 h6; subst h5 h6
        injection hda with q1 q2 q3; subst q1 q2 q3
        subst hda'
        cases hd with
        | flat h => simp [flatV] at h
        | slc he _ _ _ =>
          obtain ⟨w', k1, k2, k3⟩ := hr.storeRow (P := P) hw he (vs' := l') hcr.1 hcr.2
          exact ⟨w', k1, rfl, k2, k3⟩
        | sle => omega
      · cases hc
  unfold sCopy at hs
  split at hs
  · rename_i a n c
    obtain ⟨a', c', rfl, _⟩ := hd.sl_inv
    split at hs
    · rename_i sa k sc
      rw [Option.bind_eq_some_iff] at hs
      obtain ⟨src, hsrc, hs⟩ := hs
      obtain ⟨hlen, src', hcr, hone, hrun⟩ := rdSl_rel (P := P) hr hsv rfl hsrc
      obtain ⟨sa', sc', rfl, _⟩ := hsv.sl_inv
      -- the first cells alone are read
      have hsub : rdSl A inf.size (.slice sa (min k n) sc) = some (src.take (min k n * inf.size)) ∨ min k n = 0 := by
        by_cases h0 : min k n = 0
        · exact .inr h0
        · left
          unfold rdSl at hsrc ⊢
          split at hsrc
          · rename_i heq; injection heq with q1 q2 q3; subst q2; omega
          · rename_i heq; injection heq with q1 q2 q3; subst q2; omega
          · rename_i i o n2 c2 heq
            injection heq with q1 q2 q3; subst q1 q2 q3
            rw [if_neg (by omega)] at hsrc
            simp only [if_neg h0]
            rw [Option.bind_eq_some_iff] at hsrc ⊢
            obtain ⟨r, hr1, hr2⟩ := hsrc
            refine ⟨r, hr1, ?_⟩
            unfold cut at hr2 ⊢
            split at hr2
            · rename_i hcl
              obtain rfl := Option.some.inj hr2
              have hle : min k n * inf.size ≤ k * inf.size := Nat.mul_le_mul_right _ (Nat.min_le_left _ _)
              rw [if_pos (by omega), List.take_take, Nat.min_eq_left hle]
            · cases hr2
          · cases hsrc
      have hsrc2 : ∃ l' : List Value, CR μ (src.take (min k n * inf.size)) l' ∧ (Builtin.firstCells inf.size (min k n) (.slice sa' k sc')).run P w = .ok l'.toArray w := by
        rcases hsub with hsub | h0
        · have hv2 : VR μ (.slice sa (min k n) sc) (.slice sa' (min k n) sc') := by
            cases hsv with
            | flat h =>
              cases sa with
              | none => exact .flat rfl
              | some b => simp [flatV] at h
            | slc he g1 g2 g3 => exact .slc he (by omega) g2 g3
            | sle => rw [Nat.zero_min]; exact .sle
            | slz => rw [Nat.zero_min]; exact .slz
          obtain ⟨_, l', g1, _, g2⟩ := rdSl_rel (P := P) hr hv2 rfl hsub
          refine ⟨l', g1, ?_⟩
          have := g2 w.drawn
          cases sa' <;> exact this
        · rw [h0, Nat.zero_mul]
          refine ⟨[], CR.nil, ?_⟩
          cases sa' with
          | none => rfl
          | some b => unfold Builtin.firstCells; rw [Nat.zero_mul]; rfl
      obtain ⟨l', hcr', hrun'⟩ := hsrc2
      obtain ⟨w', g1, rfl, g2, g3⟩ := core _ _ l' _ _ _ _ _ rfl rfl hcr' hs (fun h => by rw [h]; simp) (Nat.min_le_right _ _)
      refine ⟨_, μ, w', .inl (run_value (v := .int .i64 (min k n : Nat)) ?_), .flat rfl, g2, g3⟩
      unfold Builtin.copy_
      simp only [h1, List.getElem?_toArray, List.getElem?_cons_zero, List.getElem?_cons_succ, Sem.run_bind, run_underlying h2, run_size h3, Result.andThen_ok, Builtin.lenOf, Sem.run_pure]
      have e : Nat.min k n = min k n := rfl
      rw [e, hrun']
      simp only [Result.andThen_ok]
      cases a' with
      | none => simp only [Sem.run_pure, Result.ok.injEq, true_and] at g1; subst g1; rfl
      | some b => simp only at g1; simp only [Sem.run_bind, g1, Result.andThen_ok]; rfl
    · rename_i t
      obtain rfl := hsv.string
      split at hs
      · rename_i hsz
        have hcr : CR μ ((u8s t).take (min t.size n)) ((u8s t).take (min t.size n)) := (CR.flat (u8s_flat t)).take _
        obtain ⟨w', g1, rfl, g2, g3⟩ := core _ _ _ _ _ _ _ _ rfl rfl hcr hs (fun h => by rw [h]; rfl) (Nat.min_le_right _ _)
        refine ⟨_, μ, w', .inl (run_value (v := .int .i64 (min t.size n : Nat)) ?_), .flat rfl, g2, g3⟩
        unfold Builtin.copy_
        have e2 : ((t.extract 0 (min t.size n)).data.map fun b => Value.int .u8 (b.toNat : Int)) = ((u8s t).take (min t.size n)).toArray := by
          unfold u8s
          apply Array.ext'
          rw [Array.toList_map, ← List.map_take]
          congr 1
          rw [ByteArray.data_extract, Array.toList_extract]
          simp [List.extract]
        simp only [h1, List.getElem?_toArray, List.getElem?_cons_zero, List.getElem?_cons_succ, Sem.run_bind, run_underlying h2, run_size h3, Result.andThen_ok, Builtin.lenOf, Sem.run_pure, Builtin.firstCells]
        have e : Nat.min t.size n = min t.size n := rfl
        rw [e, e2]
        cases a' with
        | none => simp only [Sem.run_pure, Result.ok.injEq, true_and] at g1; subst g1; rfl
        | some b => simp only at g1; simp only [Sem.run_bind, g1, Result.andThen_ok]; rfl
      · cases hs
    · cases hs
  · cases hs

end
end Go.AS
