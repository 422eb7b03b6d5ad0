import Derived.Test.YtgeoeagohhojbaaAs9
namespace Go.AS
open Go
set_option linter.unusedVariables false
set_option linter.unusedSimpArgs false

section
variable {G : Nat} {μ : Mu} {A A' : AH} {w : World} {P : Program} {v : Value}

theorem nextcap_le (need c b : Nat) (h : c < need) : Builtin.nextslicecap need c ≤ 2 * need := by
  unfold Builtin.nextslicecap
  split
  · omega
  · split
    · omega
    · have hg : ∀ r c, c ≤ 2 * need → Builtin.growBy need r c ≤ 2 * need + 768 ∧ (256 ≤ c → Builtin.growBy need r c ≤ 2 * need) := by
        intro r
        induction r with
        | zero => intro c hc; unfold Builtin.growBy; exact ⟨by omega, fun _ => hc⟩
        | succ r ih =>
          intro c hc
          unfold Builtin.growBy
          split
          · exact ⟨by omega, fun _ => hc⟩
          · have hlt : c < need := by omega
            have key : 256 ≤ c → c + (c + 768) / 4 ≤ 2 * need := by intro h; omega
            by_cases h256 : 256 ≤ c
            · have := ih _ (key h256)
              exact ⟨by have := this.2 (by omega); omega, fun _ => this.2 (by omega)⟩
            · refine ⟨?_, fun h => absurd h h256⟩
              by_cases hk : c + (c + 768) / 4 ≤ 2 * need
              · exact (ih _ hk).1
              · have : ∀ r c, need ≤ c → Builtin.growBy need r c = c := by
                  intro r c hc
                  cases r with
                  | zero => rfl
                  | succ r => unfold Builtin.growBy; rw [if_pos hc]
                rw [this _ _ (by omega)]; omega
      exact (hg 4 c (by omega)).2 (by omega)

/-- What append does once it knows what stands behind the slice. -/
def appTail (el : TypeId) (size : Nat) (s : Value) (base : Option Addr) (sLen sCap n : Nat) (bad : Sem Unit) (appended : Sem (Array Value)) : Sem Value := do
  let need := sLen + n
  if need ≤ sCap then
    let new ← appended
    if let some a := base then storeCells (a.add (sLen * size)) new.toList
    pure (.slice base need sCap)
  else
    bad
    let newCap ← choose (.appendCap need sCap el)
    askRoom (newCap * (← typeInfo el).bytes)
    let old ← Builtin.firstCells size sLen s
    let new ← appended
    let rest := Builtin.zeroCells (← zeroValue el).cells (newCap - need)
    pure (.slice (some (← newRow el (old ++ new ++ rest))) need newCap)

theorem zeroCells_size (zero : Array Value) (n : Nat) : (Builtin.zeroCells zero n).size = n * zero.size := by
  unfold Builtin.zeroCells; simp

theorem sim_appTail {s : Value} {base : Option Addr} {sLen sCap k : Nat} {new new' : List Value} {el : TypeId} {inf : TypeInfo} {z : Value} {bad : Sem Unit} {appended : Sem (Array Value)} {r : Result Next}
    (hr : Rel G μ A w) (hsl : VR μ s (.slice base sLen sCap)) (hi : P.info? el = some inf) (hz : inf.zero = some z) (hzs : z.cells.size = inf.size) (hpos : 0 < inf.size)
    (hnew : CR μ new new') (h1 : ones new = true) (happ : ∀ d, appended.run P { w with drawn := d } = .ok new'.toArray { w with drawn := d })
    (hbad : sCap < sLen + k → 2 * ((sLen + k) * inf.bytes) ≤ 2 ^ 48 → 0 < inf.bytes → bad.run P w = .ok () w)
    (hs : appA A s new k inf.size inf.bytes = some (v, A')) (hk0 : k = 0 → new = [])
    (he : r = ((do pure (.value (← appTail el inf.size (.slice base sLen sCap) base sLen sCap k bad appended)) : Sem Next).run P w)) : Sim G μ A w v A' r := by
  subst he
  have happ0 : appended.run P w = .ok new'.toArray w := happ w.drawn
  unfold appA at hs
  split at hs
  · rename_i hk
    subst hk
    obtain rfl := hk0 rfl
    have hn0 : new' = [] := by have := hnew.1; simpa using this
    subst hn0
    have hle : v = s ∧ A' = A ∧ sLen ≤ sCap := by
      split at hs
      · injection hs with hs; injection hs with h5 h6; subst h5 h6
        cases hsl with
        | flat h => exact ⟨rfl, rfl, Nat.zero_le _⟩
      · injection hs with hs; injection hs with h5 h6; subst h5 h6
        cases hsl with
        | slc _ g1 g2 _ => exact ⟨rfl, rfl, by omega⟩
        | sle => exact ⟨rfl, rfl, Nat.le_refl _⟩
        | slz => exact ⟨rfl, rfl, Nat.le_refl _⟩
        | flat h => simp [flatV] at h
      · cases hs
    obtain ⟨rfl, rfl, hle⟩ := hle
    refine Sim.same hr (run_value ?_) hsl
    unfold appTail
    simp only [Nat.add_zero, hle, if_true, Sem.run_bind, happ0, Result.andThen_ok]
    cases base with
    | none => rfl
    | some a => rfl
  · rename_i hk
    rw [Option.bind_eq_some_iff] at hs
    obtain ⟨⟨old, A1, n⟩, hbase, hs⟩ := hs
    simp only at hs
    split at hs
    · rename_i hcond
      obtain ⟨c1, c2, c3, c4⟩ := hcond
      injection hs with hs; injection hs with h5 h6; subst h5 h6
      -- what is known of the base
      have hb : n = sLen ∧ A1.length = A.length ∧ ones old = true ∧ old.length = n * inf.size ∧ Rel G μ A1 w ∧ Stp μ A w μ A1 w ∧
          (∃ old' : List Value, CR μ old old' ∧ ∀ d, (Builtin.firstCells inf.size sLen (.slice base sLen sCap)).run P { w with drawn := d } = .ok old'.toArray { w with drawn := d }) ∧
          (sLen + k ≤ sCap → ∃ (i o : Nat) (e : Ent) (cs : List Value) (ex : Bool), A[i]? = some (.row cs .own inf.size ex) ∧ μ[i]? = some e ∧ base = some ⟨e.blk, e.off + o, none⟩ ∧ o + sCap * inf.size ≤ e.lim ∧ o + n * inf.size ≤ cs.length ∧ old = (cs.drop o).take (n * inf.size) ∧ A1 = A.set i (.row cs .dead inf.size ex)) := by
        unfold appBase at hbase
        split at hbase
        · injection hbase with hbase; injection hbase with q1 q2; injection q2 with q2 q3; subst q1 q2 q3
          cases hsl with
          | flat _ =>
            exact ⟨rfl, rfl, rfl, by simp, hr, Stp.refl _ _ _, ⟨[], CR.nil, fun _ => rfl⟩, fun h => by omega⟩
        · rename_i i o n' c
          split at hbase
          · rename_i cs bsz ex hrow
            split at hbase
            · rename_i hc
              obtain ⟨k1, k2, k3⟩ := hc
              injection hbase with hbase; injection hbase with q1 q2; injection q2 with q2 q3; subst q1 q2 q3
              obtain ⟨e, hee⟩ := hr.mu_lt hrow
              have hones : ones cs = true := by
                obtain ⟨rc, T, fr, _, g2, _⟩ := hr.row i cs .own bsz ex e hrow hee (by decide)
                unfold ones
                rw [List.all_eq_true]
                intro x hx
                obtain ⟨j, hj, rfl⟩ := List.getElem_of_mem hx
                exact (g2 j _ (List.getElem?_eq_getElem hj)).1
              have hcut : cut cs o (n' * inf.size) = some ((cs.drop o).take (n' * inf.size)) := by
                unfold cut
                rw [if_pos k3]
              have hold : ones ((cs.drop o).take (n' * inf.size)) = true := by
                unfold ones at *
                rw [List.all_eq_true] at *
                exact fun x hx => hones x (List.mem_of_mem_drop (List.mem_of_mem_take hx))
              have holdl : ((cs.drop o).take (n' * inf.size)).length = n' * inf.size := by
                rw [List.length_take, List.length_drop]; omega
              obtain ⟨l', m1, m2, m3, m4, m5⟩ := hr.cells (P := P) hrow (by decide) hee hcut
              have hesz := hr.szs i cs .own bsz ex e hrow hee
              have hlen : sLen = n' := by
                cases hsl with
                | slc _ _ _ _ => rfl
                | sle => rfl
                | flat h => simp [flatV] at h
              subst hlen
              have hfirst : ∃ old' : List Value, CR μ ((cs.drop o).take (sLen * inf.size)) old' ∧ ∀ d, (Builtin.firstCells inf.size sLen (.slice base sLen sCap)).run P { w with drawn := d } = .ok old'.toArray { w with drawn := d } := by
                cases hsl with
                | flat h => simp [flatV] at h
                | slc hee' g1 g2 g3 =>
                  rw [hee] at hee'
                  obtain rfl := Option.some.inj hee'
                  exact ⟨l', ⟨by rw [m1, holdl], m2⟩, m5⟩
                | sle =>
                  have hdz : (cs.drop o).take (0 * inf.size) = [] := by rw [Nat.zero_mul, List.take_zero]
                  rw [hdz]
                  exact ⟨[], CR.nil, fun d => by unfold Builtin.firstCells; rw [Nat.zero_mul]; rfl⟩
              by_cases hex : ex = true ∧ o + sLen * inf.size = cs.length
              · rw [if_pos hex]
                obtain ⟨hex, hend⟩ := hex
                subst hex
                refine ⟨rfl, rfl, hold, holdl, hr, Stp.refl _ _ _, hfirst, fun h => ?_⟩
                exfalso
                cases hsl with
                | flat h => simp [flatV] at h
                | slc hee' g1 g2 g3 =>
                  rw [hee] at hee'
                  obtain rfl := Option.some.inj hee'
                  obtain ⟨rc, T, fr, _, _, _, g4⟩ := hr.row i cs .own bsz true e hrow hee (by decide)
                  have hlim := (g4 rfl).2.2 rfl
                  rw [hesz, k1] at g3
                  have : (sLen + k) * inf.size ≤ sCap * inf.size := Nat.mul_le_mul_right _ h
                  rw [Nat.add_mul] at this
                  have : 0 < k * inf.size := Nat.mul_pos (by omega) hpos
                  omega
                | sle => omega
              · rw [if_neg hex]
                refine ⟨rfl, by simp, hold, holdl, hr.kill hrow, Stp.kill μ w hrow, hfirst, fun h => ?_⟩
                cases hsl with
                | flat h => simp [flatV] at h
                | slc hee' g1 g2 g3 =>
                  rw [hee] at hee'
                  obtain rfl := Option.some.inj hee'
                  rw [hesz, k1] at g3
                  exact ⟨i, o, e, cs, ex, by rw [← k1]; exact hrow, hee, rfl, g3, k3, rfl, by rw [← k1]⟩
                | sle => omega
            · cases hbase
          · cases hbase
        · injection hbase with hbase; injection hbase with q1 q2; injection q2 with q2 q3; subst q1 q2 q3
          cases hsl with
          | slz =>
            exact ⟨rfl, rfl, rfl, by simp, hr, Stp.refl _ _ _, ⟨[], CR.nil, fun d => by unfold Builtin.firstCells; rw [Nat.zero_mul]; rfl⟩, fun h => by omega⟩
          | flat h => simp [flatV] at h
        · cases hbase
      obtain ⟨rfl, hAl, hold1, holdl, hr1, hst1, ⟨old', ho1, ho2⟩, hin⟩ := hb
      have hall : ones (old ++ new) = true := ones_append hold1 h1
      have hlen' : (old ++ new).length = (n + k) * inf.size := by rw [List.length_append, holdl, c3, Nat.add_mul]
      by_cases hcap : n + k ≤ sCap
      · -- in place
        obtain ⟨i, o, e, cs, ex, hrow, hee, rfl, hlim, hend, hodr, rfl⟩ := hin hcap
        obtain ⟨rc, T, fr, g1, g2, g3, g4⟩ := hr.row i cs .own _ ex e hrow hee (by decide)
        obtain ⟨g5, g6, _⟩ := g4 rfl
        have hkk : (n + k) * inf.size ≤ sCap * inf.size := Nat.mul_le_mul_right _ hcap
        rw [Nat.add_mul] at hkk
        have hnl : new'.length = k * inf.size := by rw [hnew.1, c3]
        obtain ⟨w', rc', s1, s2⟩ := run_storeRow P e.blk (e.off + o + n * inf.size) T fr new' 0 w rc g1 (by rw [hnl]; omega) g6 (hnew.ones h1)
        have hrun : (appTail el inf.size (.slice (some ⟨e.blk, e.off + o, none⟩) n sCap) (some ⟨e.blk, e.off + o, none⟩) n sCap k bad appended).run P w = .ok (.slice (some ⟨e.blk, e.off + o, none⟩) (n + k) sCap) w' := by
          unfold appTail
          simp only [hcap, if_true, Sem.run_bind, happ0, Result.andThen_ok, add_none, s1, Sem.run_pure]
        -- the new block lies where the old one lay
        have hother : ∀ (q : Nat) (b : Blk) (e' : Ent), A[q]? = some b → b.alive = true → q ≠ i → μ[q]? = some e' → e'.blk ≠ e.blk := by
          intro q b e' hq ha hne hq' heq
          exact hr.apart i q _ b e e' hrow hq rfl ha (Ne.symm hne) hee hq' heq.symm
        have hil : i < A.length := lt_of_get hrow
        have hμl : μ.length = (A.set i (.row cs .dead inf.size ex)).length := hr1.len
        have hget : ∀ (q : Nat) (b : Blk), (A.set i (Blk.row cs .dead inf.size ex))[q]? = some b → b.alive = true → q ≠ i ∧ A[q]? = some b := by
          intro q b hq ha
          rcases get_set hq with ⟨rfl, rfl, _⟩ | ⟨hne, hq⟩
          · simp [Blk.alive] at ha
          · exact ⟨hne, hq⟩
        have hown_alive : ∀ b : Blk, b.isOwn = true → b.alive = true := by
          intro b hb
          cases b with
          | row a st c d => cases st <;> first | rfl | (simp [Blk.isOwn] at hb)
          | mp _ => rfl
          | sit _ _ => rfl
        refine ⟨_, μ ++ [⟨e.blk, e.off + o, e.lim - o, inf.size⟩], w', .inl (run_value hrun), ?_, ?_, ?_⟩
        · have hm : (μ ++ [(⟨e.blk, e.off + o, e.lim - o, inf.size⟩ : Ent)])[(A.set i (Blk.row cs .dead inf.size ex)).length]? = some ⟨e.blk, e.off + o, e.lim - o, inf.size⟩ := by rw [← hμl]; simp
          have := VR.slc (μ := μ ++ [(⟨e.blk, e.off + o, e.lim - o, inf.size⟩ : Ent)]) (o := 0) (n := n + k) (c := n + k) (c' := sCap) hm (Nat.le_refl _) hcap (by simp only; omega)
          simpa using this
        · refine ⟨by simp [hr.len], ?_, ?_, ?_, ?_, ?_, ?_, ?_⟩
          · intro g hg
            obtain ⟨e', a1, a2, a3⟩ := hr.glo g hg
            exact ⟨e', pre_get a1, a2, a3⟩
          · intro q e' he'
            rw [s2.hsize]
            rcases push_get he' with ⟨_, he'⟩ | ⟨_, rfl⟩
            · exact hr.lt q e' he'
            · exact hr.lt i e hee
          · intro q cs' st' sz' ex' e' hb he' hst'
            rcases push_get hb with ⟨hq, hb⟩ | ⟨hq, hb⟩
            · rcases push_get he' with ⟨_, he'⟩ | ⟨hq', _⟩
              · have hal : (Blk.row cs' st' sz' ex').alive = true := by cases st' <;> first | rfl | exact absurd rfl hst'
                obtain ⟨hne, hb⟩ := hget q _ hb hal
                obtain ⟨rc0, T0, fr0, a1, a2, a3⟩ := hr.row q cs' st' sz' ex' e' hb he' hst'
                exact ⟨rc0, T0, fr0, by rw [s2.other _ (hother q _ e' hb hal hne he')]; exact a1, VR.cellMono a2, a3⟩
              · rw [hμl] at hq'; omega
            · injection hb with q1 q2 q3 q4; subst q1 q2 q3 q4
              rcases push_get he' with ⟨hq', he'⟩ | ⟨_, rfl⟩
              · rw [hμl] at hq'; omega
              · refine ⟨rc', T, fr, s2.heap, ?_, by rw [hlen', Nat.add_mul]; simp only; omega, fun _ => ⟨by rw [s2.size, g5]; simp only; omega, by rw [s2.size]; exact g6, fun h => by simp at h⟩⟩
                refine VR.cellMono ?_
                intro j u hj
                refine ⟨ones_get hall hj, ?_⟩
                simp only
                rw [s2.cells, hnl]
                rw [List.getElem?_append] at hj
                split at hj
                · rename_i hjl
                  rw [holdl] at hjl
                  rw [if_neg (by omega)]
                  rw [hodr, List.getElem?_take_of_lt hjl, List.getElem?_drop] at hj
                  obtain ⟨_, u', a1, a2⟩ := g2 _ _ hj
                  exact ⟨u', by rw [show e.off + o + j = e.off + (o + j) by omega]; exact a1, a2⟩
                · rename_i hjl
                  rw [holdl] at hjl hj
                  have hjn := lt_of_get hj
                  rw [c3] at hjn
                  obtain ⟨u', a1, a2⟩ := hnew.get hj
                  rw [if_pos (by omega)]
                  exact ⟨u', by rw [show e.off + o + j - (e.off + o + n * inf.size + 0) = j - n * inf.size by omega]; exact a1, a2⟩
          · intro q cs' st' sz' ex' e' hb he'
            rcases push_get hb with ⟨hq, hb⟩ | ⟨hq, hb⟩
            · rcases push_get he' with ⟨_, he'⟩ | ⟨hq', _⟩
              · exact hr1.szs q cs' st' sz' ex' e' hb he'
              · rw [hμl] at hq'; omega
            · injection hb with q1 q2 q3 q4; subst q3
              rcases push_get he' with ⟨hq', he'⟩ | ⟨_, rfl⟩
              · rw [hμl] at hq'; omega
              · rfl
          · intro q s0 p0 e' hb he'
            rcases push_get hb with ⟨hq, hb⟩ | ⟨hq, hb⟩
            · rcases push_get he' with ⟨_, he'⟩ | ⟨hq', _⟩
              · obtain ⟨hne, hb⟩ := hget q _ hb rfl
                rw [s2.other _ (hother q _ e' hb rfl hne he')]
                exact hr.sit q s0 p0 e' hb he'
              · rw [hμl] at hq'; omega
            · cases hb
          · intro q es e' hb he'
            rcases push_get hb with ⟨hq, hb⟩ | ⟨hq, hb⟩
            · rcases push_get he' with ⟨_, he'⟩ | ⟨hq', _⟩
              · obtain ⟨hne, hb⟩ := hget q _ hb rfl
                rw [s2.other _ (hother q _ e' hb rfl hne he')]
                obtain ⟨mes, clock, a1, a2, a3, a4⟩ := hr.mp q es e' hb he'
                exact ⟨mes, clock, a1, a2, fun j m k v a b => let ⟨x, y, z⟩ := a3 j m k v a b; ⟨x.mono, y.mono, z⟩, a4⟩
              · rw [hμl] at hq'; omega
            · cases hb
          · intro q l b b' e1 e2 hb hb' hoo haa hne he1 he2
            rcases push_get hb with ⟨hq, hb⟩ | ⟨hq, rfl⟩
            · rcases push_get he1 with ⟨_, he1⟩ | ⟨hq', _⟩
              · obtain ⟨hqi, hb⟩ := hget q _ hb (hown_alive _ hoo)
                rcases push_get hb' with ⟨hl, hb'⟩ | ⟨hl, rfl⟩
                · rcases push_get he2 with ⟨_, he2⟩ | ⟨hl', _⟩
                  · obtain ⟨hli, hb'⟩ := hget l _ hb' haa
                    exact hr.apart q l b b' e1 e2 hb hb' hoo haa hne he1 he2
                  · rw [hμl] at hl'; omega
                · rcases push_get he2 with ⟨hl', _⟩ | ⟨_, rfl⟩
                  · rw [hμl] at hl'; omega
                  · exact hother q b e1 hb (hown_alive _ hoo) hqi he1
              · rw [hμl] at hq'; omega
            · rcases push_get he1 with ⟨hq', _⟩ | ⟨_, rfl⟩
              · rw [hμl] at hq'; omega
              · rcases push_get hb' with ⟨hl, hb'⟩ | ⟨hl, rfl⟩
                · rcases push_get he2 with ⟨_, he2⟩ | ⟨hl', _⟩
                  · obtain ⟨hli, hb'⟩ := hget l _ hb' haa
                    exact (hother l b' e2 hb' haa hli he2).symm
                  · rw [hμl] at hl'; omega
                · omega
        · refine ⟨⟨_, rfl⟩, s2.os, s2.tape, s2.output, by rw [s2.hsize]; exact Nat.le_refl _, ?_, ?_⟩
          · intro x hx hno
            exact s2.other x (fun q => hno i _ e hrow rfl hee q.symm)
          · intro q b e' hb hoo he' hlt
            rcases push_get hb with ⟨hq, hb⟩ | ⟨hq, rfl⟩
            · rcases push_get he' with ⟨_, he'⟩ | ⟨hq', _⟩
              · obtain ⟨hqi, hb⟩ := hget q _ hb (hown_alive _ hoo)
                exact ⟨q, b, e', hb, hoo, he', rfl⟩
              · rw [hμl] at hq'; omega
            · rcases push_get he' with ⟨hq', _⟩ | ⟨_, rfl⟩
              · rw [hμl] at hq'; omega
              · exact ⟨i, _, e, hrow, rfl, hee, rfl⟩
      · -- a new row
        have hlt : sCap < n + k := by omega
        have hq : (Question.appendCap (n + k) sCap el).forced = false := rfl
        generalize hcp : (Question.appendCap (n + k) sCap el).cut (w.tape w.drawn (.appendCap (n + k) sCap el)) = cap
        have hge : n + k ≤ cap := by rw [← hcp]; simp [Question.cut]
        have ho' : old'.length = n * inf.size := by rw [ho1.1, holdl]
        have hn' : new'.length = k * inf.size := by rw [hnew.1, c3]
        have hrun : (appTail el inf.size (.slice base n sCap) base n sCap k bad appended).run P w = .ok (.slice (some ⟨w.heap.size, 0, none⟩) (n + k) cap)
            ({ w with drawn := w.drawn + 1 }.alloc (.cells (old'.toArray ++ new'.toArray ++ Builtin.zeroCells z.cells (cap - (n + k))) el)) := by
          unfold appTail
          simp only [hcap, if_false, Sem.run_bind, hbad hlt c1 c2, Result.andThen_ok, run_choose, hq, Bool.false_eq_true, hcp, run_typeInfo _ hi, run_askRoom, ho2, happ, run_zero hi hz, newRow, run_newObj, Sem.run_pure, World.alloc]
        have hcr : CR μ (old ++ new) (old' ++ new') := ho1.append hnew
        have hsize : (old'.toArray ++ new'.toArray ++ Builtin.zeroCells z.cells (cap - (n + k))).size = cap * inf.size := by
          simp only [Array.size_append, List.size_toArray, ho', hn', zeroCells_size, hzs]
          rw [← Nat.add_mul, ← Nat.add_mul]
          congr 1; omega
        obtain ⟨v', μ', w', b1, b2, b3, b4⟩ := sim_newSl (A := A1) (d := w.drawn + 1) (sz := inf.size) (n := n + k) (c := n + k) (c' := cap) (fr := (0, 0)) (ex := false) hr1
          (cs := old ++ new) (rc := old'.toArray ++ new'.toArray ++ Builtin.zeroCells z.cells (cap - (n + k))) (T := el) (r := .ok (.value (.slice (some ⟨w.heap.size, 0, none⟩) (n + k) cap)) _)
          (by
            intro j u hj
            obtain ⟨u', p1, p2⟩ := hcr.get hj
            refine ⟨ones_get hall hj, u', ?_, p2⟩
            rw [Array.getElem?_append, if_pos (by have := lt_of_get p1; simpa using this)]
            simpa using p1)
          (by rw [hsize, hlen']; exact Nat.mul_le_mul_right _ hge) (.inl rfl) (by simp) (Nat.le_refl _) hge (by rw [hsize]; exact Nat.le_refl _) rfl
        exact ⟨v', μ', w', by rw [run_value hrun]; exact b1, b2, b3, hst1.trans b4⟩
    · cases hs

end
end Go.AS
