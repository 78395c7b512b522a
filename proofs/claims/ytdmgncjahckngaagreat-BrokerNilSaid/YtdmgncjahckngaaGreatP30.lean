import Derived.Test.YtdmgncjahckngaaGreatP29
/-! Soundness, 30: rounds. -/
namespace Go.Eng
set_option linter.all false

section
variable {P : Program}

theorem run_beginRound {w : World} {r : Nat} {l : Loop} (h : w.heap[r]? = some (.loop l)) (hs : l.state = .ready) : (Instr.beginRound r).run P w = .ok () { w with heap := w.heap.setIfInBounds r (.loop { l with state := .busy }) } := by
  simp only [Instr.beginRound, Sem.run_bind, run_getLoop h, Result.andThen_ok, run_setObj2 h (fun _ _ _ => by simp), hs, Sem.run_pure]
theorem run_endRound {w : World} {r : Nat} {l : Loop} (h : w.heap[r]? = some (.loop l)) (j : Option Code) : (Instr.endRound r j).run P w = .ok (.bool j.isNone) { w with heap := w.heap.setIfInBounds r (.loop { l with state := if j.isNone then .ready else .done, pending := j }) } := by
  simp only [Instr.endRound, Sem.run_bind, run_getLoop h, Result.andThen_ok, run_setObj2 h (fun _ _ _ => by simp), Sem.run_pure]

theorem setTmps_rel {π : Pi} {nt : Nat} : ∀ {ps : List Tmp} {args : List AV} {args' : List Value} {ts : Env} {tmps : Array Value}, VRels π args args' → TRel π ts tmps → nt ≤ tmps.size → (ps.all fun t => Nat.blt t 255 && Nat.blt t nt) = true → args.length = ps.length →
    TRel π (setTmps ts ps args) ((ps.zip args').foldl (fun (tmps : Array Value) (p : Tmp × Value) => tmps.setIfInBounds p.1 p.2) tmps) ∧ ((ps.zip args').foldl (fun (tmps : Array Value) (p : Tmp × Value) => tmps.setIfInBounds p.1 p.2) tmps).size = tmps.size
  | [], _, _, ts, tmps, .nil, ht, hn, hp, hl => ⟨ht, rfl⟩
  | [], _, _, ts, tmps, .cons _ _, ht, hn, hp, hl => by simp at hl
  | _ :: _, _, _, ts, tmps, .nil, ht, hn, hp, hl => by simp at hl
  | p :: ps, _, _, ts, tmps, .cons (v := v) (v' := v') hv hr, ht, hn, hp, hl => by
    simp only [List.all_cons, Bool.and_eq_true] at hp
    simp only [List.length_cons, Nat.succ.injEq] at hl
    have step : ∀ (q : Nat), (Nat.blt q 255 = true ∧ Nat.blt q nt = true) → TRel π (set2 ts (pathOf q) v) (tmps.setIfInBounds q v') := fun q hq => by
      have h1 : q < 255 := by simpa using hq.1
      have h2 : q < nt := by simpa using hq.2
      exact ht.set h1 (by omega) hv
    have := setTmps_rel (ps := ps) hr (step p hp.1) (by simpa using hn) hp.2 hl
    exact ⟨this.1, by rw [List.zip_cons_cons, List.foldl_cons, this.2]; simp⟩

/-- A round's end. -/
theorem round_end {π π2 : Pi} {h h2 h' : Heap} {w w2 : World} {l : Nat} {inf : Info} {r : AV} {j : Option Code} (g : Good P π h w π2 h2 w2) (hl : π2 l = some inf) (hrun : yieldEnd l j h2 = .ok r h') :
    ∃ v w', (Instr.endRound inf.r j).run P w2 = .ok v w' ∧ VRel π2 r v ∧ Good P π h w π2 h' w' := by
  obtain ⟨st, pend, fn', ts', ps, aa, bb, ho, he⟩ := onLoop_ne (no := Res.no) hrun (by simp)
  obtain ⟨i, tmps, ds, h1, h3, h4, h5⟩ := g.rel.loop ho
  rw [hl] at h1; injection h1 with h1; subst h1
  injection he with q1 q2
  subst q1; subst q2
  refine ⟨_, _, run_endRound h3 j, .bool _, ?_⟩
  exact g.trans (Good.setObj g.rel ho hl _ _ (.loop h4 h5))

theorem exitTo_nil (id : Nat) : exitTo id [] = none := rfl

theorem yield_ok {callF : CallF} (hcode : ∀ f fn n0 c, P.funcs[f]? = some fn → CodeOK P callF f false fn.ntmps n0 c) {π : Pi} {h h' : Heap} {w : World} {l : Nat} {args : List AV} {args' : List Value} {r : AV}
    (ha : VRels π args args') (hr : Rel P π h w) (hrun : yieldA P callF l args h = .ok r h') : RoundRun P π h w l ⟨args'⟩ r h' := by
  obtain ⟨st, pend, fn, ts, ps, assign, body, ho, hrun⟩ := onLoop_ne (no := Res.no) hrun (by simp)
  obtain ⟨f, hf, hrun⟩ := onSome_ne (no := Res.no) hrun (by simp)
  have hf := fn_of hf
  obtain ⟨hc, hrun⟩ := cond_ne (no := Res.no) hrun (by simp)
  simp only [Bool.and_eq_true] at hc
  have hlen := beq_t hc.1
  obtain ⟨inf, tmps, ds, h1, h3, h4, h5⟩ := hr.loop ho
  have hl' := ha.length
  obtain ⟨t1, t2⟩ := setTmps_rel ha h4 (h5 f hf) hc.2 hlen
  refine ⟨inf, fn, (ps.zip args').foldl (fun (tmps : Array Value) (p : Tmp × Value) => tmps.setIfInBounds p.1 p.2) tmps, assign, body, h1, ?_, ?_⟩
  · have hsz : ¬ ((⟨args'⟩ : Array Value).size ≠ (⟨ps⟩ : Array Tmp).size) := by simp; omega
    simp only [Instr.yield, Sem.run_bind, run_getLoop h3, Result.andThen_ok]
    rw [if_neg hsz]
    simp only [Sem.run_pure]
    congr 2
    rw [← Array.foldl_toList]
    simp
  · intro c cs
    generalize hT : (ps.zip args').foldl (fun (tmps : Array Value) (p : Tmp × Value) => tmps.setIfInBounds p.1 p.2) tmps = T at *
    let b : Frame := { (default : Frame) with fn := fn, kind := .normal, roundOf := some inf.r }
    let a : Act := { tmps := T, defers := [] }
    have henter : Frame.round inf.r fn T assign body .normal = b.atR a [.code assign, .beginRound, .code body] := rfl
    have hin : In P false f.ntmps 0 π h w (setTmps ts ps args) a := ⟨hr, t1, by show f.ntmps ≤ T.size; rw [t2]; exact h5 f hf, Nat.zero_le _, fun h => by cases h⟩
    have hp := hcode fn f 0 assign hf π h w _ a hin b [.beginRound, .code body] (c :: cs) (fun h => by cases h) rfl
    rw [henter]
    cases hx : codeA callF fn (compileC P false f.ntmps assign) (setTmps ts ps args) h with
    | exit id ts1 h1' => rw [hx] at hrun; cases hrun
    | ret ts1 h1' => rw [hx] at hrun; cases hrun
    | no => rw [hx] at hrun; cases hrun
    | norm ts1 h1' =>
      rw [hx] at hp hrun
      obtain ⟨a1, w1, π1, s1, i1, g1⟩ := hp
      have hrun : yieldBegin P f.ntmps callF l fn body ts1 h1' = .ok r h' := hrun
      obtain ⟨st2, pend2, fn2, ts2, ps2, aa2, bb2, ho2, hrun⟩ := onLoop_ne (no := Res.no) hrun (by simp)
      obtain ⟨hst, hrun⟩ := cond_ne (no := Res.no) hrun (by simp)
      obtain ⟨inf2, tmps2, ds2, k1, k3, k4, k5⟩ := i1.rel.loop ho2
      have hll := g1.le _ _ h1
      rw [hll] at k1; injection k1 with k1; subst k1
      have hst : st2 = .ready := by cases st2 <;> first | rfl | (simp [isReady] at hst; done)
      have hbeg := run_beginRound (P := P) k3 hst
      have g2 := Good.setObj i1.rel ho2 hll (.loop .busy pend2 fn2 ts2 ps2 aa2 bb2) (.loop { state := .busy, pending := pend2, fn := fn2, tmps := tmps2, params := ⟨ps2⟩, assign := aa2, body := bb2, defers := ds2 }) (.loop k4 k5)
      have hs2 := stepR_beginRound (P := P) (b := b) (a := a1) (k := [.code body]) (cs := c :: cs) (l := inf.r) rfl hbeg
      have i2 : In P false f.ntmps 0 π1 (putObj h1' l (.loop .busy pend2 fn2 ts2 ps2 aa2 bb2)) { w1 with heap := w1.heap.setIfInBounds inf.r (.loop { state := .busy, pending := pend2, fn := fn2, tmps := tmps2, params := ⟨ps2⟩, assign := aa2, body := bb2, defers := ds2 }) } ts1 a1 :=
        ⟨g2.rel, i1.tm, i1.size, Nat.zero_le _, fun h => by cases h⟩
      have hp2 := hcode fn f 0 body hf π1 _ _ ts1 a1 i2 b [] (c :: cs) (fun h => by cases h) rfl
      have hs12 := s1.trans (.one hs2)
      have g12 := g1.trans g2
      have hrun : yieldBody P f.ntmps callF l fn body ts1 (putObj h1' l (.loop .busy pend2 fn2 ts2 ps2 aa2 bb2)) = .ok r h' := hrun
      unfold yieldBody at hrun
      cases hy : codeA callF fn (compileC P false f.ntmps body) ts1 (putObj h1' l (.loop .busy pend2 fn2 ts2 ps2 aa2 bb2)) with
      | no => rw [hy] at hrun; cases hrun
      | norm ts3 h3' =>
        rw [hy] at hp2 hrun
        obtain ⟨a3, w3, π3, s3, i3, g3⟩ := hp2
        obtain ⟨v, w4, e1, e2, e3⟩ := round_end (g12.trans g3) (g3.le _ _ hll) hrun
        exact ⟨v, w4, π3, hs12.trans (s3.trans (.one (stepR_round_end (b := b) rfl rfl e1))), e2, e3⟩
      | exit id ts3 h3' =>
        rw [hy] at hp2 hrun
        obtain ⟨a3, w3, π3, k', s3, hk, i3, g3⟩ := hp2
        obtain ⟨v, w4, e1, e2, e3⟩ := round_end (g12.trans g3) (g3.le _ _ hll) hrun
        exact ⟨v, w4, π3, hs12.trans (s3.trans (.one (stepR_round_exit (b := b) rfl rfl hk e1))), e2, e3⟩
      | ret ts3 h3' =>
        rw [hy] at hp2 hrun
        obtain ⟨a3, w3, π3, k', s3, i3, g3⟩ := hp2
        obtain ⟨v, w4, e1, e2, e3⟩ := round_end (g12.trans g3) (g3.le _ _ hll) hrun
        exact ⟨v, w4, π3, hs12.trans (s3.trans (.one (stepR_round_ret (b := b) rfl rfl e1))), e2, e3⟩

end
end Go.Eng
