import Derived.Test.YtdmgncjahckngaaGreatP22
/-! Soundness, 23: an operation in its turn. -/
namespace Go.Eng
set_option linter.all false

section
variable {P : Program}

theorem act_eval (a : Act) : a.eval = evT a.tmps := funext fun x => by cases x <;> rfl

/-- The state ahead of a piece of code. -/
structure In (P : Program) (top : Bool) (nt n0 : Nat) (π : Pi) (h : Heap) (w : World) (ts : Env) (a : Act) : Prop where
  rel : Rel P π h w
  tm : TRel π ts a.tmps
  size : nt ≤ a.tmps.size
  base : n0 ≤ w.heap.size
  defers : top = true → DRel π (defersOf ts) a.defers ∧ MarksOK n0 π h w a.defers

def FrameOK (top : Bool) (b : Frame) (cs : List Frame) : Prop := top = true → b.roundOf = none ∧ Calm b.kind cs

section
variable {ops : Array Oper} {i : Nat} {rest : List Nat} {k : List Item} {o : Oper} {b : Frame} {a : Act} {cs : List Frame} {w w' : World}

theorem not_defer {ρ : Operand → Value} {n : Next} (h : (execOp ρ o).run P w = .ok n w') (hn : ∀ d, n ≠ .defer d) : ∀ c, o.op ≠ .defer c := by
  intro c hc
  simp only [execOp, hc, Sem.run_bind] at h
  cases hr : (resolve ρ c o.type).run P w with
  | ok d w1 => rw [hr] at h; simp at h; exact hn d h.1.symm
  | halt e w1 => rw [hr] at h; simp [Result.andThen] at h

theorem value_step (ho : ops[i]? = some o) (hw : Region.wanted o (yielded ops a.tmps) = true) {n : Next} {v : Value} (h : (execOp (evT a.tmps) o).run P w = .ok n w') (hn : n = .value v ∨ (n = .skip ∧ v = undef)) :
    Steps P (lone (b.atR a (.inRegion ops (i :: rest) :: k)) cs w) (lone (b.atR (a.put o.dst v) (.inRegion ops rest :: k)) cs w') := by
  have hfin : (b.atR a (.inRegion ops (i :: rest) :: k)).finish v = b.atR (a.put o.dst v) (.inRegion ops rest :: k) := by
    rw [Frame.finish_atR, ho]; rfl
  refine .one (step_lone_go ?_)
  rw [stepGR_op ho hw, Oper.semAt_eq _ _ _ (not_defer h (fun d => by rcases hn with rfl | ⟨rfl, _⟩ <;> simp)), act_eval, ← hfin]
  rcases hn with rfl | ⟨rfl, rfl⟩
  · simp [stepG.apply, h]
  · simp [stepG.apply, h]

/-- What is left after a value. -/
theorem In.value {top : Bool} {nt n0 : Nat} {π π' : Pi} {h h' : Heap} {ts : Env} (hin : In P top nt n0 π h w ts a) (g : Good P π h w π' h' w') {dst : Option Tmp} (hd : dstOk nt dst = true) {v : AV} {v' : Value} (hv : VRel π' v v') :
    In P top nt n0 π' h' w' ((wOf dst).fn ts v) (a.put dst v') := by
  obtain ⟨h1, h2, h3, h4⟩ := write_rel (hin.tm.mono g.le) hin.size hd hv
  refine ⟨g.rel, h1, by rw [h2]; exact hin.size, Nat.le_trans hin.base g.size, fun ht => ?_⟩
  rw [h3, h4]
  exact ⟨(hin.defers ht).1.mono g.le, (hin.defers ht).2.good g⟩
end

/-- An operation's step. -/
theorem op_step {callF : CallF} (hC : CallOK P callF) {top : Bool} {nt n0 : Nat} {ops : Array Oper} {i : Nat} {rest : List Nat} {k : List Item} {o : Oper} {b : Frame} {a : Act} {cs : List Frame} {w : World}
    (ho : ops[i]? = some o) (hw : Region.wanted o (yielded ops a.tmps) = true) (hd : dstOk nt o.dst = true) {c : COp} (hc : SoundC P o.op c) {f : SFun} (hf : sOp top o.dst.isNone (wOf o.dst).fn c = .mk f)
    {π : Pi} {h h' : Heap} {ts ts' : Env} (hin : In P top nt n0 π h w ts a) (hrun : f callF ts h = .ok ts' h') (hb : FrameOK top b cs) :
    ∃ a' w' π', Steps P (lone (b.atR a (.inRegion ops (i :: rest) :: k)) cs w) (lone (b.atR a' (.inRegion ops rest :: k)) cs w') ∧ In P top nt n0 π' h' w' ts' a' ∧ Good P π h w π' h' w' := by
  have no : ∀ {x : RR}, x = .ok ts' h' → RR.no ≠ x → True := fun _ _ => trivial
  cases hc with
  | mv g hs =>
    injection hf with hf; subst hf
    injection hrun with h1 h2
    subst h1; subst h2
    obtain ⟨v', hx, hv⟩ := hs π ts a.tmps _ hin.tm rfl w o rfl
    exact ⟨_, w, π, value_step ho hw hx (.inl rfl), hin.value (.refl hin.rel) hd hv, .refl hin.rel⟩
  | p g hs =>
    injection hf with hf; subst hf
    unfold sP at hrun
    cases hg : g ts with
    | none => rw [hg] at hrun; cases hrun
    | some v =>
      rw [hg] at hrun
      injection hrun with h1 h2
      subst h1; subst h2
      obtain ⟨v', hx, hv⟩ := hs π ts a.tmps _ hin.tm hg w o rfl
      exact ⟨_, w, π, value_step ho hw hx (.inl rfl), hin.value (.refl hin.rel) hd hv, .refl hin.rel⟩
  | r g hs =>
    injection hf with hf; subst hf
    unfold sR at hrun
    cases hg : g ts h with
    | none => rw [hg] at hrun; cases hrun
    | some v =>
      rw [hg] at hrun
      injection hrun with h1 h2
      subst h1; subst h2
      obtain ⟨v', hx, hv⟩ := hs π ts a.tmps h w _ hin.tm hin.rel hg o rfl
      exact ⟨_, w, π, value_step ho hw hx (.inl rfl), hin.value (.refl hin.rel) hd hv, .refl hin.rel⟩
  | f g hs =>
    injection hf with hf; subst hf
    unfold sF at hrun
    cases hg : g ts with
    | no => rw [hg] at hrun; cases hrun
    | ok ob s =>
      rw [hg] at hrun
      injection hrun with h1 h2
      subst h1; subst h2
      obtain ⟨obj, v', hx, hfresh⟩ := hs π ts a.tmps ob s hin.tm hg w o rfl
      obtain ⟨inf, hr, hrel⟩ := hfresh h.next
      have hn := hin.rel.next_none (Nat.le_refl h.next)
      obtain ⟨h1, h2⟩ := hrel (π.set h.next inf) (Pi.le_set hn) (Pi.set_same _ _ _)
      have g := Good.add hin.rel ob obj inf hr h1
      exact ⟨_, _, _, value_step ho hw hx (.inl rfl), hin.value g hd h2, g⟩
  | m g hs =>
    injection hf with hf; subst hf
    unfold sM at hrun
    cases hg : g callF ts h with
    | no => rw [hg] at hrun; cases hrun
    | ok v h1 =>
      rw [hg] at hrun
      injection hrun with q1 q2
      subst q1; subst q2
      obtain ⟨n, v', w', π', hx, hn, hv, g⟩ := hs π ts a.tmps h w v _ callF hin.tm hin.rel hg o rfl
      exact ⟨_, _, _, value_step ho hw hx hn, hin.value g hd hv, g⟩
  | call fo args ats hop =>
    injection hf with hf; subst hf
    unfold sM at hrun
    cases hg : wCall (gOf fo).fn (args.toList.map fun x => (gOf x).fn) callF ts h with
    | no => rw [hg] at hrun; cases hrun
    | ok v h1 =>
      rw [hg] at hrun
      injection hrun with q1 q2
      subst q1; subst q2
      have rf := gOf_rel hin.tm fo
      have ra := evalL_rel hin.tm args.toList
      unfold wCall at hg
      generalize evalL (args.toList.map fun x => (gOf x).fn) ts = as at *
      have hargs : args.map (evT a.tmps) = ⟨args.toList.map (evT a.tmps)⟩ := by
        apply Array.ext'; simp
      generalize args.toList.map (evT a.tmps) = as' at *
      have hfin : ∀ v', (b.atR a (.inRegion ops (i :: rest) :: k)).finish v' = b.atR (a.put o.dst v') (.inRegion ops rest :: k) := by
        intro v'; rw [Frame.finish_atR, ho]; rfl
      have hnd : ∀ c, o.op ≠ .defer c := fun c e => by rw [hop] at e; cases e
      have hG := stepGR_op (P := P) (b := b) (a := a) (k := k) (cs := cs) (w := w) (rest := rest) ho hw
      rw [Oper.semAt_eq _ _ _ hnd, act_eval] at hG
      have hexec : ∀ fv, evT a.tmps fo = fv → execOp (evT a.tmps) o = (do let d ← Deferred.ofValue fv ⟨as'⟩; invoke d.target d.args) := by
        intro fv hfv
        simp only [execOp, hop, resolve, hargs, hfv]
      have htodo : (b.atR a (.inRegion ops (i :: rest) :: k)).todo = .inRegion ops (i :: rest) :: k := rfl
      generalize evT a.tmps fo = vf at *
      generalize (gOf fo).fn ts = af at *
      cases rf <;> simp only [callee] at hg <;> try (cases hg; done)
      · rename_i fn first captured first' captured' r1 r2
        cases fn <;> simp only [callee] at hg <;> try (cases hg; done)
        rename_i g
        have hx := hexec _ rfl
        have hrunx : ∀ w, (execOp (evT a.tmps) o).run P w = (Go.callFunc g ⟨first' ++ as' ++ captured'⟩).run P w := by
          intro w
          rw [hx]
          simp [Deferred.ofValue, invoke]
        have hFR := hC.fn π h w g _ (first' ++ as' ++ captured') v h1 (VRels.append r2 (VRels.append ra r1)) hin.rel hg
        generalize (⟨first' ++ as' ++ captured'⟩ : Array Value) = A at hrunx hFR
        rcases hFR with ⟨he, hbody⟩ | ⟨v', w', π', hv, hrel, hgood⟩
        · obtain ⟨fr, w', π', v', hst, hm, hdf, hk, hfn, ⟨fn, hfn2, hres⟩, hrel, hgood⟩ := hbody .normal (b.atR a (.inRegion ops (i :: rest) :: k) :: cs) (.inl rfl)
          have henter : step P (lone (b.atR a (.inRegion ops (i :: rest) :: k)) cs w) = .next (lone (Frame.enter P g A .normal) (b.atR a (.inRegion ops (i :: rest) :: k) :: cs) w) :=
            step_lone_go (by rw [hG]; simp [stepG.apply, hrunx, he, Frame.atR])
          have hleave := step_leave_returned (P := P) (fr := fr) (c := b.atR a (.inRegion ops (i :: rest) :: k)) (cs := cs) (w := w') (v := v') ⟨hm, hdf, hk, fn, by rw [hfn]; exact hfn2, hres⟩
          rw [hfin] at hleave
          exact ⟨_, w', π', .head henter (hst.trans (.one hleave)), hin.value hgood hd hrel, hgood⟩
        · exact ⟨_, w', π', value_step ho hw (by rw [hrunx]; exact hv) (.inl rfl), hin.value hgood hd hrel, hgood⟩
      · rename_i l inf hinf
        have hx := hexec _ rfl
        obtain ⟨inf2, f, tmps, assign, body, hl, hy, hround⟩ := hC.yld π h w l _ as' v h1 ra hin.rel hg
        rw [hinf] at hl; injection hl with hl; subst hl
        have hrunx : (execOp (evT a.tmps) o).run P w = .ok (.round inf.r f tmps assign body) w := by
          rw [hx]
          simp only [Deferred.ofValue, Sem.run_bind, Sem.run_pure, Result.andThen_ok, invoke]
          rw [← hy]
          congr 2
          apply Array.ext'; simp
        obtain ⟨v', w', π', hst, hrel, hgood⟩ := hround (b.atR a (.inRegion ops (i :: rest) :: k)) cs
        have henter : step P (lone (b.atR a (.inRegion ops (i :: rest) :: k)) cs w) = .next (lone (Frame.round inf.r f tmps assign body .normal) (b.atR a (.inRegion ops (i :: rest) :: k) :: cs) w) :=
          step_lone_go (by rw [hG]; simp [stepG.apply, hrunx, Frame.atR])
        rw [hfin] at hst
        exact ⟨_, w', π', .head henter hst, hin.value hgood hd hrel, hgood⟩
  | defer fo ats hop =>
    cases ht : top && o.dst.isNone with
    | false =>
      have : sOp top o.dst.isNone (wOf o.dst).fn (.defer (gOf fo).fn) = .mk sNo := by unfold sOp; simp [ht]
      rw [this] at hf
      injection hf with hf; subst hf; cases hrun
    | true =>
      have : sOp top o.dst.isNone (wOf o.dst).fn (.defer (gOf fo).fn) = .mk (sDefer (gOf fo).fn) := by unfold sOp; simp [ht]
      rw [this] at hf
      injection hf with hf; subst hf
      simp only [Bool.and_eq_true] at ht
      obtain ⟨ht, hdn⟩ := ht
      have hdn : o.dst = none := by simpa using hdn
      obtain ⟨hro, hcalm⟩ := hb ht
      unfold sDefer at hrun
      have rf := gOf_rel hin.tm fo
      have hG := stepGR_op (P := P) (b := b) (a := a) (k := k) (cs := cs) (w := w) (rest := rest) ho hw
      rw [hro, Oper.semAt_none, act_eval] at hG
      have hexec : ∀ fv, evT a.tmps fo = fv → execOp (evT a.tmps) o = (do pure (.defer (← Deferred.ofValue fv #[]))) := by
        intro fv hfv
        have : (#[] : Array Operand).map (evT a.tmps) = #[] := by simp
        simp only [execOp, hop, resolve, hfv, this]
      generalize evT a.tmps fo = vf at *
      generalize (gOf fo).fn ts = af at *
      cases rf <;> simp only [deferFn] at hrun <;> try (cases hrun; done)
      rename_i fn first captured first' captured' r1 r2
      cases fn <;> simp only [deferFn] at hrun <;> try (cases hrun; done)
      rename_i g
      injection hrun with q1 q2
      subst q1; subst q2
      have hx := hexec _ rfl
      have hrunx : (execOp (evT a.tmps) o).run P w = .ok (.defer { target := .fn (.func g) ⟨captured'⟩, args := ⟨first'⟩ }) w := by
        rw [hx]; simp [Deferred.ofValue]
      have hfin : ({ b.atR a (.inRegion ops (i :: rest) :: k) with defers := { target := .fn (.func g) ⟨captured'⟩, args := ⟨first'⟩ } :: a.defers } : Frame).finish undef =
          b.atR { a with defers := { target := .fn (.func g) ⟨captured'⟩, args := ⟨first'⟩ } :: a.defers } (.inRegion ops rest :: k) := by
        have := Frame.finish_atR b { a with defers := { target := .fn (.func g) ⟨captured'⟩, args := ⟨first'⟩ } :: a.defers } ops i rest k undef
        rw [ho] at this
        simp only [Option.bind_some, hdn, Act.put] at this
        exact this
      have hstep : step P (lone (b.atR a (.inRegion ops (i :: rest) :: k)) cs w) = .next (lone (b.atR { a with defers := { target := .fn (.func g) ⟨captured'⟩, args := ⟨first'⟩ } :: a.defers } (.inRegion ops rest :: k)) cs w) :=
        step_lone_go (by
          rw [hG]; simp only [stepG.apply, Sem.runT_eq, hrunx, GStep.bare_after, if_true]
          exact congrArg (fun fr => GStep.go { frame := fr, callers := cs, status := .running, dying := none } w) hfin)
      refine ⟨_, w, π, .one hstep, ⟨hin.rel, hin.tm.set_defer _, hin.size, hin.base, fun _ => ?_⟩, .refl hin.rel⟩
      obtain ⟨d1, d2⟩ := hin.defers ht
      refine ⟨?_, ⟨d2.nodup, d2.each⟩⟩
      have : defersOf (set2 ts deferPath (.tup (.fn (.func g) first captured :: defersOf ts))) = .fn (.func g) first captured :: defersOf ts := by
        show tupOf (get2 (set2 ts (pathOf 255) _) (pathOf 255)) = _
        rw [env_get_set _ (by omega) (by omega), if_pos rfl]
        rfl
      rw [this]
      exact .fn r1 r2 d1
  | recover args ats hop =>
    cases ht : top with
    | false =>
      rw [ht] at hf
      injection hf with hf; subst hf; cases hrun
    | true =>
      rw [ht] at hf
      injection hf with hf; subst hf
      injection hrun with q1 q2
      subst q1; subst q2
      obtain ⟨hro, hcalm⟩ := hb ht
      have hfin : (b.atR a (.inRegion ops (i :: rest) :: k)).finish .nilIface = b.atR (a.put o.dst .nilIface) (.inRegion ops rest :: k) := by
        rw [Frame.finish_atR, ho]; rfl
      have hG := stepGR_op (P := P) (b := b) (a := a) (k := k) (cs := cs) (w := w) (rest := rest) ho hw
      rw [hro, Oper.semAt_none, act_eval] at hG
      have hrunx : (execOp (evT a.tmps) o).run P w = .ok .recover w := by
        simp [execOp, hop, resolve, invoke, builtin]
      have htr : tryRecover (b.atR a (.inRegion ops (i :: rest) :: k)) cs = none := Calm.recover (fr := b.atR a (.inRegion ops (i :: rest) :: k)) hcalm
      have hstep : step P (lone (b.atR a (.inRegion ops (i :: rest) :: k)) cs w) = .next (lone (b.atR (a.put o.dst .nilIface) (.inRegion ops rest :: k)) cs w) :=
        step_lone_go (by
          rw [hG, ← hfin]
          have hro2 : (b.atR a (.inRegion ops (i :: rest) :: k)).roundOf = none := hro
          simp [stepG.apply, hrunx, hro2, htr])
      exact ⟨_, w, π, .one hstep, ht ▸ hin.value (.refl hin.rel) hd .nili, .refl hin.rel⟩
  | bad => injection hf with hf; subst hf; cases hrun

end
end Go.Eng
