import Derived.Test.YtdmgncjahckngaaGreatP24
/-! Soundness, 25: calls. -/
namespace Go.Eng
set_option linter.all false

section
variable {P : Program}

/-! ### Deferred calls, run -/
theorem Good.touch {π0 π : Pi} {h0 h : Heap} {w0 w : World} (g : Good P π0 h0 w0 π h w) {r : Nat} (hr : w0.heap.size ≤ r) (hn : ¬ Taken π h r) (o : Obj) :
    Good P π0 h0 w0 π h { w with heap := w.heap.setIfInBounds r o } where
  le := g.le
  rel := ⟨fun b ob hb => by
    obtain ⟨i, obj, h1, h2, h3⟩ := g.rel.live b ob hb
    refine ⟨i, obj, h1, ?_, h3⟩
    show (w.heap.setIfInBounds r o)[i.r]? = _
    rw [Array.getElem?_setIfInBounds_ne (fun e => hn ⟨b, ob, i, hb, h1, e.symm⟩)]
    exact h2, g.rel.inj, fun b i hb => by
    have := g.rel.fresh b i hb
    exact ⟨this.1, by simpa using this.2⟩⟩
  newIds := g.newIds
  next := g.next
  size := by simpa using g.size
  frame := fun r' h1 h2 => by
    show (w.heap.setIfInBounds r o)[r']? = _
    rw [Array.getElem?_setIfInBounds_ne (by omega)]
    exact g.frame r' h1 h2
  taken := g.taken
  os := g.os
  output := g.output
  tape := g.tape

theorem step_defer_value {fr : Frame} {cs : List Frame} {w w' : World} {d : Deferred} {ds : List Deferred} {fv : Fn} {cap : Array Value} {v : Value}
    (hm : fr.mode = .returning) (hd : fr.defers = d :: ds) (ht : d.target = .fn fv cap)
    (hi : (invoke d.target d.args).run P w = .ok (.value v) w') :
    step P (lone fr cs w) = .next (lone { fr with defers := ds } cs w') := by
  obtain ⟨t, a⟩ := d
  simp only at ht hi
  subst ht
  refine step_lone_go ?_
  simp [stepG, unwind, callDeferred, hm, hd, hi]

theorem runDefers_ok {callF : CallF} (hC : CallOK P callF) {π0 : Pi} {h0 : Heap} {w0 : World} :
    ∀ {l : List AV} {l' : List Deferred} {π : Pi}, DRel π l l' → ∀ {h h' : Heap} {w : World}, Good P π0 h0 w0 π h w → MarksOK w0.heap.size π h w l' → runDefers callF l h = some h' → ∀ (fr : Frame) (cs : List Frame), fr.mode = .returning → fr.defers = l' →
    ∃ w' π', Steps P (lone fr cs w) (lone { fr with defers := [] } cs w') ∧ π.le π' ∧ Good P π0 h0 w0 π' h' w'
  | _, _, π, .nil, h, h', w, g, hm, hrun, fr, cs, hmode, hd => by
    have : some h = some h' := hrun
    injection this with this; subst this
    have e : { fr with defers := [] } = fr := by cases fr; simp at hd; subst hd; rfl
    rw [e]
    exact ⟨w, π, .refl _ _, Pi.le_refl _, g⟩
  | _, _, π, @DRel.mark _ r l l' hl, h, h', w, g, hm, hrun, fr, cs, hmode, hd => by
    have hmk : marks ({ target := .collected r, args := #[] } :: l') = r :: marks l' := rfl
    obtain ⟨h1, h2, h3, h4⟩ := hm.each r (by rw [hmk]; exact List.mem_cons_self)
    have htake : (Instr.takeDeferred r).run P w = .ok [] { w with heap := w.heap.setIfInBounds r (.deferred none) } := by
      simp [Instr.takeDeferred, run_getObj_any h4 (fun _ _ _ => by simp), run_setObj2 h4 (fun _ _ _ => by simp)]
    have hs := step_collected (cs := cs) (by rw [hmode]; simp) hd rfl htake
    have hnd := hm.nodup
    rw [hmk] at hnd
    have g2 := g.touch h1 h3 (.deferred none)
    have hm2 : MarksOK w0.heap.size π h { w with heap := w.heap.setIfInBounds r (.deferred none) } l' := ⟨(List.nodup_cons.mp hnd).2, fun r' hr' => by
      obtain ⟨q1, q2, q3, q4⟩ := hm.each r' (by rw [hmk]; exact List.mem_cons_of_mem _ hr')
      have hne : r ≠ r' := fun e => (List.nodup_cons.mp hnd).1 (e ▸ hr')
      refine ⟨q1, by simpa using q2, q3, ?_⟩
      show (w.heap.setIfInBounds r _)[r']? = _
      rw [Array.getElem?_setIfInBounds_ne hne]; exact q4⟩
    obtain ⟨w', π', s, hle, g3⟩ := runDefers_ok hC hl g2 hm2 hrun { fr with defers := [] ++ l' } cs hmode rfl
    exact ⟨w', π', .head hs s, hle, g3⟩
  | _, _, π, @DRel.fn _ gf a c a' c' l l' ra rc hl, h, h', w, g, hm, hrun, fr, cs, hmode, hd => by
    have hrun : (match callF (.func gf) (a ++ c) h with
      | .ok _ h' => runDefers callF l h'
      | .no => none) = some h' := hrun
    cases hcall : callF (.func gf) (a ++ c) h with
    | no => rw [hcall] at hrun; cases hrun
    | ok r1 h1 =>
      rw [hcall] at hrun
      have hmk : marks ({ target := .fn (.func gf) ⟨c'⟩, args := ⟨a'⟩ } :: l') = marks l' := rfl
      have hm2 : MarksOK w0.heap.size π h w l' := ⟨by have := hm.nodup; rw [hmk] at this; exact this, fun r hr => hm.each r (by rw [hmk]; exact hr)⟩
      have hinv : ∀ w, (invoke (.fn (.func gf) ⟨c'⟩) ⟨a'⟩).run P w = (Go.callFunc gf ⟨a' ++ c'⟩).run P w := fun w => by simp [invoke]
      rcases hC.fn π h w gf _ (a' ++ c') r1 h1 (VRels.append rc ra) g.rel hcall with ⟨he, hbody⟩ | ⟨v', w', π', hv, hrel, hgood⟩
      · obtain ⟨fx, w', π', v', hst, hmx, hdf, hk, hfn, ⟨fn, hfn2, hres⟩, hrel, hgood⟩ := hbody .deferred ({ fr with defers := l' } :: cs) (.inr ⟨rfl, _, _, rfl, hmode⟩)
        have h1s := step_defer (P := P) (cs := cs) (by rw [hmode]; simp) hd rfl (by rw [hinv]; exact he)
        have h2s := step_going_returned (P := P) (fr := fx) (c := { fr with defers := l' }) (cs := cs) (w := w') (v := v') hk ⟨hmx, hdf, fn, by rw [hfn]; exact hfn2, hres⟩
        have hset : ({ ({ fr with defers := l' } : Frame) with mode := settle ({ fr with defers := l' } : Frame).mode } : Frame) = { fr with defers := l' } := by
          show ({ fr with defers := l', mode := settle fr.mode } : Frame) = _
          rw [hmode]
          rfl
        rw [hset] at h2s
        obtain ⟨w2, π2, s, hle, g3⟩ := runDefers_ok hC (hl.mono hgood.le) (g.trans hgood) (hm2.good hgood) hrun { fr with defers := l' } cs hmode rfl
        exact ⟨w2, π2, .head h1s (hst.trans (.head h2s s)), Pi.le_trans hgood.le hle, g3⟩
      · have h1s := step_defer_value (P := P) (cs := cs) hmode hd rfl (by rw [hinv]; exact hv)
        obtain ⟨w2, π2, s, hle, g3⟩ := runDefers_ok hC (hl.mono hgood.le) (g.trans hgood) (hm2.good hgood) hrun { fr with defers := l' } cs hmode rfl
        exact ⟨w2, π2, .head h1s s, Pi.le_trans hgood.le hle, g3⟩

/-! ### Results -/
theorem load_var {t : TypeId} {a : Operand} {f : Env → Heap → Option AV} (hc : cLoad P t a = .r f) {π : Pi} {ts : Env} {tmps : Array Value} {h : Heap} {w : World} {v : AV} (ht : TRel π ts tmps) (hr : Rel P π h w) (hf : f ts h = some v) :
    ∃ v', ((do loadVar t (← asAddr (evT tmps a))) : Sem Value).run P w = .ok v' w ∧ VRel π v v' := by
  have hs := c_load (P := P) t a
  rw [hc] at hs
  cases hs with
  | r _ hs =>
    obtain ⟨v', hx, hv⟩ := hs π ts tmps h w v ht hr hf { (default : Oper) with op := .load t a } rfl
    refine ⟨v', ?_, hv⟩
    simp only [execOp, Instr.loadAt, Sem.run_bind] at hx
    generalize evT tmps a = va at *
    cases va with
    | pointer p =>
      cases p with
      | some ad =>
        simp only [Instr.sureAddr, Sem.run_pure, Result.andThen_ok] at hx
        simp only [asAddr, Sem.run_bind, Sem.run_pure, Result.andThen_ok]
        cases hl : (loadVar t ad).run P w with
        | ok x w1 => rw [hl] at hx; simp at hx; rw [hx.1, hx.2]
        | halt e w1 => rw [hl] at hx; simp [Result.andThen] at hx
      | none => simp [Instr.sureAddr, Result.andThen] at hx
    | _ => simp [Instr.sureAddr, Result.andThen] at hx

theorem results_ok {π : Pi} {h : Heap} {w : World} {ts : Env} {tmps : Array Value} (ht : TRel π ts tmps) (hr : Rel P π h w) : ∀ {l : List ResultVar} {vs : List AV}, resultsA P ts h l = some vs →
    ∃ vs', (l.mapM (fun
      | .tmp t => pure (tmps.getD t undef)
      | .cell a t => do loadVar t (← asAddr (tmps.getD a undef)) : ResultVar → Sem Value)).run P w = .ok vs' w ∧ VRels π vs vs'
  | [], vs, h => by
    injection h with h; subst h
    exact ⟨[], by simp, .nil⟩
  | .tmp t :: l, vs, hh => by
    obtain ⟨vs1, h1, h2⟩ := onSome_ne (no := none) hh (by simp)
    injection h2 with h2; subst h2
    obtain ⟨vs', h3, h4⟩ := results_ok ht hr h1
    refine ⟨tmps.getD t undef :: vs', ?_, .cons (gOf_rel ht (.tmp t)) h4⟩
    simp only [List.mapM_cons, Sem.run_bind, Sem.run_pure, Result.andThen_ok, h3]
  | .cell a t :: l, vs, hh => by
    unfold resultsA at hh
    split at hh
    · rename_i f hc
      obtain ⟨v, hv, hh⟩ := onSome_ne (no := none) hh (by simp)
      obtain ⟨vs1, h1, h2⟩ := onSome_ne (no := none) hh (by simp)
      injection h2 with h2; subst h2
      obtain ⟨vs', h3, h4⟩ := results_ok ht hr h1
      obtain ⟨v', h5, h6⟩ := load_var hc ht hr hv
      refine ⟨v' :: vs', ?_, .cons h6 h4⟩
      have h5 : ((do loadVar t (← asAddr (tmps.getD a undef))) : Sem Value).run P w = .ok v' w := h5
      simp only [List.mapM_cons, Sem.run_bind, h3, Sem.run_pure] at h5 ⊢
      rw [h5]
      simp only [Result.andThen_ok]
      rw [h3]
      rfl
    · cases hh

theorem results_run {π : Pi} {h : Heap} {w : World} {ts : Env} {fn : Func} {tmps : Array Value} (ht : TRel π ts tmps) (hr : Rel P π h w) {vs : List AV} (hv : resultsA P ts h fn.results.toList = some vs) :
    ∃ v', (results fn tmps).run P w = .ok v' w ∧ VRel π (resultA vs) v' := by
  obtain ⟨vs', h1, h2⟩ := results_ok ht hr hv
  refine ⟨if h : vs'.toArray.size = 1 then vs'.toArray[0] else .tuple vs'.toArray, ?_, ?_⟩
  · unfold results
    rw [Array.mapM_eq_mapM_toList]
    simp only [Sem.run_bind, Sem.run_map, Sem.run_pure]
    exact congrArg (fun x : Result (List Value) => Result.andThen (Result.andThen x fun a w' => .ok (List.toArray a) w') fun (vs : Array Value) w' => .ok (if h : vs.size = 1 then vs[0] else Value.tuple vs) w') h1
  · cases h2 with
    | nil => exact .tup .nil
    | cons a r =>
      cases r with
      | nil => exact a
      | cons b r => exact .tup (.cons a (.cons b r))

end
end Go.Eng
