import Derived.Test.YtdmgncjahckngaaGreatP27
/-! Soundness, 28: loops over functions. -/
namespace Go.Eng
set_option linter.all false

section
variable {P : Program}

theorem onLoop_ne {β : Type} {no r : β} {f : LoopState → Option Code → FuncId → Env → List Tmp → Code → Code → β} {x : Option AObj} (h : onLoop no f x = r) (hr : r ≠ no) :
    ∃ s p fn ts ps a b, x = some (.loop s p fn ts ps a b) ∧ f s p fn ts ps a b = r := by
  unfold onLoop at h
  split at h
  · exact ⟨_, _, _, _, _, _, _, rfl, h⟩
  · exact absurd h.symm hr

theorem Rel.loop {π : Pi} {h : Heap} {w : World} (hr : Rel P π h w) {l : Nat} {s : LoopState} {p : Option Code} {fn : FuncId} {ts : Env} {ps : List Tmp} {a b : Code} (hb : HT.get h.t l = some (.loop s p fn ts ps a b)) :
    ∃ i tmps ds, π l = some i ∧ w.heap[i.r]? = some (.loop { state := s, pending := p, fn, tmps, params := ⟨ps⟩, assign := a, body := b, defers := ds }) ∧ TRel π ts tmps ∧ (∀ f, P.funcs[fn]? = some f → f.ntmps ≤ tmps.size) := by
  obtain ⟨i, obj, h1, h2, h3⟩ := hr.live l _ hb
  cases h3 with
  | loop c d => exact ⟨i, _, _, h1, h2, c, d⟩

theorem run_getLoop {w : World} {r : Nat} {l : Loop} (h : w.heap[r]? = some (.loop l)) : (Instr.getLoop r).run P w = .ok l w := by
  simp [Instr.getLoop, run_getObj_any h (fun _ _ _ => by simp)]

theorem run_endLoop {w : World} {r : Nat} {l : Loop} (h : w.heap[r]? = some (.loop l)) (hs : l.state ≠ .busy) : (Instr.endLoop r).run P w = .ok l.pending { w with heap := w.heap.setIfInBounds r (.loop { l with state := .exhausted }) } := by
  have : (l.state == LoopState.busy) = false := by simpa using hs
  simp only [Instr.endLoop, Sem.run_bind, run_getLoop h, Result.andThen_ok, this, Bool.false_eq_true, if_false, run_setObj2 h (fun _ _ _ => by simp), Sem.run_pure]

theorem run_enterLoop (fn : FuncId) (tmps : Array Value) (ps : Array Tmp) (a b : Code) (w : World) :
    (Instr.enterLoop fn tmps ps a b none).run P w = .ok (w.heap.size + 1, [{ target := .collected w.heap.size, args := #[] }])
      { w with heap := (w.heap.push (.deferred (some []))).push (.loop { state := .ready, pending := none, fn, tmps, params := ps, assign := a, body := b, defers := w.heap.size }) } := by
  simp [Instr.enterLoop]
  rfl

end
end Go.Eng
