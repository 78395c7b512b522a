import Derived.Test.YtdmgncjahckngaaGreatP26
/-! Soundness, 27: functions by their numbers. -/
namespace Go.Eng
set_option linter.all false

section
variable {P : Program}

/-- What is asked of functions without a body. -/
def ExternOK (P : Program) : Prop := ∀ (f : FuncId) (fn : Func), P.funcs[f]? = some fn → fn.body = none → (fn.name == "runtime.NumGoroutine") = false →
  ∀ π h w args args' r h', VRels π args args' → Rel P π h w → makeNoZero P fn args h = .ok r h' → ∃ v w' π', (Go.callFunc f ⟨args'⟩).run P w = .ok (.value v) w' ∧ VRel π' r v ∧ Good P π h w π' h' w'

theorem callFunc_ok (hE : ExternOK P) {callF : CallF} (hC : CallOK P callF) (hcode : ∀ f fn n0 c, P.funcs[f]? = some fn → CodeOK P callF f true fn.ntmps n0 c) {π : Pi} {h h' : Heap} {w : World} {f : FuncId} {args : List AV} {args' : List Value} {r : AV}
    (ha : VRels π args args') (hr : Rel P π h w) (hrun : Eng.callFunc P callF f args h = .ok r h') : FnRun P π h w f ⟨args'⟩ r h' := by
  obtain ⟨fn, hf, hrun⟩ := onSome_ne (no := Res.no) hrun (by simp)
  have hf := fn_of hf
  unfold callFn at hrun
  cases hn : fn.name == "runtime.NumGoroutine" || Nat.blt 200 args.length with
  | true => rw [hn] at hrun; cases hrun
  | false =>
    rw [hn, cond_false] at hrun
    rw [Bool.or_eq_false_iff] at hn
    have hl : args.length ≤ 200 := by
      have := hn.2
      by_cases h : 200 < args.length
      · rw [blt_t h] at this; cases this
      · omega
    cases hb : fn.body with
    | none =>
      rw [hb] at hrun
      exact .inr (hE f fn hf hb hn.1 π h w args args' r h' ha hr hrun)
    | some c =>
      rw [hb] at hrun
      refine .inl ⟨?_, body_ok hC hf hb (fun n0 => hcode f fn n0 c hf) ha hr hl hrun⟩
      have hne : ¬ fn.name = "runtime.NumGoroutine" := by simpa using hn.1
      simp [Go.callFunc, hf, hne, hb]

end
end Go.Eng
