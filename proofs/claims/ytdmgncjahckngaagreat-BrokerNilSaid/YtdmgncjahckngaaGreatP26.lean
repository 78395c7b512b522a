import Derived.Test.YtdmgncjahckngaaGreatP25
/-! Soundness, 26: a function's call. -/
namespace Go.Eng
set_option linter.all false

section
variable {P : Program}

noncomputable def argsGo (l : List AV) : Nat → Env → Env := List.rec (motive := fun _ => Nat → Env → Env) (fun _ ts => ts) (fun v _ ih i ts => forceN (Nat.succ i) fun j => ih j (set2 ts (pathOf i) v)) l
theorem argsGo_get : ∀ (l : List AV) (i : Nat) (ts : Env) (t : Nat), i + l.length ≤ 256 → t < 256 → get2 (argsGo l i ts) (pathOf t) = if i ≤ t then (l[t - i]?).getD (get2 ts (pathOf t)) else get2 ts (pathOf t)
  | [], i, ts, t, _, _ => by simp [argsGo]
  | v :: l, i, ts, t, hi, ht => by
    simp only [List.length_cons] at hi
    have : argsGo (v :: l) i ts = argsGo l (i + 1) (set2 ts (pathOf i) v) := by
      show forceN (Nat.succ i) (fun j => argsGo l j (set2 ts (pathOf i) v)) = _
      rw [forceN_eq]
    rw [this, argsGo_get l (i + 1) _ t (by omega) ht, env_get_set _ (by omega) ht]
    by_cases h1 : i + 1 ≤ t
    · have hne : i ≠ t := by omega
      have hle : i ≤ t := by omega
      rw [if_pos h1, if_neg hne, if_pos hle]
      obtain ⟨j, rfl⟩ : ∃ j, t = i + 1 + j := ⟨t - (i + 1), by omega⟩
      rw [show i + 1 + j - (i + 1) = j by omega, show i + 1 + j - i = j + 1 by omega]
      simp
    · rw [if_neg h1]
      by_cases h2 : i = t
      · subst h2; rw [if_pos rfl, if_pos (Nat.le_refl _)]; simp
      · have hnl : ¬ i ≤ t := by omega
        rw [if_neg h2, if_neg hnl]

theorem env0_get (t : Nat) : get2 env0 (pathOf t) = .undef := by
  unfold env0 get2
  simp [S.get_all]

theorem args_rel {π : Pi} {l : List AV} {l' : List Value} (h : VRels π l l') (hl : l.length ≤ 200) (n : Nat) : TRel π (argsFrom l) ((⟨l'⟩ : Array Value) ++ Array.replicate n undef) := by
  intro t ht
  have : argsFrom l = argsGo l 0 env0 := rfl
  rw [this, argsGo_get l 0 env0 t (by omega) (by omega), if_pos (Nat.zero_le _), env0_get]
  have hlen := h.length
  cases hx : l[t]? with
  | some x =>
    obtain ⟨y, hy, hr⟩ := h.get hx
    have hlt := (List.getElem?_eq_some_iff.mp hy).1
    have : ((⟨l'⟩ : Array Value) ++ Array.replicate n undef).getD t undef = y := by
      rw [Array.getD_eq_getD_getElem?, Array.getElem?_append_left (by simpa using hlt)]
      simp [hy]
    rw [this]
    exact hr
  | none =>
    have hge : l'.length ≤ t := by rw [List.getElem?_eq_none_iff] at hx; omega
    have : ((⟨l'⟩ : Array Value) ++ Array.replicate n undef).getD t undef = undef := by
      rw [Array.getD_eq_getD_getElem?, Array.getElem?_append_right (by simpa using hge)]
      cases hz : (Array.replicate n undef)[t - (⟨l'⟩ : Array Value).size]? with
      | none => rfl
      | some v => rw [Array.getElem?_replicate] at hz; split at hz <;> simp at hz; exact hz.symm
    rw [this]
    exact .undef π

theorem args_defers {l : List AV} (hl : l.length ≤ 200) : defersOf (argsFrom l) = [] := by
  show tupOf (get2 (argsGo l 0 env0) (pathOf 255)) = []
  rw [argsGo_get l 0 env0 255 (by omega) (by omega), if_pos (Nat.zero_le _), env0_get, List.getElem?_eq_none (by omega)]
  rfl

/-- What 'finish' says, from a frame on its way out. -/
theorem finish_ok {callF : CallF} (hC : CallOK P callF) {fn : Func} {nt : Nat} {π0 π : Pi} {h0 h h' : Heap} {w0 w : World} {ts : Env} {a : Act} {r : AV} (hin : In P true nt w0.heap.size π h w ts a) (g : Good P π0 h0 w0 π h w)
    (hf : finish P callF fn ts h = .ok r h') (fr : Frame) (cs : List Frame) (hm : fr.mode = .returning) (hd : fr.defers = a.defers) (ht : fr.tmps = a.tmps) :
    ∃ w' π' v, Steps P (lone fr cs w) (lone { fr with defers := [] } cs w') ∧ (results fn fr.tmps).run P w' = .ok v w' ∧ VRel π' r v ∧ Good P π0 h0 w0 π' h' w' := by
  unfold finish at hf
  obtain ⟨h2, hr, hf⟩ := onSome_ne (no := Res.no) hf (by simp)
  obtain ⟨vs, hv, hf⟩ := onSome_ne (no := Res.no) hf (by simp)
  injection hf with q1 q2
  subst q1; subst q2
  obtain ⟨d1, d2⟩ := hin.defers rfl
  obtain ⟨w', π', s, hle, g2⟩ := runDefers_ok hC d1 g d2 hr fr cs hm hd
  obtain ⟨v, h1, h2⟩ := results_run (hin.tm.mono hle) g2.rel hv
  exact ⟨w', π', v, s, by rw [ht]; exact h1, h2, g2⟩

theorem body_ok {callF : CallF} (hC : CallOK P callF) {f : FuncId} {fn : Func} {c : Code} (hf : P.funcs[f]? = some fn) (hb : fn.body = some c) (hcode : ∀ n0, CodeOK P callF f true fn.ntmps n0 c)
    {π : Pi} {h h' : Heap} {w : World} {args : List AV} {args' : List Value} {r : AV} (ha : VRels π args args') (hr : Rel P π h w) (hl : args.length ≤ 200)
    (hrun : (CR.rec (motive := fun _ => Res) (fun ts h => finish P callF fn ts h) (fun _ _ _ => .no) (fun ts h => finish P callF fn ts h) .no (codeA callF f (compileC P true fn.ntmps c) (argsFrom args) h) : Res) = .ok r h') :
    BodyRun P π h w f ⟨args'⟩ r h' := by
  intro kind cs hcalm
  let b : Frame := { (default : Frame) with fn := f, kind, roundOf := none }
  let a : Act := { tmps := (⟨args'⟩ : Array Value) ++ Array.replicate (fn.ntmps - args'.length) undef, defers := [] }
  have henter : Frame.enter P f ⟨args'⟩ kind = b.atR a [.code c] := by
    simp [Frame.enter, Frame.atR, hf, hb, b, a]
  have hin : In P true fn.ntmps w.heap.size π h w (argsFrom args) a := ⟨hr, args_rel ha hl _, by simp [a]; omega, Nat.le_refl _, fun _ => by
    rw [args_defers hl]
    exact ⟨.nil, ⟨by simp [a, marks], fun r hr => by simp [a, marks] at hr⟩⟩⟩
  have hp := hcode w.heap.size π h w (argsFrom args) a hin b [] cs (fun _ => ⟨rfl, hcalm⟩) rfl
  rw [henter]
  cases hx : codeA callF f (compileC P true fn.ntmps c) (argsFrom args) h with
  | norm ts1 h1 =>
    rw [hx] at hp hrun
    obtain ⟨a1, w1, π1, s1, i1, g1⟩ := hp
    obtain ⟨w', π', v, s2, hres, hv, g2⟩ := finish_ok hC i1 g1 hrun { b.atR a1 [] with mode := .returning } cs rfl rfl rfl
    exact ⟨_, w', π', v, s1.trans (.head (stepR_end rfl) s2), rfl, rfl, rfl, rfl, ⟨fn, hf, hres⟩, hv, g2⟩
  | exit id ts1 h1 => rw [hx] at hrun; cases hrun
  | ret ts1 h1 =>
    rw [hx] at hp hrun
    obtain ⟨a1, w1, π1, k', s1, i1, g1⟩ := hp
    obtain ⟨w', π', v, s2, hres, hv, g2⟩ := finish_ok hC i1 g1 hrun { b.atR a1 (.code .ret :: k') with mode := .returning } cs rfl rfl rfl
    exact ⟨_, w', π', v, s1.trans (.head (stepR_ret rfl) s2), rfl, rfl, rfl, rfl, ⟨fn, hf, hres⟩, hv, g2⟩
  | no => rw [hx] at hrun; cases hrun

end
end Go.Eng
