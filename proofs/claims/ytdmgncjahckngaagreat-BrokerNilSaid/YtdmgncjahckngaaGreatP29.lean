import Derived.Test.YtdmgncjahckngaaGreatP28
/-! Soundness, 29: a loop over a function, whole. -/
namespace Go.Eng
set_option linter.all false

section
variable {P : Program}

theorem range_end {top : Bool} {nt n0 : Nat} {π π2 : Pi} {h h2 : Heap} {w w2 : World} {b : Frame} {k : List Item} {cs : List Frame} {ts : Env} {a : Act} {l : Nat} {r : AV} {inf : Info} (g : Good P π h w π2 h2 w2) (hin : In P top nt n0 π2 h2 w2 ts a) (hl : π2 l = some inf) :
    Post P top nt n0 π h w b k cs (lone (b.atR a (.endRangeFunc inf.r :: k)) cs w2) (rangeEnd l ts (.ok r h2)) := by
  by_cases hno : rangeEnd l ts (.ok r h2) = .no
  · rw [hno]; trivial
  · obtain ⟨st, pend, fn', ts', ps, aa, bb, ho, he⟩ := onLoop_ne (no := CR.no) (r := rangeEnd l ts (.ok r h2)) rfl hno
    obtain ⟨i, tmps, ds, h1, h3, h4, h5⟩ := hin.rel.loop ho
    rw [hl] at h1; injection h1 with h1; subst h1
    rw [← he] at hno ⊢
    have hst : st ≠ .busy := by
      intro e; subst e; exact hno rfl
    have hend := run_endLoop (P := P) h3 hst
    have g2 := Good.setObj hin.rel ho hl (.loop .exhausted pend fn' ts' ps aa bb) (.loop { state := .exhausted, pending := pend, fn := fn', tmps, params := ⟨ps⟩, assign := aa, body := bb, defers := ds }) (.loop h4 h5)
    have hstep := stepR_endRangeFunc (b := b) (a := a) (k := k) (cs := cs) hend
    have hin2 : In P top nt n0 π2 (putObj h2 l (.loop .exhausted pend fn' ts' ps aa bb)) { w2 with heap := w2.heap.setIfInBounds inf.r (.loop { state := .exhausted, pending := pend, fn := fn', tmps, params := ⟨ps⟩, assign := aa, body := bb, defers := ds }) } ts a :=
      ⟨g2.rel, hin.tm, hin.size, Nat.le_trans hin.base g2.size, fun t => ⟨(hin.defers t).1, (hin.defers t).2.good g2⟩⟩
    have gg := g.trans g2
    cases st with
    | busy => exact absurd rfl hst
    | _ =>
      cases pend with
      | none => exact ⟨a, _, π2, .one hstep, hin2, gg⟩
      | some c =>
        cases c with
        | exit id => exact ⟨a, _, π2, k, .one hstep, rfl, hin2, gg⟩
        | ret => exact ⟨a, _, π2, k, .one hstep, hin2, gg⟩
        | _ => trivial

theorem stepR_rangeFunc_value {b : Frame} {a : Act} {k : List Item} {cs : List Frame} {w : World} {g : Operand} {ps : Array Tmp} {assign body : Code} {l : Nat} {mark : List Deferred} {w₁ w₁' w₂ : World} {d : Deferred} {v : Value}
    (he : (Instr.enterLoop b.fn a.tmps ps assign body b.roundOf).run P w = .ok (l, mark) w₁)
    (hres : (resolve a.eval (rangeCall g l) 0).run P w₁ = .ok d w₁') (hinv : (invoke d.target d.args).run P w₁' = .ok (.value v) w₂) :
    step P (lone (b.atR a (.code (.rangeFunc g ps assign body) :: k)) cs w) = .next (lone (b.atR { a with defers := mark ++ a.defers } (.endRangeFunc l :: k)) cs w₂) := by
  rw [← finish_atR_inRangeFunc l v]
  exact step_lone_go (by
    have hev := Frame.eval_atR b { a with defers := mark ++ a.defers } (.inRangeFunc l :: k)
    simp only [Frame.atR] at hev
    have hres' : Sem.run P (resolve ({ tmps := a.tmps, defers := mark ++ a.defers } : Act).eval { callee := .value g, args := #[.const (.func (.yield l) #[] #[])], argTypes := #[] } 0) w₁ = .ok d w₁' := hres
    simp [stepG, stepG.exec, Frame.atR, Sem.runT_eq, he, GStep.bare_after, stepG.apply, hev, Sem.run_bind, hres', hinv, Result.andThen])

theorem range_ok {callF : CallF} (hC : CallOK P callF) {fn : FuncId} {top : Bool} {nt n0 : Nat} (hnt : ∀ f, P.funcs[fn]? = some f → f.ntmps ≤ nt) (f : Operand) (params : Array Tmp) (assign body : Code) :
    CodeOK P callF fn top nt n0 (.rangeFunc f params assign body) := by
  intro π h w ts a hin b k cs hb hfn
  rw [compileC]
  cases hc : (top && params.toList.all fun t => Nat.blt t (nat_lit 255) && Nat.blt t nt) with
  | false => trivial
  | true =>
    rw [cond_true, opd_eq]
    simp only [Bool.and_eq_true] at hc
    obtain ⟨htop, _⟩ := hc
    obtain ⟨hro, hcalm⟩ := hb htop
    show Post P top nt n0 π h w b k cs _ (rangeFn callF fn params.toList assign body ts h ((gOf f).fn ts))
    have rf := gOf_rel hin.tm f
    have hev : ∀ x, evT a.tmps f = x → a.eval f = x := fun x e => by rw [act_eval]; exact e
    generalize evT a.tmps f = vf at *
    generalize (gOf f).fn ts = af at *
    cases rf <;> try trivial
    rename_i g first captured first' captured' r1 r2
    cases g <;> try trivial
    rename_i g
    have hev := hev _ rfl
    show Post P top nt n0 π h w b k cs _ (rangeEnd h.next ts (callF (.func g) (first ++ [.yld h.next] ++ captured) (addObj h (.loop .ready none fn ts params.toList assign body))))
    cases hcall : callF (.func g) (first ++ [.yld h.next] ++ captured) (addObj h (.loop .ready none fn ts params.toList assign body)) with
    | no => trivial
    | ok r h2 =>
      have g1 := Good.push hin.rel (.deferred (some []))
      have hsz : (w.heap.push (.deferred (some []))).size = w.heap.size + 1 := by simp
      have hle := Pi.le_set (i := (⟨w.heap.size + 1, 0, 0, undef⟩ : Info)) (hin.rel.next_none (Nat.le_refl h.next))
      have g2 := g1.trans (Good.add g1.rel (.loop .ready none fn ts params.toList assign body) (.loop { state := .ready, pending := none, fn, tmps := a.tmps, params, assign, body, defers := w.heap.size }) ⟨w.heap.size + 1, 0, 0, undef⟩ hsz.symm
        (ORel.loop (params := params.toList) (hin.tm.mono hle) (fun f hf => Nat.le_trans (hnt f hf) hin.size)))
      have hy : VRel (π.set h.next ⟨w.heap.size + 1, 0, 0, undef⟩) (.yld h.next) (.func (.yield (w.heap.size + 1)) #[] #[]) := VRel.yld (i := ⟨w.heap.size + 1, 0, 0, undef⟩) (Pi.set_same _ _ _)
      have hFR := hC.fn _ _ _ g _ (first' ++ [.func (.yield (w.heap.size + 1)) #[] #[]] ++ captured') r h2 (VRels.append (r2.mono hle) (VRels.append (.cons hy .nil) (r1.mono hle))) g2.rel hcall
      obtain ⟨d1, d2⟩ := hin.defers htop
      have hnew : (w.heap.push (.deferred (some []))).push (.loop { state := .ready, pending := none, fn, tmps := a.tmps, params, assign, body, defers := w.heap.size }) = (w.heap.push (.deferred (some []))).push (.loop { state := .ready, pending := none, fn, tmps := a.tmps, params, assign, body, defers := w.heap.size }) := rfl
      have hin1 : In P top nt n0 (π.set h.next ⟨w.heap.size + 1, 0, 0, undef⟩) (addObj h (.loop .ready none fn ts params.toList assign body))
          { w with heap := (w.heap.push (.deferred (some []))).push (.loop { state := .ready, pending := none, fn, tmps := a.tmps, params, assign, body, defers := w.heap.size }) } ts { a with defers := [{ target := .collected w.heap.size, args := #[] }] ++ a.defers } := by
        refine ⟨g2.rel, hin.tm.mono hle, hin.size, by simp; have := hin.base; omega, fun _ => ⟨.mark (d1.mono hle), ?_⟩⟩
        have d3 := d2.good g2
        refine ⟨?_, fun r' hr' => ?_⟩
        · show (w.heap.size :: marks a.defers).Nodup
          exact List.nodup_cons.mpr ⟨fun hm => by have := (d2.each _ hm).2.1; omega, d2.nodup⟩
        · have hr' : r' ∈ w.heap.size :: marks a.defers := hr'
          rcases List.mem_cons.mp hr' with rfl | hr'
          · refine ⟨hin.base, by simp only [Array.size_push]; omega, fun ht => ?_, ?_⟩
            · obtain ⟨b', o', i', hb', hi', hr2⟩ := ht
              rcases HT.get_put_some hb' with ⟨e1, _⟩ | ⟨e1, e2⟩
              · subst e1
                rw [Pi.set_same] at hi'; injection hi' with hi'; subst hi'
                simp at hr2
              · rw [Pi.set_ne _ _ e1] at hi'
                have := (hin.rel.fresh _ _ hi').2
                omega
            · rw [Array.getElem?_push, if_neg (by simp)]; simp
          · exact d3.each r' hr'
      have henter0 : (Instr.enterLoop b.fn a.tmps params assign body b.roundOf).run P w = (Instr.enterLoop fn a.tmps params assign body none).run P w := by rw [hro, hfn]
      have henter := henter0.trans (run_enterLoop (P := P) fn a.tmps params assign body w)
      have hres : ∀ w1, (resolve a.eval (rangeCall f (w.heap.size + 1)) 0).run P w1 = .ok { target := .fn (.func g) ⟨captured'⟩, args := ⟨first' ++ [.func (.yield (w.heap.size + 1)) #[] #[]]⟩ } w1 := fun w1 => by
        have : (#[Operand.const (.func (.yield (w.heap.size + 1)) #[] #[])] : Array Operand).map a.eval = #[.func (.yield (w.heap.size + 1)) #[] #[]] := by simp [Act.eval]
        simp only [resolve, this, hev, Deferred.ofValue, Sem.run_pure]
        congr 2
        apply Array.ext'; simp
      have hin2 : ∀ {w' π'}, Good P (π.set h.next ⟨w.heap.size + 1, 0, 0, undef⟩) (addObj h (.loop .ready none fn ts params.toList assign body)) { w with heap := (w.heap.push (.deferred (some []))).push (.loop { state := .ready, pending := none, fn, tmps := a.tmps, params, assign, body, defers := w.heap.size }) } π' h2 w' →
          In P top nt n0 π' h2 w' ts { a with defers := [{ target := .collected w.heap.size, args := #[] }] ++ a.defers } := fun hgood =>
        ⟨hgood.rel, hin1.tm.mono hgood.le, hin1.size, Nat.le_trans hin1.base hgood.size, fun t => ⟨(hin1.defers t).1.mono hgood.le, (hin1.defers t).2.good hgood⟩⟩
      rcases hFR with ⟨he, hbody⟩ | ⟨v', w', π', hv, hrel, hgood⟩
      · obtain ⟨fr, w', π', v', hst, hm, hdf, hk, hfn', ⟨fnn, hfn2, hres2⟩, hrel, hgood⟩ := hbody .normal (b.atR { a with defers := [{ target := .collected w.heap.size, args := #[] }] ++ a.defers } (.inRangeFunc (w.heap.size + 1) :: k) :: cs) (.inl rfl)
        have hs1 := stepR_rangeFunc (b := b) (a := a) (k := k) (cs := cs) henter (hres _) (by
          show (invoke (.fn (.func g) ⟨captured'⟩) ⟨first' ++ [.func (.yield (w.heap.size + 1)) #[] #[]]⟩).run P _ = _
          have : (⟨first' ++ [.func (.yield (w.heap.size + 1)) #[] #[]]⟩ : Array Value) ++ (⟨captured'⟩ : Array Value) = ⟨first' ++ [.func (.yield (w.heap.size + 1)) #[] #[]] ++ captured'⟩ := by simp
          simp only [invoke, this]
          exact he)
        have hs2 := step_leave_returned (P := P) (fr := fr) (c := b.atR { a with defers := [{ target := .collected w.heap.size, args := #[] }] ++ a.defers } (.inRangeFunc (w.heap.size + 1) :: k)) (cs := cs) (w := w') (v := v') ⟨hm, hdf, hk, fnn, by rw [hfn']; exact hfn2, hres2⟩
        rw [finish_atR_inRangeFunc] at hs2
        refine Post.steps (.head hs1 (hst.trans (.one hs2))) ?_
        exact range_end (inf := ⟨w.heap.size + 1, 0, 0, undef⟩) (g2.trans hgood) (hin2 hgood) (hgood.le _ _ (Pi.set_same _ _ _))
      · have hs1 := stepR_rangeFunc_value (b := b) (a := a) (k := k) (cs := cs) henter (hres _) (by
          show (invoke (.fn (.func g) ⟨captured'⟩) ⟨first' ++ [.func (.yield (w.heap.size + 1)) #[] #[]]⟩).run P _ = _
          have : (⟨first' ++ [.func (.yield (w.heap.size + 1)) #[] #[]]⟩ : Array Value) ++ (⟨captured'⟩ : Array Value) = ⟨first' ++ [.func (.yield (w.heap.size + 1)) #[] #[]] ++ captured'⟩ := by simp
          simp only [invoke, this]
          exact hv)
        refine Post.steps (.one hs1) ?_
        exact range_end (inf := ⟨w.heap.size + 1, 0, 0, undef⟩) (g2.trans hgood) (hin2 hgood) (hgood.le _ _ (Pi.set_same _ _ _))

end
end Go.Eng
