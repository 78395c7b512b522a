import Derived.Test.YtdmgncjahckngaaGreatP36
import Derived.Lib.MakeNoZero
import Derived.Laws.Externs
/-! Soundness, 37: functions without a body; all calls; a closed run. -/
namespace Go.Eng
set_option linter.all false

section
variable {P : Program}

/-- The two functions without a body that are known here are found under their names. -/
def externsOk (P : Program) : Bool := P.funcs.toList.all fun fn => fn.body.isSome || !(fn.name == "internal/abi.NoEscape" || fn.name == "internal/bytealg.MakeNoZero") || (Extern.findNext fn).isNone

theorem look_noEscape (a b c : Array TypeId) : ((Extern.allGenericRows.lookup "internal/abi.NoEscape").map (· a b c) <|> (Extern.allTypedRows.lookup "internal/abi.NoEscape").map (· b c) <|> Extern.allRows.lookup "internal/abi.NoEscape") = some Extern.AbiNoEscape.same := by kernel_rfl
theorem look_makeNoZero (a b c : Array TypeId) : ((Extern.allGenericRows.lookup "internal/bytealg.MakeNoZero").map (· a b c) <|> (Extern.allTypedRows.lookup "internal/bytealg.MakeNoZero").map (· b c) <|> Extern.allRows.lookup "internal/bytealg.MakeNoZero") = some (Extern.BytealgMakeNoZero.makeNoZero b c) := by kernel_rfl

theorem find_noEscape {fn : Func} (h : fn.name = "internal/abi.NoEscape") : Extern.find fn = some Extern.AbiNoEscape.same := by
  unfold Extern.find
  simp only [h]
  rw [look_noEscape]; rfl
theorem find_makeNoZero {fn : Func} (h : fn.name = "internal/bytealg.MakeNoZero") : Extern.find fn = some (Extern.BytealgMakeNoZero.makeNoZero fn.params fn.resultTypes) := by
  unfold Extern.find
  simp only [h]
  rw [look_makeNoZero]; rfl

theorem extern_ok (hx : externsOk P = true) : ExternOK P := by
  intro f fn hf hb hnum π h w args args' r h' ha hr hrun
  have hmem : fn ∈ P.funcs.toList := by
    have := Array.mem_of_getElem? hf
    simpa using this
  have hall := List.all_eq_true.mp hx fn hmem
  rw [hb] at hall
  have hbody : fn.body.isNone = true := by rw [hb]; rfl
  unfold makeNoZero at hrun
  split at hrun
  · rename_i hname
    have hnext : Extern.findNext fn = none := by
      simp [hname] at hall
      exact hall
    split at hrun
    · rename_i n t ts ht
      have ht : fn.resultTypes.toList = t :: ts := by assumption
      split at hrun
      · rename_i e hu
        split at hrun
        · rename_i zz hz
          obtain ⟨hn, hrun⟩ := cond_ne hrun (by simp)
          injection hrun with h1 h2
          subst h1; subst h2
          cases ha with
          | cons hv hrest =>
            cases hrest
            have hv := hv.int_inv
            subst hv
            have hn : n ≤ 65536 := by simpa using hn
            have hR : fn.resultTypes = (⟨t :: ts⟩ : Array TypeId) := Array.ext' ht
            have hdef : Extern.BytealgMakeNoZero.makeNoZero fn.params fn.resultTypes #[.int .i64 n] = Extern.BytealgMakeNoZero.makeNoZero fn.params #[t] #[.int .i64 n] := by
              rw [hR]; rfl
            obtain ⟨cs, q1, q2, _⟩ := Go.Lib.run_makeNoZero (P := P) w fn.params t e (under_of hu) n (by omega)
            have hr1 : Rel P π h w.drew.drew := hr.drew (w.drawn + 1 + 1)
            have g1 : Good P π h w π h w.drew.drew := Good.drew hr (w.drawn + 1 + 1)
            have hroom := Cells.room_of n AV.any hn
            have g2 := Good.add hr1 (.cells n (Cells.of n .any) e true 0) (.cells cs e) ⟨w.heap.size, 0, cs.size, undef⟩ rfl
              (.cells rfl (fun h => by cases h) (by simpa using q2) hroom (fun k hk => by
                have hlt : k < cs.size := by omega
                refine ⟨cs[k], by simp [hlt], ?_⟩
                rw [Cells.get_of]; exact .any _) (fun k _ _ h => by omega) (fun _ => .inl rfl))
            refine ⟨.slice (some ⟨w.heap.size, 0, none⟩) n cs.size, _, _, ?_, ?_, g1.trans g2⟩
            · rw [run_callFunc_extern hf hnum hbody hnext (find_makeNoZero hname)]
              show Result.andThen ((Extern.BytealgMakeNoZero.makeNoZero fn.params fn.resultTypes #[.int .i64 (n : Int)]).run P w) _ = _
              rw [hdef, q1]
              rfl
            · have := VRel.slu (π := π.set h.next ⟨w.heap.size, 0, cs.size, undef⟩) (b := h.next) (o := 0) (n := n) (c := cs.size) (z := 1) (Pi.set_same _ _ _) q2 (by simp)
              exact this
        · cases hrun
      · cases hrun
    · cases hrun
  · rename_i hname
    unfold externA at hrun
    split at hrun
    · rename_i hname
      have hnext : Extern.findNext fn = none := by
        simp [hname] at hall
        exact hall
      split at hrun
      · injection hrun with h1 h2
        subst h1; subst h2
        cases ha with
        | cons hv hrest =>
          cases hrest
          refine ⟨_, w, π, ?_, hv, .refl hr⟩
          rw [run_callFunc_extern hf hnum hbody hnext (find_noEscape hname)]
          rfl
      · cases hrun
    · cases hrun

/-- Functions whose results are known by a contract of their own. -/
def OrcOK (P : Program) (orc : FuncId → List AV → Option AV) : Prop := ∀ f args v, orc f args = some v → ∀ π h w args', VRels π args args' → Rel P π h w → FnRun P π h w f ⟨args'⟩ v h
theorem orc_no : OrcOK P noOrc := fun f args v h => by cases h

theorem callA_sound (hE : ExternOK P) {orc : FuncId → List AV → Option AV} (hO : OrcOK P orc) : ∀ n, CallOK P (callA P orc n)
  | 0 => ⟨fun π h w f args args' r h' _ _ hrun => (by cases hrun), fun π h w l args args' r h' _ _ hrun => (by cases hrun)⟩
  | n + 1 => by
    have hC := callA_sound hE hO n
    have hcode : ∀ top f fn n0 c, P.funcs[f]? = some fn → CodeOK P (callA P orc n) f top fn.ntmps n0 c := fun top f fn n0 c hf =>
      code_ok hC (fun id ops => draw_ok hC id ops) (fun g ps as b => range_ok hC (fun f' hf' => by rw [hf] at hf'; injection hf' with hf'; subst hf'; exact Nat.le_refl _) g ps as b) c
    refine ⟨fun π h w f args args' r h' ha hr hrun => ?_, fun π h w l args args' r h' ha hr hrun => ?_⟩
    · have hrun : (Option.rec (motive := fun _ => Res) (Eng.callFunc P (callA P orc n) f args h) (fun v => .ok v h) (orc f args) : Res) = .ok r h' := hrun
      cases ho : orc f args with
      | none => rw [ho] at hrun; exact callFunc_ok hE hC (hcode true) ha hr hrun
      | some v =>
        rw [ho] at hrun
        injection hrun with h1 h2
        subst h1; subst h2
        exact hO f args v ho π h w args' ha hr
    · exact yield_ok (hcode false) ha hr hrun

/-! ### Closed runs -/
theorem Rel.empty (P : Program) (w : World) : Rel P (fun _ => none) heap0 w := ⟨fun b o h => absurd h (by rw [HT.get_empty]; simp), fun b b' o o' i i' h => absurd h (by rw [HT.get_empty]; simp), fun b i h => absurd h (by simp)⟩

/-- What a closed run leaves alone. -/
structure Apart (w w' : World) : Prop where
  size : w.heap.size ≤ w'.heap.size
  heap : ∀ r, r < w.heap.size → w'.heap[r]? = w.heap[r]?
  os : w'.os = w.os
  output : w'.output = w.output
  tape : w'.tape = w.tape

theorem Good.apart {w w' : World} {π' : Pi} {h' : Heap} (g : Good P (fun _ => none) heap0 w π' h' w') : Apart w w' :=
  ⟨g.size, fun r hr => g.frame r hr fun ⟨b, o, i, h, _⟩ => absurd h (by rw [HT.get_empty]; simp), g.os, g.output, g.tape⟩

/-- A function without arguments, run on the abstract machine. -/
theorem closed_ok (hE : ExternOK P) {orc : FuncId → List AV → Option AV} (hO : OrcOK P orc) {n : Nat} {f : FuncId} {fn : Func} (hf : P.funcs[f]? = some fn) (hb : fn.body.isSome = true) {r : AV} {h' : Heap}
    (hrun : callA P orc n (.func f) [] heap0 = .ok r h') (w : World) : Calls P f #[] w fun e w' => ∃ v π, e = .returned v ∧ VRel π r v ∧ Apart w w' := by
  have hbody : BodyRun P (fun _ => none) heap0 w f #[] r h' := by
    rcases (callA_sound hE hO n).fn (fun _ => none) heap0 w f [] [] r h' .nil (Rel.empty P w) hrun with ⟨_, h⟩ | ⟨v, w', π', hv, _⟩
    · exact h
    · exfalso
      obtain ⟨c, hc⟩ := Option.isSome_iff_exists.mp hb
      by_cases hn : fn.name = "runtime.NumGoroutine"
      · simp [Go.callFunc, hf, hn] at hv
      · simp [Go.callFunc, hf, hn, hc] at hv
  intro cs
  obtain ⟨fr, w', π', v, hst, hm, hdf, hk, hfn, ⟨fn', hfn2, hres⟩, hrel, hgood⟩ := hbody .normal cs (.inl rfl)
  exact ⟨.returned v, w', fr, ⟨v, π', rfl, hrel, hgood.apart⟩, hst, hfn, hm, hdf, hk, fn', by rw [hfn]; exact hfn2, hres⟩

def isTrue : Res → Bool
  | .ok (.bool true) _ => true
  | _ => false

theorem closed_true (hx : externsOk P = true) {n : Nat} {f : FuncId} {fn : Func} (hf : P.funcs[f]? = some fn) (hb : fn.body.isSome = true) (hrun : isTrue (callA P noOrc n (.func f) [] heap0) = true) (w : World) :
    Calls P f #[] w fun e w' => e = .returned (.bool true) ∧ Apart w w' := by
  cases hr : callA P noOrc n (.func f) [] heap0 with
  | no => rw [hr] at hrun; cases hrun
  | ok r h' =>
    rw [hr] at hrun
    have hr' : r = .bool true := by
      unfold isTrue at hrun
      split at hrun
      · rename_i h; injection h
      · cases hrun
    subst hr'
    intro cs
    obtain ⟨e, w', fr, ⟨v, π, h1, h2, h3⟩, h4⟩ := closed_ok (extern_ok hx) orc_no hf hb hr w cs
    exact ⟨e, w', fr, ⟨by rw [h1, h2.bool_inv], h3⟩, h4⟩

end
end Go.Eng
