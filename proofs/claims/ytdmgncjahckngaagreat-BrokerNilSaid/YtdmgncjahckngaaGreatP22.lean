import Derived.Test.YtdmgncjahckngaaGreatP21
import Derived.AtR
import Derived.RangeFuncLeaves
/-! Soundness, 22: the machine's state. -/
namespace Go.Eng
set_option linter.all false

section
variable {P : Program}

/-! ### Writing a temporary -/
theorem wTab_eq : wTab = (List.range 255).map fun t => W.mk fun s v => set2 s (pathOf t) v := by kernel_rfl
theorem wOf_tmp (t : Nat) (ht : t < 255) : wOf (some t) = .mk fun s v => set2 s (pathOf t) v := by
  show nth (.mk keep) wTab t = _
  rw [wTab_eq, List.range_eq_range', nth_map_range _ _ _ _ _ ht]
  rw [Nat.zero_add]
theorem wOf_none : wOf none = .mk keep := rfl

theorem wr_eq {β : Type} (d : Option Tmp) (k : (Env → AV → Env) → β) : wr d k = k (wOf d).fn := by
  unfold wr W.fn
  cases wOf d; rfl

/-- What a write does to the temporaries. -/
theorem write_rel {π : Pi} {ts : Env} {a : Act} {nt : Nat} (hr : TRel π ts a.tmps) (hs : nt ≤ a.tmps.size) {dst : Option Tmp} (hd : dstOk nt dst = true) {v : AV} {v' : Value} (hv : VRel π v v') :
    TRel π ((wOf dst).fn ts v) (a.put dst v').tmps ∧ (a.put dst v').tmps.size = a.tmps.size ∧ (a.put dst v').defers = a.defers ∧ defersOf ((wOf dst).fn ts v) = defersOf ts := by
  cases dst with
  | none => exact ⟨hr, rfl, rfl, rfl⟩
  | some d =>
    have hd : (Nat.blt d 255 && Nat.blt d nt) = true := hd
    exact go d hd
where
  go (d : Nat) (hd : (Nat.blt d 255 && Nat.blt d nt) = true) : TRel π ((wOf (some d)).fn ts v) (a.put (some d) v').tmps ∧ (a.put (some d) v').tmps.size = a.tmps.size ∧ (a.put (some d) v').defers = a.defers ∧ defersOf ((wOf (some d)).fn ts v) = defersOf ts := by
    simp only [Bool.and_eq_true] at hd
    have h1 : d < 255 := by simpa using hd.1
    have h2 : d < nt := by simpa using hd.2
    rw [wOf_tmp d h1]
    refine ⟨?_, by simp [Act.put], rfl, ?_⟩
    · exact hr.set h1 (by omega) hv
    · show tupOf (get2 (set2 ts (pathOf d) v) (pathOf 255)) = tupOf (get2 ts (pathOf 255))
      rw [env_get_set _ (by omega) (by omega), if_neg (by omega)]

/-! ### Deferred calls -/
inductive DRel (π : Pi) : List AV → List Deferred → Prop
  | nil : DRel π [] []
  | fn {g : FuncId} {a c : List AV} {a' c' : List Value} {l : List AV} {l' : List Deferred} : VRels π a a' → VRels π c c' → DRel π l l' → DRel π (.fn (.func g) a c :: l) ({ target := .fn (.func g) ⟨c'⟩, args := ⟨a'⟩ } :: l')
  | mark {r : Nat} {l : List AV} {l' : List Deferred} : DRel π l l' → DRel π l ({ target := .collected r, args := #[] } :: l')
theorem DRel.mono {π π' : Pi} (h : π.le π') : ∀ {l : List AV} {l' : List Deferred}, DRel π l l' → DRel π' l l'
  | _, _, .nil => .nil
  | _, _, .fn a c d => .fn (VRels.mono h a) (VRels.mono h c) (DRel.mono h d)
  | _, _, .mark d => .mark (DRel.mono h d)

/-- The marks among the deferred calls. -/
def marks : List Deferred → List Nat
  | [] => []
  | d :: l => (match d.target with
    | .collected r => [r]
    | _ => []) ++ marks l

/-- They are blocks of ours that the abstract heap does not know, with no calls in them. -/
structure MarksOK (n0 : Nat) (π : Pi) (h : Heap) (w : World) (ds : List Deferred) : Prop where
  nodup : (marks ds).Nodup
  each : ∀ r ∈ marks ds, n0 ≤ r ∧ r < w.heap.size ∧ ¬ Taken π h r ∧ w.heap[r]? = some (.deferred (some []))
theorem MarksOK.good {n0 : Nat} {π π' : Pi} {h h' : Heap} {w w' : World} {ds : List Deferred} (m : MarksOK n0 π h w ds) (g : Good P π h w π' h' w') : MarksOK n0 π' h' w' ds where
  nodup := m.nodup
  each := fun r hr => by
    obtain ⟨h1, h2, h3, h4⟩ := m.each r hr
    refine ⟨h1, Nat.lt_of_lt_of_le h2 g.size, fun ht => ?_, by rw [g.frame r h2 h3]; exact h4⟩
    rcases g.taken r ht with h | h
    · exact h3 h
    · omega

/-! ### Guards -/
theorem onGuard_rel {π : Pi} {x : AV} {v : Value} (hr : VRel π x v) {want : Bool} {β : Type} {no yes skip r : β} (h : onGuard no yes skip want x = r) (hne : r ≠ no) :
    (v = .bool want ∧ yes = r) ∨ (v ≠ .bool want ∧ skip = r) := by
  cases hr with
  | any v => exact absurd h.symm hne
  | sym _ _ _ => exact absurd h.symm hne
  | bool b =>
    have h : cond (cond b want (!want)) yes skip = r := h
    cases b <;> cases want <;> simp at h
    · exact .inl ⟨rfl, h⟩
    · exact .inr ⟨by simp, h⟩
    · exact .inr ⟨by simp, h⟩
    · exact .inl ⟨rfl, h⟩
  | _ => exact .inr ⟨by simp, h⟩

theorem wanted_none {o : Oper} (h : o.guard = none) (y : Nat → Option Bool) : Region.wanted o y = true := by simp [Region.wanted, h]
theorem yielded_eq {ops : Array Oper} {tmps : Array Value} {j t : Nat} (hj : dstOf ops j = some t) : yielded ops tmps j = (match tmps.getD t undef with
    | .bool b => some b
    | _ => none) := by
  have : ((ops[j]?).bind (·.dst)) = some t := by
    rw [← hj]; simp [dstOf]
  unfold yielded
  rw [this]
  simp only [Option.bind_some]
  cases ht : tmps[t]? with
  | none => simp [ht, undef]
  | some v => simp only [Array.getD_eq_getD_getElem?, ht, Option.getD_some]; cases v <;> rfl
theorem yielded_none {ops : Array Oper} {tmps : Array Value} {j : Nat} (hj : dstOf ops j = none) : yielded ops tmps j = none := by
  have : ((ops[j]?).bind (·.dst)) = none := by rw [← hj]; simp [dstOf]
  unfold yielded
  rw [this]; rfl

theorem wanted_rel {π : Pi} {ts : Env} {tmps : Array Value} (hr : TRel π ts tmps) {ops : Array Oper} {o : Oper} {j t : Nat} {want : Bool} (hg : o.guard = some (j, want)) (hj : dstOf ops j = some t)
    {β : Type} {no yes skip r : β} (h : onGuard no yes skip want ((gOf (.tmp t)).fn ts) = r) (hne : r ≠ no) :
    (Region.wanted o (yielded ops tmps) = true ∧ yes = r) ∨ (Region.wanted o (yielded ops tmps) = false ∧ skip = r) := by
  have rx := gOf_rel hr (.tmp t)
  have hw : Region.wanted o (yielded ops tmps) = (yielded ops tmps j == some want) := by simp only [Region.wanted, hg]
  rw [hw, yielded_eq hj]
  have e : evT tmps (.tmp t) = tmps.getD t undef := rfl
  rw [e] at rx
  rcases onGuard_rel rx h hne with ⟨h1, h2⟩ | ⟨h1, h2⟩
  · left; rw [h1]; simp [h2]
  · right
    refine ⟨?_, h2⟩
    generalize tmps.getD t undef = v at *
    cases v with
    | bool b =>
      have : b ≠ want := fun e => h1 (by rw [e])
      simp [this]
    | _ => rfl

theorem unwanted_none {ops : Array Oper} {tmps : Array Value} {o : Oper} {j : Nat} {want : Bool} (hg : o.guard = some (j, want)) (hj : dstOf ops j = none) : Region.wanted o (yielded ops tmps) = false := by
  simp only [Region.wanted, hg, yielded_none hj]; rfl

/-! ### Calls -/
/-- Where a deferred call's recover finds nothing. -/
def Calm (kind : CallKind) (cs : List Frame) : Prop := kind = .normal ∨ (kind = .deferred ∧ ∃ c cs', cs = c :: cs' ∧ c.mode = .returning)
theorem Calm.recover {fr : Frame} {cs : List Frame} (h : Calm fr.kind cs) : tryRecover fr cs = none := by
  rcases h with h | ⟨h, c, cs', rfl, hm⟩
  · unfold tryRecover; rw [h]
  · unfold tryRecover; rw [h]; simp [hm]

/-- A function with a body, run to its return. -/
def BodyRun (P : Program) (π : Pi) (h : Heap) (w : World) (f : FuncId) (args : Array Value) (r : AV) (h' : Heap) : Prop :=
  ∀ kind cs, Calm kind cs → ∃ fr w' π' v, Steps P (lone (Frame.enter P f args kind) cs w) (lone fr cs w') ∧ fr.mode = .returning ∧ fr.defers = [] ∧ fr.kind = kind ∧ fr.fn = f ∧
    (∃ fn, P.funcs[f]? = some fn ∧ (results fn fr.tmps).run P w' = .ok v w') ∧ VRel π' r v ∧ Good P π h w π' h' w'

/-- A function's call. -/
def FnRun (P : Program) (π : Pi) (h : Heap) (w : World) (f : FuncId) (args : Array Value) (r : AV) (h' : Heap) : Prop :=
  ((Go.callFunc f args).run P w = .ok (.enter f args) w ∧ BodyRun P π h w f args r h') ∨
  (∃ v w' π', (Go.callFunc f args).run P w = .ok (.value v) w' ∧ VRel π' r v ∧ Good P π h w π' h' w')

/-- A round of a loop: from the call of its yield to its end. -/
def RoundRun (P : Program) (π : Pi) (h : Heap) (w : World) (l : Nat) (args : Array Value) (r : AV) (h' : Heap) : Prop :=
  ∃ i f tmps assign body, π l = some i ∧ (Instr.yield i.r args).run P w = .ok (.round i.r f tmps assign body) w ∧
    ∀ c cs, ∃ v w' π', Steps P (lone (Frame.round i.r f tmps assign body .normal) (c :: cs) w) (lone (c.finish v) cs w') ∧ VRel π' r v ∧ Good P π h w π' h' w'

/-- What is asked of the calls. -/
structure CallOK (P : Program) (callF : CallF) : Prop where
  fn : ∀ π h w f args args' r h', VRels π args args' → Rel P π h w → callF (.func f) args h = .ok r h' → FnRun P π h w f ⟨args'⟩ r h'
  yld : ∀ π h w l args args' r h', VRels π args args' → Rel P π h w → callF (.yld l) args h = .ok r h' → RoundRun P π h w l ⟨args'⟩ r h'

end
end Go.Eng
