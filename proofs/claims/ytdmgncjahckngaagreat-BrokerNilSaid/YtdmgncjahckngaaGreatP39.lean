import Derived.Test.YtdmgncjahckngaaGreatP38
import GoSem.ClaimFn
import GoSem.ClaimJoined
/-! Closed facts of a row over a great program, quickly: no variable is named; maps' elements are rows of the table. -/
namespace Go.Eng
set_option linter.all false

section
variable {P : Program}

def notG : Operand → Bool
  | .global _ => false
  | _ => true
def notW : Op → Bool
  | .ready _ => false
  | .waits _ => false
  | _ => true
def operG (o : Oper) : Bool := o.op.operands.toList.all notG && notW o.op
noncomputable def noG (c : Code) : Bool := Code.rec (motive := fun _ => Bool) true (fun _ ops _ => ops.toList.all operG) (fun _ _ a b => a && b) (fun x _ _ a b => notG x && (a && b)) (fun _ _ a => a) (fun _ a => a) (fun x _ _ _ a b => notG x && (a && b)) (fun _ => true) (fun _ a => a) (fun _ => true) (fun _ => true) true (fun _ => true) c

theorem operG_of {o : Oper} (h : operG o = true) : (o.op.operands.toList.filterMap fun | .global g => some g | _ => none) ++ (match o.op with | .ready g | .waits g => [g] | _ => []) = [] := by
  unfold operG at h
  rw [Bool.and_eq_true] at h
  obtain ⟨h1, h2⟩ := h
  have e1 : (o.op.operands.toList.filterMap fun | .global g => some g | _ => none) = [] := by
    rw [List.filterMap_eq_nil_iff]
    intro x hx
    have := List.all_eq_true.mp h1 x hx
    cases x <;> simp_all [notG]
  rw [e1]
  generalize o.op = p at h2
  cases p <;> simp_all [notW]

theorem noG_of : ∀ {c : Code}, noG c = true → c.globalsNamed = []
  | .skip, _ => rfl
  | .region _ ops _, h => by
    have h : ops.toList.all operG = true := h
    rw [Code.globalsNamed, List.flatMap_eq_nil_iff]
    intro o ho
    exact operG_of (List.all_eq_true.mp h o ho)
  | .seq a b, h => by
    have h : (noG a && noG b) = true := h
    rw [Bool.and_eq_true] at h
    rw [Code.globalsNamed, noG_of h.1, noG_of h.2]; rfl
  | .cond x a b, h => by
    have h : (notG x && (noG a && noG b)) = true := h
    rw [Bool.and_eq_true, Bool.and_eq_true] at h
    have hx := h.1
    cases x with
    | global g => cases hx
    | _ => simp [Code.globalsNamed, noG_of h.2.1, noG_of h.2.2]
  | .block _ a, h => by
    have h : noG a = true := h
    rw [Code.globalsNamed, noG_of h]
  | .loop a, h => by
    have h : noG a = true := h
    rw [Code.globalsNamed, noG_of h]
  | .rangeFunc x _ a b, h => by
    have h : (notG x && (noG a && noG b)) = true := h
    rw [Bool.and_eq_true, Bool.and_eq_true] at h
    have hx := h.1
    cases x with
    | global g => cases hx
    | _ => simp [Code.globalsNamed, noG_of h.2.1, noG_of h.2.2]
  | .exit _, _ => rfl
  | .scope a, h => by
    have h : noG a = true := h
    rw [Code.globalsNamed, noG_of h]
  | .label _, _ => rfl
  | .goto _, _ => rfl
  | .ret, _ => rfl
  | .refuse _, _ => rfl

noncomputable def noGs (P : Program) : Bool := P.funcs.toList.all fun fn => Option.rec (motive := fun _ => Bool) (entryReads.lookup fn.name).isNone (fun c => noG c) fn.body

theorem names_none (h : noGs P = true) (f : FuncId) : P.varsNamed f = [] := by
  have hall : ∀ (g : FuncId) (fn : Func), P.funcs[g]? = some fn → (match fn.body with
      | some c => c.globalsNamed = []
      | none => entryReads.lookup fn.name = none) := fun g fn hg => by
    have hm : fn ∈ P.funcs.toList := by
      have := Array.mem_of_getElem? hg
      simpa using this
    have := List.all_eq_true.mp h fn hm
    cases hb : fn.body with
    | none => rw [hb] at this; simpa using this
    | some c => rw [hb] at this; exact noG_of this
  have h1 : ((P.closure f).flatMap fun g => ((P.funcs[g]?).bind (·.body)).elim [] Code.globalsNamed) = [] := by
    rw [List.flatMap_eq_nil_iff]
    intro g _
    cases hg : P.funcs[g]? with
    | none => rfl
    | some fn =>
      have := hall g fn hg
      cases hb : fn.body with
      | none => simp [hb]
      | some c => rw [hb] at this; simpa [hb] using this
  have h2 : ((P.closure f).filterMap fun g => (P.funcs[g]?).bind fun fn => if fn.body.isNone then entryReads.lookup fn.name else none) = [] := by
    rw [List.filterMap_eq_nil_iff]
    intro g _
    cases hg : P.funcs[g]? with
    | none => rfl
    | some fn =>
      have := hall g fn hg
      cases hb : fn.body with
      | none => rw [hb] at this; simpa [hb] using this
      | some c => simp [hb]
  unfold Program.varsNamed
  rw [h1, h2]
  rfl

/-! ### Maps -/
noncomputable def mapT (P : Program) (n : Nat) (t : TypeId) : Bool := match underT P t with
  | none => false
  | some (.map _ e) => Nat.blt e n
  | some _ => true
noncomputable def mapsT (P : Program) (n : Nat) (k : Nat) : Bool := Nat.rec (motive := fun _ => Bool) true (fun i ih => mapT P n i && ih) k
theorem maps_at {n : Nat} : ∀ {k : Nat}, mapsT P n k = true → ∀ i, i < k → mapT P n i = true
  | 0, _, i, hi => absurd hi (by omega)
  | k + 1, h, i, hi => by
    have h : (mapT P n k && mapsT P n k) = true := h
    rw [Bool.and_eq_true] at h
    by_cases e : i = k
    · subst e; exact h.1
    · exact maps_at h.2 i (by omega)
theorem maps_of {n : Nat} (hn : Nat.beq P.types.size n = true) (h : mapsT P n n = true) : mapsRowed P = true := by
  have hn := Nat.eq_of_beq_eq_true hn
  unfold mapsRowed
  refine List.all_eq_true.mpr fun t ht => ?_
  rw [List.mem_range, hn] at ht
  have := maps_at h t ht
  unfold mapT at this
  split at this
  · cases this
  · rename_i e hu; rw [under_of hu, hn]; simpa using this
  · rename_i d hd hu
    rw [under_of hu]
    cases d with
    | map a b => exact absurd rfl (hd a b)
    | _ => rfl
end
end Go.Eng
