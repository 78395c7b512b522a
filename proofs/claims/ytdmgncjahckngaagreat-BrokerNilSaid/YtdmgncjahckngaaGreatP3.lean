import Derived.Test.YtdmgncjahckngaaGreatP2
import Derived.Laws.Sem
import Derived.KernelRfl
/-! Soundness, 3: operations without memory. -/
namespace Go.Eng
set_option linter.all false

section
variable {β : Type} {no r : β}
theorem onInt_ne {f : IntKind → Int → β} {x : AV} (h : onInt no f x = r) (hr : r ≠ no) : ∃ k n, x = .int k n ∧ f k n = r := by
  cases x <;> first | exact ⟨_, _, rfl, h⟩ | exact absurd h.symm hr
theorem onStr_ne {f : List Nat → β} {x : AV} (h : onStr no f x = r) (hr : r ≠ no) : ∃ s, x = .str s ∧ f s = r := by
  cases x <;> first | exact ⟨_, rfl, h⟩ | exact absurd h.symm hr
theorem onPtr_ne {f : Nat → Nat → β} {x : AV} (h : onPtr no f x = r) (hr : r ≠ no) : ∃ b o, x = .ptr b o ∧ f b o = r := by
  cases x <;> first | exact ⟨_, _, rfl, h⟩ | exact absurd h.symm hr
theorem onSl_ne {f : Nat → Nat → Nat → Cap → β} {x : AV} (h : onSl no f x = r) (hr : r ≠ no) : ∃ b o n c, x = .sl b o n c ∧ f b o n c = r := by
  cases x <;> first | exact ⟨_, _, _, _, rfl, h⟩ | exact absurd h.symm hr
theorem onAgg_ne {f : List AV → β} {x : AV} (h : onAgg no f x = r) (hr : r ≠ no) : ∃ l, x = .agg l ∧ f l = r := by
  cases x <;> first | exact ⟨_, rfl, h⟩ | exact absurd h.symm hr
theorem onTup_ne {f : List AV → β} {x : AV} (h : onTup no f x = r) (hr : r ≠ no) : ∃ l, x = .tup l ∧ f l = r := by
  cases x <;> first | exact ⟨_, rfl, h⟩ | exact absurd h.symm hr
theorem onBool_ne {f : Bool → β} {x : AV} (h : onBool no f x = r) (hr : r ≠ no) : ∃ b, x = .bool b ∧ f b = r := by
  cases x <;> first | exact ⟨_, rfl, h⟩ | exact absurd h.symm hr
theorem onSome_ne {α : Type} {f : α → β} {x : Option α} (h : onSome no f x = r) (hr : r ≠ no) : ∃ a, x = some a ∧ f a = r := by
  cases x <;> first | exact ⟨_, rfl, h⟩ | exact absurd h.symm hr
theorem cond_ne {b : Bool} {x : β} (h : cond b x no = r) (hr : r ≠ no) : b = true ∧ x = r := by
  cases b <;> first | exact ⟨rfl, h⟩ | exact absurd h.symm hr
theorem onCells_ne {f : Nat → Cells → TypeId → Bool → Nat → β} {x : Option AObj} (h : onCells no f x = r) (hr : r ≠ no) :
    ∃ n t e g fz, x = some (.cells n t e g fz) ∧ f n t e g fz = r := by
  cases x with
  | none => exact absurd h.symm hr
  | some o => cases o <;> first | exact ⟨_, _, _, _, _, rfl, h⟩ | exact absurd h.symm hr
end

/-! ### Operands -/
/-- An operand's value. -/
def evT (tmps : Array Value) : Operand → Value
  | .tmp t => tmps.getD t undef
  | .const v => v
  | .global g => .pointer (some ⟨g, 0, none⟩)
  | .func f => .func (.func f) #[] #[]

theorem rTab_eq : rTab = (List.range 255).map fun t => G.mk fun s => get2 s (pathOf t) := by kernel_rfl
theorem nth_map_range {α : Type} (d : α) (f : Nat → α) : ∀ (n k t : Nat), t < n → nth d ((List.range' k n).map f) t = f (k + t)
  | 0, _, _, h => absurd h (by omega)
  | n + 1, k, 0, _ => by rw [List.range'_succ]; rfl
  | n + 1, k, t + 1, h => by
    rw [List.range'_succ]
    show nth d ((List.range' (k + 1) n).map f) t = _
    rw [nth_map_range d f n (k + 1) t (by omega)]
    congr 1; omega
theorem nth_ge {α : Type} (d : α) : ∀ (l : List α) (t : Nat), l.length ≤ t → nth d l t = d
  | [], _, _ => rfl
  | _ :: _, 0, h => absurd h (by simp)
  | _ :: l, t + 1, h => nth_ge d l t (by simpa using h)
theorem gOf_tmp (t : Nat) (ht : t < 255) : gOf (.tmp t) = .mk fun s => get2 s (pathOf t) := by
  show nth (.mk (kst .any)) rTab t = _
  rw [rTab_eq, List.range_eq_range', nth_map_range _ _ _ _ _ ht]
  simp
theorem gOf_tmp_ge (t : Nat) (ht : 255 ≤ t) : gOf (.tmp t) = .mk (kst .any) := by
  show nth (.mk (kst .any)) rTab t = _
  exact nth_ge _ _ _ (by rw [rTab_eq]; simpa using ht)

theorem gOf_rel {π : Pi} {ts : Env} {tmps : Array Value} (h : TRel π ts tmps) (x : Operand) : VRel π ((gOf x).fn ts) (evT tmps x) := by
  cases x with
  | tmp t =>
    by_cases ht : t < 255
    · rw [gOf_tmp t ht]; exact h t ht
    · have ht2 : 255 ≤ t := Nat.le_of_not_lt ht
      rw [gOf_tmp_ge t ht2]; exact .any _
  | const v => exact ofV_rel π v
  | global g => exact .any _
  | func f => exact .fn .nil .nil

section
variable {β : Type}
theorem opd_eq (x : Operand) (k : (Env → AV) → β) : opd x k = k (gOf x).fn := by
  unfold opd G.fn
  cases gOf x; rfl
theorem opdO_eq (x : Option Operand) (k : Option (Env → AV) → β) : opdO x k = k (x.map fun x => (gOf x).fn) := by
  cases x with
  | none => rfl
  | some x => show opd x (fun g => k (some g)) = _; rw [opd_eq]; rfl
theorem opdL_eq (l : List Operand) : ∀ (k : List (Env → AV) → β), opdL l k = k (l.map fun x => (gOf x).fn) := by
  induction l with
  | nil => intro k; rfl
  | cons x l ih =>
    intro k
    show opd x (fun g => opdL l fun r => k (g :: r)) = _
    rw [opd_eq, ih]; rfl
end
theorem evalL_eq (l : List (Env → AV)) (ts : Env) : evalL l ts = l.map fun g => g ts := by
  induction l with
  | nil => rfl
  | cons g l ih => show g ts :: evalL l ts = _; rw [ih]; rfl
theorem evalL_rel {π : Pi} {ts : Env} {tmps : Array Value} (h : TRel π ts tmps) (l : List Operand) : VRels π (evalL (l.map fun x => (gOf x).fn) ts) (l.map (evT tmps)) := by
  rw [evalL_eq]
  induction l with
  | nil => exact .nil
  | cons x l ih => exact .cons (gOf_rel h x) ih

/-! ### Inversions of VRel -/
section
variable {π : Pi} {v : Value}
theorem VRel.int_inv {k : IntKind} {n : Int} (h : VRel π (.int k n) v) : v = .int k n := by cases h; rfl
theorem VRel.bool_inv {b : Bool} (h : VRel π (.bool b) v) : v = .bool b := by cases h; rfl
theorem VRel.str_inv {s : List Nat} (h : VRel π (.str s) v) : ∃ s' : ByteArray, v = .string s' ∧ s = s'.data.toList.map UInt8.toNat := by cases h; exact ⟨_, rfl, rfl⟩
theorem VRel.ptr_inv {b o : Nat} (h : VRel π (.ptr b o) v) : ∃ i, π b = some i ∧ v = .pointer (some ⟨i.r, i.base + o, none⟩) := by cases h; exact ⟨_, ‹_›, rfl⟩
theorem VRel.agg_inv {l : List AV} (h : VRel π (.agg l) v) : ∃ l', v = .agg ⟨l'⟩ ∧ VRels π l l' := by cases h; exact ⟨_, rfl, ‹_›⟩
theorem VRel.tup_inv {l : List AV} (h : VRel π (.tup l) v) : ∃ l', v = .tuple ⟨l'⟩ ∧ VRels π l l' := by cases h; exact ⟨_, rfl, ‹_›⟩
end

/-! ### The model's small steps -/
section
variable {P : Program} {w : World}
theorem run_under {t : TypeId} {d : TypeDesc} (h : P.underlying t = some d) : (underlying t).run P w = .ok d w := by simp [underlying, h]
theorem run_info {t : TypeId} {i : TypeInfo} (h : P.info? t = some i) : (typeInfo t).run P w = .ok i w := by simp [typeInfo, h]
theorem run_size {t : TypeId} {k : Nat} (h : sizeT P t = some k) : (sizeOf t).run P w = .ok k w := by
  obtain ⟨i, hi, rfl⟩ := size_of h
  simp [sizeOf, run_info hi]
theorem run_agg {t : TypeId} {b : Bool} (h : aggT P t = some b) : (isAgg t).run P w = .ok b w := by
  unfold aggT at h
  cases hu : underT P t with
  | none => simp [hu] at h
  | some d =>
    rw [hu] at h
    simp only [isAgg, Sem.run_bind, run_under (under_of hu), Result.andThen_ok]
    cases d <;> simp at h <;> subst h <;> rfl
end

/-- What an operation without memory comes to. -/
def SoundP (P : Program) (o : Op) (f : Env → Option AV) : Prop :=
  ∀ (π : Pi) (ts : Env) (tmps : Array Value) (v : AV), TRel π ts tmps → f ts = some v →
    ∀ (w : World) (oo : Oper), oo.op = o → ∃ v', (execOp (evT tmps) oo).run P w = .ok (.value v') w ∧ VRel π v v'

theorem SoundP.of {P : Program} {o : Op} {f : Env → Option AV} (s : (Operand → Value) → Sem Value)
    (hs : ∀ ρ (oo : Oper), oo.op = o → execOp ρ oo = (do pure (.value (← s ρ))))
    (h : ∀ (π : Pi) (ts : Env) (tmps : Array Value) (v : AV), TRel π ts tmps → f ts = some v → ∀ w, ∃ v', (s (evT tmps)).run P w = .ok v' w ∧ VRel π v v') : SoundP P o f := by
  intro π ts tmps v ht hf w oo ho
  obtain ⟨v', h1, h2⟩ := h π ts tmps v ht hf w
  exact ⟨v', by rw [hs _ _ ho]; simp [h1], h2⟩

theorem sound_pick (P : Program) (c a b : Operand) : SoundP P (.pick c a b) (xPick (gOf c).fn (gOf a).fn (gOf b).fn) := by
  intro π ts tmps v ht hf w oo ho
  obtain ⟨b', hb, hf⟩ := onBool_ne (no := none) hf (by simp)
  have hc := gOf_rel ht c
  rw [hb] at hc
  have hc := hc.bool_inv
  simp only [execOp, ho, Sem.run_bind, hc, asBool, Sem.run_pure, Result.andThen_ok]
  cases b' with
  | true => simp at hf; subst hf; exact ⟨_, rfl, gOf_rel ht a⟩
  | false => simp at hf; subst hf; exact ⟨_, rfl, gOf_rel ht b⟩

end Go.Eng
