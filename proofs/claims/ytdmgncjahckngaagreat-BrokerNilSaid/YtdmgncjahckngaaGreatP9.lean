import Derived.Test.YtdmgncjahckngaaGreatP8
/-! Soundness, 9: comparisons; structs and arrays put together. -/
namespace Go.Eng
set_option linter.all false

section
variable {P : Program}

theorem guard_iface (op : BinOp) (t : TypeId) (x y : Operand) (h : (isConstO x || isConstO y) = true) (w : World) : (eqGuard op t x y .nilIface .nilIface).run P w = .ok () w := by
  cases op <;> simp only [eqGuard] <;> first
    | rfl
    | (cases x <;> cases y <;> first | rfl | (simp [isConstO] at h))

theorem eqv_shape {π : Pi} {d : Nat} {t : TypeId} {x y : AV} {b : Bool} {x' y' : Value} (h : eqA P (d + 1) t x y = some b) (rx : VRel π x x') (ry : VRel π y y')
    {dd : TypeDesc} (hu : underT P t = some dd) (hi : ∀ k, dd ≠ .int k) (hs : dd ≠ .string) {ox oy : Operand} (ho : eqOk P t ox oy dd = true) (w : World) :
    (∀ op, (eqGuard op t ox oy x' y').run P w = .ok () w) ∧ binOp .eql t x' y' = (do pure (.bool (← Op.equal t x' y'))) ∧ binOp .neq t x' y' = (do pure (.bool (!(← Op.equal t x' y')))) := by
  rw [eqA_succ, hu] at h
  split at h
  · cases rx; cases ry; exact ⟨fun op => by cases op <;> rfl, rfl, rfl⟩
  · rename_i e; injection e with e; exact absurd e (hi _)
  · rename_i e; injection e with e; exact absurd e hs
  · cases rx; cases ry; exact ⟨fun op => by cases op <;> rfl, rfl, rfl⟩
  · cases rx; cases ry; exact ⟨fun op => by cases op <;> rfl, rfl, rfl⟩
  · cases rx; cases ry; exact ⟨fun op => by cases op <;> rfl, rfl, rfl⟩
  · obtain ⟨i, hi, rfl⟩ := rx.ptr_inv
    obtain ⟨j, hj, rfl⟩ := ry.ptr_inv
    exact ⟨fun op => by cases op <;> rfl, rfl, rfl⟩
  · rename_i e; injection e with e; subst e
    cases rx; cases ry
    exact ⟨fun op => guard_iface op t ox oy ho w, rfl, rfl⟩
  · cases rx; cases ry; exact ⟨fun op => by cases op <;> rfl, rfl, rfl⟩
  · cases rx; cases ry; exact ⟨fun op => by cases op <;> rfl, rfl, rfl⟩
  · rename_i e; injection e with e; subst e
    obtain ⟨xs', rfl, hx⟩ := rx.agg_inv
    obtain ⟨ys', rfl, hy⟩ := ry.agg_inv
    have hm : P.eqGuardType P.depth t = false := by simpa [eqOk] using ho
    exact ⟨fun op => run_eqGuard_agg w op t ox oy _ _ hm, rfl, rfl⟩
  · cases rx; cases ry; exact ⟨fun op => by cases op <;> rfl, rfl, rfl⟩
  · cases rx; cases ry <;> exact ⟨fun op => by cases op <;> rfl, rfl, rfl⟩
  · cases ry; cases rx <;> exact ⟨fun op => by cases op <;> rfl, rfl, rfl⟩
  · cases rx; cases ry <;> exact ⟨fun op => by cases op <;> rfl, rfl, rfl⟩
  · cases ry; cases rx <;> exact ⟨fun op => by cases op <;> rfl, rfl, rfl⟩
  · cases rx; cases ry; exact ⟨fun op => by cases op <;> rfl, rfl, rfl⟩
  · cases rx; cases ry; exact ⟨fun op => by cases op <;> rfl, rfl, rfl⟩
  · cases rx; cases ry; exact ⟨fun op => by cases op <;> rfl, rfl, rfl⟩
  · cases rx; cases ry; exact ⟨fun op => by cases op <;> rfl, rfl, rfl⟩
  · cases rx; cases ry; exact ⟨fun op => by cases op <;> rfl, rfl, rfl⟩
  · cases rx; cases ry; exact ⟨fun op => by cases op <;> rfl, rfl, rfl⟩
  · cases h

theorem sound_eqv {t yt : TypeId} {dd : TypeDesc} (hu : underT P t = some dd) (hi : ∀ k, dd ≠ .int k) (hs : dd ≠ .string) {x y : Operand} (ho : eqOk P t x y dd = true) (neg : Bool) :
    SoundP P (.binOp (if neg then .neq else .eql) t x y yt) (xEqv P t neg (gOf x).fn (gOf y).fn) := by
  intro π ts tmps v ht hv w oo hop
  obtain ⟨b, he, hv⟩ := onSome_ne (no := none) hv (by simp)
  have rx := gOf_rel ht x
  have ry := gOf_rel ht y
  have hr := eqA_rel 10000 t _ _ b _ _ he rx ry w
  obtain ⟨hg, h1, h2⟩ := eqv_shape (d := 9999) he rx ry hu hi hs ho w
  cases neg with
  | false =>
    simp only [cond_false, retBool_eq, Option.some.injEq] at hv
    subst hv
    refine ⟨.bool b, ?_, .bool b⟩
    simp only [execOp, hop, Sem.run_bind, hg, Result.andThen_ok, Bool.false_eq_true, if_false, h1, Op.equal, Op.maxDepth, hr, Sem.run_pure]
  | true =>
    simp only [cond_true, retNot_eq, Option.some.injEq] at hv
    subst hv
    refine ⟨.bool (!b), ?_, .bool _⟩
    simp only [execOp, hop, Sem.run_bind, hg, Result.andThen_ok, if_true, h2, Op.equal, Op.maxDepth, hr, Sem.run_pure]

/-! ### Building -/
theorem zeroCs_eq {t : TypeId} {cs : List AV} (h : zeroCs P t = some cs) :
    ∃ i z, P.info? t = some i ∧ i.zero = some z ∧ cs = (ofV z).cells ∧ cs.length = i.size ∧ cs.all plainAV = true ∧ z.cells.size = i.size ∧ ∀ π, VRels π cs z.cells.toList := by
  unfold zeroCs at h
  cases h1 : zeroT P t with
  | none => simp [h1] at h
  | some z =>
    cases h2 : sizeT P t with
    | none => simp [h1, h2] at h
    | some k =>
      simp only [h1, h2] at h
      split at h
      · rename_i hc
        injection h with h; subst h
        unfold zeroT at h1
        obtain ⟨i, hi, hk⟩ := size_of h2
        cases hT : infoT P t with
        | none => simp [hT] at h1
        | some j =>
          rw [hT] at h1
          have : j = i := by have := info_of hT; rw [hi] at this; injection this with this; exact this.symm
          subst this
          cases hz : j.zero with
          | none => simp [hz] at h1
          | some v =>
            simp [hz] at h1
            subst h1
            have hr : ∀ π, VRels π (ofV v).cells v.cells.toList := fun π => (ofV_rel π v).cells hc.2
            refine ⟨j, v, hi, hz, rfl, by rw [hc.1, hk], hc.2, ?_, hr⟩
            have := (hr (fun _ => none)).length
            rw [hc.1, ← hk] at this
            simpa using this.symm
      · cases h

theorem run_zero {t : TypeId} {i : TypeInfo} {z : Value} (h : P.info? t = some i) (hz : i.zero = some z) (w : World) : (zeroValue t).run P w = .ok z w := by
  simp [zeroValue, run_info h, hz]

theorem placed_get (cells : Array Value) (vs : List Value) (off : Nat) (h : off + vs.length ≤ cells.size) :
    ((vs.zipIdx.foldl (fun (cs : Array Value) (p : Value × Nat) => cs.setIfInBounds (off + p.2) p.1) cells)).toList = cells.toList.take off ++ vs ++ cells.toList.drop (off + vs.length) := by
  have key : ∀ (vs : List Value) (k : Nat) (cs : Array Value), off + k + vs.length ≤ cs.size →
      ((vs.zipIdx k).foldl (fun (cs : Array Value) (p : Value × Nat) => cs.setIfInBounds (off + p.2) p.1) cs).toList = cs.toList.take (off + k) ++ vs ++ cs.toList.drop (off + k + vs.length) := by
    intro vs
    induction vs with
    | nil => intro k cs _; simp
    | cons v vs ih =>
      intro k cs hk
      simp only [List.length_cons] at hk
      rw [List.zipIdx_cons, List.foldl_cons, ih (k + 1) _ (by simp; omega)]
      simp only [Array.toList_setIfInBounds, List.length_cons]
      have hlt : off + k < cs.toList.length := by simp; omega
      rw [show off + (k + 1) = off + k + 1 by omega]
      rw [List.take_succ, List.getElem?_set_self hlt, List.take_set_of_le (by omega), List.drop_set_of_lt (by omega)]
      simp [Nat.add_assoc, Nat.add_comm 1]
  have := key vs 0 cells (by simpa using h)
  simpa using this

/-- The compiled parts are the parts. -/
inductive Parts (place : Nat → Option (Nat × Nat)) : List (Nat × Operand) → List (Nat × Nat × (Env → AV)) → Prop
  | nil : Parts place [] []
  | cons {p : Nat × Operand} {q : Nat × Nat × (Env → AV)} {l : List (Nat × Operand)} {m : List (Nat × Nat × (Env → AV))} :
      (place p.1 = some (q.1, q.2.1) ∧ q.2.2 = (gOf p.2).fn) → Parts place l m → Parts place (p :: l) (q :: m)

theorem fill_rel {π : Pi} {ts : Env} {tmps : Array Value} (ht : TRel π ts tmps) {place : Nat → Option (Nat × Nat)} :
    ∀ (parts : List (Nat × Operand)) (l : List (Nat × Nat × (Env → AV))),
    Parts place parts l →
    ∀ (cells : List AV) (cells' : Array Value) (out : List AV), VRels π cells cells'.toList → fillA ts l cells = some out →
    ∃ out', Instr.fill place cells' (parts.map fun (p : Nat × Operand) => (p.1, evT tmps p.2)) = some out' ∧ VRels π out out'.toList
  | [], [], _, cells, cells', out, hc, h => by
    have : some cells = some out := h
    injection this with this; subst this
    exact ⟨cells', rfl, hc⟩
  | p :: parts, q :: l, .cons hpq hrest, cells, cells', out, hc, h => by
    have h : onSome none (fillA ts l) (fill1 cells q.1 q.2.1 (q.2.2 ts)) = some out := h
    obtain ⟨c1, h1, h2⟩ := onSome_ne h (by simp)
    obtain ⟨hlen, h1⟩ := cond_ne h1 (by simp)
    obtain ⟨hle, h1⟩ := cond_ne h1 (by simp)
    obtain ⟨hplain, h1⟩ := cond_ne h1 (by simp)
    injection h1 with h1
    have hlen := beq_t hlen
    have hle := Nat.le_of_ble_eq_true hle
    obtain ⟨hp, hq⟩ := hpq
    rw [hq] at hlen hplain h1
    have rv := (gOf_rel ht p.2).cells hplain
    have hvl : (evT tmps p.2).cells.size = q.2.1 := by
      have := rv.length
      rw [hlen] at this
      simpa using this.symm
    have hcl := hc.length
    have hle' : q.1 + (evT tmps p.2).cells.size ≤ cells'.size := by
      rw [hvl]; have : q.1 + q.2.1 ≤ cells.length := hle
      rw [hcl] at this; simpa using this
    have hpl := placed_get cells' (evT tmps p.2).cells.toList q.1 (by simpa using hle')
    have hnew : VRels π c1 ((evT tmps p.2).cells.zipIdx.foldl (fun (cs : Array Value) (p : Value × Nat) => cs.setIfInBounds (q.1 + p.2) p.1) cells').toList := by
      have e : (evT tmps p.2).cells.zipIdx.foldl (fun (cs : Array Value) (p : Value × Nat) => cs.setIfInBounds (q.1 + p.2) p.1) cells' =
          (evT tmps p.2).cells.toList.zipIdx.foldl (fun (cs : Array Value) (p : Value × Nat) => cs.setIfInBounds (q.1 + p.2) p.1) cells' := by
        rw [← Array.foldl_toList, Array.toList_zipIdx]
      rw [e, hpl, ← h1]
      have hvl' : (evT tmps p.2).cells.toList.length = q.2.1 := by simpa using hvl
      rw [hvl']
      exact VRels.append (hc.drop _) (VRels.append rv (hc.take _))
    obtain ⟨out', ho, hr⟩ := fill_rel ht parts l hrest _ _ _ hnew h2
    refine ⟨out', ?_, hr⟩
    simp only [List.map_cons, Instr.fill, hp]
    have hcond : ((evT tmps p.2).cells.size ≠ q.2.1 || q.1 + (evT tmps p.2).cells.size > cells'.size) = false := by
      simp [hvl]; have := hle'; rw [hvl] at this; omega
    simp only [hcond]
    exact ho

end
end Go.Eng
