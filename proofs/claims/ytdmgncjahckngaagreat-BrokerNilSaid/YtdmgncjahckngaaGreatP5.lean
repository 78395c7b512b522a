import Derived.Test.YtdmgncjahckngaaGreatP4
/-! Soundness, 5: operations without memory, one by one. -/
namespace Go.Eng
set_option linter.all false

section
variable {P : Program}

/-! ### Binary operations on numbers and strings -/
theorem eqGuard_int (op : BinOp) (t : TypeId) (x y : Operand) (k k' : IntKind) (a b : Int) (w : World) : (eqGuard op t x y (.int k a) (.int k' b)).run P w = .ok () w := by
  cases op <;> simp [eqGuard]
theorem eqGuard_str (op : BinOp) (t : TypeId) (x y : Operand) (a b : ByteArray) (w : World) : (eqGuard op t x y (.string a) (.string b)).run P w = .ok () w := by
  cases op <;> simp [eqGuard]

/-- What a function of two numbers of a kind stands for. -/
def SaysI (P : Program) (op : BinOp) (f : IntKind → Int → Int → Option AV) : Prop :=
  ∀ k a b v, f k a b = some v → ∀ (t : TypeId) w, ∃ v', (binOp op t (.int k a) (.int k b)).run P w = .ok v' w ∧ ∀ π, VRel π v v'

theorem says_add : SaysI P .add addK := by
  intro k a b v h t w; rw [addK_eq] at h; injection h with h; subst h
  exact ⟨_, by simp [binOp, Op.intArith], fun π => .int _ _⟩
theorem says_sub : SaysI P .sub subK := by
  intro k a b v h t w; rw [subK_eq] at h; injection h with h; subst h
  exact ⟨_, by simp [binOp, Op.intArith], fun π => .int _ _⟩
theorem says_mul : SaysI P .mul mulK := by
  intro k a b v h t w; rw [mulK_eq] at h; injection h with h; subst h
  exact ⟨_, by simp [binOp, Op.intArith], fun π => .int _ _⟩
theorem says_quo : SaysI P .quo quoK := by
  intro k a b v h t w; rw [quoK_eq] at h
  split at h
  · cases h
  · rename_i hb; injection h with h; subst h
    exact ⟨_, by simp [binOp, Op.intDiv, hb], fun π => .int _ _⟩
theorem says_rem : SaysI P .rem remK := by
  intro k a b v h t w; rw [remK_eq] at h
  split at h
  · cases h
  · rename_i hb; injection h with h; subst h
    exact ⟨_, by simp [binOp, Op.intDiv, hb], fun π => .int _ _⟩
theorem says_and : SaysI P .and andK := by
  intro k a b v h t w; rw [andK_eq] at h; injection h with h; subst h
  exact ⟨_, by simp [binOp, Op.intBits], fun π => .int _ _⟩
theorem says_or : SaysI P .or orK := by
  intro k a b v h t w; rw [orK_eq] at h; injection h with h; subst h
  exact ⟨_, by simp [binOp, Op.intBits], fun π => .int _ _⟩
theorem says_xor : SaysI P .xor xorK := by
  intro k a b v h t w; rw [xorK_eq] at h; injection h with h; subst h
  exact ⟨_, by simp [binOp, Op.intBits], fun π => .int _ _⟩
theorem says_andNot : SaysI P .andNot andNotK := by
  intro k a b v h t w; unfold andNotK at h; rw [retRaw_eq] at h; injection h with h; subst h
  exact ⟨_, by simp [binOp, Op.intBits], fun π => .int _ _⟩
theorem says_eql : SaysI P .eql eqlK := by
  intro k a b v h t w; unfold eqlK at h; rw [retBool_eq, eqI_eq] at h; injection h with h; subst h
  exact ⟨_, by simp [binOp, Op.intCmp], fun π => .bool _⟩
theorem says_neq : SaysI P .neq neqK := by
  intro k a b v h t w; unfold neqK at h; rw [retNot_eq, eqI_eq] at h; injection h with h; subst h
  exact ⟨.bool (a != b), by simp [binOp, Op.intCmp], fun π => .bool _⟩
theorem says_lss : SaysI P .lss lssK := by
  intro k a b v h t w; unfold lssK at h; rw [retBool_eq, ltI_eq] at h; injection h with h; subst h
  exact ⟨_, by simp [binOp, Op.intCmp], fun π => .bool _⟩
theorem says_gtr : SaysI P .gtr gtrK := by
  intro k a b v h t w; unfold gtrK at h; rw [retBool_eq, ltI_eq] at h; injection h with h; subst h
  exact ⟨_, by simp [binOp, Op.intCmp], fun π => .bool _⟩
theorem says_leq : SaysI P .leq leqK := by
  intro k a b v h t w; unfold leqK at h; rw [retNot_eq, ltI_eq] at h; injection h with h; subst h
  refine ⟨.bool (decide (a ≤ b)), by simp [binOp, Op.intCmp], fun π => ?_⟩
  have : (!decide (b < a)) = decide (a ≤ b) := by rw [Bool.eq_iff_iff]; simp
  rw [this]; exact .bool _
theorem says_geq : SaysI P .geq geqK := by
  intro k a b v h t w; unfold geqK at h; rw [retNot_eq, ltI_eq] at h; injection h with h; subst h
  refine ⟨.bool (decide (a ≥ b)), by simp [binOp, Op.intCmp], fun π => ?_⟩
  have : (!decide (a < b)) = decide (a ≥ b) := by rw [Bool.eq_iff_iff]; simp
  rw [this]; exact .bool _

theorem sound_bini {op : BinOp} {f : IntKind → Int → Int → Option AV} (hs : SaysI P op f) (t yt : TypeId) (x y : Operand) :
    SoundP P (.binOp op t x y yt) (xBini f (gOf x).fn (gOf y).fn) := by
  intro π ts tmps v ht hf w oo ho
  obtain ⟨k, a, hx, hf⟩ := onInt_ne (no := none) hf (by simp)
  obtain ⟨k', b, hy, hf⟩ := onInt_ne (no := none) hf (by simp)
  obtain ⟨hk, hf3⟩ := cond_ne hf (by simp)
  have hk2 := kidx_inj (beq_t hk)
  subst hk2
  have rx := gOf_rel ht x
  have ry := gOf_rel ht y
  rw [hx] at rx; rw [hy] at ry
  obtain ⟨v', h1, h2⟩ := hs k a b v hf3 t w
  refine ⟨v', ?_, h2 π⟩
  simp only [execOp, ho, rx.int_inv, ry.int_inv, Sem.run_bind, eqGuard_int, Result.andThen_ok, h1, Sem.run_pure]
theorem onSym_ne {β : Type} {no r : β} {f : Nat → Option IntKind → β} {x : AV} (h : onSym no f x = r) (hr : r ≠ no) : ∃ b t, x = .sym b t ∧ f b t = r := by
  cases x <;> first | exact ⟨_, _, rfl, h⟩ | exact absurd h.symm hr
theorem eql_self (k : IntKind) (a : Int) : eqlK k a a = some (.bool true) := by unfold eqlK; rw [retBool_eq, eqI_eq]; simp
theorem neq_self (k : IntKind) (a : Int) : neqK k a a = some (.bool false) := by unfold neqK; rw [retNot_eq, eqI_eq]; simp
theorem sound_eqi {op : BinOp} {f : IntKind → Int → Int → Option AV} {r : AV} (hs : SaysI P op f) (hr : ∀ k a, f k a a = some r) (t yt : TypeId) (x y : Operand) :
    SoundP P (.binOp op t x y yt) (xEqi f r (gOf x).fn (gOf y).fn) := by
  intro π ts tmps v ht hf w oo ho
  by_cases hsym : ∃ b u, (gOf x).fn ts = .sym b u
  · obtain ⟨b, u, hx⟩ := hsym
    unfold xEqi at hf
    rw [hx] at hf
    replace hf : onSym none (fun b' _ => cond (Nat.beq b b') (Option.rec (motive := fun _ => Option AV) none (fun _ => some r) u) none) ((gOf y).fn ts) = some v := hf
    replace hf := onSym_ne hf (by simp)
    obtain ⟨b', u', hy, hf⟩ := hf
    replace hf := cond_ne hf (by simp)
    obtain ⟨hb, hf⟩ := hf
    have hb2 := beq_t hb
    subst hb2
    clear hb
    cases u with
    | none => cases hf
    | some k =>
      injection hf with hf
      have rx := gOf_rel ht x
      have ry := gOf_rel ht y
      rw [hx] at rx; rw [hy] at ry
      generalize ex : evT tmps x = vx at rx
      generalize ey : evT tmps y = vy at ry
      cases rx with
      | sym e1 o1 k1 =>
        rename_i i1
        cases ry with
        | sym e2 o2 k2 =>
          rename_i i2
          rw [e1] at e2; injection e2 with e2; subst e2
          obtain ⟨n, hn⟩ := k1 k rfl
          obtain ⟨v', h1, h2⟩ := hs k n n v (by rw [hr, hf]) t w
          refine ⟨v', ?_, h2 π⟩
          rw [hn] at ex ey
          simp only [execOp, ho, ex, ey, Sem.run_bind, eqGuard_int, Result.andThen_ok, h1, Sem.run_pure]
  · have hf : xBini f (gOf x).fn (gOf y).fn ts = some v := by
      unfold xEqi at hf
      generalize (gOf x).fn ts = vx at *
      cases vx <;> first | exact hf | exact absurd ⟨_, _, rfl⟩ hsym
    exact sound_bini hs t yt x y π ts tmps v ht hf w oo ho
theorem sound_shl (t yt : TypeId) (x y : Operand) : SoundP P (.binOp .shl t x y yt) (xShift shlK (gOf x).fn (gOf y).fn) := by
  intro π ts tmps v ht hf w oo ho
  obtain ⟨k, a, hx, hf⟩ := onInt_ne (no := none) hf (by simp)
  obtain ⟨k', b, hy, hf⟩ := onInt_ne (no := none) hf (by simp)
  have rx := gOf_rel ht x
  have ry := gOf_rel ht y
  rw [hx] at rx; rw [hy] at ry
  obtain ⟨hb, rfl⟩ := shlK_eq _ _ _ hf
  refine ⟨_, ?_, .int _ _⟩
  have : ¬ b < 0 := by omega
  simp [execOp, ho, rx.int_inv, ry.int_inv, eqGuard_int, binOp, Op.shift, this]
theorem sound_shr (t yt : TypeId) (x y : Operand) : SoundP P (.binOp .shr t x y yt) (xShift shrK (gOf x).fn (gOf y).fn) := by
  intro π ts tmps v ht hf w oo ho
  obtain ⟨k, a, hx, hf⟩ := onInt_ne (no := none) hf (by simp)
  obtain ⟨k', b, hy, hf⟩ := onInt_ne (no := none) hf (by simp)
  have rx := gOf_rel ht x
  have ry := gOf_rel ht y
  rw [hx] at rx; rw [hy] at ry
  obtain ⟨hb, rfl⟩ := shrK_eq _ _ _ hf
  refine ⟨_, ?_, .int _ _⟩
  have : ¬ b < 0 := by omega
  simp [execOp, ho, rx.int_inv, ry.int_inv, eqGuard_int, binOp, Op.shift, this]

def SaysS (P : Program) (op : BinOp) (f : List Nat → List Nat → Option AV) : Prop :=
  ∀ (a b : ByteArray) v, f (a.data.toList.map UInt8.toNat) (b.data.toList.map UInt8.toNat) = some v → ∀ (t : TypeId) w, ∃ v', (binOp op t (.string a) (.string b)).run P w = .ok v' w ∧ ∀ π, VRel π v v'

theorem saysS_eql : SaysS P .eql eqlS := by
  intro a b v h t w; unfold eqlS at h; rw [retBool_eq, beqS_eq, nats_beq] at h; injection h with h; subst h
  exact ⟨_, by simp [binOp, Op.stringOp, toList_eq], fun π => .bool _⟩
theorem saysS_neq : SaysS P .neq neqS := by
  intro a b v h t w; unfold neqS at h; rw [retNot_eq, beqS_eq, nats_beq] at h; injection h with h; subst h
  exact ⟨_, by simp [binOp, Op.stringOp, toList_eq], fun π => .bool _⟩
theorem saysS_lss : SaysS P .lss lssS := by
  intro a b v h t w; unfold lssS at h; rw [retBool_eq, ltS_eq] at h; injection h with h; subst h
  exact ⟨_, by simp [binOp, Op.stringOp, toList_eq], fun π => .bool _⟩
theorem saysS_geq : SaysS P .geq geqS := by
  intro a b v h t w; unfold geqS at h; rw [retNot_eq, ltS_eq] at h; injection h with h; subst h
  exact ⟨_, by simp [binOp, Op.stringOp, toList_eq], fun π => .bool _⟩
theorem cond_or (a b : Bool) : cond a true b = (a || b) := by cases a <;> rfl
theorem saysS_leq : SaysS P .leq leqS := by
  intro a b v h t w; unfold leqS at h; rw [retBool_eq, cond_or, beqS_eq, nats_beq, ltS_eq] at h; injection h with h; subst h
  exact ⟨_, by simp [binOp, Op.stringOp, toList_eq], fun π => .bool _⟩
theorem saysS_gtr : SaysS P .gtr gtrS := by
  intro a b v h t w; unfold gtrS at h; rw [retNot_eq, cond_or, beqS_eq, nats_beq, ltS_eq] at h; injection h with h; subst h
  exact ⟨_, by simp [binOp, Op.stringOp, toList_eq], fun π => .bool _⟩
theorem str_rel (π : Pi) (s : ByteArray) {l : List Nat} (h : l = s.data.toList.map UInt8.toNat) : VRel π (.str l) (.string s) := by subst h; exact .str s
theorem saysS_add : SaysS P .add addS := by
  intro a b v h t w
  obtain ⟨hl, h⟩ := cond_ne h (by simp)
  simp only [forceS_eq, Option.some.injEq] at h
  subst h
  have hl : a.size + b.size ≤ 1000000 := by
    have := Nat.le_of_ble_eq_true hl
    simp only [List.length_map, Array.length_toList] at this
    exact this
  refine ⟨.string (a ++ b), ?_, fun π => str_rel π _ ?_⟩
  · have hm : IntKind.i64.max = 9223372036854775807 := by decide
    have : ¬ ((a.size + b.size : Nat) : Int) > IntKind.i64.max := by rw [hm]; omega
    have e : binOp .add t (.string a) (.string b) = if ((a.size + b.size : Nat) : Int) > IntKind.i64.max then unsupported (.resourceLimit "string concatenation: a sum of the lengths that is no int") else pure (.string (a ++ b)) := rfl
    rw [e, if_neg this]; rfl
  · rw [appS_eq]; simp

theorem sound_bins {op : BinOp} {f : List Nat → List Nat → Option AV} (hs : SaysS P op f) (t yt : TypeId) (x y : Operand) :
    SoundP P (.binOp op t x y yt) (xBins f (gOf x).fn (gOf y).fn) := by
  intro π ts tmps v ht hf w oo ho
  obtain ⟨a, hx, hf⟩ := onStr_ne (no := none) hf (by simp)
  obtain ⟨b, hy, hf⟩ := onStr_ne (no := none) hf (by simp)
  have rx := gOf_rel ht x
  have ry := gOf_rel ht y
  rw [hx] at rx; rw [hy] at ry
  obtain ⟨a', rx2, rfl⟩ := rx.str_inv
  obtain ⟨b', ry2, rfl⟩ := ry.str_inv
  obtain ⟨v', h1, h2⟩ := hs a' b' v hf t w
  refine ⟨v', ?_, h2 π⟩
  simp only [execOp, ho, rx2, ry2, Sem.run_bind, eqGuard_str, Result.andThen_ok, h1, Sem.run_pure]

/-! ### Moves, conversions, fields, indexes -/
theorem sound_nilc (x : Operand) : SoundP P (.nilCheck x) (xNilc (gOf x).fn) := by
  intro π ts tmps v ht hf w oo ho
  have rx := gOf_rel ht x
  unfold xNilc at hf
  simp only [execOp, ho]
  generalize (gOf x).fn ts = a at *
  generalize evT tmps x = vx at *
  cases rx with
  | ptr e => simp [nilcA] at hf; subst hf; exact ⟨_, rfl, .ptr e⟩
  | yld e => simp [nilcA] at hf; subst hf; exact ⟨_, rfl, .yld e⟩
  | @fn f _ _ _ _ h1 h2 =>
    cases f <;> simp [nilcA] at hf
    subst hf
    exact ⟨_, rfl, .fn h1 h2⟩
  | _ => simp [nilcA] at hf

end
end Go.Eng
