import Derived.Test.YtdmgncjahckngaaGreatP6
/-! Soundness, 7: fields, indexes, lengths. -/
namespace Go.Eng
set_option linter.all false

section
variable {P : Program}

theorem fieldOf_eq {t : TypeId} {f : Nat} {fd : Field} (h : fieldOf P t f = some fd) : ∃ fs, P.underlying t = some (.struct fs) ∧ fs[f]? = some fd := by
  unfold fieldOf at h
  cases hu : underT P t with
  | none => simp [hu] at h
  | some d =>
    rw [hu] at h
    cases d <;> simp at h
    rename_i fs
    exact ⟨fs, under_of hu, by simpa using h⟩

theorem sound_fad {t : TypeId} {f z : Nat} {fd : Field} (hf : fieldOf P t f = some fd) (hz : sizeT P fd.type = some (z + 1)) (x : Operand) :
    SoundP P (.fieldAddr t x f) (xFad fd.offset (gOf x).fn) := by
  intro π ts tmps v ht hv w oo ho
  obtain ⟨fs, hu, hfd⟩ := fieldOf_eq hf
  obtain ⟨b, o, hx, hv⟩ := onPtr_ne (no := none) hv (by simp)
  simp only [forceN_eq, Option.some.injEq] at hv
  subst hv
  have rx := gOf_rel ht x
  rw [hx] at rx
  obtain ⟨i, hi, hv2⟩ := rx.ptr_inv
  refine ⟨.pointer (some ⟨i.r, i.base + o + fd.offset, none⟩), ?_, by rw [Nat.add_assoc]; exact .ptr hi⟩
  simp [execOp, ho, Instr.fieldAt, run_under hu, hfd, hv2, Instr.sureAddr, fieldPlace, run_size hz, add_eq]

theorem part_rel {π : Pi} {l : List AV} {l' : List Value} (h : VRels π l l') {t : TypeId} {a : Bool} {z off : Nat} {v : AV} (ha : aggT P t = some a) (hz : sizeT P t = some z)
    (hv : partA a z l off = some v) : ∃ v', (∀ w, (Go.part t ⟨l'⟩ off).run P w = .ok v' w) ∧ VRel π v v' := by
  cases a with
  | true =>
    simp [partA] at hv; subst hv
    refine ⟨.agg ⟨(l'.drop off).take z⟩, fun w => ?_, .agg ((h.drop off).take z)⟩
    simp [Go.part, run_agg ha, run_size hz, List.extract_eq_drop_take]
  | false =>
    simp [partA] at hv
    obtain ⟨v', h1, h2⟩ := h.get hv
    refine ⟨v', fun w => ?_, h2⟩
    simp [Go.part, run_agg ha, h1]

theorem sound_fld {t : TypeId} {f z : Nat} {a : Bool} {fd : Field} (hf : fieldOf P t f = some fd) (ha : aggT P fd.type = some a) (hz : sizeT P fd.type = some z) (x : Operand) :
    SoundP P (.field t x f) (xFld a z fd.offset (gOf x).fn) := by
  intro π ts tmps v ht hv w oo ho
  obtain ⟨fs, hu, hfd⟩ := fieldOf_eq hf
  obtain ⟨l, hx, hv⟩ := onAgg_ne (no := none) hv (by simp)
  have rx := gOf_rel ht x
  rw [hx] at rx
  obtain ⟨l', hl, hr⟩ := rx.agg_inv
  obtain ⟨v', h1, h2⟩ := part_rel hr ha hz hv
  refine ⟨v', ?_, h2⟩
  simp [execOp, ho, Instr.field, run_under hu, hfd, hl, asAgg, h1]

section
variable {β : Type} {no r : β}
theorem idx_ne {x : AV} {y : Nat} {f : Nat → β} (h : idx no x y f = r) (hr : r ≠ no) : ∃ k m, x = .int k (.ofNat m) ∧ m < y ∧ f m = r := by
  obtain ⟨k, n, hx, h⟩ := onInt_ne h hr
  cases n with
  | negSucc m => exact absurd h.symm hr
  | ofNat m =>
    obtain ⟨h1, h2⟩ := cond_ne h hr
    exact ⟨k, m, hx, by simpa using h1, h2⟩
end

theorem sound_ixa {t e : TypeId} {n z : Nat} (hu : underT P t = some (.array n e)) (hz : sizeT P e = some z) (x i : Operand) :
    SoundP P (.indexAddr t x i) (xIxa n z (gOf x).fn (gOf i).fn) := by
  intro π ts tmps v ht hv w oo ho
  obtain ⟨b, o, hx, hv⟩ := onPtr_ne (no := none) hv (by simp)
  obtain ⟨k, m, hi, hlt, hv⟩ := idx_ne hv (by simp)
  simp only [forceN_eq, Option.some.injEq] at hv
  subst hv
  have rx := gOf_rel ht x
  rw [hx] at rx
  obtain ⟨j, hj, hv2⟩ := rx.ptr_inv
  have ri := gOf_rel ht i
  rw [hi] at ri
  have hb : (0 : Int) ≤ Int.ofNat m ∧ Int.ofNat m < (n : Int) := ⟨by simp, by simpa using hlt⟩
  refine ⟨.pointer (some ⟨j.r, j.base + o + m * z, none⟩), ?_, by rw [Nat.add_assoc]; exact .ptr hj⟩
  simp only [execOp, ho, Instr.indexAt, ri.int_inv, hv2, asIntOf, Sem.run_bind, Sem.run_pure, Result.andThen_ok, run_under (under_of hu), Instr.sureAddr]
  rw [if_pos hb]
  simp [run_size hz, add_eq]

theorem sound_ixs {t e : TypeId} {z : Nat} (hu : underT P t = some (.slice e)) (hz : sizeT P e = some z) (x i : Operand) :
    SoundP P (.indexAddr t x i) (xIxs z (gOf x).fn (gOf i).fn) := by
  intro π ts tmps v ht hv w oo ho
  obtain ⟨b, o, n, c, hx, hv⟩ := onSl_ne (no := none) hv (by simp)
  obtain ⟨k, m, hi, hlt, hv⟩ := idx_ne hv (by simp)
  simp only [forceN_eq, Option.some.injEq] at hv
  subst hv
  have rx := gOf_rel ht x
  rw [hx] at rx
  obtain ⟨j, c', hj, hv2⟩ : ∃ j c', π b = some j ∧ evT tmps x = .slice (some ⟨j.r, j.base + o, none⟩) n c' := by
    generalize evT tmps x = vx at rx
    cases rx with
    | slx e => exact ⟨_, _, e, rfl⟩
    | slu e _ _ => exact ⟨_, _, e, rfl⟩
  have ri := gOf_rel ht i
  rw [hi] at ri
  have hb : (0 : Int) ≤ Int.ofNat m ∧ Int.ofNat m < (n : Int) := ⟨by simp, by simpa using hlt⟩
  refine ⟨.pointer (some ⟨j.r, j.base + o + m * z, none⟩), ?_, by rw [Nat.add_assoc]; exact .ptr hj⟩
  simp only [execOp, ho, Instr.indexAt, ri.int_inv, hv2, asIntOf, Sem.run_bind, Sem.run_pure, Result.andThen_ok, run_under (under_of hu)]
  rw [if_pos hb]
  simp [run_size hz, add_eq]

theorem sound_ixv {t e : TypeId} {n z : Nat} {a : Bool} (hu : underT P t = some (.array n e)) (ha : aggT P e = some a) (hz : sizeT P e = some z) (x i : Operand) :
    SoundP P (.index t x i) (xIxv a n z (gOf x).fn (gOf i).fn) := by
  intro π ts tmps v ht hv w oo ho
  obtain ⟨l, hx, hv⟩ := onAgg_ne (no := none) hv (by simp)
  obtain ⟨k, m, hi, hlt, hv⟩ := idx_ne hv (by simp)
  have rx := gOf_rel ht x
  rw [hx] at rx
  obtain ⟨l', hl, hr⟩ := rx.agg_inv
  have ri := gOf_rel ht i
  rw [hi] at ri
  obtain ⟨v', h1, h2⟩ := part_rel hr ha hz hv
  have hb : (0 : Int) ≤ Int.ofNat m ∧ Int.ofNat m < (n : Int) := ⟨by simp, by simpa using hlt⟩
  refine ⟨v', ?_, h2⟩
  simp only [execOp, ho, Instr.index, ri.int_inv, hl, asIntOf, Sem.run_bind, Sem.run_pure, Result.andThen_ok, run_under (under_of hu)]
  rw [if_pos hb]
  simp only [Sem.run_bind, run_size hz, Result.andThen_ok]
  have : (Int.ofNat m).toNat * z = Nat.mul m z := rfl
  rw [this, h1]
  rfl

theorem sound_ixt {t : TypeId} (hu : underT P t = some .string) (x i : Operand) : SoundP P (.index t x i) (xIxt (gOf x).fn (gOf i).fn) := by
  intro π ts tmps v ht hv w oo ho
  obtain ⟨s, hx, hv⟩ := onStr_ne (no := none) hv (by simp)
  obtain ⟨k, n, hi, hv⟩ := onInt_ne hv (by simp)
  have rx := gOf_rel ht x
  rw [hx] at rx
  obtain ⟨b, hb, rfl⟩ := rx.str_inv
  have ri := gOf_rel ht i
  rw [hi] at ri
  cases n with
  | negSucc m => simp at hv
  | ofNat m =>
    obtain ⟨c, hc, hv⟩ := onSome_ne (no := none) hv (by simp)
    injection hv with hv; subst hv
    rw [List.getElem?_map] at hc
    cases hq : b.data.toList[m]? with
    | none => simp [hq] at hc
    | some u =>
      simp [hq] at hc
      subst hc
      have hbm : b[m]? = some u := by
        have : m < b.data.size := by
          have := List.getElem?_eq_some_iff.mp hq
          simpa using this.1
        rw [show b[m]? = if h : m < b.size then some (b[m]'h) else none from rfl]
        rw [dif_pos (show m < b.size from this)]
        have := List.getElem?_eq_some_iff.mp hq
        obtain ⟨h1, h2⟩ := this
        congr 1
      refine ⟨.int .u8 (u.toNat : Int), ?_, .int _ _⟩
      simp only [execOp, ho, Instr.index, ri.int_inv, hb, asIntOf, Sem.run_bind, Sem.run_pure, Result.andThen_ok, run_under (under_of hu)]
      rw [if_pos (by simp)]
      rw [show b[(Int.ofNat m).toNat]? = some u from hbm]
      rfl

theorem sound_ext (x : Operand) (i : Nat) : SoundP P (.extract x i) (xExt (gOf x).fn i) := by
  intro π ts tmps v ht hv w oo ho
  obtain ⟨l, hx, hv⟩ := onTup_ne (no := none) hv (by simp)
  have rx := gOf_rel ht x
  rw [hx] at rx
  obtain ⟨l', hl, hr⟩ := rx.tup_inv
  obtain ⟨v', h1, h2⟩ := hr.get hv
  refine ⟨v', ?_, h2⟩
  simp [execOp, ho, Instr.extract, hl, h1]

/-! ### Builtins without memory -/
/-- A call of a builtin. -/
theorem exec_builtin {tmps : Array Value} {oo : Oper} {b : Builtin} {args : Array Operand} {ats : Array TypeId} (ho : oo.op = .call { callee := .builtin b, args, argTypes := ats }) (w : World) :
    ∃ cs, (execOp (evT tmps) oo).run P w = (builtin b ats oo.type cs (args.map (evT tmps))).run P w := by
  simp only [execOp, ho, resolve, invoke, Sem.run_bind, Sem.run_pure, Result.andThen_ok]
  exact ⟨_, rfl⟩

theorem sound_lens {t : TypeId} (hu : underT P t = some .string) (x : Operand) :
    SoundP P (.call { callee := .builtin .len, args := #[x], argTypes := #[t] }) (xLens (gOf x).fn) := by
  intro π ts tmps v ht hv w oo ho
  obtain ⟨s, hx, hv⟩ := onStr_ne (no := none) hv (by simp)
  simp only [forceN_eq, Option.some.injEq] at hv
  subst hv
  have rx := gOf_rel ht x
  rw [hx] at rx
  obtain ⟨b, hb, rfl⟩ := rx.str_inv
  refine ⟨.int .i64 (b.size : Int), ?_, ?_⟩
  · obtain ⟨cs, he⟩ := exec_builtin (P := P) (tmps := tmps) ho w; rw [he]; simp [builtin, Builtin.len_, run_under (under_of hu), hb, goInt]
  · have : (b.data.toList.map UInt8.toNat).length = b.size := by simp
    rw [this]; exact .int _ _

theorem sound_lenc_array {t e : TypeId} {n : Nat} (hu : underT P t = some (.array n e)) (x : Operand) :
    SoundP P (.call { callee := .builtin .len, args := #[x], argTypes := #[t] }) (xLenc n) := by
  intro π ts tmps v ht hv w oo ho
  simp [xLenc] at hv; subst hv
  refine ⟨.int .i64 (n : Int), ?_, .int _ _⟩
  obtain ⟨cs, he⟩ := exec_builtin (P := P) (tmps := tmps) ho w; rw [he]; simp [builtin, Builtin.len_, run_under (under_of hu), goInt]
theorem sound_lenc_ptr {t a e : TypeId} {n : Nat} (hu : underT P t = some (.pointer a)) (hu2 : underT P a = some (.array n e)) (x : Operand) :
    SoundP P (.call { callee := .builtin .len, args := #[x], argTypes := #[t] }) (xLenc n) := by
  intro π ts tmps v ht hv w oo ho
  simp [xLenc] at hv; subst hv
  refine ⟨.int .i64 (n : Int), ?_, .int _ _⟩
  obtain ⟨cs, he⟩ := exec_builtin (P := P) (tmps := tmps) ho w; rw [he]; simp [builtin, Builtin.len_, run_under (under_of hu), run_under (under_of hu2), goInt]

theorem sound_lenv {t e : TypeId} (hu : underT P t = some (.slice e)) (x : Operand) :
    SoundP P (.call { callee := .builtin .len, args := #[x], argTypes := #[t] }) (xLenv (gOf x).fn) := by
  intro π ts tmps v ht hv w oo ho
  have rx := gOf_rel ht x
  unfold xLenv at hv
  obtain ⟨cs, he⟩ := exec_builtin (P := P) (tmps := tmps) ho w; rw [he]
  simp only [List.map_toArray, List.map_cons, List.map_nil, builtin, Builtin.len_]
  generalize (gOf x).fn ts = a at *
  generalize evT tmps x = vx at *
  cases rx <;> simp [lenvA] at hv <;> subst hv <;> exact ⟨_, by simp [run_under (under_of hu), goInt], .int _ _⟩

theorem sound_capv {t e : TypeId} (hu : underT P t = some (.slice e)) (x : Operand) :
    SoundP P (.call { callee := .builtin .cap, args := #[x], argTypes := #[t] }) (xCapv (gOf x).fn) := by
  intro π ts tmps v ht hv w oo ho
  have rx := gOf_rel ht x
  unfold xCapv at hv
  obtain ⟨cs, he⟩ := exec_builtin (P := P) (tmps := tmps) ho w; rw [he]
  simp only [List.map_toArray, List.map_cons, List.map_nil, builtin, Builtin.cap_]
  generalize (gOf x).fn ts = a at *
  generalize evT tmps x = vx at *
  cases rx <;> simp [capvA] at hv <;> subst hv <;> exact ⟨_, by simp [run_under (under_of hu), goInt], .int _ _⟩

theorem min_rel {π : Pi} : ∀ {l : List AV} {l' : List Value}, VRels π l l' → ∀ {a : AV} {a' : Value} {v : AV}, VRel π a a' → mnA l a = some v →
    ∃ v', (∀ w, (l'.foldlM Builtin.min2 a').run P w = .ok v' w) ∧ VRel π v v'
  | _, _, .nil, a, a', v, ha, hv => by
    have : some a = some v := hv
    injection this with this; subst this
    exact ⟨a', fun w => rfl, ha⟩
  | _, _, .cons (v := y) hy hl, a, a', v, ha, hv => by
    have hv : onInt none (fun k a => onInt none (fun _ b => mnA _ (.int k (cond (ltI b a) b a))) y) a = some v := hv
    obtain ⟨k, n, rfl, hv1⟩ := onInt_ne hv (by simp)
    obtain ⟨k', m, rfl, hv2⟩ := onInt_ne hv1 (by simp)
    obtain ⟨v', h1, h2⟩ := min_rel hl (a' := .int k (cond (ltI m n) m n)) (.int _ _) hv2
    refine ⟨v', fun w => ?_, h2⟩
    rw [ha.int_inv, hy.int_inv, List.foldlM_cons]
    simp only [Builtin.min2, Sem.run_bind, Sem.run_pure, Result.andThen_ok]
    have : (if m < n then m else n) = cond (ltI m n) m n := by rw [ltI_eq]; by_cases h : m < n <;> simp [h]
    rw [this]; exact h1 w
theorem max_rel {π : Pi} : ∀ {l : List AV} {l' : List Value}, VRels π l l' → ∀ {a : AV} {a' : Value} {v : AV}, VRel π a a' → mxA l a = some v →
    ∃ v', (∀ w, (l'.foldlM Builtin.max2 a').run P w = .ok v' w) ∧ VRel π v v'
  | _, _, .nil, a, a', v, ha, hv => by
    have : some a = some v := hv
    injection this with this; subst this
    exact ⟨a', fun w => rfl, ha⟩
  | _, _, .cons (v := y) hy hl, a, a', v, ha, hv => by
    have hv : onInt none (fun k a => onInt none (fun _ b => mxA _ (.int k (cond (ltI a b) b a))) y) a = some v := hv
    obtain ⟨k, n, rfl, hv1⟩ := onInt_ne hv (by simp)
    obtain ⟨k', m, rfl, hv2⟩ := onInt_ne hv1 (by simp)
    obtain ⟨v', h1, h2⟩ := max_rel hl (a' := .int k (cond (ltI n m) m n)) (.int _ _) hv2
    refine ⟨v', fun w => ?_, h2⟩
    rw [ha.int_inv, hy.int_inv, List.foldlM_cons]
    simp only [Builtin.max2, Sem.run_bind, Sem.run_pure, Result.andThen_ok]
    have : (if m > n then m else n) = cond (ltI n m) m n := by rw [ltI_eq]; by_cases h : n < m <;> simp [h]
    rw [this]; exact h1 w

theorem sound_mn {ats : Array TypeId} (x : Operand) (l : List Operand) :
    SoundP P (.call { callee := .builtin .min, args := ⟨x :: l⟩, argTypes := ats }) (xMn (gOf x).fn (l.map fun x => (gOf x).fn)) := by
  intro π ts tmps v ht hv w oo ho
  obtain ⟨v', h1, h2⟩ := min_rel (P := P) (evalL_rel ht l) (gOf_rel ht x) hv
  refine ⟨v', ?_, h2⟩
  obtain ⟨cs, he⟩ := exec_builtin (P := P) (tmps := tmps) ho w; rw [he]
  simp [builtin, Builtin.min_, h1]
theorem sound_mx {ats : Array TypeId} (x : Operand) (l : List Operand) :
    SoundP P (.call { callee := .builtin .max, args := ⟨x :: l⟩, argTypes := ats }) (xMx (gOf x).fn (l.map fun x => (gOf x).fn)) := by
  intro π ts tmps v ht hv w oo ho
  obtain ⟨v', h1, h2⟩ := max_rel (P := P) (evalL_rel ht l) (gOf_rel ht x) hv
  refine ⟨v', ?_, h2⟩
  obtain ⟨cs, he⟩ := exec_builtin (P := P) (tmps := tmps) ho w; rw [he]
  simp [builtin, Builtin.max_, h1]

end
end Go.Eng
