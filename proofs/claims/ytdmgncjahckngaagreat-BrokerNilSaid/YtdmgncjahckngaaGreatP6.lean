import Derived.Test.YtdmgncjahckngaaGreatP5
/-! Soundness, 6: the other operations without memory. -/
namespace Go.Eng
set_option linter.all false

section
variable {P : Program}

theorem sound_un (op : UnOp) (t : TypeId) (x : Operand) : SoundP P (.unOp op t x) (xUn op (gOf x).fn) := by
  intro π ts tmps v ht hf w oo ho
  have rx := gOf_rel ht x
  unfold xUn at hf
  simp only [execOp, ho]
  generalize (gOf x).fn ts = a at *
  generalize evT tmps x = vx at *
  cases rx <;> cases op <;> simp [unA] at hf
  · rw [retNot_eq] at hf; injection hf with hf; subst hf
    exact ⟨_, by simp [Op.unary], .bool _⟩
  · rw [subK_eq] at hf; injection hf with hf; subst hf
    exact ⟨_, by simp [Op.unary, Op.intArith], .int _ _⟩
  · rw [retRaw_eq] at hf; injection hf with hf; subst hf
    exact ⟨_, by simp [Op.unary, Op.intBits], .int _ _⟩

theorem sound_cint {s d : TypeId} {ds : TypeDesc} {k : IntKind} (hs : underT P s = some ds) (hd : underT P d = some (.int k)) (x : Operand) :
    SoundP P (.convert s d x) (xCint k (gOf x).fn) := by
  intro π ts tmps v ht hf w oo ho
  obtain ⟨k', n, hx, hf⟩ := onInt_ne (no := none) hf (by simp)
  have rx := gOf_rel ht x
  rw [hx] at rx
  rw [retInt_eq] at hf; injection hf with hf; subst hf
  exact ⟨_, by simp [execOp, ho, rx.int_inv, convert, run_under (under_of hs), run_under (under_of hd), Conv.intToInt], .int _ _⟩

theorem sound_cstr {s d : TypeId} (hs : underT P s = some .string) (hd : underT P d = some .string) (x : Operand) :
    SoundP P (.convert s d x) (xCstr (gOf x).fn) := by
  intro π ts tmps v ht hf w oo ho
  obtain ⟨s', hx, hf⟩ := onStr_ne (no := none) hf (by simp)
  injection hf with hf; subst hf
  have rx := gOf_rel ht x
  rw [hx] at rx
  obtain ⟨b, hb, rfl⟩ := rx.str_inv
  exact ⟨_, by simp [execOp, ho, hb, convert, run_under (under_of hs), run_under (under_of hd)], .str b⟩

theorem sound_mki {t : TypeId} {d : TypeDesc} (hd : underT P t = some d) (hi : ∀ ms, d ≠ .interface ms) (x : Operand) :
    SoundP P (.makeInterface t x) (xMki t (gOf x).fn) := by
  intro π ts tmps v ht hf w oo ho
  simp [xMki] at hf; subst hf
  refine ⟨.iface t (evT tmps x), ?_, .iface (gOf_rel ht x)⟩
  simp only [execOp, ho, Instr.makeInterface, Sem.run_bind, run_under (under_of hd), Result.andThen_ok]
  cases d <;> first | rfl | exact absurd rfl (hi _)

theorem sound_mkf (fn : Fn) (first captured : Array Operand) :
    SoundP P (.makeFunc fn first captured) (xMkf fn (first.toList.map fun x => (gOf x).fn) (captured.toList.map fun x => (gOf x).fn)) := by
  intro π ts tmps v ht hf w oo ho
  simp [xMkf] at hf; subst hf
  refine ⟨.func fn ⟨first.toList.map (evT tmps)⟩ ⟨captured.toList.map (evT tmps)⟩, ?_, .fn (by simpa using evalL_rel ht first.toList) (by simpa using evalL_rel ht captured.toList)⟩
  simp only [execOp, ho, Instr.makeFunc, Sem.run_bind, Sem.run_pure, Result.andThen_ok]
  congr 3 <;> exact Array.ext' (by simp)

/-! ### Slicing -/
section
variable {β : Type} {no r : β}
theorem bound_ne {x : AV} {y : Nat} {f : Nat → β} (h : bound no x y f = r) (hr : r ≠ no) : ∃ k m, x = .int k (.ofNat m) ∧ m ≤ y ∧ f m = r := by
  obtain ⟨k, n, hx, h⟩ := onInt_ne h hr
  cases n with
  | negSucc m => exact absurd h.symm hr
  | ofNat m =>
    obtain ⟨h1, h2⟩ := cond_ne h hr
    exact ⟨k, m, hx, Nat.le_of_ble_eq_true h1, by simpa using h2⟩
theorem boundO_ne {x : Option AV} {d y : Nat} {f : Nat → β} (h : boundO no x d y f = r) (hr : r ≠ no) :
    ∃ m, f m = r ∧ ((x = none ∧ m = d) ∨ (∃ k, x = some (.int k (.ofNat m)) ∧ m ≤ y)) := by
  cases x with
  | none => exact ⟨d, h, .inl ⟨rfl, rfl⟩⟩
  | some x =>
    obtain ⟨k, m, hx, h1, h2⟩ := bound_ne (no := no) h hr
    exact ⟨m, h2, .inr ⟨k, by rw [hx], h1⟩⟩
end
theorem evalOp_eq (x : Option Operand) (ts : Env) : evalOp (x.map fun x => (gOf x).fn) ts = x.map fun x => (gOf x).fn ts := by cases x <;> rfl

theorem run_sliceBound {k : IntKind} {m y : Nat} (h : m ≤ y) (code : BoundsCode) (w : World) : (Instr.sliceBound (.int k (.ofNat m)) y code).run P w = .ok m w := by
  have : (0 : Int) ≤ Int.ofNat m ∧ Int.ofNat m ≤ (y : Int) := ⟨by simp, by simpa using h⟩
  simp only [Instr.sliceBound, asIntOf, Sem.run_bind, Sem.run_pure, Result.andThen_ok]
  rw [if_pos this]; rfl

theorem run_sliceBound' {k : IntKind} {m y : Nat} (h : m ≤ y) (code : BoundsCode) (w : World) : (Instr.sliceBound (.int k (m : Int)) y code).run P w = .ok m w := run_sliceBound h code w

/-- Bounds, as they are found here and there. -/
theorem run_sliceBounds {π : Pi} {ts : Env} {tmps : Array Value} (ht : TRel π ts tmps) {lo hi : Option Operand} {len y cap : Nat} (hy : y ≤ cap)
    {f : Nat → Nat → Option AV} {v : AV}
    (h : (boundO none (evalOp (hi.map fun x => (gOf x).fn) ts) len y fun h => boundO none (evalOp (lo.map fun x => (gOf x).fn) ts) 0 h fun l => f l h) = some v) :
    ∃ l h, f l h = some v ∧ l ≤ h ∧ (h = len ∨ h ≤ y) ∧ ∀ b w, (Instr.sliceBounds b len cap (lo.map (evT tmps)) (hi.map (evT tmps)) none).run P w = .ok (l, h, cap) w := by
  obtain ⟨m, h, hm⟩ := boundO_ne h (by simp)
  obtain ⟨l, h, hl⟩ := boundO_ne h (by simp)
  rw [evalOp_eq] at hm hl
  have hle : l ≤ m := by rcases hl with ⟨_, rfl⟩ | ⟨_, _, h⟩; exact Nat.zero_le _; exact h
  refine ⟨l, m, h, hle, by rcases hm with ⟨_, rfl⟩ | ⟨_, _, h⟩; exact .inl rfl; exact .inr h, fun b w => ?_⟩
  have fact : ∀ (x : Operand) (k : IntKind) (m : Nat), (gOf x).fn ts = .int k (.ofNat m) → evT tmps x = .int k (.ofNat m) := fun x k m e => by
    have rx := gOf_rel ht x
    rw [e] at rx
    exact rx.int_inv
  cases hi with
  | none =>
    have hm' : m = len := by
      rcases hm with ⟨_, rfl⟩ | ⟨_, e, _⟩
      · rfl
      · simp at e
    subst hm'
    cases lo with
    | none =>
      have hl' : l = 0 := by
        rcases hl with ⟨_, rfl⟩ | ⟨_, e, _⟩
        · rfl
        · simp at e
      subst hl'
      simp [Instr.sliceBounds]
    | some x =>
      rcases hl with ⟨e, _⟩ | ⟨k, e, hlm⟩
      · simp at e
      · simp at e
        simp [Instr.sliceBounds, fact _ _ _ e, run_sliceBound' hlm]
  | some y' =>
    rcases hm with ⟨e, _⟩ | ⟨k, e, hmy⟩
    · simp at e
    · simp at e
      have hmc := Nat.le_trans hmy hy
      cases lo with
      | none =>
        have hl' : l = 0 := by
          rcases hl with ⟨_, rfl⟩ | ⟨_, e, _⟩
          · rfl
          · simp at e
        subst hl'
        simp [Instr.sliceBounds, fact _ _ _ e, run_sliceBound' hmc]
      | some x =>
        rcases hl with ⟨e2, _⟩ | ⟨k2, e2, hlm⟩
        · simp at e2
        · simp at e2
          simp [Instr.sliceBounds, fact _ _ _ e, run_sliceBound' hmc, fact _ _ _ e2, run_sliceBound' hlm]

theorem str_slice (s : ByteArray) (l h : Nat) : ((s.data.toList.map UInt8.toNat).drop l).take (h - l) = (s.extract l h).data.toList.map UInt8.toNat := by
  rw [ByteArray.data_extract, Array.toList_extract, List.extract_eq_drop_take, List.map_take, List.map_drop]

theorem sound_sls {t : TypeId} (hu : underT P t = some .string) (x : Operand) (lo hi : Option Operand) :
    SoundP P (.slice t x lo hi none) (xSls (gOf x).fn (lo.map fun x => (gOf x).fn) (hi.map fun x => (gOf x).fn)) := by
  intro π ts tmps v ht hf w oo ho
  obtain ⟨s, hx, hf⟩ := onStr_ne (no := none) hf (by simp)
  have rx := gOf_rel ht x
  rw [hx] at rx
  obtain ⟨b, hb, rfl⟩ := rx.str_inv
  obtain ⟨l, h, hv, hle, _, hrun⟩ := run_sliceBounds (P := P) ht (Nat.le_refl _) hf
  simp only [forceS_eq, Option.some.injEq] at hv
  subst hv
  refine ⟨.string (b.extract l h), ?_, str_rel π _ (str_slice b l h)⟩
  have hlen : (b.data.toList.map UInt8.toNat).length = b.size := by simp
  rw [hlen] at hrun
  simp [execOp, ho, Instr.sliceAt, Instr.slice, run_under (under_of hu), hb, hrun]

theorem add_eq (a : Addr) (hs : a.spot = none) (n : Nat) : a.add n = ⟨a.block, a.off + n, none⟩ := by
  unfold Addr.add
  split
  · rename_i h; subst h; cases a; simp_all
  · rfl

/-- What slicing comes to. -/
theorem sl1_rel {π : Pi} {z b o l h c : Nat} {cap : Cap} {i : Info} {v : AV} (hi : π b = some i) (hc : cap = .ex c ∨ (∃ z', cap = .gr z' ∧ i.base + o + c * z' ≤ i.ncells ∧ h ≤ c)) (hle : l ≤ h)
    (hv : sl1 z b o cap l h = some v) : VRel π v (.slice (some (if c = l then ⟨i.r, i.base + o, none⟩ else (⟨i.r, i.base + o, none⟩ : Addr).add (l * z))) (h - l) (c - l)) := by
  rw [add_eq _ rfl]
  rcases hc with rfl | ⟨z', rfl, hroom, hhc⟩
  · simp only [sl1, forceN_eq, Option.some.injEq] at hv
    subst hv
    by_cases e : c = l
    · subst e
      simp only [Nat.beq_refl, cond_true]
      simpa using VRel.slx hi
    · have : Nat.beq c l = false := by cases hb : Nat.beq c l with | false => rfl | true => exact absurd (beq_t hb) e
      rw [this, if_neg e]
      simp only [cond_false]
      have := VRel.slx (π := π) (b := b) (o := o + l * z) (n := h - l) (c := c - l) hi
      rw [← Nat.add_assoc] at this
      exact this
  · obtain ⟨hz, hv⟩ := cond_ne hv (by simp)
    have hz := beq_t hz
    subst hz
    by_cases e0 : l = 0
    · subst e0
      simp only [Nat.beq_refl, cond_true, Option.some.injEq] at hv
      subst hv
      have := VRel.slu (π := π) (b := b) (o := o) (n := h) (c := c) (z := z) hi hhc hroom
      simpa using this
    · have hb0 : Nat.beq l 0 = false := by cases hb : Nat.beq l 0 with | false => rfl | true => exact absurd (beq_t hb) e0
      simp only [hb0, cond_false] at hv
      by_cases e1 : l = h
      · subst e1
        simp only [Nat.beq_refl, cond_true, Option.some.injEq] at hv
        subst hv
        rw [Nat.sub_self]
        by_cases e : c = l
        · rw [if_pos e]
          refine .emp hi (by omega) ?_
          rw [e, Nat.sub_self]; omega
        · rw [if_neg e]
          refine .emp hi (show i.base ≤ i.base + o + l * z by omega) ?_
          have : l * z + (c - l) * z = c * z := by rw [← Nat.add_mul]; congr 1; omega
          show i.base + o + l * z + (c - l) * z ≤ i.ncells
          omega
      · have hb1 : Nat.beq l h = false := by cases hb : Nat.beq l h with | false => rfl | true => exact absurd (beq_t hb) e1
        simp only [hb1, cond_false, forceN_eq, Option.some.injEq] at hv
        subst hv
        have hcl : c ≠ l := by omega
        rw [if_neg hcl]
        have h2 : l * z + (c - l) * z = c * z := by rw [← Nat.add_mul]; congr 1; omega
        have := VRel.slu (π := π) (b := b) (o := o + l * z) (n := h - l) (c := c - l) (z := z) hi (by omega) (by rw [← Nat.add_assoc]; omega)
        rw [← Nat.add_assoc] at this
        exact this

theorem sound_slv {t e : TypeId} {z : Nat} (hu : underT P t = some (.slice e)) (hz : sizeT P e = some z) (x : Operand) (lo hi : Option Operand) :
    SoundP P (.slice t x lo hi none) (xSlv z (gOf x).fn (lo.map fun x => (gOf x).fn) (hi.map fun x => (gOf x).fn)) := by
  intro π ts tmps v ht hf w oo ho
  have rx := gOf_rel ht x
  unfold xSlv at hf
  have key : ∀ (a : Option Addr) (len cap l h : Nat), evT tmps x = .slice a len cap → (∀ b w, (Instr.sliceBounds b len cap (lo.map (evT tmps)) (hi.map (evT tmps)) none).run P w = .ok (l, h, cap) w) →
      (execOp (evT tmps) oo).run P w = .ok (.value (.slice (if cap = l then a else a.map (·.add (l * z))) (h - l) (cap - l))) w := by
    intro a len cap l h hx hb
    simp [execOp, ho, Instr.sliceAt, Instr.slice, run_under (under_of hu), hx, hb, run_size hz]
  generalize hg : (gOf x).fn ts = a at rx hf
  generalize hvx : evT tmps x = vx at rx key
  cases rx <;> simp only [slvA] at hf <;> try (simp at hf; done)
  · obtain ⟨l, h, hv, hle, hh, hrun⟩ := run_sliceBounds (P := P) ht (Nat.le_refl _) hf
    injection hv with hv; subst hv
    have h0 : h = 0 := by omega
    have l0 : l = 0 := by omega
    subst h0; subst l0
    exact ⟨_, key _ _ _ _ _ rfl hrun, .nils⟩
  · rename_i b o n c i hi2
    obtain ⟨l, h, hv, hle, hh, hrun⟩ := run_sliceBounds (P := P) ht (Nat.le_refl c) hf
    refine ⟨_, key _ _ _ _ _ rfl hrun, ?_⟩
    have := sl1_rel hi2 (.inl rfl) hle hv
    by_cases e : c = l
    · rw [if_pos e] at this ⊢; exact this
    · rw [if_neg e] at this ⊢; exact this
  · rename_i b o n c z' i hi2 hnc hroom
    obtain ⟨l, h, hv, hle, hh, hrun⟩ := run_sliceBounds (P := P) ht (y := n) (cap := c) hnc hf
    refine ⟨_, key _ _ _ _ _ rfl hrun, ?_⟩
    have := sl1_rel (c := c) hi2 (.inr ⟨z', rfl, hroom, by omega⟩) hle hv
    by_cases e : c = l
    · rw [if_pos e] at this ⊢; exact this
    · rw [if_neg e] at this ⊢; exact this
  · rename_i b off c z' i hi2 hbase hroom
    obtain ⟨hzz, hf⟩ := cond_ne hf (by simp)
    obtain ⟨l, h, hv, hle, hh, hrun⟩ := run_sliceBounds (P := P) ht (y := 0) (cap := c) (Nat.zero_le _) hf
    injection hv with hv; subst hv
    have h0 : h = 0 := by omega
    have l0 : l = 0 := by omega
    subst h0; subst l0
    refine ⟨_, key _ _ _ _ _ rfl hrun, ?_⟩
    have : (if c = 0 then some (⟨i.r, off, none⟩ : Addr) else (some (⟨i.r, off, none⟩ : Addr)).map (·.add (0 * z))) = some ⟨i.r, off, none⟩ := by
      split <;> simp [Addr.add]
    rw [this]
    exact .emp hi2 hbase hroom

theorem sound_sla {t e : TypeId} {n z : Nat} (hu : underT P t = some (.array n e)) (hz : sizeT P e = some z) (x : Operand) (lo hi : Option Operand) :
    SoundP P (.slice t x lo hi none) (xSla n z (gOf x).fn (lo.map fun x => (gOf x).fn) (hi.map fun x => (gOf x).fn)) := by
  intro π ts tmps v ht hf w oo ho
  obtain ⟨b, o, hx, hf⟩ := onPtr_ne (no := none) hf (by simp)
  have rx := gOf_rel ht x
  rw [hx] at rx
  obtain ⟨i, hi2, hv2⟩ := rx.ptr_inv
  obtain ⟨l, h, hv, hle, hh, hrun⟩ := run_sliceBounds (P := P) ht (Nat.le_refl n) hf
  refine ⟨_, ?_, sl1_rel (c := n) hi2 (.inl rfl) hle hv⟩
  simp [execOp, ho, Instr.sliceAt, run_under (under_of hu), hv2, Instr.sureAddr, hrun, run_size hz]

end
end Go.Eng
