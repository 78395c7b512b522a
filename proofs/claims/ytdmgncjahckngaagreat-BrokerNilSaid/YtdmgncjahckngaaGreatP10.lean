import Derived.Test.YtdmgncjahckngaaGreatP9
/-! Soundness, 10: building; what every operation without memory comes to; those that make a block. -/
namespace Go.Eng
set_option linter.all false

section
variable {P : Program}

/-- The place of a field. -/
noncomputable def placeOf (P : Program) (fs : List Field) (i : Nat) : Option (Nat × Nat) := (fs[i]?).bind fun f => (sizeT P f.type).map fun z => (f.offset, z)

theorem run_places : ∀ (fs : List Field), sized P fs = true → ∀ w, ∃ l : List (Nat × Nat), ((fs.mapM fun f => do pure (f.offset, ← sizeOf f.type)) : Sem (List (Nat × Nat))).run P w = .ok l w ∧ ∀ i : Nat, l[i]? = placeOf P fs i
  | [], _, w => ⟨[], by simp, fun i => by simp [placeOf]⟩
  | f :: fs, h, w => by
    simp only [sized, Bool.and_eq_true] at h
    obtain ⟨h1, h2⟩ := h
    obtain ⟨z, hz⟩ := Option.isSome_iff_exists.mp h1
    obtain ⟨l, hl, hg⟩ := run_places fs h2 w
    refine ⟨(f.offset, z) :: l, ?_, fun i => ?_⟩
    · rw [List.mapM_cons]
      simp only [Sem.run_bind, run_size hz, Sem.run_pure, Result.andThen_ok]
      rw [hl]; rfl
    · cases i with
      | zero => simp [placeOf, hz]
      | succ i => simpa [placeOf] using hg i

theorem placesS_eq {β : Type} {no r : β} (fs : List Field) : ∀ (parts : List (Nat × Operand)) (k : List (Nat × Nat × (Env → AV)) → β), placesS P no fs parts k = r → r ≠ no →
    ∃ l, Parts (placeOf P fs) parts l ∧ k l = r
  | [], k, h, _ => ⟨[], .nil, h⟩
  | (i, x) :: parts, k, h, hr => by
    unfold placesS at h
    cases hf : fs[i]? with
    | none => simp [hf] at h; exact absurd h.symm hr
    | some f =>
      simp only [hf] at h
      cases hz : sizeT P f.type with
      | none => simp [hz] at h; exact absurd h.symm hr
      | some z =>
        simp only [hz, opd_eq] at h
        obtain ⟨l, hl, hk⟩ := placesS_eq fs parts _ h hr
        exact ⟨_, .cons ⟨by simp [placeOf, hf, hz], rfl⟩ hl, hk⟩
theorem placesA_eq {β : Type} (z : Nat) : ∀ (parts : List (Nat × Operand)) (k : List (Nat × Nat × (Env → AV)) → β),
    ∃ l, Parts (fun i => some (i * z, z)) parts l ∧ placesA z parts k = k l
  | [], k => ⟨[], .nil, rfl⟩
  | (i, x) :: parts, k => by
    obtain ⟨l, hl, hk⟩ := placesA_eq z parts fun r => k ((i * z, z, (gOf x).fn) :: r)
    refine ⟨_, .cons (q := (i * z, z, (gOf x).fn)) ⟨rfl, rfl⟩ hl, ?_⟩
    unfold placesA
    rw [opd_eq, hk]

theorem parts_map (tmps : Array Value) (parts : Array (Nat × Operand)) : (parts.map fun (i, x) => (i, evT tmps x)).toList = parts.toList.map fun (p : Nat × Operand) => (p.1, evT tmps p.2) := by
  simp

theorem sound_build_struct {t : TypeId} {zero : List AV} {fs : Array Field} (hz : zeroCs P t = some zero) (hu : underT P t = some (.struct fs)) (hs : sized P fs.toList = true)
    {parts : Array (Nat × Operand)} {l : List (Nat × Nat × (Env → AV))} (hl : Parts (placeOf P fs.toList) parts.toList l) :
    SoundP P (.build t parts) (xBuild zero l) := by
  intro π ts tmps v ht hv w oo ho
  obtain ⟨cs, hc, hv⟩ := onSome_ne (no := none) hv (by simp)
  injection hv with hv; subst hv
  obtain ⟨i, z, hi, hiz, _, _, _, _, hrel⟩ := zeroCs_eq hz
  obtain ⟨out, ho1, hr⟩ := fill_rel ht parts.toList l hl zero z.cells cs (hrel π) hc
  obtain ⟨pl, hp, hg⟩ := run_places (P := P) fs.toList hs w
  refine ⟨.agg out, ?_, by have := VRel.agg hr; simpa using this⟩
  have hplace : (fun i => pl.toArray[i]?) = placeOf P fs.toList := by funext i; simp [hg]
  simp only [execOp, ho, Instr.build, Sem.run_bind, run_zero hi hiz, Result.andThen_ok, run_under (under_of hu), Array.mapM_eq_mapM_toList, Sem.run_map, hp]
  rw [hplace, parts_map, ho1]
  rfl

theorem sound_build_array {t e : TypeId} {zero : List AV} {n z : Nat} (hz : zeroCs P t = some zero) (hu : underT P t = some (.array n e)) (hs : sizeT P e = some z)
    {parts : Array (Nat × Operand)} {l : List (Nat × Nat × (Env → AV))} (hl : Parts (fun i => some (i * z, z)) parts.toList l) :
    SoundP P (.build t parts) (xBuild zero l) := by
  intro π ts tmps v ht hv w oo ho
  obtain ⟨cs, hc, hv⟩ := onSome_ne (no := none) hv (by simp)
  injection hv with hv; subst hv
  obtain ⟨i, z', hi, hiz, _, _, _, _, hrel⟩ := zeroCs_eq hz
  obtain ⟨out, ho1, hr⟩ := fill_rel ht parts.toList l hl zero z'.cells cs (hrel π) hc
  refine ⟨.agg out, ?_, by have := VRel.agg hr; simpa using this⟩
  simp only [execOp, ho, Instr.build, Sem.run_bind, run_zero hi hiz, Result.andThen_ok, run_under (under_of hu), run_size hs]
  rw [parts_map, ho1]
  rfl

/-! ### Those that make a block -/
/-- What a new block is. -/
def FreshRel (P : Program) (π : Pi) (b : Nat) (ob : AObj) (s : Shp) (r : Nat) (obj : Obj) (v : Value) : Prop :=
  ∃ i : Info, i.r = r ∧ ∀ π', π.le π' → π' b = some i → ORel P π' i ob obj ∧ VRel π' (s.valF b) v

def SoundF (P : Program) (o : Op) (f : Env → FR) : Prop :=
  ∀ (π : Pi) (ts : Env) (tmps : Array Value) (ob : AObj) (s : Shp), TRel π ts tmps → f ts = .ok ob s →
    ∀ (w : World) (oo : Oper), oo.op = o → ∃ obj v, (execOp (evT tmps) oo).run P w = .ok (.value v) { w with heap := w.heap.push obj } ∧ ∀ b, FreshRel P π b ob s w.heap.size obj v

theorem rowObj_eq (elem : TypeId) (cs : List AV) (grown : Bool) (frz : Nat) : rowObj elem cs grown frz = .cells cs.length (setCells (Cells.of cs.length .undef) 0 cs) elem grown frz := by
  unfold rowObj
  rw [forceN_eq]

/-- A row of cells, as it is made. -/
theorem row_rel {π : Pi} {cs : List AV} {c : Array Value} (h : VRels π cs c.toList) (hs : cs.length ≤ 65536) (elem : TypeId) (grown : Bool) {i : Info} (hb : i.base = 0) (hn : i.ncells = c.size) :
    ORel P π i (rowObj elem cs grown 0) (.cells c elem) := by
  have hl := h.length
  have hl : cs.length = c.size := by simpa using hl
  rw [rowObj_eq]
  have hroom := Cells.room_of cs.length .undef hs
  refine .cells hn (fun _ => ⟨hl.symm, hb⟩) (by rw [hb]; omega) (by rw [setCells_room]; exact hroom) (fun k hk => ?_) (fun k _ h1 h2 => by omega) (fun _ => .inl rfl)
  rw [setCells_get _ _ _ _ (by omega) (by omega), if_pos (Nat.zero_le _), hb]
  obtain ⟨x, hx⟩ : ∃ x, cs[k]? = some x := ⟨cs[k], by simp [hk]⟩
  obtain ⟨y, hy, hr⟩ := h.get hx
  refine ⟨y, by simpa using hy, ?_⟩
  simp only [Nat.sub_zero, hx, Option.getD_some]
  exact hr

/-- The same with more cells behind those that are known. -/
theorem row_grown {π : Pi} {cs : List AV} {c : Array Value} (h : VRels π cs (c.toList.take cs.length)) (hle : cs.length ≤ c.size) (hs : cs.length ≤ 65536) (elem : TypeId) {i : Info} (hb : i.base = 0) (hn : i.ncells = c.size)
    {lo hi frz : Nat} (hfz : ∀ k, k < c.size → lo ≤ k → k < hi → k < frz % 1048576) (hmk : frz < 1048576 → lo = hi ∨ (lo < hi ∧ lo < c.size)) :
    ORel P π i (rowObj elem cs true frz) (.cells c elem (lo, hi)) := by
  rw [rowObj_eq]
  have hroom := Cells.room_of cs.length .undef hs
  refine .cells hn (fun h => by simp at h) (by rw [hb]; omega) (by rw [setCells_room]; exact hroom) (fun k hk => ?_) (fun k h0 h1 h2 => by rw [hb, Nat.zero_add]; exact hfz k h0 h1 h2) hmk
  rw [setCells_get _ _ _ _ (by omega) (by omega), if_pos (Nat.zero_le _), hb]
  obtain ⟨x, hx⟩ : ∃ x, cs[k]? = some x := ⟨cs[k], by simp [hk]⟩
  obtain ⟨y, hy, hr⟩ := h.get hx
  rw [List.getElem?_take_of_lt hk] at hy
  refine ⟨y, by simpa using hy, ?_⟩
  simp only [Nat.sub_zero, hx, Option.getD_some]
  exact hr

end
end Go.Eng
