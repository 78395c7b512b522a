import Derived.Test.YtdmgncjahckngaaGreatP10
/-! Soundness, 11: those that make a block. -/
namespace Go.Eng
set_option linter.all false

section
variable {P : Program}

theorem run_newVar (t : TypeId) (v : Value) (w : World) : (newVar t v).run P w = .ok ⟨w.heap.size, 0, none⟩ { w with heap := w.heap.push (.cells v.cells t) } := by
  simp [newVar, newRow]

theorem sound_alloc {t : TypeId} {cs : List AV} (hz : zeroCs P t = some cs) (hl : cs.length ≤ 65536) : SoundF P (.alloc t) (zAlloc (rowObj t cs false 0)) := by
  intro π ts tmps ob s ht hf w oo ho
  injection hf with h1 h2
  subst h1; subst h2
  obtain ⟨i, z, hi, hiz, hcs, _, _, _, hrel⟩ := zeroCs_eq hz
  refine ⟨.cells z.cells t, .pointer (some ⟨w.heap.size, 0, none⟩), ?_, fun b => ⟨⟨w.heap.size, 0, z.cells.size, undef⟩, rfl, fun π' hle hb => ⟨row_rel (hrel π') hl t false rfl rfl, ?_⟩⟩⟩
  · simp [execOp, ho, Instr.alloc, run_zero hi hiz, run_newVar]
  · exact VRel.ptr (o := 0) hb

theorem sound_box {t : TypeId} {k : Nat} (hs : sizeT P t = some k) (hk : k ≤ 65536) (x : Operand) : SoundF P (.box t x) (zBox t k (gOf x).fn) := by
  intro π ts tmps ob s ht hf w oo ho
  obtain ⟨h1, hf⟩ := cond_ne hf (by simp)
  obtain ⟨h2, hf⟩ := cond_ne hf (by simp)
  injection hf with h3 h4
  subst h3; subst h4
  have hl := beq_t h1
  have hr := (gOf_rel ht x).cells h2
  refine ⟨.cells (evT tmps x).cells t, .pointer (some ⟨w.heap.size, 0, none⟩), ?_, fun b => ⟨⟨w.heap.size, 0, (evT tmps x).cells.size, undef⟩, rfl, fun π' hle hb => ⟨row_rel (hr.mono hle) (by omega) t false rfl rfl, ?_⟩⟩⟩
  · simp [execOp, ho, Instr.box, run_newVar]
  · exact VRel.ptr (o := 0) hb

theorem flat_get {α : Type} (zs : List α) : ∀ (n i : Nat), i < n * zs.length → (List.replicate n zs).flatten[i]? = zs[i % zs.length]?
  | 0, i, h => by simp at h
  | n + 1, i, h => by
    rw [List.replicate_succ, List.flatten_cons]
    by_cases hi : i < zs.length
    · rw [List.getElem?_append_left hi, Nat.mod_eq_of_lt hi]
    · have hz : 0 < zs.length := by
        rcases Nat.eq_zero_or_pos zs.length with h0 | h0
        · rw [h0] at h; simp at h
        · exact h0
      rw [List.getElem?_append_right (by omega), flat_get zs n (i - zs.length) (by rw [Nat.succ_mul] at h; omega)]
      congr 1
      conv => rhs; rw [show i = i - zs.length + zs.length by omega, Nat.add_mod_right]

theorem zeros_rel {π : Pi} {zs : List AV} {zc : Array Value} (h : VRels π zs zc.toList) (n : Nat) :
    VRels π (List.replicate n zs).flatten ((Array.range (n * zs.length)).map fun i => zc[i % zc.size]!).toList := by
  have hl : zs.length = zc.size := by simpa using h.length
  refine VRels.of_get (by simp) fun i x y hx hy => ?_
  have hi : i < n * zs.length := by
    have := (List.getElem?_eq_some_iff.mp hx).1
    simpa using this
  rw [flat_get _ _ _ hi] at hx
  obtain ⟨y', hy', hr⟩ := h.get hx
  have : y = y' := by
    simp only [Array.toList_map, Array.toList_range, List.getElem?_map, List.getElem?_range hi, Option.map_some, Option.some.injEq] at hy
    subst hy
    rw [← hl]
    have hlt : i % zs.length < zc.size := by
      have := (List.getElem?_eq_some_iff.mp hy').1
      simpa using this
    have : zc[i % zs.length]? = some y' := by simpa using hy'
    simp [getElem!_pos, hlt]
    rw [Array.getElem?_eq_getElem hlt] at this
    injection this
  rw [this]; exact hr

theorem range0 (f : Nat → Value) : (Array.range 0).map f = #[] := by simp

theorem sound_bslice {t e : TypeId} {zero : List AV} {len : Nat} (hu : underT P t = some (.slice e)) (hz : zeroCs P e = some zero) (hlen : len * zero.length ≤ 10000)
    {parts : Array (Nat × Operand)} {l : List (Nat × Nat × (Env → AV))} (hl : Parts (fun i => some (i * zero.length, zero.length)) parts.toList l) :
    SoundF P (.buildSlice t len parts) (zBslice e zero.length zero len l) := by
  intro π ts tmps ob s ht hf w oo ho
  obtain ⟨cs, hc, hf⟩ := onSome_ne hf (by simp)
  obtain ⟨hle, hf⟩ := cond_ne hf (by simp)
  have hle := Nat.le_of_ble_eq_true hle
  injection hf with h3 h4
  subst h3; subst h4
  obtain ⟨i, z, hi, hiz, _, hzl, _, hsz, hrel⟩ := zeroCs_eq hz
  obtain ⟨out, ho1, hr⟩ := fill_rel ht parts.toList l hl _ ((Array.range (len * zero.length)).map fun i => z.cells[i % z.cells.size]!) cs (zeros_rel (hrel π) len) hc
  refine ⟨.cells out e, .slice (some ⟨w.heap.size, 0, none⟩) len len, ?_, fun b => ⟨⟨w.heap.size, 0, out.size, undef⟩, rfl, fun π' hle2 hb => ⟨row_rel (hr.mono hle2) hle e false rfl rfl, VRel.slx (o := 0) hb⟩⟩⟩
  have hsize : (sizeOf e).run P w = .ok zero.length w := by rw [hzl]; simp [sizeOf, run_info hi]
  have hbig : ¬ len * zero.length > 2 ^ 24 := by omega
  simp only [execOp, ho, Instr.buildSlice, Sem.run_bind, run_under (under_of hu), Result.andThen_ok, hsize]
  rw [if_neg hbig]
  by_cases h0 : len * zero.length = 0
  · rw [if_pos h0]
    have ho2 : Instr.fill (fun i => some (i * zero.length, zero.length)) #[] (parts.map fun (i, x) => (i, evT tmps x)).toList = some out := by
      rw [parts_map]
      rw [h0, range0] at ho1
      exact ho1
    simp only [Sem.run_bind, Sem.run_pure, Result.andThen_ok, h0]
    rw [range0, ho2]
    simp [newRow]
  · rw [if_neg h0]
    simp only [Sem.run_bind, run_zero hi hiz, Sem.run_pure, Result.andThen_ok]
    rw [parts_map, ho1]
    simp [newRow]

theorem sound_map (t : TypeId) : SoundF P (.makeMap t none) zMap := by
  intro π ts tmps ob s ht hf w oo ho
  injection hf with h1 h2
  subst h1; subst h2
  refine ⟨.map #[] 0, .map (some w.heap.size), ?_, fun b => ⟨⟨w.heap.size, 0, 0, undef⟩, rfl, fun π' hle hb => ⟨.map .nil, VRel.map hb⟩⟩⟩
  simp [execOp, ho, Instr.makeMap]

/-- A row all of whose cells are alike. -/
theorem row_same {π : Pi} {v : AV} {c : Array Value} {n : Nat} (hn : c.size = n) (hs : n ≤ 65536) (h : ∀ k, k < n → ∃ x, c[k]? = some x ∧ VRel π v x) (elem : TypeId) {i : Info} (hb : i.base = 0) (hi : i.ncells = c.size) :
    ORel P π i (.cells n (Cells.of n v) elem false 0) (.cells c elem) := by
  refine .cells hi (fun _ => ⟨hn, hb⟩) (by rw [hb]; omega) (Cells.room_of n v hs) (fun k hk => ?_) (fun k _ h1 h2 => by omega) (fun _ => .inl rfl)
  obtain ⟨x, hx, hr⟩ := h k hk
  refine ⟨x, by rw [hb]; simpa using hx, ?_⟩
  rw [Cells.get_of]; exact hr

theorem allSame_eq : ∀ {l : List AV} {v : AV}, zMslice.allSame l = some v → v = .int .u8 0 ∧ ∀ x ∈ l, x = AV.int .u8 0
  | [], v, h => by simp [zMslice.allSame] at h
  | [a], v, h => by
    unfold zMslice.allSame at h
    split at h
    · cases h
    · injection h with h; subst h; rename_i e; injection e with e _; exact ⟨rfl, by simp [e]⟩
    · rename_i e; injection e with e1 e2; subst e2; simp [zMslice.allSame] at h
    · cases h
  | a :: b :: l, v, h => by
    unfold zMslice.allSame at h
    split at h
    · cases h
    · rename_i e; injection e with _ e; cases e
    · rename_i e; injection e with e1 e2; subst e2
      obtain ⟨h1, h2⟩ := allSame_eq h
      exact ⟨h1, fun x hx => by
        rcases List.mem_cons.mp hx with rfl | hx
        · exact e1
        · exact h2 x hx⟩
    · cases h

theorem wrap_small {n : Nat} (h : n ≤ 1000000) : IntKind.i64.wrap (Int.ofNat n) = Int.ofNat n := wrap_of_lt .i64 n (by simp only [lim]; omega)

theorem sound_mslice {t e : TypeId} {zero : List AV} {i : TypeInfo} (hu : underT P t = some (.slice e)) (hz : zeroCs P e = some zero) (hi : infoT P e = some i) (hb : i.bytes ≤ 1000000) (l c : Operand) :
    SoundF P (.makeSlice t l c) (zMslice e zero.length zero (gOf l).fn (gOf c).fn) := by
  intro π ts tmps ob s ht hf w oo ho
  unfold zMslice at hf
  obtain ⟨kl, nl, hl, hf⟩ := onInt_ne hf (by simp)
  obtain ⟨kc, nc, hc, hf⟩ := onInt_ne hf (by simp)
  cases nl with
  | negSucc m => simp at hf
  | ofNat l' =>
  cases nc with
  | negSucc m => simp at hf
  | ofNat c' =>
  simp only at hf
  obtain ⟨h1, hf⟩ := cond_ne hf (by simp)
  obtain ⟨h2, hf⟩ := cond_ne hf (by simp)
  have h1 := Nat.le_of_ble_eq_true h1
  simp only [Bool.and_eq_true] at h2
  have h3 := Nat.le_of_ble_eq_true h2.1
  have h4 := Nat.le_of_ble_eq_true h2.2
  have h3 : c' ≤ 1000000 := h3
  have h4 : c' * zero.length ≤ 65536 := h4
  have rl := gOf_rel ht l
  have rc := gOf_rel ht c
  rw [hl] at rl; rw [hc] at rc
  obtain ⟨i', z, hi', hiz, _, hzl, _, hsz, hrel⟩ := zeroCs_eq hz
  have hii : i' = i := by have := info_of hi; rw [hi'] at this; injection this
  subst hii
  have hcl : (c' : Nat) * zero.length = c' * z.cells.size := by rw [hsz, hzl]
  -- the world's row
  have hrow : (execOp (evT tmps) oo).run P w = .ok (.value (.slice (some ⟨w.heap.size, 0, none⟩) l' c'))
      { w with heap := w.heap.push (.cells ((Array.range (c' * zero.length)).map fun i => z.cells[i % z.cells.size]!) e) } := by
    have hbytes : ¬ ((i'.bytes : Int) * (Int.ofNat c') > 2 ^ 48) := by
      have : i'.bytes * c' ≤ 1000000 * 1000000 := Nat.mul_le_mul hb h3
      have h' : ((i'.bytes * c' : Nat) : Int) ≤ ((1000000 * 1000000 : Nat) : Int) := Int.ofNat_le.mpr this
      have e : (i'.bytes : Int) * (Int.ofNat c') = ((i'.bytes * c' : Nat) : Int) := by simp
      rw [e]; omega
    simp only [execOp, ho, Instr.makeSlice, Sem.run_bind, run_under (under_of hu), Result.andThen_ok, rl.int_inv, rc.int_inv, asInt, asIntOf, Sem.run_pure, run_info hi', wrap_small h3, wrap_small (Nat.le_trans h1 h3)]
    have hcond : ((decide ((Int.ofNat c') < 0) || decide ((i'.bytes : Int) * (Int.ofNat c') > 2 ^ 48)) || decide ((Int.ofNat l') < 0) || decide ((Int.ofNat l') > (Int.ofNat c'))) = false := by
      have e1 : decide ((Int.ofNat c') < 0) = false := by simp
      have e2 : decide ((Int.ofNat l') < 0) = false := by simp
      have e3 : decide ((Int.ofNat l') > (Int.ofNat c')) = false := by simp; exact h1
      rw [e1, e2, e3]; simp only [hbytes, decide_false]; rfl
    simp only [hcond]
    simp only [Bool.false_eq_true, if_false, Sem.run_bind, run_askRoom, Result.andThen_ok]
    have hsize : (sizeOf e).run P w = .ok zero.length w := by rw [hzl]; simp [sizeOf, run_info hi']
    simp only [hsize, Result.andThen_ok]
    by_cases h0 : (Int.ofNat c').toNat * zero.length = 0
    · rw [if_pos h0]
      simp only [Sem.run_pure, Result.andThen_ok, newRow, Sem.run_bind, run_newObj]
      have h0' : c' * zero.length = 0 := h0
      rw [h0', h0, range0, range0]
      rfl
    · rw [if_neg h0]
      simp only [Sem.run_bind, run_zero hi' hiz, Sem.run_pure, Result.andThen_ok, newRow, run_newObj]
      rfl
  have hsl : ∀ {π' : Pi} {b : Nat} {j : Info}, π' b = some j → j.r = w.heap.size → j.base = 0 → VRel π' ((Shp.sl l' c').valF b) (.slice (some ⟨w.heap.size, 0, none⟩) l' c') := fun {π' b j} hb hr h0 => by
    have := VRel.slx (π := π') (b := b) (o := 0) (n := l') (c := c') hb
    rw [hr, h0] at this
    exact this
  have hget : ∀ {π' : Pi} (k : Nat), k < c' * zero.length → ∃ x y, zero[k % zero.length]? = some x ∧ ((Array.range (c' * zero.length)).map fun i => z.cells[i % z.cells.size]!)[k]? = some y ∧ VRel π' x y := fun {π'} k hk => by
    have hr := zeros_rel (hrel π') c'
    have hx := flat_get zero c' k hk
    have hpos : 0 < zero.length := by
      rcases Nat.eq_zero_or_pos zero.length with h0 | h0
      · rw [h0] at hk; simp at hk
      · exact h0
    have hlt : k % zero.length < zero.length := Nat.mod_lt _ hpos
    obtain ⟨y, hy, hv⟩ := hr.get (i := k) (x := zero[k % zero.length]) (by rw [hx]; simp [hlt])
    exact ⟨_, y, by simp [hlt], by rw [← Array.getElem?_toList]; exact hy, hv⟩
  refine ⟨_, _, hrow, ?_⟩
  split at hf
  · rename_i v
    injection hf with e1 e2
    subst e1; subst e2
    refine fun b => ⟨⟨w.heap.size, 0, _, undef⟩, rfl, fun π' hle hb2 => ⟨row_same (by simp) (by simpa using h4) (fun k hk => ?_) e rfl rfl, hsl hb2 rfl rfl⟩⟩
    obtain ⟨x, y, hx, hy, hr⟩ := hget (π' := π') k (by simpa using hk)
    simp [Nat.mod_one] at hx
    subst hx
    exact ⟨y, hy, hr⟩
  · split at hf
    · rename_i v hsame
      rw [forceN_eq] at hf
      injection hf with e1 e2
      subst e1; subst e2
      obtain ⟨rfl, hall⟩ := allSame_eq hsame
      refine fun b => ⟨⟨w.heap.size, 0, _, undef⟩, rfl, fun π' hle hb2 => ⟨row_same (by simp) h4 (fun k hk => ?_) e rfl rfl, hsl hb2 rfl rfl⟩⟩
      obtain ⟨x, y, hx, hy, hr⟩ := hget (π' := π') k hk
      have := hall x (List.mem_of_getElem? hx)
      subst this
      exact ⟨y, hy, hr⟩
    · injection hf with e1 e2
      subst e1; subst e2
      refine fun b => ⟨⟨w.heap.size, 0, _, undef⟩, rfl, fun π' hle hb2 => ⟨row_rel (zeros_rel (hrel π') c') (by simpa using h4) e false rfl rfl, hsl hb2 rfl rfl⟩⟩

end
end Go.Eng
