import Derived.Test.YtdmgncjahckngaaGreatP18
/-! Soundness, 19: maps and ranges. -/
namespace Go.Eng
set_option linter.all false

section
variable {P : Program}

theorem run_setObj2 {w : World} {r : Nat} {o0 : Obj} (h : w.heap[r]? = some o0) (hn : ∀ c e f, o0 ≠ .cells c e f) (o : Obj) : (setObj r o).run P w = .ok () { w with heap := w.heap.setIfInBounds r o } := by
  cases o0 with
  | cells c e f => exact absurd rfl (hn _ _ _)
  | _ => simp only [setObj, Sem.run, h]

theorem ERel.append {π : Pi} : ∀ {l : List (AV × AV × Nat)} {l' : List MapEntry}, ERel π l l' → ∀ {m : List (AV × AV × Nat)} {m' : List MapEntry}, ERel π m m' → ERel π (l ++ m) (l' ++ m')
  | _, _, .nil, _, _, h => h
  | _, _, .cons a b c d, _, _, h => .cons a b c (ERel.append d h)

theorem ERel.set {π : Pi} {k v : AV} {b : Nat} {e' : MapEntry} (hk : VRel π k e'.key) (hv : VRel π v e'.val) (hb : e'.born = b) : ∀ {l : List (AV × AV × Nat)} {l' : List MapEntry}, ERel π l l' → ∀ i, ERel π (setNth (k, v, b) l i) (l'.set i e')
  | _, _, .nil, i => by simpa [setNth] using ERel.nil
  | _, _, .cons a c d r, 0 => .cons hk hv hb r
  | _, _, .cons a c d r, i + 1 => .cons a c d (ERel.set hk hv hb r i)

theorem ERel.eraseIdx {π : Pi} : ∀ {l : List (AV × AV × Nat)} {l' : List MapEntry}, ERel π l l' → ∀ i, ERel π (l.eraseIdx i) (l'.eraseIdx i)
  | _, _, .nil, i => by simpa using ERel.nil
  | _, _, .cons a c d r, 0 => r
  | _, _, .cons a c d r, i + 1 => .cons a c d (ERel.eraseIdx r i)

theorem ERel.filter {π : Pi} (p : Nat → Bool) : ∀ {l : List (AV × AV × Nat)} {l' : List MapEntry}, ERel π l l' → ERel π (l.filter fun e => p e.2.2) (l'.filter fun e => p e.born)
  | _, _, .nil => .nil
  | _, _, @ERel.cons _ k v b e l l' a c d r => by
    simp only [List.filter_cons, d]
    cases p b with
    | true => simpa using ERel.cons a c d (ERel.filter p r)
    | false => simpa using ERel.filter p r

theorem ERel.all {π : Pi} (p : Nat → Bool) : ∀ {l : List (AV × AV × Nat)} {l' : List MapEntry}, ERel π l l' → (l.all fun e => p e.2.2) = (l'.all fun e => p e.born)
  | _, _, .nil => rfl
  | _, _, .cons a c d r => by simp only [List.all_cons, d, ERel.all p r]

theorem Good.setObj {π : Pi} {h : Heap} {w : World} (hr : Rel P π h w) {b : Nat} {o0 : AObj} {i : Info} (hb : HT.get h.t b = some o0) (hi : π b = some i) (o : AObj) (obj : Obj) (ho : ORel P π i o obj) :
    Good P π h w π (putObj h b o) { w with heap := w.heap.setIfInBounds i.r obj } :=
  Good.put hr hb hi o obj ho _ (by simp) (by have := (hr.fresh _ _ hi).2; simp [this]) (fun r hr' => Array.getElem?_setIfInBounds_ne (Ne.symm hr'))

/-! ### The same bits -/
theorem sameBitsA_succ (n : Nat) (x y : AV) : sameBitsA (n + 1) x y = (match x, y with
    | .bool a, .bool b => a == b
    | .int j a, .int k b => j == k && eqI a b
    | .str a, .str b => beqS a b
    | .agg a, .agg b => sameBitsA.sameL (sameBitsA n) a b
    | _, _ => false) := rfl

theorem sameL_rel {π : Pi} {g : AV → AV → Bool} {g' : Value → Value → Bool} (hg : ∀ x y x' y', g x y = true → VRel π x x' → VRel π y y' → g' x' y' = true) : ∀ {l m : List AV} {l' m' : List Value}, VRels π l l' → VRels π m m' →
    sameBitsA.sameL g l m = true → l'.length = m'.length ∧ (l'.zip m').all (fun p => g' p.1 p.2) = true
  | _, _, _, _, .nil, .nil, _ => ⟨rfl, rfl⟩
  | _, _, _, _, .nil, .cons _ _, h => by simp [sameBitsA.sameL] at h
  | _, _, _, _, .cons _ _, .nil, h => by simp [sameBitsA.sameL] at h
  | _, _, _, _, .cons a r, .cons b t, h => by
    simp only [sameBitsA.sameL, Bool.and_eq_true] at h
    obtain ⟨h1, h2⟩ := sameL_rel hg r t h.2
    exact ⟨by simp [h1], by simp only [List.zip_cons_cons, List.all_cons, hg _ _ _ _ h.1 a b, Bool.true_and]; exact h2⟩

theorem ba_beq (s : ByteArray) : (s == s) = true := by
  rw [beq_toListBytes]
  simp

theorem sameBits_rel {π : Pi} : ∀ (n : Nat) (x y : AV) (x' y' : Value), sameBitsA n x y = true → VRel π x x' → VRel π y y' → ∀ m, n ≤ m → Instr.sameBits m x' y' = true
  | 0, x, y, _, _, h, _, _, _, _ => by simp [sameBitsA] at h
  | n + 1, x, y, x', y', h, rx, ry, m, hm => by
    rw [sameBitsA_succ] at h
    obtain ⟨m, rfl⟩ : ∃ k, m = k + 1 := ⟨m - 1, by omega⟩
    split at h
    · rw [rx.bool_inv, ry.bool_inv]; simpa [Instr.sameBits] using h
    · rw [rx.int_inv, ry.int_inv]
      simp only [Bool.and_eq_true] at h
      simp only [Instr.sameBits, h.1, Bool.true_and]
      rw [eqI_eq] at h
      simpa using h.2
    · obtain ⟨s, rfl, rfl⟩ := rx.str_inv
      obtain ⟨t, rfl, rfl⟩ := ry.str_inv
      rw [beqS_eq, nats_beq] at h
      have e : s.data.toList = t.data.toList := by simpa using h
      have : s = t := by cases s; cases t; congr 1; exact Array.ext' e
      subst this
      simp only [Instr.sameBits, ba_beq]
    · obtain ⟨l, rfl, hl⟩ := rx.agg_inv
      obtain ⟨l2, rfl, hl2⟩ := ry.agg_inv
      obtain ⟨h1, h2⟩ := sameL_rel (g' := Instr.sameBits m) (fun x y x' y' e r1 r2 => sameBits_rel n x y x' y' e r1 r2 m (by omega)) hl hl2 h
      simp only [Instr.sameBits, List.size_toArray, h1, beq_self_eq_true, Bool.true_and]
      exact h2
    · cases h

theorem onMapId_ne {β : Type} {no r : β} {f : Nat → β} {x : AV} (h : onMapId no f x = r) (hr : r ≠ no) : ∃ b, x = .map b ∧ f b = r := by
  unfold onMapId at h
  split at h
  · exact ⟨_, rfl, h⟩
  · exact absurd h.symm hr

theorem key_under {kt : TypeId} {k : AV} (hk : keyOk P 10000 kt k = true) : ∃ d, P.underlying kt = some d := by
  have := keyOk_succ (P := P) 9999 kt k
  rw [show keyOk P (9999 + 1) kt k = keyOk P 10000 kt k from rfl, hk] at this
  cases hd : underT P kt with
  | none => rw [hd] at this; simp at this
  | some d => exact ⟨d, under_of hd⟩

theorem sound_upd {t kt et : TypeId} (hu : underT P t = some (.map kt et)) {o : Op} (m k v : Operand) (hop : ∀ (ρ : Operand → Value) (oo : Oper), oo.op = o → execOp ρ oo = (do Instr.mapUpdate t (ρ m) (ρ k) (ρ v); pure .skip)) :
    SoundW P o (wUpd P kt (gOf m).fn (gOf k).fn (gOf v).fn) := by
  intro π ts tmps h w r h' callF ht hr hf oo ho
  obtain ⟨b, hm, hf⟩ := onMapId_ne hf (by simp)
  replace hf := onMap_ne hf (by simp)
  obtain ⟨es, clock, hb, hf⟩ := hf
  replace hf := cond_ne hf (by simp)
  obtain ⟨hkey, hf⟩ := hf
  replace hf := cond_ne hf (by simp)
  obtain ⟨_, hf⟩ := hf
  have rm := gOf_rel ht m
  have rk := gOf_rel ht k
  have rv := gOf_rel ht v
  rw [hm] at rm
  obtain ⟨i, es', hi, hat, her⟩ := hr.map hb
  have hvm : evT tmps m = .map (some i.r) := by
    generalize evT tmps m = vm at *
    cases rm
    rename_i j hj
    rw [hi] at hj; injection hj with hj; subst hj
    rfl
  obtain ⟨d, hd⟩ := key_under hkey
  replace hf := findKey_rel hd rk her hf (by simp)
  obtain ⟨x, x', hx, hfound, hrun⟩ := hf
  have hck : ∀ e w, (Instr.checkKey e 10000 kt (evT tmps k)).run P w = .ok () w := fun e w => keyOk_run e 10000 kt _ _ hkey rk w
  rw [hop _ _ ho]
  cases hfound with
  | none =>
    injection hx with h1 h2
    subst h1; subst h2
    refine ⟨.skip, undef, _, π, ?_, .inr ⟨rfl, rfl⟩, .undef π, Good.setObj hr hb hi _ (.map ⟨es' ++ [{ key := evT tmps k, val := evT tmps v, born := clock }]⟩ (clock + 1)) (.map (her.append (.cons rk rv rfl .nil)))⟩
    simp only [Instr.mapUpdate, Sem.run_bind, run_under (under_of hu), Result.andThen_ok, hvm, run_getObj_map hat, hck, hrun, run_setObj2 hat (fun _ _ _ => by simp), Sem.run_pure]
    simp
  | @some n e e' h1 h2 h3 h4 h5 =>
    replace hx := cond_ne (no := Res.no) hx (by simp)
    obtain ⟨hsame, hx⟩ := hx
    injection hx with q1 q2
    subst q1; subst q2
    have hsb := sameBits_rel 1000 _ _ _ _ hsame h3 rk 10000 (by omega)
    refine ⟨.skip, undef, _, π, ?_, .inr ⟨rfl, rfl⟩, .undef π, Good.setObj hr hb hi _ (.map ⟨es'.set n { e' with key := evT tmps k, val := evT tmps v }⟩ clock) (.map (ERel.set (e' := { e' with key := evT tmps k, val := evT tmps v }) rk rv h5 her n))⟩
    have hstay : ∀ w, (Instr.keyThatStays e'.key (evT tmps k)).run P w = .ok (evT tmps k) w := fun w => by simp [Instr.keyThatStays, hsb]
    have hmod : (Array.modify ⟨es'⟩ n fun e : MapEntry => { e with key := evT tmps k, val := evT tmps v }) = ⟨es'.set n { e' with key := evT tmps k, val := evT tmps v }⟩ := by
      apply Array.ext_getElem?
      intro j
      rw [Array.getElem?_modify]
      simp only [List.getElem?_toArray, List.getElem?_set]
      by_cases e : n = j
      · subst e; rw [if_pos rfl, if_pos rfl, h2]; simp [(List.getElem?_eq_some_iff.mp h2).1]
      · rw [if_neg e, if_neg e]
    have hold : (((⟨es'⟩ : Array MapEntry)[n]?).map (·.key)).getD (evT tmps k) = e'.key := by simp [h2]
    simp only [Instr.mapUpdate, Sem.run_bind, run_under (under_of hu), Result.andThen_ok, hvm, run_getObj_map hat, hck, hrun, hold, hstay, hmod, run_setObj2 hat (fun _ _ _ => by simp), Sem.run_pure]

theorem sound_delete {mt kt et : TypeId} {ats : List TypeId} (hu : underT P mt = some (.map kt et)) (m k : Operand) :
    SoundW P (.call { callee := .builtin .delete, args := #[m, k], argTypes := ⟨mt :: ats⟩ }) (wDelete P kt (gOf m).fn (gOf k).fn) := by
  intro π ts tmps h w r h' callF ht hr hf oo ho
  have rm := gOf_rel ht m
  have rk := gOf_rel ht k
  unfold wDelete at hf
  obtain ⟨cs, he⟩ := exec_builtin (P := P) (tmps := tmps) ho w
  simp only [List.map_toArray, List.map_cons, List.map_nil] at he
  generalize (gOf m).fn ts = am at *
  generalize evT tmps m = vm at *
  cases rm <;> simp only [delA] at hf <;> try (cases hf; done)
  · replace hf := cond_ne hf (by simp)
    obtain ⟨hkey, hf⟩ := hf
    injection hf with h1 h2
    subst h1; subst h2
    refine ⟨_, .tuple #[], w, π, ?_, .inl rfl, .tup .nil, .refl hr⟩
    rw [he]
    simp [builtin, Builtin.delete_, run_under (under_of hu), keyOk_run true 10000 kt _ _ hkey rk w]
  · rename_i b i hi
    replace hf := onMap_ne hf (by simp)
    obtain ⟨es, clock, hb, hf⟩ := hf
    replace hf := cond_ne hf (by simp)
    obtain ⟨hkey, hf⟩ := hf
    obtain ⟨j, es', hj, hat, her⟩ := hr.map hb
    rw [hi] at hj; injection hj with hj; subst hj
    obtain ⟨d, hd⟩ := key_under hkey
    replace hf := findKey_rel hd rk her hf (by simp)
    obtain ⟨x, x', hx, hfound, hrun⟩ := hf
    have hck : ∀ e w, (Instr.checkKey e 10000 kt (evT tmps k)).run P w = .ok () w := fun e w => keyOk_run e 10000 kt _ _ hkey rk w
    cases hfound with
    | none =>
      injection hx with h1 h2
      subst h1; subst h2
      refine ⟨_, .tuple #[], w, π, ?_, .inl rfl, .tup .nil, .refl hr⟩
      rw [he]
      have hsame : w.heap.setIfInBounds i.r (.map ⟨es'⟩ clock) = w.heap := by
        apply Array.ext_getElem?
        intro j
        rw [Array.getElem?_setIfInBounds]
        by_cases e : i.r = j
        · subst e; rw [if_pos rfl, hat]; simp [(Array.getElem?_eq_some_iff.mp hat).1]
        · rw [if_neg e]
      simp only [builtin, Builtin.delete_, List.getElem?_toArray, List.getElem?_cons_zero, List.getElem?_cons_succ, Sem.run_bind, run_under (under_of hu), Result.andThen_ok, run_getObj_map hat, hck, hrun, run_setObj2 hat (fun _ _ _ => by simp), hsame, Sem.run_pure]
    | @some n e e' h1 h2 h3 h4 h5 =>
      injection hx with q1 q2
      subst q1; subst q2
      refine ⟨_, .tuple #[], _, π, ?_, .inl rfl, .tup .nil, Good.setObj hr hb hi _ (.map ⟨es'.eraseIdx n⟩ clock) (.map (her.eraseIdx n))⟩
      rw [he]
      have hle : n < es'.length := (List.getElem?_eq_some_iff.mp h2).1
      have her2 : (⟨es'⟩ : Array MapEntry).eraseIdxIfInBounds n = ⟨es'.eraseIdx n⟩ := by simp [Array.eraseIdxIfInBounds, hle]
      simp only [builtin, Builtin.delete_, List.getElem?_toArray, List.getElem?_cons_zero, List.getElem?_cons_succ, Sem.run_bind, run_under (under_of hu), Result.andThen_ok, run_getObj_map hat, hck, hrun, her2, run_setObj2 hat (fun _ _ _ => by simp), Sem.run_pure]

end
end Go.Eng
