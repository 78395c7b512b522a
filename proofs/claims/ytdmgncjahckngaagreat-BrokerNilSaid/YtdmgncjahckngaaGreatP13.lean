import Derived.Test.YtdmgncjahckngaaGreatP12
/-! Soundness, 13: maps that are read; addresses turned. -/
namespace Go.Eng
set_option linter.all false

section
variable {P : Program}

theorem keyOk_succ (d : Nat) (t : TypeId) (v : AV) : keyOk P (d + 1) t v = (match underT P t, v with
    | some (.int _), .int _ _ | some .string, .str _ | some .bool, .bool _ => true
    | some (.struct fs), .agg cs => fs.toList.all fun f => f.name == "_" || (match part P f.type cs f.offset with
        | some v => keyOk P d f.type v
        | none => false)
    | _, _ => false) := rfl

theorem run_forIn_unit {α : Type} (w : World) (g : α → PUnit → Sem (ForInStep PUnit)) : ∀ (l : List α), (∀ a ∈ l, (g a ⟨⟩).run P w = .ok (.yield ⟨⟩) w) → (forIn l PUnit.unit g : Sem PUnit).run P w = .ok ⟨⟩ w
  | [], _ => by simp
  | a :: l, h => by
    simp only [List.forIn_cons, Sem.run_bind, h a (List.mem_cons_self), Result.andThen_ok]
    exact run_forIn_unit w g l fun x hx => h x (List.mem_cons_of_mem _ hx)

theorem keyOk_run {π : Pi} (e : Bool) : ∀ (d : Nat) (t : TypeId) (v : AV) (v' : Value), keyOk P d t v = true → VRel π v v' → ∀ w, (Instr.checkKey e d t v').run P w = .ok () w
  | 0, _, _, _, h, _, _ => by simp [keyOk] at h
  | d + 1, t, v, v', h, hr, w => by
    rw [keyOk_succ] at h
    split at h
    · rename_i hu; rw [hr.int_inv]; simp [Instr.checkKey, run_under (under_of hu)]
    · rename_i hu; obtain ⟨s, rfl, _⟩ := hr.str_inv; simp [Instr.checkKey, run_under (under_of hu)]
    · rename_i hu; rw [hr.bool_inv]; simp [Instr.checkKey, run_under (under_of hu)]
    · rename_i fs cs hu
      obtain ⟨l', rfl, hl⟩ := hr.agg_inv
      simp only [Instr.checkKey, Sem.run_bind, run_under (under_of hu), Result.andThen_ok]
      rw [← Array.forIn_toList, run_forIn_unit (P := P) w _ fs.toList (fun f hf => ?_)]
      rotate_left
      · have := List.all_eq_true.mp h f hf
        by_cases hn : f.name = "_"
        · simp [hn]
        · simp only [Bool.or_eq_true, beq_iff_eq, hn, false_or] at this
          cases hp : part P f.type cs f.offset with
          | none => simp [hp] at this
          | some x =>
            simp only [hp] at this
            obtain ⟨x', hx, rx⟩ := partE_rel hl hp
            have := keyOk_run e d f.type x x' this rx w
            simp [hn, hx, this]
      simp
    · cases h

/-! ### Finding a key -/
theorem sameNow_eq {π : Pi} {kt : TypeId} {d : TypeDesc} (hu : P.underlying kt = some d) {k a : AV} {k' a' : Value} {b c : Bool} (he : eqA P 10000 kt k a = some b) (rk : VRel π k k') (ra : VRel π a a')
    (hs : Instr.sameNow d k' a' = some c) : c = b := by
  have hr := eqA_rel (P := P) 10000 kt k a b k' a' he rk ra default
  unfold Instr.sameNow at hs
  split at hs
  · split at hs
    · rename_i hk; subst hk
      injection hs with hs; subst hs
      rw [run_equalIn_int _ _ _ _ _ _ _ hu] at hr
      injection hr
    · cases hs
  · injection hs with hs; subst hs
    rw [run_equalIn_string _ _ _ _ _ hu] at hr
    injection hr with hr
    rw [← hr, beq_toListBytes]
  · injection hs with hs; subst hs
    rw [run_equalIn_bool' _ _ _ _ _ hu] at hr
    injection hr
  · cases hs

/-- What was found, here and there. -/
inductive Found (π : Pi) (es : List (AV × AV × Nat)) (es' : List MapEntry) : Option (Nat × AV × AV × Nat) → Option (Nat × Value) → Prop
  | none : Found π es es' none none
  | some {i : Nat} {e : AV × AV × Nat} {e' : MapEntry} : es[i]? = some e → es'[i]? = some e' → VRel π e.1 e'.key → VRel π e.2.1 e'.val → e'.born = e.2.2 → Found π es es' (some (i, e)) (some (i, e'.val))

theorem find_rel {β : Type} {no r : β} {π : Pi} {kt : TypeId} {d : TypeDesc} (hu : P.underlying kt = some d) {k : AV} {k' : Value} (rk : VRel π k k') {ES : List (AV × AV × Nat)} {ES' : List MapEntry} :
    ∀ (es : List (AV × AV × Nat)) (es' : List MapEntry) (i : Nat) (f : Option (Nat × AV × AV × Nat) → β), ERel π es es' →
    (∀ j, ES[i + j]? = es[j]?) → (∀ j, ES'[i + j]? = es'[j]?) →
    findA P no kt k es i f = r → r ≠ no →
    ∃ x x', f x = r ∧ Found π ES ES' x x' ∧ (Instr.findNow d k' es' i = some x' ∨ Instr.findNow d k' es' i = none) ∧ ∀ w, (Instr.findAsking kt k' es' i).run P w = .ok x' w
  | [], _, i, f, .nil, _, _, h, _ => ⟨none, none, h, .none, .inl rfl, fun w => rfl⟩
  | (a, v, bn) :: es, e' :: es', i, f, .cons ra rv hb hrest, h1, h2, h, hr => by
    have h : onSome no (fun b => cond b (f (some (i, a, v, bn))) (findA P no kt k es (Nat.succ i) f)) (eqA P 10000 kt k a) = r := h
    obtain ⟨b, he, h⟩ := onSome_ne h hr
    have hrun := eqA_rel (P := P) 10000 kt k a b k' e'.key he rk ra
    cases b with
    | true =>
      simp only [cond_true] at h
      refine ⟨some (i, a, v, bn), some (i, e'.val), h, ?_, ?_, fun w => ?_⟩
      · exact .some (by have := h1 0; simpa using this) (by have := h2 0; simpa using this) ra rv hb
      · unfold Instr.findNow
        cases hs : Instr.sameNow d k' e'.key with
        | none => exact .inr rfl
        | some c =>
          have := sameNow_eq hu he rk ra hs
          subst this
          exact .inl rfl
      · simp [Instr.findAsking, Op.equal, Op.maxDepth, hrun]
    | false =>
      simp only [cond_false] at h
      obtain ⟨x, x', hx, hf, hn, ha⟩ := find_rel hu rk es es' (i + 1) f hrest (fun j => by have := h1 (j + 1); rw [show i + 1 + j = i + (j + 1) by omega, this]; rfl)
        (fun j => by have := h2 (j + 1); rw [show i + 1 + j = i + (j + 1) by omega, this]; rfl) h hr
      refine ⟨x, x', hx, hf, ?_, fun w => ?_⟩
      · unfold Instr.findNow
        cases hs : Instr.sameNow d k' e'.key with
        | none => exact .inr rfl
        | some c =>
          have := sameNow_eq hu he rk ra hs
          subst this
          exact hn
      · simp [Instr.findAsking, Op.equal, Op.maxDepth, hrun, ha]

/-- The model's search. -/
theorem findKey_rel {β : Type} {no r : β} {π : Pi} {kt : TypeId} {d : TypeDesc} (hu : P.underlying kt = some d) {k : AV} {k' : Value} (rk : VRel π k k') {es : List (AV × AV × Nat)} {es' : List MapEntry} (hr : ERel π es es')
    {f : Option (Nat × AV × AV × Nat) → β} (h : findA P no kt k es 0 f = r) (hne : r ≠ no) :
    ∃ x x', f x = r ∧ Found π es es' x x' ∧ ∀ w, (Instr.findKey kt k' es').run P w = .ok x' w := by
  obtain ⟨x, x', h1, h2, h3, h4⟩ := find_rel (ES := es) (ES' := es') hu rk es es' 0 f hr (fun j => by simp) (fun j => by simp) h hne
  refine ⟨x, x', h1, h2, fun w => ?_⟩
  simp only [Instr.findKey, Sem.run_bind, run_under hu, Result.andThen_ok]
  rcases h3 with h3 | h3
  · rw [h3]; rfl
  · rw [h3]; exact h4 w

section
variable {β : Type} {no r : β}
theorem onMap_ne {f : List (AV × AV × Nat) → Nat → β} {x : Option AObj} (h : onMap no f x = r) (hr : r ≠ no) : ∃ es c, x = some (.map es c) ∧ f es c = r := by
  unfold onMap at h
  split at h
  · exact ⟨_, _, rfl, h⟩
  · exact absurd h.symm hr
end

theorem Rel.map {π : Pi} {h : Heap} {w : World} (hr : Rel P π h w) {b clock : Nat} {es : List (AV × AV × Nat)} (hb : HT.get h.t b = some (.map es clock)) :
    ∃ i es', π b = some i ∧ w.heap[i.r]? = some (.map ⟨es'⟩ clock) ∧ ERel π es es' := by
  obtain ⟨i, obj, h1, h2, h3⟩ := hr.live b _ hb
  cases h3 with
  | map a => exact ⟨i, _, h1, h2, a⟩

theorem run_getObj_map {w : World} {r : Nat} {es : Array MapEntry} {c : Nat} (h : w.heap[r]? = some (.map es c)) : (getObj r).run P w = .ok (.map es c) w := by
  simp [getObj, Sem.run, h]

theorem ERel.length {π : Pi} : ∀ {l : List (AV × AV × Nat)} {l' : List MapEntry}, ERel π l l' → l.length = l'.length
  | _, _, .nil => rfl
  | _, _, .cons _ _ _ d => by simp [ERel.length d]

theorem zeroT_rel {t : TypeId} {z : AV} (h : zeroT P t = some z) : ∃ z', (∀ w, (zeroValue t).run P w = .ok z' w) ∧ ∀ π, VRel π z z' := by
  unfold zeroT at h
  cases hi : infoT P t with
  | none => simp [hi] at h
  | some i =>
    cases hz : i.zero with
    | none => simp [hi, hz] at h
    | some v => simp [hi, hz] at h; subst h; exact ⟨v, fun w => run_zero (info_of hi) hz w, fun π => ofV_rel π v⟩

theorem look_facts {π : Pi} {kt et : TypeId} {zero : AV} (hz : zeroT P et = some zero) {k : AV} {k' : Value} (rk : VRel π k k') {ok : Bool}
    {es : List (AV × AV × Nat)} {es' : List MapEntry} (hr : ERel π es es') {v : AV} (h : lookIn P kt zero k ok es = some v) :
    ∃ x' v', (∀ e w, (Instr.checkKey e 10000 kt k').run P w = .ok () w) ∧ (∀ w, (Instr.findKey kt k' es').run P w = .ok x' w) ∧ VRel π v v' ∧
      ((x' = none ∧ ∃ z', (∀ w, (zeroValue et).run P w = .ok z' w) ∧ v' = if ok then .tuple #[z', .bool false] else z') ∨ (∃ i u, x' = some (i, u) ∧ v' = if ok then .tuple #[u, .bool true] else u)) := by
  obtain ⟨hk, h⟩ := cond_ne h (by simp)
  have hkk : ∃ d, P.underlying kt = some d := by
    have := keyOk_succ (P := P) 9999 kt k
    rw [show keyOk P (9999 + 1) kt k = keyOk P 10000 kt k from rfl, hk] at this
    cases hd : underT P kt with
    | none => rw [hd] at this; simp at this
    | some d => exact ⟨d, under_of hd⟩
  obtain ⟨d, hd⟩ := hkk
  obtain ⟨x, x', hx, hf, hrun⟩ := findKey_rel hd rk hr h (by simp)
  obtain ⟨z', hzr, hzv⟩ := zeroT_rel hz
  have hck : ∀ e w, (Instr.checkKey e 10000 kt k').run P w = .ok () w := fun e w => keyOk_run e 10000 kt k k' hk rk w
  cases hf with
  | none =>
    refine ⟨none, _, hck, hrun, ?_, .inl ⟨rfl, z', hzr, rfl⟩⟩
    cases ok <;> (simp at hx; subst hx)
    · exact hzv π
    · exact .tup (.cons (hzv π) (.cons (.bool _) .nil))
  | @some i e e' h1 h2 h3 h4 h5 =>
    refine ⟨_, _, hck, hrun, ?_, .inr ⟨i, e'.val, rfl, rfl⟩⟩
    cases ok <;> (simp at hx; subst hx)
    · exact h4
    · exact .tup (.cons h4 (.cons (.bool _) .nil))

theorem sound_look {t kt et : TypeId} (hu : underT P t = some (.map kt et)) {zero : AV} (hz : zeroT P et = some zero) (m k : Operand) (ok : Bool) :
    SoundR P (.lookup t m k ok) (yLook P kt zero (gOf m).fn (gOf k).fn ok) := by
  intro π ts tmps h w v ht hr hv oo ho
  have rm := gOf_rel ht m
  have rk := gOf_rel ht k
  unfold yLook at hv
  simp only [execOp, ho]
  generalize (gOf m).fn ts = am at *
  generalize evT tmps m = vm at *
  cases rm <;> simp only [lookA] at hv <;> try (simp at hv; done)
  · obtain ⟨x', v', h1, h2, h3, h4⟩ := look_facts hz rk .nil hv
    refine ⟨v', ?_, h3⟩
    have h2' : ∀ w, (Instr.findKey kt (evT tmps k) []).run P w = .ok x' w := h2
    simp only [Instr.lookup, Sem.run_bind, run_under (under_of hu), Result.andThen_ok, Sem.run_pure, h1, h2']
    rcases h4 with ⟨rfl, z', hz', rfl⟩ | ⟨i', u, rfl, rfl⟩
    · simp [hz']
    · simp
  · rename_i b i hi
    obtain ⟨es, c, hb, hv⟩ := onMap_ne hv (by simp)
    obtain ⟨j, es', hj, hat, her⟩ := hr.map hb
    rw [hi] at hj; injection hj with hj; subst hj
    obtain ⟨x', v', h1, h2, h3, h4⟩ := look_facts hz rk her hv
    refine ⟨v', ?_, h3⟩
    simp only [Instr.lookup, Sem.run_bind, run_under (under_of hu), Result.andThen_ok, run_getObj_map hat, Sem.run_pure, h1, h2]
    rcases h4 with ⟨rfl, z', hz', rfl⟩ | ⟨i', u, rfl, rfl⟩
    · simp [hz']
    · simp

/-! ### Addresses turned; entries; lengths -/
theorem seenAt_row {w : World} {r off : Nat} {c : Array Value} {e : TypeId} {fz : Nat × Nat} (h : w.heap[r]? = some (.cells c e fz)) : (Conv.seenAt ⟨r, off, none⟩).run P w = .ok ⟨r, off, none⟩ w := by
  simp [Conv.seenAt, viewAt, World.shape?, h]

theorem sound_p2u {s d u : TypeId} {z : Nat} (hs : underT P s = some (.pointer u)) (hd : underT P d = some .unsafePointer) (hz : sizeT P u = some (z + 1)) (x : Operand) :
    SoundR P (.convert s d x) (yP2u (gOf x).fn) := by
  intro π ts tmps h w v ht hr hv oo ho
  obtain ⟨b, o, hx, hv⟩ := onPtr_ne (no := none) hv (by simp)
  obtain ⟨n, t', e, g, fz, hb, hv⟩ := onCells_ne hv (by simp)
  obtain ⟨hlt, hv⟩ := cond_ne hv (by simp)
  injection hv with hv; subst hv
  have hlt : o < n := by simpa using hlt
  obtain ⟨i, c, lo, hi, h1, h2, _, _, h3, _, _, _⟩ := hr.row hb
  have rx := gOf_rel ht x
  rw [hx] at rx
  obtain ⟨j, hj, hv2⟩ := rx.ptr_inv
  rw [h1] at hj; injection hj with hj; subst hj
  refine ⟨_, ?_, .ptr h1⟩
  have hn : ¬ (i.base + o ≥ c.size) := by omega
  simp only [execOp, ho, hv2, Sem.run_bind, convert, run_under (under_of hs), run_under (under_of hd), Result.andThen_ok, Conv.unsafePointer, seenAt_row h2]
  simp [cellsIn, World.shape?, h2, run_size hz, hn]

theorem sound_u2p {s d u : TypeId} {z : Nat} (hs : underT P s = some .unsafePointer) (hd : underT P d = some (.pointer u)) (hz : sizeT P u = some (z + 1)) (x : Operand) :
    SoundR P (.convert s d x) (yU2p P u (gOf x).fn) := by
  intro π ts tmps h w v ht hr hv oo ho
  obtain ⟨b, o, hx, hv⟩ := onPtr_ne (no := none) hv (by simp)
  obtain ⟨n, t', e, g, fz, hb, hv⟩ := onCells_ne hv (by simp)
  cases g with
  | true => simp at hv
  | false =>
  simp only [cond_false] at hv
  obtain ⟨hlies, hv⟩ := cond_ne hv (by simp)
  injection hv with hv; subst hv
  obtain ⟨i, c, lo, hi, h1, h2, _, hex, h3, _, _, _⟩ := hr.row hb
  obtain ⟨hcs, hbase⟩ := hex rfl
  have rx := gOf_rel ht x
  rw [hx] at rx
  obtain ⟨j, hj, hv2⟩ := rx.ptr_inv
  rw [h1] at hj; injection hj with hj; subst hj
  refine ⟨_, ?_, .ptr h1⟩
  simp only [execOp, ho, hv2, Sem.run_bind, convert, run_under (under_of hs), run_under (under_of hd), Result.andThen_ok, Conv.unsafePointer, seenAt_row h2, run_size hz]
  have : (variablesAt ⟨i.r, i.base + o, none⟩ u 1).run P w = .ok true w := by
    simp only [variablesAt, Sem.run_bind, run_program, Result.andThen_ok, run_shape, World.shape?, h2, hcs, hbase, Nat.zero_add]
    simp [hlies]
  simp [this]

theorem sound_lenm {t kt et : TypeId} (hu : underT P t = some (.map kt et)) (x : Operand) :
    SoundR P (.call { callee := .builtin .len, args := #[x], argTypes := #[t] }) (yLenm (gOf x).fn) := by
  intro π ts tmps h w v ht hr hv oo ho
  have rx := gOf_rel ht x
  unfold yLenm at hv
  obtain ⟨cs, he⟩ := exec_builtin (P := P) (tmps := tmps) ho w; rw [he]
  simp only [List.map_toArray, List.map_cons, List.map_nil, builtin, Builtin.len_]
  generalize (gOf x).fn ts = a at *
  generalize evT tmps x = vx at *
  cases rx <;> simp only [lenmA] at hv <;> try (simp at hv; done)
  · injection hv with hv; subst hv
    exact ⟨_, by simp [run_under (under_of hu), goInt], .int _ _⟩
  · rename_i b i hi
    obtain ⟨es, c, hb, hv⟩ := onMap_ne hv (by simp)
    rw [forceN_eq] at hv
    injection hv with hv; subst hv
    obtain ⟨j, es', hj, hat, her⟩ := hr.map hb
    rw [hi] at hj; injection hj with hj; subst hj
    refine ⟨.int .i64 (es'.length : Int), ?_, ?_⟩
    · simp [run_under (under_of hu), goInt, run_getObj_map hat]
    · rw [her.length]; exact .int _ _

theorem find_born {π : Pi} {stamp : Nat} : ∀ {es : List (AV × AV × Nat)} {es' : List MapEntry}, ERel π es es' → ∀ {e : AV × AV × Nat}, es.find? (fun e => e.2.2 == stamp) = some e →
    ∃ e', es'.find? (fun e => e.born == stamp) = some e' ∧ VRel π e.1 e'.key ∧ VRel π e.2.1 e'.val
  | _, _, .nil, e, h => by simp at h
  | _, _, .cons (k := k) (v := v) (b := b) (e := e') ra rv hb hrest, e, h => by
    rw [List.find?_cons] at h ⊢
    rw [hb]
    cases hs : b == stamp with
    | true => simp [hs] at h; subst h; exact ⟨e', by simp, ra, rv⟩
    | false => simp [hs] at h; simpa using find_born hrest h

theorem sound_entry (x : Operand) : SoundR P (.entry x) (yEntry (gOf x).fn) := by
  intro π ts tmps h w v ht hr hv oo ho
  obtain ⟨b, o, hx, hv⟩ := onPtr_ne (no := none) hv (by simp)
  obtain ⟨h0, hv⟩ := cond_ne hv (by simp)
  have h0 := beq_t h0
  subst h0
  have rx := gOf_rel ht x
  rw [hx] at rx
  obtain ⟨i, hi, hv2⟩ := rx.ptr_inv
  cases hb : HT.get h.t b with
  | none => simp [hb, entryIn] at hv
  | some ob =>
    rw [hb] at hv
    obtain ⟨j, obj, h1, h2, h3⟩ := hr.live b ob hb
    rw [hi] at h1; injection h1 with h1; subst h1
    cases h3 <;> simp only [entryIn] at hv <;> try (simp at hv; done)
    rename_i m since seen stepped j hbase hj
    split at hv
    · rename_i stamp es clock hs hm
      split at hv
      · rename_i hc; subst hc
        cases hf : es.find? (fun e => e.2.2 == stamp) with
        | none => simp [hf] at hv
        | some e =>
          simp [hf] at hv
          subst hv
          obtain ⟨j', es', hj', hat, her⟩ := hr.map hm
          rw [hj] at hj'; injection hj' with hj'; subst hj'
          obtain ⟨e', he', rk, rv⟩ := find_born her hf
          refine ⟨.tuple #[e'.key, e'.val], ?_, .tup (.cons rk (.cons rv .nil))⟩
          have hg : (getObj i.r).run P w = .ok (.mapIter (some j.r) since ⟨seen⟩ clock) w := by simp [getObj, Sem.run, h2]
          have hback : (⟨seen⟩ : Array Nat).back? = some stamp := by rw [← hs]; simp [Array.back?, List.getLast?_eq_getElem?]
          have hf2 : (⟨es'⟩ : Array MapEntry).find? (fun e => e.born == stamp) = some e' := by rw [← Array.find?_toList]; exact he'
          have hv3 : evT tmps x = .pointer (some ⟨i.r, 0, none⟩) := by rw [hv2, hbase]
          simp only [execOp, ho, hv3, Instr.entry, Sem.run_bind, hg, Result.andThen_ok, hback, run_getObj_map hat]
          simp [hf2]
      · cases hv
    · cases hv

end
end Go.Eng
