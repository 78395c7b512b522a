import Derived.Test.YtdmgncjahckngaaGreatP19
import Derived.Laws.RangeString
/-! Soundness, 20: ranges. -/
namespace Go.Eng
set_option linter.all false

section
variable {P : Program}

/-- A new block that is no row. -/
theorem Good.newObj {π : Pi} {h : Heap} {w : World} (hr : Rel P π h w) (o : AObj) (obj : Obj) (ho : ∀ π' : Pi, π.le π' → ORel P π' ⟨w.heap.size, 0, 0, undef⟩ o obj) :
    Good P π h w (π.set h.next ⟨w.heap.size, 0, 0, undef⟩) (addObj h o) { w with heap := w.heap.push obj } :=
  Good.add hr o obj ⟨w.heap.size, 0, 0, undef⟩ rfl (ho _ (Pi.le_set (hr.next_none (Nat.le_refl _))))

theorem sound_ranges {t : TypeId} (hu : underT P t = some .string) (x : Operand) : SoundW P (.range t x) (wRanges (gOf x).fn) := by
  intro π ts tmps h w r h' callF ht hr hf oo ho
  obtain ⟨l, hx, hf⟩ := onStr_ne hf (by simp)
  injection hf with h1 h2
  have rx := gOf_rel ht x
  rw [hx] at rx
  obtain ⟨b, hb, rfl⟩ := rx.str_inv
  subst h1; subst h2
  refine ⟨_, .pointer (some ⟨w.heap.size, 0, none⟩), _, _, ?_, .inl rfl, ?_, Good.newObj hr (.siter (b.data.toList.map UInt8.toNat) 0) (.stringIter b 0) (fun π' _ => .siter rfl)⟩
  · simp [execOp, ho, Instr.range, run_under (under_of hu), hb]
  · exact VRel.ptr (o := 0) (Pi.set_same _ _ _)

theorem sound_rangem {t kt et : TypeId} (hu : underT P t = some (.map kt et)) (x : Operand) : SoundW P (.range t x) (wRangem (gOf x).fn) := by
  intro π ts tmps h w r h' callF ht hr hf oo ho
  have rx := gOf_rel ht x
  unfold wRangem at hf
  have hexec : (execOp (evT tmps) oo).run P w = ((Instr.range t (evT tmps x)).run P w).andThen fun v w => .ok (.value v) w := by simp [execOp, ho]
  rw [hexec]
  generalize (gOf x).fn ts = ax at *
  generalize evT tmps x = vx at *
  cases rx <;> simp only [rangemA] at hf <;> try (cases hf; done)
  · injection hf with h1 h2
    subst h1; subst h2
    refine ⟨_, .pointer (some ⟨w.heap.size, 0, none⟩), _, _, ?_, .inl rfl, VRel.ptr (o := 0) (Pi.set_same _ _ _), Good.newObj hr (.iter none 0 [] 0) (.mapIter none 0 ⟨[]⟩ 0) (fun π' _ => .iter0 rfl)⟩
    simp [Instr.range, run_under (under_of hu)]
  · rename_i b i hi
    replace hf := onMap_ne hf (by simp)
    obtain ⟨es, clock, hb, hf⟩ := hf
    obtain ⟨j, es', hj, hat, her⟩ := hr.map hb
    rw [hi] at hj; injection hj with hj; subst hj
    injection hf with h1 h2
    subst h1; subst h2
    refine ⟨_, .pointer (some ⟨w.heap.size, 0, none⟩), _, _, ?_, .inl rfl, VRel.ptr (o := 0) (Pi.set_same _ _ _), Good.newObj hr (.iter (some b) clock [] clock) (.mapIter (some i.r) clock ⟨[]⟩ clock) (fun π' hle => .iter rfl (hle _ _ hi))⟩
    simp only [Instr.range, Sem.run_bind, run_under (under_of hu), Result.andThen_ok, run_getObj_map hat, Sem.run_pure, run_newObj]

theorem run_getObj_any {w : World} {r : Nat} {o : Obj} (h : w.heap[r]? = some o) (hn : ∀ c e f, o ≠ .cells c e f) : (getObj r).run P w = .ok o w := by
  cases o with
  | cells c e f => exact absurd rfl (hn _ _ _)
  | _ => simp only [getObj, Sem.run, h]

theorem get_chars {s : ByteArray} {pos c : Nat} (h : (s.data.toList.map UInt8.toNat)[pos]? = some c) : ∃ h : pos < s.size, (s[pos]'h).toNat = c := by
  rw [List.getElem?_map] at h
  cases hx : s.data.toList[pos]? with
  | none => simp [hx] at h
  | some b =>
    simp [hx] at h
    obtain ⟨h1, h2⟩ := List.getElem?_eq_some_iff.mp hx
    have hp : pos < s.size := by simpa using h1
    refine ⟨hp, ?_⟩
    rw [← h]
    congr 1

theorem sound_next (x : Operand) (isString : Bool) : SoundW P (.next x isString) (wNext (gOf x).fn isString) := by
  intro π ts tmps h w r h' callF ht hr hf oo ho
  replace hf := onPtr_ne hf (by simp)
  obtain ⟨b, o, hx, hf⟩ := hf
  replace hf := cond_ne hf (by simp)
  obtain ⟨h0, hf⟩ := hf
  have h0 := beq_t h0
  subst h0
  have rx := gOf_rel ht x
  rw [hx] at rx
  obtain ⟨i, hi, hv⟩ := rx.ptr_inv
  have hexec : (execOp (evT tmps) oo).run P w = ((Instr.next (evT tmps x) isString oo.type).run P w).andThen fun v w => .ok (.value v) w := by simp [execOp, ho]
  rw [hexec, hv]
  generalize hb : HT.get h.t b = ob at hf
  unfold nextA at hf
  split at hf
  · -- an empty map's
    obtain ⟨j, obj, hj, hat, hor⟩ := hr.live b _ hb
    rw [hi] at hj; injection hj with hj; subst hj
    injection hf with h1 h2
    subst h1; subst h2
    cases hor with
    | iter0 hbase =>
      refine ⟨_, .tuple #[.bool false], w, π, ?_, .inl rfl, .tup (.cons (.bool _) .nil), .refl hr⟩
      simp only [Instr.next, hbase, Nat.zero_add, Sem.run_bind, run_getObj_any hat (fun _ _ _ => by simp), Result.andThen_ok, Sem.run_pure]
  · -- a string's
    rename_i s pos
    obtain ⟨j, obj, hj, hat, hor⟩ := hr.live b _ hb
    rw [hi] at hj; injection hj with hj; subst hj
    cases hor with
    | @siter s' _ hbase =>
      split at hf
      · rename_i hnone
        injection hf with h1 h2
        subst h1; subst h2
        refine ⟨_, .tuple #[.bool false], w, π, ?_, .inl rfl, .tup (.cons (.bool _) .nil), .refl hr⟩
        have hge : ¬ pos < s'.size := by
          rw [List.getElem?_eq_none_iff] at hnone
          simpa using hnone
        simp only [Instr.next, hbase, Nat.zero_add, Sem.run_bind, run_getObj_any hat (fun _ _ _ => by simp), Result.andThen_ok, Sem.run_pure, hge, if_false]
      · rename_i c hc
        replace hf := cond_ne hf (by simp)
        obtain ⟨hlt, hf⟩ := hf
        rw [forceN_eq] at hf
        injection hf with h1 h2
        have hlt : c < 128 := by simpa using hlt
        obtain ⟨hp, hcc⟩ := get_chars hc
        have hdec := decode_ascii s' pos hp (by rw [hcc]; exact hlt)
        rw [hcc] at hdec
        subst h1; subst h2
        refine ⟨_, .tuple #[.bool true, goInt pos, .int .i32 c], _, π, ?_, .inl rfl, .tup (.cons (.bool _) (.cons (.int _ _) (.cons (.int _ _) .nil))), Good.setObj hr hb hi _ (.stringIter s' (pos + 1)) (.siter hbase)⟩
        simp only [Instr.next, hbase, Nat.zero_add, Sem.run_bind, run_getObj_any hat (fun _ _ _ => by simp), Result.andThen_ok, Sem.run_pure, hp, if_true, hdec, run_setObj2 hat (fun _ _ _ => by simp)]
  · -- a map's
    rename_i m since seen last
    obtain ⟨j, obj, hj, hat, hor⟩ := hr.live b _ hb
    rw [hi] at hj; injection hj with hj; subst hj
    replace hf := onMap_ne hf (by simp)
    obtain ⟨es, clock, hbm, hf⟩ := hf
    obtain ⟨jm, es', hjm, hatm, her⟩ := hr.map hbm
    cases hor with
    | iter hbase hm =>
      rw [hjm] at hm; injection hm with hm; subst hm
      split at hf
      · cases hf
      · rename_i hgone
        have hG : (!(⟨seen⟩ : Array Nat).isEmpty && !(⟨es'⟩ : Array MapEntry).isEmpty && (⟨es'⟩ : Array MapEntry).all fun e => decide (e.born ≥ last)) = false := by
          have e1 : (es.all fun e => Nat.ble last e.2.2) = es'.all fun e => Nat.ble last e.born := ERel.all (fun n => Nat.ble last n) her
          have e2 : (es'.all fun e => decide (e.born ≥ last)) = es'.all fun e => Nat.ble last e.born := by
            congr 1; funext e; rw [Bool.eq_iff_iff]; simp
          have e3 : es.isEmpty = es'.isEmpty := by have := her.length; cases es <;> cases es' <;> simp_all
          rw [e1, e3] at hgone
          simp only [List.all_toArray, e2]
          simpa using hgone
        have f1 := ERel.filter (fun n => !seen.contains n) her
        have f2 := ERel.filter (fun n => Nat.blt n since) f1
        have f3 := ERel.filter (fun n => Nat.ble since n) f1
        have a1 : ((⟨es'⟩ : Array MapEntry).filter fun e => !(⟨seen⟩ : Array Nat).contains e.born) = ⟨es'.filter fun e => !seen.contains e.born⟩ := by simp
        have a2 : ((⟨es'.filter fun e => !seen.contains e.born⟩ : Array MapEntry).filter fun e => decide (e.born < since)) = ⟨(es'.filter fun e => !seen.contains e.born).filter fun e => Nat.blt e.born since⟩ := by
          have : (fun e : MapEntry => decide (e.born < since)) = fun e => Nat.blt e.born since := by funext e; rw [Bool.eq_iff_iff]; simp
          rw [this]; simp
        have a3 : ((⟨es'.filter fun e => !seen.contains e.born⟩ : Array MapEntry).filter fun e => decide (e.born ≥ since)) = ⟨(es'.filter fun e => !seen.contains e.born).filter fun e => Nat.ble since e.born⟩ := by
          have : (fun e : MapEntry => decide (e.born ≥ since)) = fun e => Nat.ble since e.born := by funext e; rw [Bool.eq_iff_iff]; simp
          rw [this]; simp
        generalize ((es.filter fun e => !seen.contains e.2.2).filter fun e => Nat.blt e.2.2 since) = A at *
        generalize ((es.filter fun e => !seen.contains e.2.2).filter fun e => Nat.ble since e.2.2) = B at *
        generalize ((es'.filter fun e => !seen.contains e.born).filter fun e => Nat.blt e.born since) = A' at *
        generalize ((es'.filter fun e => !seen.contains e.born).filter fun e => Nat.ble since e.born) = B' at *
        split at hf
        · injection hf with h1 h2
          subst h1; subst h2
          cases f2; cases f3
          refine ⟨_, .tuple #[.bool false], w, π, ?_, .inl rfl, .tup (.cons (.bool _) .nil), .refl hr⟩
          simp only [Instr.next, hbase, Nat.zero_add, Sem.run_bind, run_getObj_any hat (fun _ _ _ => by simp), Result.andThen_ok, Sem.run_pure, run_getObj_map hatm, hG, Bool.false_eq_true, if_false, a1, a2, a3]
          simp [Question.forced]
        · rename_i e
          injection hf with h1 h2
          subst h1; subst h2
          cases f3
          cases f2 with
          | @cons k v bn e' _ _ rk rv hbn hrest =>
          cases hrest
          refine ⟨_, .tuple #[.bool true, e'.key, e'.val], _, π, ?_, .inl rfl, .tup (.cons (.bool _) (.cons rk (.cons rv .nil))), Good.setObj hr hb hi _ (.mapIter (some jm.r) since ⟨seen ++ [e'.born]⟩ clock) (by rw [hbn]; exact .iter hbase hjm)⟩
          simp only [Instr.next, hbase, Nat.zero_add, Sem.run_bind, run_getObj_any hat (fun _ _ _ => by simp), Result.andThen_ok, Sem.run_pure, run_getObj_map hatm, hG, Bool.false_eq_true, if_false, a1, a2, a3]
          simp [Question.forced, run_setObj2 hat]
        · cases hf
  · cases hf

end
end Go.Eng
