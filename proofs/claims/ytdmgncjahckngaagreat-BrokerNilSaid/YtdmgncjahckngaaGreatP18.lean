import Derived.Test.YtdmgncjahckngaaGreatP17
/-! Soundness, 18: strings' bytes; what lies behind a slice; strings over bytes. -/
namespace Go.Eng
set_option linter.all false

section
variable {P : Program}

theorem bytesV_bytes (π : Pi) (s : ByteArray) : VRels π (bytesV (s.data.toList.map UInt8.toNat)) (s.data.map fun b => Value.int .u8 b.toNat).toList := by
  have := bytesV_rel π s.data.toList
  simpa using this

theorem push_modify (h : Array Obj) (o : Obj) (f : Obj → Obj) : (h.push o).modify h.size f = h.push (f o) := by
  apply Array.ext_getElem?
  intro i
  rw [Array.getElem?_modify]
  by_cases e : h.size = i
  · subst e; simp
  · rw [if_neg e, Array.getElem?_push, Array.getElem?_push, if_neg (Ne.symm e), if_neg (Ne.symm e)]

theorem sound_s2b {s d e : TypeId} {v : AV} (hs : underT P s = some .string) (hd : underT P d = some (.slice e)) (he : underT P e = some (.int .u8)) (x : Operand) :
    SoundW P (.convert s d x) (wS2b e (gOf x).fn) := by
  intro π ts tmps h w r h' callF ht hr hf oo ho
  obtain ⟨l, hx, hf⟩ := onStr_ne hf (by simp)
  obtain ⟨hlen, hf⟩ := cond_ne hf (by simp)
  injection hf with h1 h2
  have rx := gOf_rel ht x
  rw [hx] at rx
  obtain ⟨b, hb, rfl⟩ := rx.str_inv
  have hsz : (b.data.toList.map UInt8.toNat).length = b.size := by simp
  have hlen : b.size ≤ 65536 := by have := Nat.le_of_ble_eq_true hlen; rw [hsz] at this; exact this
  obtain ⟨cap, hcap, hq⟩ : ∃ cap, b.size ≤ cap ∧ Question.cut (.appendCap b.size 0 e) (w.tape w.drawn (.appendCap b.size 0 e)) = cap := ⟨_, by simp only [Question.cut]; omega, rfl⟩
  have hle := Pi.le_set (i := (⟨w.heap.size, 0, cap, undef⟩ : Info)) (hr.next_none (Nat.le_refl h.next))
  have hc : ((b.data.map fun b => Value.int .u8 b.toNat) ++ Array.replicate (cap - b.size) (Value.int .u8 0)).size = cap := by
    simp only [Array.size_append, Array.size_map, Array.size_replicate]
    have : b.data.size = b.size := rfl
    omega
  have g1 := Good.drew hr (w.drawn + 1)
  have g2 := g1.trans (Good.add g1.rel (rowObj e (bytesV (b.data.toList.map UInt8.toNat)) true 1048576)
    (.cells ((b.data.map fun b => Value.int .u8 b.toNat) ++ Array.replicate (cap - b.size) (Value.int .u8 0)) e (cap, cap + 1)) ⟨w.heap.size, 0, cap, undef⟩ rfl (by
      refine row_any hc.symm (by simp [bytesV]; omega) (by rw [hc]; simp [bytesV]; omega) (fun k x hk => ?_) (fun k k0 k1 k2 => by rw [hc] at k0; omega) (fun h => absurd h (by omega))
      obtain ⟨y, hy, hry⟩ := (bytesV_bytes (π.set h.next ⟨w.heap.size, 0, cap, undef⟩) b).get hk
      refine ⟨y, ?_, hry⟩
      have hkl := (List.getElem?_eq_some_iff.mp hy).1
      rw [Array.getElem?_toList] at hy
      simp only [Nat.zero_add]
      rw [Array.getElem?_append_left (by simpa using hkl)]
      exact hy))
  refine ⟨_, .slice (some ⟨w.heap.size, 0, none⟩) b.size cap, _, _, ?_, .inl rfl, ?_, h2 ▸ g2⟩
  · have hconv : (execOp (evT tmps) oo).run P w = ((Conv.stringToBytes e b).run P w).andThen fun v w => .ok (.value v) w := by
      simp [execOp, ho, hb, convert, run_under (under_of hs), run_under (under_of hd), run_under (under_of he)]
    rw [hconv]
    simp only [Conv.stringToBytes, Sem.run_bind, run_choose, Question.forced, Bool.false_eq_true, if_false, Result.andThen_ok, hq, newRow, run_newObj, Sem.run_pure, markStringish, run_shape, World.shape?]
    have hp : ∀ o : Obj, (w.heap.push o)[w.heap.size]? = some o := fun o => by simp
    simp only [hp, hc, run_freeze, Result.andThen_ok, World.freeze, push_modify, Nat.succ_ne_zero, if_false, beq_self_eq_true, if_true]
  · rw [← h1]
    rw [hsz]
    have := VRel.slu (π := π.set h.next ⟨w.heap.size, 0, cap, undef⟩) (b := h.next) (o := 0) (n := b.size) (c := cap) (z := 1) (i := ⟨w.heap.size, 0, cap, undef⟩) (Pi.set_same _ _ _) hcap (by simp)
    exact this

theorem usd_nil (ats : Array TypeId) (ty : TypeId) (n c : Nat) : Builtin.unsafeSliceData_ ats ty #[.slice none n c] = pure (.pointer none) := rfl
theorem usd_some (ats : Array TypeId) (ty : TypeId) (a : Addr) (n c : Nat) : Builtin.unsafeSliceData_ ats ty #[.slice (some a) n c] =
    (if c ≠ 0 then pure (.pointer (some a)) else do
      if (← viewAt a.block).isSome then pure (.pointer (some a)) else pure (.pointer (some ⟨← newObj (.view a (← elemOf ty)), 0, none⟩))) := rfl
theorem ustr_eq (ats : Array TypeId) (ty : TypeId) (p : Option Addr) (l : Value) : Builtin.unsafeString_ ats ty #[.pointer p, l] = (do
    let n ← asInt l
    let some pt := ats[0]? | stuck "unsafe.String: no argument types"
    if n < 0 then runtimePanic (.error "unsafe.String: len out of range")
    if n > IntKind.i64.max then unsupported (.unsafePointer "String: a length above the largest int")
    match p with
    | none => if n = 0 then pure (.string .empty) else runtimePanic (.error "unsafe.String: ptr is nil and len is not zero")
    | some a =>
      if n = 0 then pure (.string .empty)
      else if ← variablesAt a (← elemOf pt) n.toNat then do
        let s ← loadBytes a .empty n.toNat
        freeze a n.toNat
        pure (.string s)
      else unsupported (.unsafePointer "String: not so many bytes at ptr")) := rfl

theorem run_asIntI (k : IntKind) (n : Int) (w : World) : (asInt (.int k n)).run P w = .ok n w := by simp [asInt, asIntOf]

theorem sound_sdata {ats : Array TypeId} (x : Operand) : SoundW P (.call { callee := .builtin .unsafeSliceData, args := #[x], argTypes := ats }) (wSdata (gOf x).fn) := by
  intro π ts tmps h w r h' callF ht hr hf oo ho
  have rx := gOf_rel ht x
  unfold wSdata at hf
  obtain ⟨cs, he⟩ := exec_builtin (P := P) (tmps := tmps) ho w
  simp only [List.map_toArray, List.map_cons, List.map_nil] at he
  generalize (gOf x).fn ts = ax at *
  generalize evT tmps x = vx at *
  cases rx <;> simp only at hf <;> try (cases hf; done)
  · injection hf with h1 h2
    subst h1; subst h2
    refine ⟨_, .pointer none, w, π, ?_, .inl rfl, .nilp, .refl hr⟩
    rw [he]
    simp [builtin, usd_nil]
  · rename_i b o n c i hi
    cases n with
    | zero => cases hf
    | succ n =>
      cases c with
      | zero => cases hf
      | succ c =>
        injection hf with h1 h2
        subst h1; subst h2
        refine ⟨_, .pointer (some ⟨i.r, i.base + o, none⟩), w, π, ?_, .inl rfl, .ptr hi, .refl hr⟩
        rw [he]
        simp [builtin, usd_some]
  · rename_i b o n c z i hi hnc hroom
    cases n with
    | zero => cases hf
    | succ n =>
      injection hf with h1 h2
      subst h1; subst h2
      refine ⟨_, .pointer (some ⟨i.r, i.base + o, none⟩), w, π, ?_, .inl rfl, .ptr hi, .refl hr⟩
      rw [he]
      have : c ≠ 0 := by omega
      simp [builtin, usd_some, this]

theorem run_loadBytes {w : World} {r : Nat} : ∀ (s : List Nat) (off : Nat) (acc : ByteArray), (∀ (j : Nat) m, s[j]? = some m → w.cell? ⟨r, off + j, none⟩ = some (.int .u8 (.ofNat m))) →
    (loadBytes ⟨r, off, none⟩ acc s.length).run P w = .ok ⟨acc.data ++ (bytesOf s).toArray⟩ w
  | [], off, acc, _ => by simp [loadBytes, bytesOf]
  | m :: s, off, acc, h => by
    have h0 := h 0 m rfl
    rw [Nat.add_zero] at h0
    simp only [List.length_cons, loadBytes, Sem.run_bind, run_load, h0, Result.andThen_ok, add_eq ⟨r, off, none⟩ rfl 1]
    rw [run_loadBytes s (off + 1) _ (fun j m' hj => by
      have := h (j + 1) m' (by simpa using hj)
      rw [show off + 1 + j = off + (j + 1) by omega]; exact this)]
    congr 1
    simp [bytesOf, ByteArray.push]

theorem lies_byte {e u : TypeId} {count off n : Nat} (he : P.cellsOf e = 1) (hl : sameLayout P P.depth e u = true) (hc : off + n ≤ count) : liesAt P P.depth e (count / P.cellsOf e) off u n = true := by
  obtain ⟨d, hd⟩ : ∃ d, P.depth = d + 1 := by
    cases hp : P.depth with
    | zero => rw [hp] at hl; simp [sameLayout] at hl
    | succ d => exact ⟨d, rfl⟩
  rw [he, Nat.div_one]
  have : rowAt P (sameLayout P P.depth · u) P.depth e count off n = true := by
    generalize hg : (fun x => sameLayout P P.depth x u) = g
    have hge : g e = true := by rw [← hg]; exact hl
    rw [hd]
    unfold rowAt
    simp only [he, Nat.succ_ne_zero, if_false, Nat.div_one, Nat.mod_one, hge]
    simp [hc]
  rw [hd] at this ⊢
  unfold liesAt
  rw [hd, this]
  rfl

theorem sound_ustr {pt u : TypeId} {ats : List TypeId} (hu : underT P pt = some (.pointer u)) (p n : Operand) :
    SoundW P (.call { callee := .builtin .unsafeString, args := #[p, n], argTypes := ⟨pt :: ats⟩ }) (wUstr P u (gOf p).fn (gOf n).fn) := by
  intro π ts tmps h w r h' callF ht hr hf oo ho
  have rp := gOf_rel ht p
  have rn := gOf_rel ht n
  unfold wUstr at hf
  obtain ⟨cs, he⟩ := exec_builtin (P := P) (tmps := tmps) ho w
  simp only [List.map_toArray, List.map_cons, List.map_nil] at he
  split at hf
  · rename_i h1 h2
    rw [h1] at rp; rw [h2] at rn
    injection hf with h1 h2
    subst h1; subst h2
    have hn := rn.int_inv
    generalize evT tmps p = vp at *
    cases rp
    refine ⟨_, .string .empty, w, π, ?_, .inl rfl, ?_, .refl hr⟩
    · rw [he, hn]
      simp [builtin, ustr_eq, run_asIntI]
    · exact .str .empty
  · rename_i b o m h1 h2
    rw [h1] at rp; rw [h2] at rn
    have hn : evT tmps n = .int .i64 (Int.ofNat (m + 1)) := rn.int_inv
    obtain ⟨i, hi, hp⟩ := rp.ptr_inv
    replace hf := onCells_ne hf (by simp)
    obtain ⟨rows, t, e, g, fz, hb, hf⟩ := hf
    replace hf := cond_ne hf (by simp)
    obtain ⟨hsmall, hf⟩ := hf
    replace hf := cond_ne hf (by simp)
    obtain ⟨hin, hf⟩ := hf
    replace hf := cond_ne hf (by simp)
    obtain ⟨hlay, hf⟩ := hf
    simp only [Bool.and_eq_true] at hlay
    obtain ⟨⟨hce, hcu⟩, hlay⟩ := hlay
    have hce := beq_t hce
    simp only [Bool.and_eq_true] at hsmall
    obtain ⟨hsmall, hun⟩ := hsmall
    have hsmall : m + 1 ≤ 1000000 := Nat.le_of_ble_eq_true hsmall
    have hun : fz < 1048576 := by simpa using hun
    have hin : o + (m + 1) ≤ rows := Nat.le_of_ble_eq_true hin
    obtain ⟨l, hl, hlen, hg⟩ := cellsFrom_ne _ _ _ hf (by simp)
    obtain ⟨s, hs, rfl, hall⟩ := bytesA_ne _ _ hl (by simp)
    injection hs with h3 h4
    have hslen : s.length = m + 1 := by simpa using hlen
    obtain ⟨k2, c, lo, hi2, hk2, hw, hn2, hex, hle, hroomt, hcell, hfr, hmk⟩ := hr.row hb
    rw [hi] at hk2; injection hk2 with hk2; subst hk2
    have hload : (loadBytes ⟨i.r, i.base + o, none⟩ .empty (m + 1)).run P w = .ok ⟨(bytesOf s).toArray⟩ w := by
      have := run_loadBytes (P := P) (w := w) (r := i.r) s (i.base + o) .empty (fun j x hj => by
        have hjl := (List.getElem?_eq_some_iff.mp hj).1
        obtain ⟨h5, h6⟩ := hg j (by omega)
        obtain ⟨v, v1, v2⟩ := hcell (o + j) h5
        have : AV.int .u8 (.ofNat x) = t.get (o + j) := by
          have : (s.map fun m => AV.int .u8 (.ofNat m))[j]? = some (AV.int .u8 (.ofNat x)) := by simp [hj]
          rw [h6] at this; injection this with this; exact this.symm
        rw [← this] at v2
        rw [v2.int_inv] at v1
        exact cell_of hw (by rw [Nat.add_assoc]; exact v1))
      rw [hslen] at this
      rw [this]
      simp
    have hfz : w.freeze ⟨i.r, i.base + o, none⟩ (m + 1) = { w with heap := w.heap.modify i.r fun
      | .cells c elem (lo, hi) => .cells c elem (if lo == hi then (i.base + o, i.base + o + (m + 1)) else (min lo (i.base + o), max hi (i.base + o + (m + 1))))
      | o => o } := by
      unfold World.freeze
      rw [if_neg (by omega)]
      rfl
    refine ⟨_, .string ⟨(bytesOf s).toArray⟩, w.freeze ⟨i.r, i.base + o, none⟩ (m + 1), π, ?_, .inl rfl, ?_, ?_⟩
    · rw [he, hn, hp]
      have hv : (variablesAt ⟨i.r, i.base + o, none⟩ u (m + 1)).run P w = .ok true w := by
        simp only [variablesAt, Sem.run_bind, run_program, Result.andThen_ok, run_shape, World.shape?, hw, Sem.run_pure]
        rw [lies_byte hce hlay (by omega)]
      have hbig : ¬ ((Int.ofNat (m + 1)) > IntKind.i64.max) := by
        have : IntKind.i64.max = 9223372036854775807 := by decide
        rw [this]; simp only [Int.ofNat_eq_natCast]; omega
      have hneg : ¬ (Int.ofNat (m + 1) < 0) := by simp only [Int.ofNat_eq_natCast]; omega
      have h0 : ¬ (Int.ofNat (m + 1) = 0) := by simp only [Int.ofNat_eq_natCast]; omega
      have hnat : (Int.ofNat (m + 1)).toNat = m + 1 := rfl
      simp only [builtin, ustr_eq, run_asIntI, Sem.run_bind, Sem.run_pure, Result.andThen_ok, List.getElem?_toArray, List.getElem?_cons_zero, hneg, hbig, h0, if_false, elemOf, run_under (under_of hu), hnat, hv, if_true, hload, run_freeze]
    · rw [← h3]
      exact str_rel π _ (by simpa using (bytesOf_nats hall).symm)
    · rw [← h4, hfz]
      refine Good.put hr hb hi _ (.cells c e (if lo == hi2 then (i.base + o, i.base + o + (m + 1)) else (min lo (i.base + o), max hi2 (i.base + o + (m + 1))))) ?_ _ (by simp) (by rw [Array.getElem?_modify, if_pos rfl, hw]; rfl) (fun r' hr' => by rw [Array.getElem?_modify, if_neg (Ne.symm hr')])
      have hrl := Cells.room_le t
      have hfm := hmk hun
      have hnew : (cond (Nat.ble fz (Nat.add o (m + 1))) (Nat.add o (m + 1)) fz) = max fz (o + (m + 1)) := by
        by_cases hB : fz ≤ o + (m + 1)
        · rw [ble_t (show fz ≤ Nat.add o (m + 1) from hB)]
          show o + (m + 1) = _
          omega
        · rw [ble_f (show ¬ fz ≤ Nat.add o (m + 1) from hB)]
          show fz = _
          omega
      rw [hnew]
      have hmod : max fz (o + (m + 1)) % 1048576 = max fz (o + (m + 1)) := Nat.mod_eq_of_lt (by omega)
      split
      · refine .cells hn2 hex hle hroomt hcell (fun k k0 k1 k2 => by rw [hmod]; omega) (fun _ => .inr ⟨by omega, by omega⟩)
      · rename_i hne
        have hne : lo ≠ hi2 := by simpa using hne
        refine .cells hn2 hex hle hroomt hcell (fun k k0 k1 k2 => ?_) (fun _ => .inr ⟨by omega, by omega⟩)
        rw [hmod]
        have hlh : lo < hi2 ∧ lo < c.size := hfm.resolve_left hne
        have h2 := hfr lo hlh.2 (Nat.le_refl _) hlh.1
        have hmz : fz % 1048576 = fz := Nat.mod_eq_of_lt hun
        by_cases hk1 : lo ≤ k ∧ k < hi2
        · have := hfr k k0 hk1.1 hk1.2
          omega
        · omega
  · cases hf

end
end Go.Eng
