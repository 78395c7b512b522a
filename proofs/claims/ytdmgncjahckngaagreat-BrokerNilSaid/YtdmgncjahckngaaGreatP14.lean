import Derived.Test.YtdmgncjahckngaaGreatP13
/-! Soundness, 14: stores. -/
namespace Go.Eng
set_option linter.all false

section
variable {P : Program}

def SoundW (P : Program) (o : Op) (f : CallF → Env → Heap → Res) : Prop :=
  ∀ (π : Pi) (ts : Env) (tmps : Array Value) (h : Heap) (w : World) (v : AV) (h' : Heap) (callF : CallF), TRel π ts tmps → Rel P π h w → f callF ts h = .ok v h' →
    ∀ (oo : Oper), oo.op = o → ∃ n v' w' π', (execOp (evT tmps) oo).run P w = .ok n w' ∧ (n = .value v' ∨ (n = .skip ∧ v' = undef)) ∧ VRel π' v v' ∧ Good P π h w π' h' w'

theorem plain_one {π : Pi} {a : AV} {v : Value} (h : VRel π a v) (hp : plainAV a = true) : v.oneCell' = true := by
  cases h <;> first | rfl | assumption | (simp [plainAV] at hp; done)
theorem plain_ones {π : Pi} : ∀ {l : List AV} {l' : List Value}, VRels π l l' → l.all plainAV = true → ∀ v ∈ l', v.oneCell' = true
  | _, _, .nil, _, v, hv => by simp at hv
  | _, _, .cons h t, hp, v, hv => by
    simp only [List.all_cons, Bool.and_eq_true] at hp
    rcases List.mem_cons.mp hv with rfl | hv
    · exact plain_one h hp.1
    · exact plain_ones t hp.2 v hv

/-- Cells with values laid from a place on. -/
def putL (c : Array Value) (off : Nat) : List Value → Array Value
  | [] => c
  | v :: l => putL (c.setIfInBounds off v) (off + 1) l
theorem putL_size : ∀ (l : List Value) (c : Array Value) (off : Nat), (putL c off l).size = c.size
  | [], _, _ => rfl
  | v :: l, c, off => by unfold putL; rw [putL_size l]; simp
theorem putL_get : ∀ (l : List Value) (c : Array Value) (off k : Nat), off + l.length ≤ c.size → (putL c off l)[k]? = if off ≤ k ∧ k < off + l.length then l[k - off]? else c[k]?
  | [], c, off, k, _ => by
    have : ¬ (off ≤ k ∧ k < off + ([] : List Value).length) := by simp
    rw [if_neg this]; rfl
  | v :: l, c, off, k, h => by
    simp only [List.length_cons] at h
    unfold putL
    rw [putL_get l _ (off + 1) k (by simp; omega)]
    by_cases h1 : off + 1 ≤ k ∧ k < off + 1 + l.length
    · rw [if_pos h1, if_pos (by simp only [List.length_cons]; omega)]
      obtain ⟨j, rfl⟩ : ∃ j, k = off + 1 + j := ⟨k - (off + 1), by omega⟩
      rw [show off + 1 + j - (off + 1) = j by omega, show off + 1 + j - off = j + 1 by omega]
      simp
    · rw [if_neg h1]
      by_cases h2 : k = off
      · subst h2
        rw [if_pos (by simp only [List.length_cons]; omega)]
        have : k < c.size := by omega
        simp [this]
      · rw [if_neg (by simp only [List.length_cons]; omega), Array.getElem?_setIfInBounds_ne (Ne.symm h2)]

theorem run_storeCells : ∀ (vs : List Value) (w : World) (r off i : Nat) (c : Array Value) (e : TypeId) (lo hi : Nat), w.heap[r]? = some (.cells c e (lo, hi)) → off + i + vs.length ≤ c.size →
    (∀ k, off + i ≤ k → k < off + i + vs.length → ¬ (lo ≤ k ∧ k < hi)) → (∀ v ∈ vs, v.oneCell' = true) →
    ∃ hp : Array Obj, (storeCells ⟨r, off, none⟩ vs i).run P w = .ok () { w with heap := hp } ∧ hp.size = w.heap.size ∧ hp[r]? = some (.cells (putL c (off + i) vs) e (lo, hi)) ∧ ∀ r', r' ≠ r → hp[r']? = w.heap[r']?
  | [], w, r, off, i, c, e, lo, hi, h, _, _, _ => ⟨w.heap, by simp [storeCells], rfl, h, fun _ _ => rfl⟩
  | v :: vs, w, r, off, i, c, e, lo, hi, h, hsz, hfz, hv => by
    simp only [List.length_cons] at hsz hfz
    have hlt : off + i < c.size := by omega
    have hr : r < w.heap.size := by
      rcases Nat.lt_or_ge r w.heap.size with h' | h'
      · exact h'
      · simp [Array.getElem?_eq_none h'] at h
    have hcell : w.cell? ⟨r, off + i, none⟩ = some c[off + i] := cell_of h (by simp [hlt])
    have hfrz : w.frozen? ⟨r, off + i, none⟩ = false := by
      have := hfz (off + i) (Nat.le_refl _) (by omega)
      simp only [World.frozen?, h]
      rw [Bool.eq_false_iff]
      simpa using this
    have hset : (w.setCell ⟨r, off + i, none⟩ v).heap[r]? = some (.cells (c.setIfInBounds (off + i) v) e (lo, hi)) := by
      simp only [World.setCell, Array.getElem?_modify, if_pos rfl, h]
      simp
    obtain ⟨hp, h1, h2, h3, h4⟩ := run_storeCells vs (w.setCell ⟨r, off + i, none⟩ v) r off (i + 1) _ e lo hi hset (by simp; omega) (fun k h1 h2 => hfz k (by omega) (by omega)) (fun u hu => hv u (List.mem_cons_of_mem _ hu))
    refine ⟨hp, ?_, by rw [h2]; simp [World.setCell], ?_, fun r' hr' => ?_⟩
    · have hadd : (⟨r, off, none⟩ : Addr).add i = ⟨r, off + i, none⟩ := add_eq ⟨r, off, none⟩ rfl i
      simp only [storeCells, Sem.run_bind, hadd]
      rw [run_store P w _ v _ (hv v (List.mem_cons_self)), hcell]
      simp only [hfrz, Bool.false_eq_true, if_false, Result.andThen_ok]
      rw [h1]
      rfl
    · rw [h3]; rfl
    · rw [h4 r' hr']
      simp only [World.setCell, Array.getElem?_modify]
      rw [if_neg (Ne.symm hr')]

/-- Cells that are stored, here and there. -/
theorem store_rel {β : Type} {no r : β} {π : Pi} {h : Heap} {w : World} (hr : Rel P π h w) {b o : Nat} {vs : List AV} {vs' : List Value} {k : Heap → β} (hv : VRels π vs vs') (hp : ∀ v ∈ vs', v.oneCell' = true)
    (hf : storeN no h b o vs k = r) (hne : r ≠ no) :
    ∃ i h' hp, π b = some i ∧ k h' = r ∧ (storeCells ⟨i.r, i.base + o, none⟩ vs').run P w = .ok () { w with heap := hp } ∧ Good P π h w π h' { w with heap := hp } := by
  obtain ⟨n, t, e, g, fz, hb, hf⟩ := onCells_ne hf hne
  obtain ⟨c1, hf⟩ := cond_ne hf hne
  obtain ⟨c2, hf⟩ := cond_ne hf hne
  have c1 : fz % 1048576 ≤ o := Nat.le_of_ble_eq_true c1
  have c2 : o + vs.length ≤ n := Nat.le_of_ble_eq_true c2
  obtain ⟨i, c, lo, hi, h1, h2, h3, h4, h5, h6, h7, h8, h9⟩ := hr.row hb
  have hl := hv.length
  obtain ⟨hp', e1, e2, e3, e4⟩ := run_storeCells (P := P) vs' w i.r (i.base + o) 0 c e lo hi h2 (by omega) (fun k k1 k2 hk => by
    have := h8 k (by omega) hk.1 hk.2
    omega) hp
  refine ⟨i, _, hp', h1, hf, e1, Good.put hr hb h1 _ _ ?_ hp' e2 e3 e4⟩
  simp only [Nat.add_zero]
  refine .cells (by rw [putL_size]; exact h3) (fun hg => by rw [putL_size]; exact h4 hg) (by rw [putL_size]; exact h5) (by rw [setCells_room]; exact h6) (fun k hk => ?_) (fun k k0 k1 k2 => by rw [putL_size] at k0; exact h8 k k0 k1 k2) (fun q1 => by rw [putL_size]; exact h9 q1)
  rw [setCells_get _ _ _ _ (by omega) (by omega), putL_get _ _ _ _ (by omega)]
  by_cases hko : o ≤ k
  · rw [if_pos hko]
    by_cases hkl : k < o + vs.length
    · rw [if_pos (by omega)]
      rw [show i.base + k - (i.base + o) = k - o by omega]
      have hlt : k - o < vs.length := by omega
      obtain ⟨y, hy, hrel⟩ := hv.get (i := k - o) (x := vs[k - o]) (by simp [hlt])
      refine ⟨y, hy, ?_⟩
      simp only [List.getElem?_eq_getElem hlt, Option.getD_some]
      exact hrel
    · rw [if_neg (by omega)]
      obtain ⟨v, hv1, hv2⟩ := h7 k hk
      refine ⟨v, hv1, ?_⟩
      rw [List.getElem?_eq_none (by omega)]
      exact hv2
  · rw [if_neg hko, if_neg (by omega)]
    exact h7 k hk

theorem sound_store {t : TypeId} {k : Nat} (hs : sizeT P t = some k) (x v : Operand) : SoundW P (.store t x v) (wStore k (gOf x).fn (gOf v).fn) := by
  intro π ts tmps h w r h' callF ht hr hf oo ho
  obtain ⟨b, o, hx, hf⟩ := onPtr_ne hf (by simp)
  obtain ⟨c1, hf⟩ := cond_ne hf (by simp)
  obtain ⟨c2, hf⟩ := cond_ne hf (by simp)
  have rx := gOf_rel ht x
  rw [hx] at rx
  obtain ⟨i, hi, hv2⟩ := rx.ptr_inv
  have rv := (gOf_rel ht v).cells c2
  obtain ⟨j, h2, hp, hj, hk, hrun, hgood⟩ := store_rel (P := P) hr rv (plain_ones rv c2) hf (by simp)
  rw [hi] at hj; injection hj with hj; subst hj
  injection hk with hk1 hk2
  subst hk1; subst hk2
  have hlen := rv.length
  rw [beq_t c1] at hlen
  have hsz : (evT tmps v).cells.size = k := by simpa using hlen.symm
  refine ⟨.skip, undef, _, π, ?_, .inr ⟨rfl, rfl⟩, .undef π, hgood⟩
  simp [execOp, ho, Instr.storeAt, hv2, Instr.sureAddr, storeVar, run_size hs, hsz, hrun]

/-! ### Copies -/
section
variable {β : Type} {no r : β}
/-- Lengths. -/
theorem lenOf_ne {π : Pi} {f : Nat → β} {x : AV} {v : Value} (hr : VRel π x v) (h : lenOfA no f x = r) (hne : r ≠ no) : ∃ n, f n = r ∧ ∀ w, (Builtin.lenOf v).run P w = .ok n w := by
  cases hr <;> simp only [lenOfA] at h <;> first
    | exact ⟨_, h, fun w => rfl⟩
    | exact absurd h.symm hne
    | skip
  rename_i s
  refine ⟨_, h, fun w => ?_⟩
  simp [Builtin.lenOf]

theorem bytesV_rel (π : Pi) : ∀ (s : List UInt8), VRels π (bytesV (s.map UInt8.toNat)) (s.map fun b => Value.int .u8 b.toNat)
  | [] => .nil
  | b :: s => .cons (.int _ _) (bytesV_rel π s)

/-- The first elements' cells. -/
theorem firstCells_ne {π : Pi} {h : Heap} {w : World} (hrel : Rel P π h w) {size n : Nat} {f : List AV → β} {x : AV} {v : Value} (hr : VRel π x v) (hn : ∀ b z, x = .emp b z → n = 0) (hf : firstCellsA no h size n x f = r) (hne : r ≠ no) :
    ∃ l l', f l = r ∧ VRels π l l' ∧ (∀ w2 : World, w2.heap = w.heap → (Builtin.firstCells size n v).run P w2 = .ok l'.toArray w2) ∧ (n = 0 → l = []) := by
  cases hr <;> simp only [firstCellsA] at hf <;> try (exact absurd hf.symm hne)
  · rename_i s
    have hs : (s.data.toList.map UInt8.toNat).take n = (s.data.toList.take n).map UInt8.toNat := by rw [List.map_take]
    rw [hs] at hf
    refine ⟨_, _, hf, bytesV_rel π _, fun w2 _ => ?_, fun e => by subst e; rfl⟩
    simp only [Builtin.firstCells, Sem.run_pure]
    congr 1
    rw [ByteArray.data_extract]
    apply Array.ext'
    simp [Array.toList_extract, List.extract_eq_drop_take]
  · exact ⟨[], [], hf, .nil, fun _ _ => rfl, fun _ => rfl⟩
  · rename_i b o m c i hi
    obtain ⟨j, l, l', hj, h1, h2, h3, h4⟩ := load_rel2 (P := P) hrel hf hne
    rw [hi] at hj; injection hj with hj; subst hj
    exact ⟨l, l', h1, h3, fun w2 e => by simpa [Builtin.firstCells] using h4 w2 e, fun e => by subst e; exact List.eq_nil_of_length_eq_zero (by rw [h2]; exact Nat.zero_mul _)⟩
  · rename_i b o m c z i hi hnc hroom
    obtain ⟨j, l, l', hj, h1, h2, h3, h4⟩ := load_rel2 (P := P) hrel hf hne
    rw [hi] at hj; injection hj with hj; subst hj
    exact ⟨l, l', h1, h3, fun w2 e => by simpa [Builtin.firstCells] using h4 w2 e, fun e => by subst e; exact List.eq_nil_of_length_eq_zero (by rw [h2]; exact Nat.zero_mul _)⟩
  · have h0 := hn _ _ rfl
    subst h0
    refine ⟨[], [], hf, .nil, fun _ _ => ?_, fun _ => rfl⟩
    simp [Builtin.firstCells, loadCells, loadCellsFrom]
end

theorem minN_eq (a b : Nat) : minN a b = min a b := by
  unfold minN
  by_cases h : a ≤ b
  · rw [ble_t h]; simp; omega
  · rw [ble_f h]; simp; omega

theorem lenOf_emp_run {π : Pi} {x : AV} {v : Value} {n : Nat} {w : World} (hr : VRel π x v) (h : (Builtin.lenOf v).run P w = .ok n w) : ∀ b z, x = .emp b z → n = 0 := by
  intro b z e
  subst e
  cases hr
  simp [Builtin.lenOf] at h
  exact h.symm

theorem sound_copy {dt e : TypeId} {z : Nat} {ats : List TypeId} (hu : underT P dt = some (.slice e)) (hz : sizeT P e = some z) (d s : Operand) :
    SoundW P (.call { callee := .builtin .copy, args := #[d, s], argTypes := ⟨dt :: ats⟩ }) (wCopy z (gOf d).fn (gOf s).fn) := by
  intro π ts tmps h w r h' callF ht hr hf oo ho
  have rd := gOf_rel ht d
  have rs := gOf_rel ht s
  unfold wCopy copyA at hf
  obtain ⟨cs, he⟩ := exec_builtin (P := P) (tmps := tmps) ho w
  rw [he]
  simp only [List.map_toArray, List.map_cons, List.map_nil, builtin, Builtin.copy_]
  generalize (gOf d).fn ts = ad at *
  generalize (gOf s).fn ts = as at *
  generalize evT tmps d = vd at *
  generalize evT tmps s = vs at *
  obtain ⟨dl, hf1, hdl⟩ := lenOf_ne (P := P) rd hf (by simp)
  obtain ⟨sl, hf2, hsl⟩ := lenOf_ne (P := P) rs hf1 (by simp)
  clear hf hf1
  rw [forceN_eq, minN_eq] at hf2
  obtain ⟨l, l', hf, hrel, hrun, h0⟩ := firstCells_ne (P := P) hr rs (fun b z e => by have := lenOf_emp_run rs (hsl w) b z e; omega) hf2 (by simp)
  clear hf2
  replace hrun := hrun w rfl
  have d0 : dl = 0 → l' = [] := fun e => by
    have hl : l = [] := h0 (by omega)
    have := hrel.length
    rw [hl] at this
    exact List.eq_nil_of_length_eq_zero this.symm
  have goal : ∀ (base : Option Addr) (cap : Nat), vd = .slice base dl cap → ∀ (w2 : World), (match base with | some a => (storeCells a l').run P w = .ok () w2 | none => w2 = w) →
      ∀ π', Good P π h w π' h' w2 → r = .int .i64 (Int.ofNat (min sl dl)) → ∃ n v' w' π', (Sem.run P (do
        let v ← Builtin.copy_ ⟨dt :: ats⟩ oo.type #[vd, vs]
        pure (Next.value v)) w : Result _) = .ok n w' ∧ (n = .value v' ∨ (n = .skip ∧ v' = undef)) ∧ VRel π' r v' ∧ Good P π h w π' h' w' := by
    intro base cap hb w2 hst π' hg hrr
    subst hrr
    refine ⟨_, .int .i64 ((min sl dl : Nat) : Int), w2, π', ?_, .inl rfl, .int _ _, hg⟩
    rw [hb]
    cases base with
    | none =>
      simp only at hst
      subst hst
      simp [Builtin.copy_, run_under (under_of hu), hsl, run_size hz, goInt, show Nat.min sl dl = min sl dl from rfl, hrun]
    | some a =>
      simp [Builtin.copy_, run_under (under_of hu), hsl, run_size hz, goInt, show Nat.min sl dl = min sl dl from rfl, hrun]
      rw [hst]
      simp
  cases rd <;> simp only at hf <;> try (cases hf; done)
  · injection hf with h1 h2
    subst h1; subst h2
    have := hdl w
    simp only [Builtin.lenOf, Sem.run_pure] at this
    injection this with this
    subst this
    have := goal none 0 rfl w rfl π (.refl hr) rfl
    simpa [Builtin.copy_] using this
  · rename_i b o n c i hi
    replace hf := cond_ne hf (by simp)
    obtain ⟨hp, hf⟩ := hf
    obtain ⟨j, h2, hp2, hj, hk, hst, hg⟩ := store_rel (P := P) hr hrel (plain_ones hrel hp) hf (by simp)
    rw [hi] at hj; injection hj with hj; subst hj
    injection hk with h1 h2
    subst h2
    have hdl' := hdl w
    simp only [Builtin.lenOf, Sem.run_pure] at hdl'
    injection hdl' with hdl'
    subst hdl'
    have := goal _ c rfl _ hst π hg h1.symm
    simpa [Builtin.copy_] using this
  · rename_i b o n c z i hi _ _
    replace hf := cond_ne hf (by simp)
    obtain ⟨hp, hf⟩ := hf
    obtain ⟨j, h2, hp2, hj, hk, hst, hg⟩ := store_rel (P := P) hr hrel (plain_ones hrel hp) hf (by simp)
    rw [hi] at hj; injection hj with hj; subst hj
    injection hk with h1 h2
    subst h2
    have hdl' := hdl w
    simp only [Builtin.lenOf, Sem.run_pure] at hdl'
    injection hdl' with hdl'
    subst hdl'
    have := goal _ c rfl _ hst π hg h1.symm
    simpa [Builtin.copy_] using this
  · injection hf with h1 h2
    subst h1; subst h2
    have hdl' := hdl w
    simp only [Builtin.lenOf, Sem.run_pure] at hdl'
    injection hdl' with hdl'
    subst hdl'
    have := goal (some _) _ rfl w (by rw [d0 rfl]; rfl) π (.refl hr) rfl
    simpa [Builtin.copy_] using this

end
end Go.Eng
