import Derived.Test.YtdmgncjahckngaaGreatP11
/-! Soundness, 12: operations that read. -/
namespace Go.Eng
set_option linter.all false

section
variable {P : Program}

def SoundR (P : Program) (o : Op) (f : Env → Heap → Option AV) : Prop :=
  ∀ (π : Pi) (ts : Env) (tmps : Array Value) (h : Heap) (w : World) (v : AV), TRel π ts tmps → Rel P π h w → f ts h = some v →
    ∀ (oo : Oper), oo.op = o → ∃ v', (execOp (evT tmps) oo).run P w = .ok (.value v') w ∧ VRel π v v'

/-! ### Cells -/
theorem cellsFrom_ne {β : Type} {no r : β} {n : Nat} {t : Cells} : ∀ (k o : Nat) (f : List AV → β), cellsFrom no n t k o f = r → r ≠ no →
    ∃ l, f l = r ∧ l.length = k ∧ (∀ j, j < k → o + j < n ∧ l[j]? = some (t.get (o + j)))
  | 0, o, f, h, _ => ⟨[], h, rfl, fun j hj => absurd hj (by omega)⟩
  | k + 1, o, f, h, hr => by
    obtain ⟨h1, h2⟩ := cond_ne h hr
    rw [forceN_eq] at h2
    obtain ⟨l, hl, hlen, hg⟩ := cellsFrom_ne k (o + 1) _ h2 hr
    have hlt : o < n := by simpa using h1
    refine ⟨t.get o :: l, hl, by simp [hlen], fun j hj => ?_⟩
    cases j with
    | zero => exact ⟨hlt, rfl⟩
    | succ j =>
      have := hg j (by omega)
      rw [show o + 1 + j = o + (j + 1) by omega] at this
      exact ⟨this.1, by simpa using this.2⟩

/-- A live row of cells, here and there. -/
theorem Rel.row {π : Pi} {h : Heap} {w : World} (hr : Rel P π h w) {b n : Nat} {t : Cells} {e : TypeId} {g : Bool} {fz : Nat} (hb : HT.get h.t b = some (.cells n t e g fz)) :
    ∃ i c lo hi, π b = some i ∧ w.heap[i.r]? = some (.cells c e (lo, hi)) ∧ i.ncells = c.size ∧ (g = false → c.size = n ∧ i.base = 0) ∧ i.base + n ≤ c.size ∧ n ≤ t.room ∧
      (∀ k, k < n → ∃ v, c[i.base + k]? = some v ∧ VRel π (t.get k) v) ∧ (∀ k, k < c.size → lo ≤ k → k < hi → k < i.base + fz % 1048576) ∧ (fz < 1048576 → lo = hi ∨ (lo < hi ∧ lo < c.size)) := by
  obtain ⟨i, obj, h1, h2, h3⟩ := hr.live b _ hb
  cases h3 with
  | cells a c d e f g g2 => exact ⟨i, _, _, _, h1, h2, a, c, d, e, f, g, g2⟩

theorem cell_of {w : World} {r off : Nat} {c : Array Value} {e : TypeId} {fz : Nat × Nat} {v : Value} (h : w.heap[r]? = some (.cells c e fz)) (hv : c[off]? = some v) : w.cell? ⟨r, off, none⟩ = some v := by
  simp [World.cell?, h, hv]

theorem run_loadFrom {w : World} {a : Addr} (hs : a.spot = none) : ∀ (l : List Value) (i : Nat) (acc : Array Value), (∀ (j : Nat) v, l[j]? = some v → w.cell? ⟨a.block, a.off + (i + j), none⟩ = some v) →
    (loadCellsFrom a i l.length acc).run P w = .ok (acc ++ l.toArray) w
  | [], i, acc, _ => by simp [loadCellsFrom]
  | v :: l, i, acc, h => by
    have h0 := h 0 v rfl
    simp only [List.length_cons, loadCellsFrom, Sem.run_bind, run_load, add_eq a hs]
    rw [show a.off + i = a.off + (i + 0) by omega, h0]
    simp only [Result.andThen_ok]
    rw [run_loadFrom hs l (i + 1) _ (fun j v hj => by
      have := h (j + 1) v (by simpa using hj)
      rw [show a.off + (i + 1 + j) = a.off + (i + (j + 1)) by omega]; exact this)]
    congr 1
    simp
theorem run_loadCells {w : World} {r off : Nat} {l : List Value} (h : ∀ (j : Nat) v, l[j]? = some v → w.cell? ⟨r, off + j, none⟩ = some v) :
    (loadCells ⟨r, off, none⟩ l.length).run P w = .ok l.toArray w := by
  unfold loadCells
  rw [run_loadFrom (P := P) rfl l 0 #[] (fun j v hj => by simpa using h j v hj)]
  simp

/-- Cells that are read, here and there. -/
theorem load_rel2 {β : Type} {no r : β} {π : Pi} {h : Heap} {w : World} (hr : Rel P π h w) {b o k : Nat} {f : List AV → β} (hf : loadN no h b o k f = r) (hne : r ≠ no) :
    ∃ i l l', π b = some i ∧ f l = r ∧ l.length = k ∧ VRels π l l' ∧ ∀ w2 : World, w2.heap = w.heap → (loadCells ⟨i.r, i.base + o, none⟩ k).run P w2 = .ok l'.toArray w2 := by
  obtain ⟨n, t, e, g, fz, hb, hf⟩ := onCells_ne hf hne
  obtain ⟨l, hl, hlen, hg⟩ := cellsFrom_ne _ _ _ hf hne
  obtain ⟨i, c, lo, hi, h1, h2, _, _, h3, _, h4, _⟩ := hr.row hb
  have ex : ∃ l' : List Value, l'.length = k ∧ ∀ j, j < k → ∃ v, l'[j]? = some v ∧ c[i.base + (o + j)]? = some v := by
    clear hl hlen
    have : ∀ k', (∀ j, j < k' → o + j < n) → ∃ l' : List Value, l'.length = k' ∧ ∀ j, j < k' → ∃ v, l'[j]? = some v ∧ c[i.base + (o + j)]? = some v := by
      intro k'
      induction k' with
      | zero => intro _; exact ⟨[], rfl, fun j hj => absurd hj (by omega)⟩
      | succ k' ih =>
        intro hk
        obtain ⟨l', e1, e2⟩ := ih fun j hj => hk j (by omega)
        obtain ⟨v, hv, _⟩ := h4 (o + k') (hk k' (by omega))
        refine ⟨l' ++ [v], by simp [e1], fun j hj => ?_⟩
        by_cases hjk : j < k'
        · obtain ⟨u, hu1, hu2⟩ := e2 j hjk
          exact ⟨u, by rw [List.getElem?_append_left (by omega)]; exact hu1, hu2⟩
        · have : j = k' := by omega
          subst this
          exact ⟨v, by rw [List.getElem?_append_right (by omega)]; simp [e1], hv⟩
    exact this k fun j hj => (hg j hj).1
  obtain ⟨l', hlen', hg'⟩ := ex
  refine ⟨i, l, l', h1, hl, hlen, ?_, fun w2 hw2 => ?_⟩
  · refine VRels.of_get (by omega) fun j x y hx hy => ?_
    have hj : j < k := by have := (List.getElem?_eq_some_iff.mp hx).1; omega
    obtain ⟨hjn, hx'⟩ := hg j hj
    rw [hx'] at hx; injection hx with hx; subst hx
    obtain ⟨v, hv1, hv2⟩ := hg' j hj
    rw [hv1] at hy; injection hy with hy; subst hy
    obtain ⟨u, hu, hrel⟩ := h4 (o + j) hjn
    rw [hu] at hv2; injection hv2 with hv2; subst hv2
    exact hrel
  · rw [← hw2] at h2
    have := run_loadCells (P := P) (w := w2) (r := i.r) (off := i.base + o) (l := l') (fun j v hj => by
      have hjk : j < k := by have := (List.getElem?_eq_some_iff.mp hj).1; omega
      obtain ⟨u, hu1, hu2⟩ := hg' j hjk
      rw [hu1] at hj; injection hj with hj; subst hj
      exact cell_of h2 (by rw [Nat.add_assoc]; exact hu2))
    rw [hlen'] at this
    exact this

theorem load_rel {β : Type} {no r : β} {π : Pi} {h : Heap} {w : World} (hr : Rel P π h w) {b o k : Nat} {f : List AV → β} (hf : loadN no h b o k f = r) (hne : r ≠ no) :
    ∃ i l l', π b = some i ∧ f l = r ∧ l.length = k ∧ VRels π l l' ∧ (loadCells ⟨i.r, i.base + o, none⟩ k).run P w = .ok l'.toArray w := by
  obtain ⟨i, l, l', h1, h2, h3, h4, h5⟩ := load_rel2 (P := P) hr hf hne
  exact ⟨i, l, l', h1, h2, h3, h4, h5 w rfl⟩

theorem sound_load1 {t : TypeId} (ha : aggT P t = some false) (x : Operand) : SoundR P (.load t x) (yLoad1 (gOf x).fn) := by
  intro π ts tmps h w v ht hr hv oo ho
  obtain ⟨b, o, hx, hv⟩ := onPtr_ne (no := none) hv (by simp)
  obtain ⟨n, t', e, g, fz, hb, hv⟩ := onCells_ne hv (by simp)
  obtain ⟨hlt, hv⟩ := cond_ne hv (by simp)
  injection hv with hv; subst hv
  have hlt : o < n := by simpa using hlt
  obtain ⟨i, c, lo, hi, h1, h2, _, _, h3, _, h4, _⟩ := hr.row hb
  obtain ⟨u, hu, hrel⟩ := h4 o hlt
  have rx := gOf_rel ht x
  rw [hx] at rx
  obtain ⟨j, hj, hv2⟩ := rx.ptr_inv
  rw [h1] at hj; injection hj with hj; subst hj
  refine ⟨u, ?_, hrel⟩
  simp [execOp, ho, Instr.loadAt, hv2, Instr.sureAddr, loadVar, run_agg ha, cell_of h2 hu]

theorem sound_loadn {t : TypeId} {k : Nat} (ha : aggT P t = some true) (hs : sizeT P t = some k) (x : Operand) : SoundR P (.load t x) (yLoadn k (gOf x).fn) := by
  intro π ts tmps h w v ht hr hv oo ho
  obtain ⟨b, o, hx, hv⟩ := onPtr_ne (no := none) hv (by simp)
  obtain ⟨i, l, l', h1, hf, _, hrel, hrun⟩ := load_rel (P := P) hr hv (by simp)
  injection hf with hf; subst hf
  have rx := gOf_rel ht x
  rw [hx] at rx
  obtain ⟨j, hj, hv2⟩ := rx.ptr_inv
  rw [h1] at hj; injection hj with hj; subst hj
  refine ⟨.agg ⟨l'⟩, ?_, .agg hrel⟩
  simp [execOp, ho, Instr.loadAt, hv2, Instr.sureAddr, loadVar, run_agg ha, run_size hs, hrun]

/-! ### Bytes -/
theorem byteF_ne {β : Type} {no r : β} {f : Nat → β} {v : AV} (h : byteF no f v = r) (hr : r ≠ no) : ∃ m, v = .int .u8 (.ofNat m) ∧ m < 256 ∧ f m = r := by
  obtain ⟨k, n, hx, h⟩ := onInt_ne h hr
  cases k <;> first | exact absurd h.symm hr | skip
  cases n with
  | negSucc m => exact absurd h.symm hr
  | ofNat m =>
    obtain ⟨h1, h2⟩ := cond_ne h hr
    exact ⟨m, hx, by simpa using h1, by simpa using h2⟩
theorem bytesA_ne {β : Type} {no r : β} : ∀ (l : List AV) (f : List Nat → β), bytesA no l f = r → r ≠ no → ∃ s, f s = r ∧ l = s.map (fun m => AV.int .u8 (.ofNat m)) ∧ ∀ m ∈ s, m < 256
  | [], f, h, _ => ⟨[], h, rfl, fun _ h => by simp at h⟩
  | v :: l, f, h, hr => by
    have h : byteF no (fun n => bytesA no l fun s => f (n :: s)) v = r := h
    obtain ⟨m, rfl, hm, h⟩ := byteF_ne h hr
    obtain ⟨s, hs, rfl, hall⟩ := bytesA_ne l _ h hr
    exact ⟨m :: s, hs, rfl, fun x hx => by
      rcases List.mem_cons.mp hx with rfl | hx
      · exact hm
      · exact hall x hx⟩

/-- Bytes as they lie in cells. -/
def bytesOf (s : List Nat) : List UInt8 := s.map UInt8.ofNat
theorem bytesOf_nats {s : List Nat} (h : ∀ m ∈ s, m < 256) : (bytesOf s).map UInt8.toNat = s := by
  induction s with
  | nil => rfl
  | cons m s ih =>
    simp only [bytesOf, List.map_cons, List.map_map] at ih ⊢
    rw [ih (fun x hx => h x (List.mem_cons_of_mem _ hx))]
    have : (UInt8.ofNat m).toNat = m := by
      rw [UInt8.toNat_ofNat']; exact Nat.mod_eq_of_lt (h m (List.mem_cons_self))
    rw [this]

theorem VRels.ints {π : Pi} : ∀ {s : List Nat} {l' : List Value}, VRels π (s.map fun m => AV.int .u8 (.ofNat m)) l' → l' = s.map fun m => Value.int .u8 (.ofNat m)
  | [], _, .nil => rfl
  | _ :: _, _, .cons h t => by rw [h.int_inv, VRels.ints t]; rfl

theorem run_bytes (w : World) (g : Value → ByteArray → Sem (ForInStep ByteArray)) (hg : ∀ m acc, g (.int .u8 (.ofNat m)) acc = pure (.yield (acc.push (UInt8.ofNat m)))) : ∀ (s : List Nat) (acc : ByteArray),
    (forIn (s.map fun m => Value.int .u8 (.ofNat m)) acc g : Sem ByteArray).run P w = .ok ⟨acc.data ++ (bytesOf s).toArray⟩ w
  | [], acc => by simp [bytesOf]
  | m :: s, acc => by
    simp only [List.map_cons, List.forIn_cons, Sem.run_bind, hg, Sem.run_pure, Result.andThen_ok]
    rw [run_bytes w g hg s]
    congr 1
    simp [bytesOf, ByteArray.push]

theorem sound_b2s {s d e : TypeId} (hs : underT P s = some (.slice e)) (hd : underT P d = some .string) (he : underT P e = some (.int .u8)) (x : Operand) :
    SoundR P (.convert s d x) (yB2s (gOf x).fn) := by
  intro π ts tmps h w v ht hr hv oo ho
  have rx := gOf_rel ht x
  unfold yB2s at hv
  have hconv : ∀ vx, evT tmps x = vx → (∀ i, vx ≠ .int .u8 i) → (∀ k i, vx ≠ .int k i) → (∀ b, vx ≠ .string b) → (execOp (evT tmps) oo).run P w = ((Conv.bytesToString vx).run P w).andThen fun v w => .ok (.value v) w := by
    intro vx hvx h1 h2 h3
    simp only [execOp, ho, hvx, Sem.run_bind, convert, run_under (under_of hs), run_under (under_of hd), Result.andThen_ok]
    cases vx <;> first
      | exact absurd rfl (h2 _ _)
      | exact absurd rfl (h3 _)
      | (simp [run_under (under_of he)])
  generalize (gOf x).fn ts = a at *
  generalize evT tmps x = vx at *
  cases rx <;> simp [b2sA] at hv
  · subst hv
    refine ⟨.string .empty, ?_, str_rel π _ rfl⟩
    rw [hconv _ rfl (by simp) (by simp) (by simp)]
    simp [Conv.bytesToString]
  · rename_i b o n c i hi
    obtain ⟨j, l, l', h1, hf, hlen, hrel, hrun⟩ := load_rel (P := P) hr hv (by simp)
    obtain ⟨s', hs', rfl, hall⟩ := bytesA_ne _ _ hf (by simp)
    injection hs' with hs'; subst hs'
    rw [hi] at h1; injection h1 with h1; subst h1
    refine ⟨.string ⟨(bytesOf s').toArray⟩, ?_, str_rel π _ (by simpa using (bytesOf_nats hall).symm)⟩
    rw [hconv _ rfl (by simp) (by simp) (by simp)]
    simp only [Conv.bytesToString, Sem.run_bind, hrun, Result.andThen_ok]
    rw [hrel.ints, ← Array.forIn_toList]
    rw [run_bytes (P := P) w _ (fun m acc => rfl) s' ByteArray.empty]
    simp [Result.andThen]
  · rename_i b o n c z i hi hnc hroom
    obtain ⟨j, l, l', h1, hf, hlen, hrel, hrun⟩ := load_rel (P := P) hr hv (by simp)
    obtain ⟨s', hs', rfl, hall⟩ := bytesA_ne _ _ hf (by simp)
    injection hs' with hs'; subst hs'
    rw [hi] at h1; injection h1 with h1; subst h1
    refine ⟨.string ⟨(bytesOf s').toArray⟩, ?_, str_rel π _ (by simpa using (bytesOf_nats hall).symm)⟩
    rw [hconv _ rfl (by simp) (by simp) (by simp)]
    simp only [Conv.bytesToString, Sem.run_bind, hrun, Result.andThen_ok]
    rw [hrel.ints, ← Array.forIn_toList]
    rw [run_bytes (P := P) w _ (fun m acc => rfl) s' ByteArray.empty]
    simp [Result.andThen]

end
end Go.Eng
