import Derived.Test.YtdmgncjahckngaaGreatP33
/-! Soundness, 34: what is known of the canonical run. -/
namespace Go.Eng
set_option linter.all false

mutual
theorem beqAV_eq : ∀ {a b : AV}, beqAV a b = true → a = b
  | .any, .any, h => by cases h
  | .bool a, .bool b, h => by simp [beqAV] at h; rw [h]
  | .int j a, .int k b, h => by simp [beqAV] at h; rw [h.1, h.2]
  | .str a, .str b, h => by simp [beqAV] at h; rw [h]
  | .nilp, .nilp, h => rfl
  | .nils, .nils, h => rfl
  | .nilm, .nilm, h => rfl
  | .nilf, .nilf, h => rfl
  | .nili, .nili, h => rfl
  | .ptr a i, .ptr b j, h => by simp [beqAV] at h; rw [h.1, h.2]
  | .sl a i n c, .sl b j m d, h => by simp [beqAV] at h; obtain ⟨⟨⟨h1, h2⟩, h3⟩, h4⟩ := h; rw [h1, h2, h3, h4]
  | .emp a y, .emp b z, h => by simp [beqAV] at h; rw [h.1, h.2]
  | .map a, .map b, h => by simp [beqAV] at h; rw [h]
  | .yld a, .yld b, h => by simp [beqAV] at h; rw [h]
  | .sym a y, .sym b z, h => by simp [beqAV] at h; rw [h.1, h.2]
  | .fn f x y, .fn g z w, h => by
    simp only [beqAV, Bool.and_eq_true] at h
    obtain ⟨⟨h1, h2⟩, h3⟩ := h
    rw [beqL_eq h2, beqL_eq h3, eq_of_beq h1]
  | .iface t v, .iface u w, h => by
    simp only [beqAV, Bool.and_eq_true] at h
    rw [beqAV_eq h.2, eq_of_beq h.1]
  | .agg a, .agg b, h => by
    simp only [beqAV] at h
    rw [beqL_eq h]
  | .tup a, .tup b, h => by
    simp only [beqAV] at h
    rw [beqL_eq h]
theorem beqL_eq : ∀ {a b : List AV}, beqL a b = true → a = b
  | [], [], _ => rfl
  | [], _ :: _, h => by cases h
  | _ :: _, [], h => by cases h
  | a :: x, b :: y, h => by
    simp only [beqL, Bool.and_eq_true] at h
    rw [beqAV_eq h.1, beqL_eq h.2]
end

theorem readSame_val {r : Read} {h : Heap} (hs : readSame r h = true) : r.f r.ts h = some r.v := by
  unfold readSame at hs
  cases hf : r.f r.ts h with
  | none => rw [hf] at hs; cases hs
  | some v =>
    rw [hf] at hs
    rw [beqAV_eq hs]

section
variable {P : Program} {callF : CallF} {ops : Array Oper} {nt base : Nat} {S : Nat → St} {V : Nat → AV} {K : Nat → Kd} {bef : Nat → Nat}

structure Facts (P : Program) (callF : CallF) (ops : Array Oper) (nt base : Nat) (S : Nat → St) (V : Nat → AV) (K : Nat → Kd) (bef : Nat → Nat) : Prop where
  step : ∀ i o, ops[i]? = some o → DStep callF base (cItem P nt (dstOf ops) i (bef i) o) (S i) (S (i + 1)) (V i) (K i)
  pair : ∀ i j a b, i < j → ops[i]? = some a → ops[j]? = some b → pairOk (dstOf ops) i a (cItem P nt (dstOf ops) i (bef i) a) b (cItem P nt (dstOf ops) j (bef j) b) = true
  edges : ∀ i o, ops[i]? = some o → ∀ e ∈ o.after, Region.binds .any e = true → e.on < i
  befs : ∀ j o, ops[j]? = some o → ∀ k, (bef j).testBit k = true → ∃ e ∈ o.after, Region.binds .any e = true ∧ (k = e.on ∨ (bef e.on).testBit k = true)
  p0 : (S 0).pend = []
  r0 : (S 0).reads = []
  t0 : (S 0).hist = []
  fin : readsOk (S ops.size).hist (S ops.size).h (S ops.size).reads = true

theorem get_op {i : Nat} (h : i < ops.size) : ∃ o, ops[i]? = some o := ⟨ops[i], by simp [h]⟩
theorem op_lt {i : Nat} {o : Oper} (h : ops[i]? = some o) : i < ops.size := (Array.getElem?_eq_some_iff.1 h).1
theorem dstOf_get {i : Nat} {o : Oper} (h : ops[i]? = some o) : dstOf ops i = o.dst := by
  unfold dstOf
  rw [Array.getElem?_toList, h]; rfl
theorem dstOf_some {i : Nat} {t : Tmp} (h : dstOf ops i = some t) : ∃ o, ops[i]? = some o ∧ o.dst = some t := by
  unfold dstOf at h
  rw [Array.getElem?_toList] at h
  cases ho : ops[i]? with
  | none => rw [ho] at h; cases h
  | some o => rw [ho] at h; exact ⟨o, rfl, h⟩

/-! ### What a step says -/
theorem DStep.ts_eq {i b : Nat} {o : Oper} {dst : Nat → Option Tmp} {s s' : St} {v : AV} {k : Kd} (h : DStep callF base (cItem P nt dst i b o) s s' v k) : s'.ts = (wOf o.dst).fn s.ts v := by
  unfold cItem at h
  generalize cond (dstOk nt o.dst) (compileOp P o.op) .bad = c at h
  cases h <;> rfl
theorem DStep.act {i b : Nat} {o : Oper} {dst : Nat → Option Tmp} {s s' : St} {v : AV} (h : DStep callF base (cItem P nt dst i b o) s s' v .act) :
    ∃ f, dstOk nt o.dst = true ∧ compileOp P o.op = .m f ∧ dWd (dGd dst o.guard) s.ts = some true ∧ f callF s.ts { t := (commit b s.pend s.h.t).1, next := s.h.next } = .ok v s'.h ∧
      s'.pend = (commit b s.pend s.h.t).2 ∧ s'.reads = s.reads ∧ s'.hist = (i, b, s.h) :: s.hist := by
  unfold cItem at h
  cases hd : dstOk nt o.dst with
  | false => rw [hd] at h; cases h
  | true =>
    rw [hd, cond_true] at h
    generalize hc : compileOp P o.op = c at h
    cases h with
    | m h1 h2 => exact ⟨_, rfl, rfl, h1, h2, rfl, rfl, rfl⟩
theorem DStep.alloc {i b : Nat} {o : Oper} {dst : Nat → Option Tmp} {s s' : St} {v : AV} {ob : AObj} (h : DStep callF base (cItem P nt dst i b o) s s' v (.alloc ob)) :
    ∃ f sh, dstOk nt o.dst = true ∧ compileOp P o.op = .f f ∧ dWd (dGd dst o.guard) s.ts = some true ∧ f s.ts = .ok ob sh ∧ v = sh.valF (base + i) ∧
      s'.h = s.h ∧ s'.pend = s.pend ++ [(i, base + i, ob)] ∧ s'.reads = s.reads ∧ s'.hist = s.hist := by
  unfold cItem at h
  cases hd : dstOk nt o.dst with
  | false => rw [hd] at h; cases h
  | true =>
    rw [hd, cond_true] at h
    generalize hc : compileOp P o.op = c at h
    cases h with
    | f h1 h2 => exact ⟨_, _, rfl, rfl, h1, h2, rfl, rfl, rfl, rfl, rfl⟩
theorem DStep.read {i b : Nat} {o : Oper} {dst : Nat → Option Tmp} {s s' : St} {v : AV} (h : DStep callF base (cItem P nt dst i b o) s s' v .read) :
    ∃ f, dstOk nt o.dst = true ∧ compileOp P o.op = .r f ∧ dWd (dGd dst o.guard) s.ts = some true ∧ f s.ts s.h = some v ∧
      s'.h = s.h ∧ s'.pend = s.pend ∧ s'.reads = ⟨i, b, f, s.ts, v⟩ :: s.reads ∧ s'.hist = s.hist := by
  unfold cItem at h
  cases hd : dstOk nt o.dst with
  | false => rw [hd] at h; cases h
  | true =>
    rw [hd, cond_true] at h
    generalize hc : compileOp P o.op = c at h
    cases h with
    | r h1 h2 => exact ⟨_, rfl, rfl, h1, h2, rfl, rfl, rfl, rfl⟩
theorem DStep.pure {i b : Nat} {o : Oper} {dst : Nat → Option Tmp} {s s' : St} {v : AV} (h : DStep callF base (cItem P nt dst i b o) s s' v .pure) :
    dstOk nt o.dst = true ∧ dWd (dGd dst o.guard) s.ts = some true ∧ ((∃ f, compileOp P o.op = .mv f ∧ v = f s.ts) ∨ ∃ f, compileOp P o.op = .p f ∧ f s.ts = some v) ∧
      s'.h = s.h ∧ s'.pend = s.pend ∧ s'.reads = s.reads ∧ s'.hist = s.hist := by
  unfold cItem at h
  cases hd : dstOk nt o.dst with
  | false => rw [hd] at h; cases h
  | true =>
    rw [hd, cond_true] at h
    generalize hc : compileOp P o.op = c at h
    cases h with
    | mv h1 => exact ⟨rfl, h1, .inl ⟨_, rfl, rfl⟩, rfl, rfl, rfl, rfl⟩
    | p h1 h2 => exact ⟨rfl, h1, .inr ⟨_, rfl, h2⟩, rfl, rfl, rfl, rfl⟩
theorem DStep.skipped {i b : Nat} {o : Oper} {dst : Nat → Option Tmp} {s s' : St} {v : AV} (h : DStep callF base (cItem P nt dst i b o) s s' v .skip) :
    dWd (dGd dst o.guard) s.ts = some false ∧ v = .undef ∧ s'.h = s.h ∧ s'.pend = s.pend ∧ s'.reads = s.reads ∧ s'.hist = s.hist := by
  unfold cItem at h
  generalize cond (dstOk nt o.dst) (compileOp P o.op) .bad = c at h
  cases h with
  | skip h1 => exact ⟨h1, rfl, rfl, rfl, rfl, rfl⟩
theorem DStep.quiet {i b : Nat} {o : Oper} {dst : Nat → Option Tmp} {s s' : St} {v : AV} {k : Kd} (h : DStep callF base (cItem P nt dst i b o) s s' v k) (hk : k ≠ .act) : s'.h = s.h ∧ s'.hist = s.hist := by
  cases k with
  | skip => have := h.skipped; exact ⟨this.2.2.1, this.2.2.2.2.2⟩
  | pure => have := h.pure; exact ⟨this.2.2.2.1, this.2.2.2.2.2.2⟩
  | read => obtain ⟨_, _, _, _, _, a, _, _, b⟩ := h.read; exact ⟨a, b⟩
  | alloc o => obtain ⟨_, _, _, _, _, _, _, a, _, _, b⟩ := h.alloc; exact ⟨a, b⟩
  | act => exact absurd rfl hk

theorem wOf_ge (d : Nat) (hd : 255 ≤ d) : wOf (some d) = .mk keep := by
  show nth (.mk keep) wTab d = _
  exact nth_ge _ _ _ (by rw [wTab_eq]; simpa using hd)
theorem wOf_get_some (d : Nat) (ts : Env) (v : AV) {t : Nat} (ht : t < 255) : get2 ((wOf (some d)).fn ts v) (pathOf t) = if d = t then v else get2 ts (pathOf t) := by
  by_cases hd : d < 255
  · rw [wOf_tmp d hd]
    show get2 (set2 ts (pathOf d) v) (pathOf t) = _
    rw [env_get_set _ (by omega) (by omega)]
  · rw [wOf_ge d (by omega), if_neg (by omega)]
    rfl
theorem wOf_get (dst : Option Tmp) (ts : Env) (v : AV) {t : Nat} (ht : t < 255) : get2 ((wOf dst).fn ts v) (pathOf t) = if dst = some t then v else get2 ts (pathOf t) := by
  cases dst with
  | none => simp [wOf_none, W.fn, keep]
  | some d =>
    rw [wOf_get_some d ts v ht]
    by_cases e : d = t
    · rw [if_pos e, if_pos (by rw [e])]
    · rw [if_neg e, if_neg (by intro h; injection h; contradiction)]
theorem wOf_defers_some (d : Nat) (ts : Env) (v : AV) : defersOf ((wOf (some d)).fn ts v) = defersOf ts := by
  by_cases hd : d < 255
  · rw [wOf_tmp d hd]
    show tupOf (get2 (set2 ts (pathOf d) v) (pathOf 255)) = tupOf (get2 ts (pathOf 255))
    rw [env_get_set _ (by omega) (by omega), if_neg (by omega)]
  · rw [wOf_ge d (by omega)]; rfl
theorem wOf_defers (dst : Option Tmp) (ts : Env) (v : AV) : defersOf ((wOf dst).fn ts v) = defersOf ts := by
  cases dst with
  | none => rfl
  | some d => exact wOf_defers_some d ts v

/-! ### Values -/
/-- What a temporary holds when those of D are done, each at its time. -/
def valAt (x0 : AV) (ops : Array Oper) (V : Nat → AV) (D : Nat → Bool) (t : Nat) : Nat → AV
  | 0 => x0
  | k + 1 => if D k = true ∧ dstOf ops k = some t then V k else valAt x0 ops V D t k
theorem valAt_succ (x0 : AV) (D : Nat → Bool) (t k : Nat) : valAt x0 ops V D t (k + 1) = if D k = true ∧ dstOf ops k = some t then V k else valAt x0 ops V D t k := rfl

theorem valAt_congr {x0 : AV} {D D' : Nat → Bool} {t : Nat} : ∀ {k : Nat}, (∀ i, i < k → dstOf ops i = some t → D i = D' i) → valAt x0 ops V D t k = valAt x0 ops V D' t k
  | 0, _ => rfl
  | k + 1, h => by
    rw [valAt_succ, valAt_succ, valAt_congr fun i hi => h i (by omega)]
    by_cases hd : dstOf ops k = some t
    · rw [h k (by omega) hd]
    · simp [hd]
theorem valAt_tail {x0 : AV} {D : Nat → Bool} {t k : Nat} : ∀ {m : Nat}, k ≤ m → (∀ i, k ≤ i → i < m → dstOf ops i = some t → D i = false) → valAt x0 ops V D t m = valAt x0 ops V D t k
  | 0, hk, _ => by rw [Nat.le_zero.mp hk]
  | m + 1, hk, h => by
    by_cases e : k = m + 1
    · rw [e]
    · rw [valAt_succ]
      have : ¬ (D m = true ∧ dstOf ops m = some t) := fun hx => by
        rw [h m (by omega) (by omega) hx.2] at hx
        exact absurd hx.1 (by simp)
      rw [if_neg this]
      exact valAt_tail (by omega) fun i h1 h2 => h i h1 (by omega)

namespace Facts
variable (F : Facts P callF ops nt base S V K bef)
include F

theorem vals {t : Nat} (ht : t < 255) : ∀ {i : Nat}, i ≤ ops.size → get2 (S i).ts (pathOf t) = valAt (get2 (S 0).ts (pathOf t)) ops V (fun _ => true) t i
  | 0, _ => rfl
  | i + 1, hi => by
    obtain ⟨o, ho⟩ := get_op (ops := ops) (i := i) (by omega)
    rw [(F.step i o ho).ts_eq, wOf_get _ _ _ ht, vals ht (by omega)]
    rw [valAt_succ, dstOf_get ho]
    simp

theorem indep {i j : Nat} {a b : Oper} (hij : i < j) (ha : ops[i]? = some a) (hb : ops[j]? = some b) : (bef j).testBit i = true ∨
    (¬ (K i = .act ∧ K j = .act) ∧ (∀ d, a.dst = some d → d ∉ looksA (dstOf ops) b ∧ b.dst ≠ some d) ∧ ∀ d, b.dst = some d → d ∉ looksA (dstOf ops) a) := by
  have h := F.pair i j a b hij ha hb
  have e1 : befOf (cItem P nt (dstOf ops) j (bef j) b) = bef j := rfl
  have o1 : opOf (cItem P nt (dstOf ops) i (bef i) a) = cond (dstOk nt a.dst) (compileOp P a.op) .bad := rfl
  have o2 : opOf (cItem P nt (dstOf ops) j (bef j) b) = cond (dstOk nt b.dst) (compileOp P b.op) .bad := rfl
  unfold pairOk at h
  rw [e1, o1, o2] at h
  simp only [Bool.or_eq_true, Bool.and_eq_true] at h
  rcases h with h | ⟨⟨h1, h2⟩, h3⟩
  · exact .inl h
  · refine .inr ⟨?_, ?_, ?_⟩
    · rintro ⟨k1, k2⟩
      have s1 := F.step i a ha
      have s2 := F.step j b hb
      rw [k1] at s1; rw [k2] at s2
      obtain ⟨f, d1, c1, _⟩ := s1.act
      obtain ⟨f', d2, c2, _⟩ := s2.act
      rw [d1, d2, cond_true, cond_true, c1, c2] at h1
      simp [isM] at h1
    · intro d hd
      rw [hd] at h2
      simp at h2
      exact ⟨h2.1, h2.2⟩
    · intro d hd
      rw [hd] at h3
      simpa using h3

theorem bef_lt {j : Nat} (hj : j < ops.size) {k : Nat} (hk : (bef j).testBit k = true) : k < j := by
  induction j using Nat.strongRecOn generalizing k with
  | ind j ih =>
    obtain ⟨o, ho⟩ := get_op hj
    obtain ⟨e, h1, h2, h3⟩ := F.befs j o ho k hk
    have := F.edges j o ho e h1 h2
    rcases h3 with h3 | h3
    · omega
    · have := ih e.on this (by omega) h3
      omega

/-- What is ahead of an operation whose turn it is, is done. -/
theorem ahead {D : Nat → Bool} (hc : ∀ i, D i = true → ∀ k, (bef i).testBit k = true → D k = true) {j : Nat} {o : Oper} (ho : ops[j]? = some o) (he : ∀ e ∈ o.after, Region.binds .any e = true → D e.on = true) :
    ∀ k, (bef j).testBit k = true → D k = true := by
  intro k hk
  obtain ⟨e, h1, h2, h3⟩ := F.befs j o ho k hk
  rcases h3 with h3 | h3
  · rw [h3]; exact he e h1 h2
  · exact hc _ (he e h1 h2) k h3

/-- What it looks at is what it looked at. -/
theorem looks_eq {D : Nat → Bool} (hc : ∀ i, D i = true → ∀ k, (bef i).testBit k = true → D k = true) (hn : ∀ i, D i = true → i < ops.size) {j : Nat} {o : Oper} (ho : ops[j]? = some o) (hd : D j = false)
    (ha : ∀ k, (bef j).testBit k = true → D k = true) {t : Nat} (ht : t < 255) (hl : t ∈ looksA (dstOf ops) o) :
    valAt (get2 (S 0).ts (pathOf t)) ops V D t ops.size = get2 (S j).ts (pathOf t) := by
  have hj := op_lt ho
  rw [F.vals ht (i := j) (by omega), valAt_tail (k := j) (m := ops.size) (by omega), valAt_congr]
  · intro i hi hdst
    obtain ⟨a, h1, h2⟩ := dstOf_some hdst
    rcases F.indep hi h1 ho with h | ⟨_, h, _⟩
    · exact ha i h
    · exact absurd hl (h t h2).1
  · intro i h1 h2 hdst
    obtain ⟨a, h3, h4⟩ := dstOf_some hdst
    by_cases e : j = i
    · subst e; exact hd
    · cases hD : D i with
      | false => rfl
      | true =>
        rcases F.indep (show j < i by omega) ho h3 with h | ⟨_, _, h⟩
        · have := hc i hD j h
          rw [hd] at this; cases this
        · exact absurd hl (h t h4)

theorem vals_next {D : Nat → Bool} (hc : ∀ i, D i = true → ∀ k, (bef i).testBit k = true → D k = true) {j : Nat} {o : Oper} (ho : ops[j]? = some o) (hd : D j = false) {x0 : AV} {t : Nat} :
    valAt x0 ops V (fun k => D k || Nat.beq k j) t ops.size = if o.dst = some t then V j else valAt x0 ops V D t ops.size := by
  have hj := op_lt ho
  by_cases e : o.dst = some t
  · rw [if_pos e, valAt_tail (k := j + 1) (m := ops.size) (by omega)]
    · rw [valAt_succ, dstOf_get ho, e]
      simp
    · intro i h1 h2 hdst
      obtain ⟨a, h3, h4⟩ := dstOf_some hdst
      rcases F.indep (show j < i by omega) ho h3 with h | ⟨_, h, _⟩
      · cases hD : D i with
        | true =>
          have := hc i hD j h
          rw [hd] at this; cases this
        | false =>
          have : Nat.beq i j = false := beq_f (show i ≠ j by omega)
          simp [this]
      · exact absurd h4 (h t e).2
  · rw [if_neg e]
    refine valAt_congr fun i hi hdst => ?_
    have hne : i ≠ j := fun h => by subst h; rw [dstOf_get ho] at hdst; exact e hdst
    have : Nat.beq i j = false := beq_f hne
    simp [this]

/-! ### Heaps -/
theorem heap_eq {c : Nat} : ∀ {m : Nat}, c ≤ m → m ≤ ops.size → (∀ i, c ≤ i → i < m → K i ≠ .act) → (S m).h = (S c).h ∧ (S m).hist = (S c).hist
  | 0, hc, _, _ => by rw [Nat.le_zero.mp hc]; exact ⟨rfl, rfl⟩
  | m + 1, hc, hm, h => by
    by_cases e : c = m + 1
    · rw [e]; exact ⟨rfl, rfl⟩
    · obtain ⟨o, ho⟩ := get_op (ops := ops) (i := m) (by omega)
      obtain ⟨h1, h2⟩ := (F.step m o ho).quiet (h m (by omega) (by omega))
      obtain ⟨h3, h4⟩ := heap_eq (c := c) (m := m) (by omega) (by omega) fun i h1 h2 => h i h1 (by omega)
      exact ⟨h1.trans h3, h2.trans h4⟩

theorem hist_head {m b : Nat} {hh : Heap} {l : List (Nat × Nat × Heap)} : ∀ {i : Nat}, i ≤ ops.size → (S i).hist = (m, b, hh) :: l → m < i ∧ K m = .act ∧ b = bef m ∧ ∀ x, m < x → x < i → K x ≠ .act
  | 0, _, h => by rw [F.t0] at h; cases h
  | i + 1, hi, h => by
    obtain ⟨o, ho⟩ := get_op (ops := ops) (i := i) (by omega)
    have st := F.step i o ho
    by_cases hk : K i = .act
    · rw [hk] at st
      obtain ⟨f, _, _, _, _, _, _, hh⟩ := st.act
      rw [hh] at h
      injection h with h1 h2
      injection h1 with h1 h3
      injection h3 with h3 h4
      subst h1; subst h3
      exact ⟨by omega, hk, rfl, fun x h1 h2 => by omega⟩
    · rw [(st.quiet hk).2] at h
      obtain ⟨h1, h2, h3, h4⟩ := hist_head (i := i) (by omega) h
      refine ⟨by omega, h2, h3, fun x hx hx2 => ?_⟩
      by_cases e : x = i
      · rw [e]; exact hk
      · exact h4 x hx (by omega)
theorem hist_ne {m : Nat} (hk : K m = .act) : ∀ {i : Nat}, m < i → i ≤ ops.size → (S i).hist ≠ []
  | 0, h, _ => absurd h (by omega)
  | i + 1, h, hi => by
    obtain ⟨o, ho⟩ := get_op (ops := ops) (i := i) (by omega)
    have st := F.step i o ho
    by_cases hki : K i = .act
    · rw [hki] at st
      obtain ⟨f, _, _, _, _, _, _, hh⟩ := st.act
      rw [hh]; simp
    · rw [(st.quiet hki).2]
      have : m ≠ i := fun e => hki (e ▸ hk)
      exact hist_ne hk (i := i) (by omega) (by omega)

theorem read_in {r : Read} {c : Nat} (ha : ∀ a, a < ops.size → K a = .act → c ≤ a → r.bef.testBit a = false) (hp : ∀ p, p < c → K p = .act → (bef p).testBit r.i = false) :
    ∀ {i : Nat}, i ≤ ops.size → readOk r (S i).hist = true → c ≤ i → (∃ a, c ≤ a ∧ a < i ∧ K a = .act) → readSame r (S c).h = true
  | 0, _, _, _, ⟨a, _, h, _⟩ => absurd h (by omega)
  | i + 1, hi, hr, hc, ⟨a, h1, h2, h3⟩ => by
    obtain ⟨o, ho⟩ := get_op (ops := ops) (i := i) (by omega)
    have st := F.step i o ho
    by_cases hk : K i = .act
    · rw [hk] at st
      obtain ⟨f, _, _, _, _, _, _, hh⟩ := st.act
      rw [hh] at hr
      simp only [readOk, Bool.and_eq_true] at hr
      obtain ⟨r1, r2⟩ := hr
      by_cases hex : ∃ a, c ≤ a ∧ a < i ∧ K a = .act
      · obtain ⟨a', q1, q2, q3⟩ := hex
        exact read_in ha hp (i := i) (by omega) r1 (by omega) ⟨a', q1, q2, q3⟩
      · have hci : c ≤ i := by omega
        have heq := F.heap_eq (c := c) (m := i) hci (by omega) fun x q1 q2 q3 => hex ⟨x, q1, q2, q3⟩
        rw [← heq.1]
        rw [ha i (by omega) hk hci, Bool.false_or] at r2
        cases hhist : (S i).hist with
        | nil => rw [hhist] at r2; simpa using r2
        | cons e l =>
          obtain ⟨m, b, hh⟩ := e
          obtain ⟨q1, q2, q3, q4⟩ := F.hist_head (i := i) (by omega) hhist
          have hmc : m < c := by
            refine Classical.byContradiction fun hn => hex ⟨m, by omega, q1, q2⟩
          rw [hhist] at r2
          simp only [q3, hp m hmc q2, Bool.false_or] at r2
          exact r2
    · rw [(st.quiet hk).2] at hr
      have hne : a ≠ i := fun e => hk (e ▸ h3)
      exact read_in ha hp (i := i) (by omega) hr (by omega) ⟨a, h1, by omega, h3⟩

theorem read_out {r : Read} {c : Nat} (hc : c ≤ ops.size) (ha : ∀ a, a < ops.size → K a = .act → c ≤ a → r.bef.testBit a = false) (hp : ∀ p, p < c → K p = .act → (bef p).testBit r.i = false)
    (h1 : readOk r (S ops.size).hist = true) (h2 : readLast r (S ops.size).hist (S ops.size).h = true) (hex : ∃ a, a < ops.size ∧ K a = .act) : readSame r (S c).h = true := by
  by_cases he : ∃ a, c ≤ a ∧ a < ops.size ∧ K a = .act
  · exact F.read_in ha hp (Nat.le_refl _) h1 hc he
  · have heq := F.heap_eq (c := c) (m := ops.size) hc (Nat.le_refl _) fun x q1 q2 q3 => he ⟨x, q1, q2, q3⟩
    rw [← heq.1]
    cases hhist : (S ops.size).hist with
    | nil => obtain ⟨a, q1, q2⟩ := hex; exact absurd hhist (F.hist_ne q2 q1 (Nat.le_refl _))
    | cons e l =>
      obtain ⟨m, b, hh⟩ := e
      obtain ⟨q1, q2, q3, q4⟩ := F.hist_head (Nat.le_refl _) hhist
      have hmc : m < c := by
        refine Classical.byContradiction fun hn => he ⟨m, by omega, q1, q2⟩
      rw [hhist] at h2
      simp only [readLast, q3, hp m hmc q2, Bool.false_or] at h2
      exact h2

theorem reads_mono {i : Nat} : ∀ {m : Nat}, i ≤ m → m ≤ ops.size → ∀ r, r ∈ (S i).reads → r ∈ (S m).reads
  | 0, hi, _, r, h => by rw [Nat.le_zero.mp hi] at h; exact h
  | m + 1, hi, hm, r, h => by
    by_cases e : i = m + 1
    · rw [← e]; exact h
    · obtain ⟨o, ho⟩ := get_op (ops := ops) (i := m) (by omega)
      have st := F.step m o ho
      have ih := reads_mono (i := i) (m := m) (by omega) (by omega) r h
      generalize hk : K m = k at st
      cases k with
      | skip => rw [st.skipped.2.2.2.2.1]; exact ih
      | pure => rw [st.pure.2.2.2.2.2.1]; exact ih
      | read => obtain ⟨f, _, _, _, _, _, _, h, _⟩ := st.read; rw [h]; exact List.mem_cons_of_mem _ ih
      | alloc o => obtain ⟨f, _, _, _, _, _, _, _, _, h, _⟩ := st.alloc; rw [h]; exact ih
      | act => obtain ⟨f, _, _, _, _, _, h, _⟩ := st.act; rw [h]; exact ih

theorem readsOk_mem {hist : List (Nat × Nat × Heap)} {h : Heap} : ∀ {l : List Read}, readsOk hist h l = true → ∀ r ∈ l, readOk r hist = true ∧ readLast r hist h = true
  | [], _, r, hr => by cases hr
  | x :: l, hl, r, hr => by
    simp only [readsOk, Bool.and_eq_true] at hl
    rcases List.mem_cons.mp hr with rfl | hr
    · exact hl.1
    · exact readsOk_mem hl.2 r hr

/-- A read says the same, whenever its turn comes. -/
theorem read_at {j c : Nat} {o : Oper} (ho : ops[j]? = some o) (hk : K j = .read) (hc : c ≤ ops.size) (ha : ∀ a, a < ops.size → K a = .act → c ≤ a → (bef j).testBit a = false)
    (hp : ∀ p, p < c → K p = .act → (bef p).testBit j = false) : ∃ f, dstOk nt o.dst = true ∧ compileOp P o.op = .r f ∧ dWd (dGd (dstOf ops) o.guard) (S j).ts = some true ∧ f (S j).ts (S c).h = some (V j) := by
  have hj := op_lt ho
  have st := F.step j o ho
  rw [hk] at st
  obtain ⟨f, h1, h2, h3, h4, h5, h6, h7, h8⟩ := st.read
  refine ⟨f, h1, h2, h3, ?_⟩
  by_cases hex : ∃ a, a < ops.size ∧ K a = .act
  · have hm := F.reads_mono (i := j + 1) (m := ops.size) (by omega) (Nat.le_refl _) ⟨j, bef j, f, (S j).ts, V j⟩ (by rw [h7]; exact List.mem_cons_self)
    obtain ⟨r1, r2⟩ := F.readsOk_mem F.fin _ hm
    exact readSame_val (F.read_out (r := ⟨j, bef j, f, (S j).ts, V j⟩) hc ha hp r1 r2 hex)
  · have e1 := (F.heap_eq (c := 0) (m := j) (by omega) (by omega) fun x _ q2 q3 => hex ⟨x, by omega, q3⟩).1
    have e2 := (F.heap_eq (c := 0) (m := c) (by omega) hc fun x _ q2 q3 => hex ⟨x, by omega, q3⟩).1
    rw [e2, ← e1]; exact h4

/-! ### Blocks that wait -/
/-- It was laid by one of those ahead of c. -/
def Com (K : Nat → Kd) (bef : Nat → Nat) (c i : Nat) : Prop := ∃ j, j < c ∧ K j = .act ∧ (bef j).testBit i = true
omit F in
theorem com_quiet {c i : Nat} (hk : K c ≠ .act) : Com K bef (c + 1) i ↔ Com K bef c i := by
  constructor
  · rintro ⟨j, h1, h2, h3⟩
    refine ⟨j, ?_, h2, h3⟩
    by_cases e : j = c
    · rw [e] at h2; exact absurd h2 hk
    · omega
  · rintro ⟨j, h1, h2, h3⟩; exact ⟨j, by omega, h2, h3⟩
omit F in
theorem com_act {c i : Nat} (hk : K c = .act) : Com K bef (c + 1) i ↔ (Com K bef c i ∨ (bef c).testBit i = true) := by
  constructor
  · rintro ⟨j, h1, h2, h3⟩
    by_cases e : j = c
    · rw [e] at h3; exact .inr h3
    · exact .inl ⟨j, by omega, h2, h3⟩
  · rintro (⟨j, h1, h2, h3⟩ | h)
    · exact ⟨j, by omega, h2, h3⟩
    · exact ⟨c, by omega, hk, h⟩

theorem pend_mem : ∀ {c : Nat}, c ≤ ops.size → ∀ e, e ∈ (S c).pend ↔ (e.2.1 = base + e.1 ∧ e.1 < c ∧ K e.1 = .alloc e.2.2 ∧ ¬ Com K bef c e.1)
  | 0, _, e => by rw [F.p0]; simp
  | c + 1, hc, e => by
    obtain ⟨o, ho⟩ := get_op (ops := ops) (i := c) (by omega)
    have st := F.step c o ho
    have ih := pend_mem (c := c) (by omega) e
    have quiet : K c ≠ .act → (∀ ob, K c ≠ .alloc ob) → (S (c + 1)).pend = (S c).pend → (e ∈ (S (c + 1)).pend ↔ (e.2.1 = base + e.1 ∧ e.1 < c + 1 ∧ K e.1 = .alloc e.2.2 ∧ ¬ Com K bef (c + 1) e.1)) := by
      intro q1 q2 q3
      rw [q3, ih, com_quiet q1]
      constructor
      · rintro ⟨a1, a2, a3, a4⟩; exact ⟨a1, by omega, a3, a4⟩
      · rintro ⟨a1, a2, a3, a4⟩
        refine ⟨a1, ?_, a3, a4⟩
        by_cases e' : e.1 = c
        · rw [e'] at a3; exact absurd a3 (q2 _)
        · omega
    generalize hk : K c = k at st
    cases k with
    | skip => exact quiet (by rw [hk]; simp) (by rw [hk]; simp) st.skipped.2.2.2.1
    | pure => exact quiet (by rw [hk]; simp) (by rw [hk]; simp) st.pure.2.2.2.2.1
    | read => obtain ⟨f, _, _, _, _, _, h, _, _⟩ := st.read; exact quiet (by rw [hk]; simp) (by rw [hk]; simp) h
    | alloc ob =>
      obtain ⟨f, _, _, _, _, _, _, _, h, _, _⟩ := st.alloc
      rw [h, List.mem_append, ih, com_quiet (by rw [hk]; simp), List.mem_singleton]
      constructor
      · rintro (⟨a1, a2, a3, a4⟩ | a)
        · exact ⟨a1, by omega, a3, a4⟩
        · subst a
          refine ⟨rfl, Nat.lt_succ_self _, hk, ?_⟩
          rintro ⟨j, b1, b2, b3⟩
          have := F.bef_lt (j := j) (by omega) b3
          simp at this
          omega
      · rintro ⟨a1, a2, a3, a4⟩
        by_cases e' : e.1 = c
        · right
          obtain ⟨x, y, z⟩ := e
          simp only at a1 a3 e'
          subst e'
          rw [hk] at a3
          injection a3 with a3
          subst a1; subst a3
          rfl
        · exact .inl ⟨a1, by omega, a3, a4⟩
    | act =>
      obtain ⟨f, _, _, _, _, h, _, _⟩ := st.act
      rw [h, commit_eq, List.mem_filter, ih, com_act hk]
      constructor
      · rintro ⟨⟨a1, a2, a3, a4⟩, a5⟩
        refine ⟨a1, by omega, a3, ?_⟩
        rintro (a | a)
        · exact a4 a
        · rw [a] at a5; cases a5
      · rintro ⟨a1, a2, a3, a4⟩
        refine ⟨⟨a1, ?_, a3, fun a => a4 (.inl a)⟩, ?_⟩
        · by_cases e' : e.1 = c
          · rw [e', hk] at a3; cases a3
          · omega
        · cases hb : (bef c).testBit e.1 with
          | true => exact absurd (.inr hb) a4
          | false => rfl

theorem pend_sorted : ∀ {c : Nat}, c ≤ ops.size → (S c).pend.Pairwise fun x y => x.1 < y.1
  | 0, _ => by rw [F.p0]; exact .nil
  | c + 1, hc => by
    obtain ⟨o, ho⟩ := get_op (ops := ops) (i := c) (by omega)
    have st := F.step c o ho
    have ih := pend_sorted (c := c) (by omega)
    generalize hk : K c = k at st
    cases k with
    | skip => rw [st.skipped.2.2.2.1]; exact ih
    | pure => rw [st.pure.2.2.2.2.1]; exact ih
    | read => obtain ⟨f, _, _, _, _, _, h, _, _⟩ := st.read; rw [h]; exact ih
    | alloc ob =>
      obtain ⟨f, _, _, _, _, _, _, _, h, _, _⟩ := st.alloc
      rw [h, List.pairwise_append]
      refine ⟨ih, List.pairwise_singleton _ _, ?_⟩
      intro a ha b hb
      rw [List.mem_singleton] at hb
      subst hb
      exact ((F.pend_mem (c := c) (by omega) a).mp ha).2.1
    | act =>
      obtain ⟨f, _, _, _, _, h, _, _⟩ := st.act
      rw [h, commit_eq]
      exact List.Pairwise.filter _ ih
end Facts

end
end Go.Eng
