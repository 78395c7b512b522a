import Derived.Test.YtdmgncjahckngaaGreatP34
/-! Soundness, 35: a region that draws its order, in any order. -/
namespace Go.Eng
set_option linter.all false

section
variable {P : Program}

/-! ### Blocks that wait, laid -/
theorem Rel.put1 {π : Pi} {h : Heap} {w : World} (hr : Rel P π h w) {b : Nat} {o : AObj} {i : Info} {obj : Obj} (hi : π b = some i) (hobj : w.heap[i.r]? = some obj) (ho : ORel P π i o obj) (hn : ¬ Taken π h i.r) :
    Rel P π { t := HT.put h.t b (some o), next := h.next } w ∧ ∀ r, Taken π { t := HT.put h.t b (some o), next := h.next } r → Taken π h r ∨ r = i.r := by
  have getN : ∀ c o', HT.get (HT.put h.t b (some o)) c = some o' → (c = b ∧ o' = o) ∨ (c ≠ b ∧ HT.get h.t c = some o') := fun c o' hc => by
    rcases HT.get_put_some hc with ⟨a, c⟩ | ⟨a, c⟩
    · left; exact ⟨a, by injection c with c; exact c.symm⟩
    · right; exact ⟨a, c⟩
  refine ⟨⟨?_, ?_, hr.fresh⟩, ?_⟩
  · intro c o' hc
    rcases getN c o' hc with ⟨rfl, rfl⟩ | ⟨_, hc⟩
    · exact ⟨i, obj, hi, hobj, ho⟩
    · exact hr.live c o' hc
  · intro c c' o1 o2 j j' h1 h2 e1 e2 er
    rcases getN c o1 h1 with ⟨hb, _⟩ | ⟨hb, g1⟩ <;> rcases getN c' o2 h2 with ⟨hb', _⟩ | ⟨hb', g2⟩
    · rw [hb, hb']
    · rw [hb, hi] at e1; injection e1 with e1; subst e1
      exact absurd ⟨c', o2, j', g2, e2, er.symm⟩ hn
    · rw [hb', hi] at e2; injection e2 with e2; subst e2
      exact absurd ⟨c, o1, j, g1, e1, er⟩ hn
    · exact hr.inj _ _ _ _ _ _ g1 g2 e1 e2 er
  · rintro r ⟨c, o', j, hc, e, rfl⟩
    rcases getN c o' hc with ⟨rfl, _⟩ | ⟨_, hc⟩
    · rw [hi] at e; injection e with e; subst e; exact .inr rfl
    · exact .inl ⟨c, o', j, hc, e, rfl⟩

/-- A block that waits. -/
def Waits (P : Program) (π : Pi) (h : Heap) (w : World) (m b : Nat) (o : AObj) : Prop :=
  ∃ inf obj, π b = some inf ∧ w.heap[inf.r]? = some obj ∧ ORel P π inf o obj ∧ ¬ Taken π h inf.r ∧ m ≤ inf.r

theorem Rel.putAll {π : Pi} {w : World} {m : Nat} : ∀ {l : List (Nat × Nat × AObj)} {h : Heap}, Rel P π h w → (∀ e ∈ l, Waits P π h w m e.2.1 e.2.2) →
    l.Pairwise (fun x y => ∀ i j, π x.2.1 = some i → π y.2.1 = some j → i.r ≠ j.r) →
    Rel P π { t := commitAll l h.t, next := h.next } w ∧ ∀ r, Taken π { t := commitAll l h.t, next := h.next } r → Taken π h r ∨ ∃ e ∈ l, ∃ i, π e.2.1 = some i ∧ r = i.r
  | [], h, hr, _, _ => ⟨hr, fun r hr => .inl hr⟩
  | e :: l, h, hr, hl, hd => by
    obtain ⟨inf, obj, h1, h2, h3, h4, h5⟩ := hl e List.mem_cons_self
    obtain ⟨r1, t1⟩ := hr.put1 h1 h2 h3 h4
    obtain ⟨d1, d2⟩ := List.pairwise_cons.mp hd
    obtain ⟨r2, t2⟩ := Rel.putAll (m := m) (l := l) r1 (fun x hx => by
      obtain ⟨i', obj', q1, q2, q3, q4, q5⟩ := hl x (List.mem_cons_of_mem _ hx)
      refine ⟨i', obj', q1, q2, q3, fun ht => ?_, q5⟩
      rcases t1 _ ht with ht | ht
      · exact q4 ht
      · exact d1 x hx _ _ h1 q1 ht.symm) d2
    refine ⟨r2, fun r ht => ?_⟩
    rcases t2 r ht with ht | ⟨x, hx, i', q1, q2⟩
    · rcases t1 r ht with ht | ht
      · exact .inl ht
      · exact .inr ⟨e, List.mem_cons_self, inf, h1, ht⟩
    · exact .inr ⟨x, List.mem_cons_of_mem _ hx, i', q1, q2⟩

theorem Good.putAll {π0 π : Pi} {h0 h : Heap} {w0 w : World} (g : Good P π0 h0 w0 π h w) {l : List (Nat × Nat × AObj)} (hl : ∀ e ∈ l, Waits P π h w w0.heap.size e.2.1 e.2.2)
    (hd : l.Pairwise (fun x y => ∀ i j, π x.2.1 = some i → π y.2.1 = some j → i.r ≠ j.r)) : Good P π0 h0 w0 π { t := commitAll l h.t, next := h.next } w := by
  obtain ⟨r, t⟩ := Rel.putAll g.rel hl hd
  refine ⟨g.le, r, g.newIds, g.next, g.size, g.frame, fun x hx => ?_, g.os, g.output, g.tape⟩
  rcases t x hx with hx | ⟨e, he, i, h1, h2⟩
  · exact g.taken x hx
  · obtain ⟨i', _, q1, _, _, _, q5⟩ := hl e he
    rw [h1] at q1; injection q1 with q1
    right; rw [h2, q1]; exact q5

theorem MarksOK.putAll {n0 m : Nat} {π : Pi} {h : Heap} {w : World} {ds : List Deferred} (mk : MarksOK n0 π h w ds) (hr : Rel P π h w) {l : List (Nat × Nat × AObj)} (hl : ∀ e ∈ l, Waits P π h w m e.2.1 e.2.2)
    (hd : l.Pairwise (fun x y => ∀ i j, π x.2.1 = some i → π y.2.1 = some j → i.r ≠ j.r)) : MarksOK n0 π { t := commitAll l h.t, next := h.next } w ds := by
  refine ⟨mk.nodup, fun r hr' => ?_⟩
  obtain ⟨h1, h2, h3, h4⟩ := mk.each r hr'
  refine ⟨h1, h2, fun ht => ?_, h4⟩
  rcases (Rel.putAll hr hl hd).2 r ht with ht | ⟨e, he, i, q1, q2⟩
  · exact h3 ht
  · obtain ⟨i', obj, q3, q4, q5, _, _⟩ := hl e he
    rw [q1] at q3; injection q3 with q3; subst q3
    rw [q2, q4] at h4; injection h4 with h4; subst h4
    generalize e.2.2 = ob at q5
    cases q5

theorem Waits.carry {π π' : Pi} {h h' : Heap} {w w' : World} (g : Good P π h w π' h' w') (hr : Rel P π h w) {m b : Nat} {o : AObj} (hw : Waits P π h w m b o) : Waits P π' h' w' m b o := by
  obtain ⟨inf, obj, h1, h2, h3, h4, h5⟩ := hw
  have hlt := (hr.fresh _ _ h1).2
  refine ⟨inf, obj, g.le _ _ h1, by rw [g.frame _ hlt h4]; exact h2, h3.mono g.le, fun ht => ?_, h5⟩
  rcases g.taken _ ht with ht | ht
  · exact h4 ht
  · omega

/-! ### Writing what is no value -/
theorem write_undef_some {π : Pi} {ts : Env} {a : Act} (hr : TRel π ts a.tmps) (d : Nat) : TRel π ((wOf (some d)).fn ts .undef) (a.put (some d) undef).tmps := by
  intro t ht
  rw [wOf_get_some d ts .undef ht]
  show VRel π _ ((a.tmps.setIfInBounds d undef).getD t undef)
  by_cases e : d = t
  · rw [if_pos e]
    subst e
    by_cases hs : d < a.tmps.size
    · simp [hs]; exact .undef π
    · simp [hs]; exact .undef π
  · rw [if_neg e]
    have := hr t ht
    simpa [Array.getElem?_setIfInBounds_ne e] using this
theorem write_undef {π : Pi} {ts : Env} {a : Act} (hr : TRel π ts a.tmps) (dst : Option Tmp) : TRel π ((wOf dst).fn ts .undef) (a.put dst undef).tmps ∧ (a.put dst undef).tmps.size = a.tmps.size ∧ (a.put dst undef).defers = a.defers := by
  cases dst with
  | none => exact ⟨hr, rfl, rfl⟩
  | some d => exact ⟨write_undef_some hr d, by simp [Act.put], rfl⟩

theorem wanted_dWd {π : Pi} {ts : Env} {tmps : Array Value} (hr : TRel π ts tmps) {ops : Array Oper} {o : Oper} {b : Bool} (h : dWd (dGd (dstOf ops) o.guard) ts = some b) : Region.wanted o (yielded ops tmps) = b := by
  cases hg : o.guard with
  | none =>
    rw [hg] at h
    injection h with h
    rw [← h]; exact wanted_none hg _
  | some g =>
    obtain ⟨j, want⟩ := g
    rw [hg] at h
    unfold dGd at h
    cases hj : dstOf ops j with
    | none =>
      simp only [hj] at h
      injection h with h
      rw [← h]; exact unwanted_none hg hj
    | some t =>
      simp only [hj] at h
      rcases wanted_rel hr hg hj h (by simp) with ⟨h1, h2⟩ | ⟨h1, h2⟩
      · injection h2 with h2; rw [h1, h2]
      · injection h2 with h2; rw [h1, h2]

/-! ### The state in between -/
structure DI (P : Program) (top : Bool) (nt n0 : Nat) (π0 : Pi) (h0 : Heap) (w0 : World) (ops : Array Oper) (S : Nat → St) (V : Nat → AV) (K : Nat → Kd) (bef : Nat → Nat)
    (D : Nat → Bool) (c : Nat) (π : Pi) (w : World) (ts : Env) (a : Act) : Prop where
  cle : c ≤ ops.size
  acts : ∀ i, i < ops.size → K i = .act → (D i = true ↔ i < c)
  clos : ∀ i, D i = true → ∀ k, (bef i).testBit k = true → D k = true
  dn : ∀ i, D i = true → i < ops.size
  good : Good P π0 h0 w0 π (S c).h w
  nx : (S 0).h.next ≤ (S c).h.next
  pend : ∀ i o, D i = true → K i = .alloc o → ¬ Facts.Com K bef c i → Waits P π (S c).h w w0.heap.size (h0.next + i) o
  dist : ∀ i j o o' x y, D i = true → D j = true → K i = .alloc o → K j = .alloc o' → π (h0.next + i) = some x → π (h0.next + j) = some y → x.r = y.r → i = j
  unb : ∀ i o, i < ops.size → K i = .alloc o → D i = false → π (h0.next + i) = none
  tm : TRel π ts a.tmps
  size : nt ≤ a.tmps.size
  base : n0 ≤ w.heap.size
  defers : top = true → DRel π (defersOf ts) a.defers ∧ MarksOK n0 π (S c).h w a.defers
  dfs : defersOf ts = defersOf (S 0).ts
  vals : ∀ t, t < 255 → get2 ts (pathOf t) = valAt (get2 (S 0).ts (pathOf t)) ops V D t ops.size

section
variable {callF : CallF} {ops : Array Oper} {top : Bool} {nt n0 : Nat} {π0 : Pi} {h0 : Heap} {w0 : World} {S : Nat → St} {V : Nat → AV} {K : Nat → Kd} {bef : Nat → Nat}
  {D : Nat → Bool} {c : Nat} {π : Pi} {w : World} {ts : Env} {a : Act}

theorem DI.move (F : Facts P callF ops nt h0.next S V K bef) (I : DI P top nt n0 π0 h0 w0 ops S V K bef D c π w ts a) {c' : Nat} (hc' : c' ≤ ops.size) (h : ∀ i, i < ops.size → K i = .act → (D i = true ↔ i < c')) :
    (S c').h = (S c).h ∧ ∀ i, Facts.Com K bef c' i ↔ Facts.Com K bef c i := by
  have key : ∀ i, i < ops.size → K i = .act → (i < c ↔ i < c') := fun i hi hk => (I.acts i hi hk).symm.trans (h i hi hk)
  have hc := I.cle
  constructor
  · rcases Nat.le_total c c' with hcc | hcc
    · exact (F.heap_eq hcc hc' fun i h1 h2 hk => by have := (key i (by omega) hk).mpr h2; omega).1
    · exact (F.heap_eq hcc hc fun i h1 h2 hk => by have := (key i (by omega) hk).mp h2; omega).1.symm
  · intro i
    constructor
    · rintro ⟨j, h1, h2, h3⟩; exact ⟨j, (key j (by omega) h2).mpr h1, h2, h3⟩
    · rintro ⟨j, h1, h2, h3⟩; exact ⟨j, (key j (by omega) h2).mp h1, h2, h3⟩

theorem DI.agree (F : Facts P callF ops nt h0.next S V K bef) (I : DI P top nt n0 π0 h0 w0 ops S V K bef D c π w ts a) {j : Nat} {o : Oper} (ho : ops[j]? = some o) (hd : D j = false) (ha : ∀ k, (bef j).testBit k = true → D k = true) :
    Agree o.op ts (S j).ts ∧ dWd (dGd (dstOf ops) o.guard) ts = dWd (dGd (dstOf ops) o.guard) (S j).ts := by
  have hl : ∀ t, t < 255 → t ∈ looksA (dstOf ops) o → get2 ts (pathOf t) = get2 (S j).ts (pathOf t) := fun t ht hm => by
    rw [I.vals t ht]
    exact F.looks_eq I.clos I.dn ho hd ha ht hm
  have hg : ∀ t : Nat, t ∈ looksA (dstOf ops) o → (gOf (.tmp t)).fn ts = (gOf (.tmp t)).fn (S j).ts := fun t hm => by
    by_cases ht : t < 255
    · rw [gOf_tmp t ht]; exact hl t ht hm
    · rw [gOf_tmp_ge t (Nat.le_of_not_lt ht)]; rfl
  constructor
  · intro x hx
    cases x with
    | tmp t =>
      refine hg t ?_
      unfold looksA
      exact List.mem_append_left _ (List.mem_filterMap.2 ⟨.tmp t, hx, rfl⟩)
    | _ => rfl
  · cases hgd : o.guard with
    | none => rfl
    | some g =>
      obtain ⟨k, want⟩ := g
      cases hk : dstOf ops k with
      | none => simp only [dGd, hk]; rfl
      | some t =>
        simp only [dGd, hk, dWd]
        rw [hg t]
        unfold looksA
        exact List.mem_append_right _ (by simp [hgd, hk])

theorem DI.clos_next (I : DI P top nt n0 π0 h0 w0 ops S V K bef D c π w ts a) {j : Nat} (ha : ∀ k, (bef j).testBit k = true → D k = true) :
    ∀ i, (D i || Nat.beq i j) = true → ∀ k, (bef i).testBit k = true → (D k || Nat.beq k j) = true := by
  intro i hi k hk
  rw [Bool.or_eq_true] at hi ⊢
  rcases hi with hi | hi
  · exact .inl (I.clos i hi k hk)
  · rw [beq_t hi] at hk; exact .inl (ha k hk)
theorem DI.dn_next (I : DI P top nt n0 π0 h0 w0 ops S V K bef D c π w ts a) {j : Nat} {o : Oper} (ho : ops[j]? = some o) : ∀ i, (D i || Nat.beq i j) = true → i < ops.size := by
  intro i hi
  rw [Bool.or_eq_true] at hi
  rcases hi with hi | hi
  · exact I.dn i hi
  · rw [beq_t hi]; exact op_lt ho
theorem DI.vals_next (F : Facts P callF ops nt h0.next S V K bef) (I : DI P top nt n0 π0 h0 w0 ops S V K bef D c π w ts a) {j : Nat} {o : Oper} (ho : ops[j]? = some o) (hd : D j = false) :
    ∀ t, t < 255 → get2 ((wOf o.dst).fn ts (V j)) (pathOf t) = valAt (get2 (S 0).ts (pathOf t)) ops V (fun k => D k || Nat.beq k j) t ops.size := by
  intro t ht
  rw [wOf_get _ _ _ ht, F.vals_next I.clos ho hd, I.vals t ht]

/-- Behind an operation that lays no block. -/
theorem DI.next (F : Facts P callF ops nt h0.next S V K bef) (alt : ∀ i o, i < ops.size → K i = .alloc o → h0.next + i < (S 0).h.next) (I : DI P top nt n0 π0 h0 w0 ops S V K bef D c π w ts a) {j : Nat} {o : Oper} (ho : ops[j]? = some o) (hd : D j = false)
    (ha : ∀ k, (bef j).testBit k = true → D k = true) {c' : Nat} (hc' : c' ≤ ops.size) (hacts : ∀ i, i < ops.size → K i = .act → ((D i || Nat.beq i j) = true ↔ i < c')) (hK : ∀ ob, K j ≠ .alloc ob) {hX : Heap} (gX : Good P π0 h0 w0 π hX w)
    (hXn : (S 0).h.next ≤ hX.next) (hXp : ∀ i ob, D i = true → K i = .alloc ob → ¬ Facts.Com K bef c' i → Waits P π hX w w0.heap.size (h0.next + i) ob) {π' : Pi} {h' : Heap} {w' : World} {a' : Act}
    (i' : In P top nt n0 π' h' w' ((wOf o.dst).fn ts (V j)) a') (g' : Good P π hX w π' h' w') (hS : (S c').h = h') :
    DI P top nt n0 π0 h0 w0 ops S V K bef (fun k => D k || Nat.beq k j) c' π' w' ((wOf o.dst).fn ts (V j)) a' := by
  have inD : ∀ i ob, (D i || Nat.beq i j) = true → K i = .alloc ob → D i = true := fun i ob hi hk => by
    rw [Bool.or_eq_true] at hi
    rcases hi with hi | hi
    · exact hi
    · rw [beq_t hi] at hk; exact absurd hk (hK ob)
  have old : ∀ i ob x, D i = true → K i = .alloc ob → π' (h0.next + i) = some x → π (h0.next + i) = some x := fun i ob x hi hk hx => by
    rcases g'.newIds _ _ hx with h | ⟨_, h⟩
    · exact h
    · have := alt i ob (I.dn i hi) hk
      omega
  refine ⟨hc', hacts, I.clos_next ha, I.dn_next ho, ?_, ?_, ?_, ?_, ?_, i'.tm, i'.size, i'.base, ?_, ?_, I.vals_next F ho hd⟩
  · rw [hS]; exact gX.trans g'
  · rw [hS]; exact Nat.le_trans hXn g'.next
  · intro i ob hi hk hcom
    rw [hS]
    exact (hXp i ob (inD i ob hi hk) hk hcom).carry g' gX.rel
  · intro i k ob ob' x y hi hk h1 h2 hx hy hxy
    exact I.dist i k ob ob' x y (inD i ob hi h1) (inD k ob' hk h2) h1 h2 (old i ob x (inD i ob hi h1) h1 hx) (old k ob' y (inD k ob' hk h2) h2 hy) hxy
  · intro i ob hi hk hD
    rw [Bool.or_eq_false_iff] at hD
    have hn := I.unb i ob hi hk hD.1
    cases hx : π' (h0.next + i) with
    | none => rfl
    | some x =>
      rcases g'.newIds _ _ hx with h | ⟨_, h⟩
      · rw [hn] at h; cases h
      · have := alt i ob hi hk
        omega
  · intro ht
    rw [hS]; exact i'.defers ht
  · rw [wOf_defers]; exact I.dfs

end
end
end Go.Eng
