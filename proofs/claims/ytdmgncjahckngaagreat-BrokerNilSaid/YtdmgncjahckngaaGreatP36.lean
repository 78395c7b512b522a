import Derived.Test.YtdmgncjahckngaaGreatP35
/-! Soundness, 36: a region that draws its order, whole. -/
namespace Go.Eng
set_option linter.all false

section
variable {P : Program}

/-- A block is given its place. -/
theorem Rel.grow {π : Pi} {h : Heap} {w : World} (hr : Rel P π h w) {b : Nat} {inf : Info} (hn : π b = none) (hb : b < h.next) (hi : inf.r = w.heap.size) (obj : Obj) :
    Rel P (π.set b inf) h { w with heap := w.heap.push obj } ∧ ∀ r, Taken (π.set b inf) h r → Taken π h r := by
  have hle := Pi.le_set (i := inf) hn
  have old : ∀ r, r < w.heap.size → (w.heap.push obj)[r]? = w.heap[r]? := fun r h => by rw [Array.getElem?_push]; rw [if_neg (by omega)]
  have back : ∀ c o i, HT.get h.t c = some o → π.set b inf c = some i → π c = some i := fun c o i hc e => by
    obtain ⟨j, _, h1, _, _⟩ := hr.live c o hc
    rw [hle _ _ h1] at e; rw [← e]; exact h1
  refine ⟨⟨?_, ?_, ?_⟩, ?_⟩
  · intro c o hc
    obtain ⟨j, ob, h1, h2, h3⟩ := hr.live c o hc
    exact ⟨j, ob, hle _ _ h1, by rw [old _ (hr.fresh _ _ h1).2]; exact h2, h3.mono hle⟩
  · intro c c' o o' i i' h1 h2 e1 e2 er
    exact hr.inj _ _ _ _ _ _ h1 h2 (back _ _ _ h1 e1) (back _ _ _ h2 e2) er
  · intro c i e
    by_cases hc : c = b
    · subst hc
      rw [Pi.set_same] at e; injection e with e; subst e
      exact ⟨hb, by simp [hi]⟩
    · rw [Pi.set_ne _ _ hc] at e
      have := hr.fresh _ _ e
      exact ⟨this.1, by simp; omega⟩
  · rintro r ⟨c, o, i, hc, e, rfl⟩
    exact ⟨c, o, i, hc, back _ _ _ hc e, rfl⟩

theorem Waits.grow {π : Pi} {h : Heap} {w : World} (hr : Rel P π h w) {b : Nat} {inf : Info} (hn : π b = none) (hb : b < h.next) (hi : inf.r = w.heap.size) (obj : Obj) {m c : Nat} {o : AObj} (hw : Waits P π h w m c o) :
    Waits P (π.set b inf) h { w with heap := w.heap.push obj } m c o := by
  obtain ⟨i, ob, h1, h2, h3, h4, h5⟩ := hw
  have hle := Pi.le_set (i := inf) hn
  have hlt := (hr.fresh _ _ h1).2
  refine ⟨i, ob, hle _ _ h1, ?_, h3.mono hle, fun ht => h4 ((hr.grow hn hb hi obj).2 _ ht), h5⟩
  show (w.heap.push obj)[i.r]? = _
  rw [Array.getElem?_push, if_neg (by omega)]; exact h2

theorem MarksOK.grow {n0 : Nat} {π : Pi} {h : Heap} {w : World} {ds : List Deferred} (mk : MarksOK n0 π h w ds) (hr : Rel P π h w) {b : Nat} {inf : Info} (hn : π b = none) (hb : b < h.next) (hi : inf.r = w.heap.size) (obj : Obj) :
    MarksOK n0 (π.set b inf) h { w with heap := w.heap.push obj } ds := by
  refine ⟨mk.nodup, fun r hr' => ?_⟩
  obtain ⟨h1, h2, h3, h4⟩ := mk.each r hr'
  refine ⟨h1, by simp; omega, fun ht => h3 ((hr.grow hn hb hi obj).2 _ ht), ?_⟩
  show (w.heap.push obj)[r]? = _
  rw [Array.getElem?_push, if_neg (by omega)]; exact h4

section
variable {callF : CallF} {ops : Array Oper} {top : Bool} {nt n0 : Nat} {π0 : Pi} {h0 : Heap} {w0 : World} {S : Nat → St} {V : Nat → AV} {K : Nat → Kd} {bef : Nat → Nat}
  {D : Nat → Bool} {c : Nat} {π : Pi} {w : World} {ts : Env} {a : Act}

theorem DI.in (I : DI P top nt n0 π0 h0 w0 ops S V K bef D c π w ts a) : In P top nt n0 π (S c).h w ts a := ⟨I.good.rel, I.tm, I.size, I.base, I.defers⟩

theorem DI.acts_next (I : DI P top nt n0 π0 h0 w0 ops S V K bef D c π w ts a) {j : Nat} (hk : K j ≠ .act) : ∀ i, i < ops.size → K i = .act → ((D i || Nat.beq i j) = true ↔ i < c) := by
  intro i hi hki
  have hne : i ≠ j := fun e => by rw [e] at hki; exact hk hki
  rw [beq_f hne, Bool.or_false]
  exact I.acts i hi hki

/-- Behind a quiet operation's step. -/
theorem DI.quiet (F : Facts P callF ops nt h0.next S V K bef) (alt : ∀ i o, i < ops.size → K i = .alloc o → h0.next + i < (S 0).h.next) (I : DI P top nt n0 π0 h0 w0 ops S V K bef D c π w ts a) {j : Nat} {o : Oper} (ho : ops[j]? = some o) (hd : D j = false)
    (ha : ∀ k, (bef j).testBit k = true → D k = true) (hk : K j ≠ .act) (hK : ∀ ob, K j ≠ .alloc ob) {π' : Pi} {w' : World} {a' : Act}
    (i' : In P top nt n0 π' (S c).h w' ((wOf o.dst).fn ts (V j)) a') (g' : Good P π (S c).h w π' (S c).h w') :
    DI P top nt n0 π0 h0 w0 ops S V K bef (fun k => D k || Nat.beq k j) c π' w' ((wOf o.dst).fn ts (V j)) a' :=
  I.next F alt ho hd ha I.cle (I.acts_next hk) hK I.good I.nx I.pend i' g' rfl

theorem draw_step (hC : CallOK P callF) (F : Facts P callF ops nt h0.next S V K bef) (alt : ∀ i o, i < ops.size → K i = .alloc o → h0.next + i < (S 0).h.next) (I : DI P top nt n0 π0 h0 w0 ops S V K bef D c π w ts a)
    {j : Nat} {rest : List Nat} {k : List Item} {o : Oper} {b : Frame} {cs : List Frame} (ho : ops[j]? = some o) (hd : D j = false) (he : ∀ e ∈ o.after, Region.binds .any e = true → D e.on = true) (hb : FrameOK top b cs) :
    ∃ c' a' w' π', Steps P (lone (b.atR a (.inRegion ops (j :: rest) :: k)) cs w) (lone (b.atR a' (.inRegion ops rest :: k)) cs w') ∧
      DI P top nt n0 π0 h0 w0 ops S V K bef (fun k => D k || Nat.beq k j) c' π' w' ((wOf o.dst).fn ts (V j)) a' := by
  have ha := F.ahead I.clos ho he
  obtain ⟨hag, hwd⟩ := I.agree F ho hd ha
  have st := F.step j o ho
  have hdep := compileOp_dep (P := P) o.op
  have hsound := compileOp_sound (P := P) o.op
  have hj := op_lt ho
  generalize hk : K j = kd at st
  cases kd with
  | skip =>
    obtain ⟨h1, h2, _⟩ := st.skipped
    have hw := wanted_dWd I.tm (ops := ops) (o := o) (hwd.trans h1)
    have hs := stepR_op_skip (P := P) (b := b) (a := a) (k := k) (cs := cs) (w := w) (ops := ops) (i := j) (rest := rest) (by simp [ho, hw])
    rw [ho] at hs
    obtain ⟨u1, u2, u3⟩ := write_undef I.tm o.dst
    refine ⟨c, _, w, π, .one hs, I.quiet F alt ho hd ha (by rw [hk]; simp) (by rw [hk]; simp) ⟨I.good.rel, ?_, ?_, I.base, ?_⟩ (.refl I.good.rel)⟩
    · rw [h2]; exact u1
    · show nt ≤ (a.put o.dst undef).tmps.size
      rw [u2]; exact I.size
    · intro ht
      show DRel π _ (a.put o.dst undef).defers ∧ MarksOK n0 π _ w (a.put o.dst undef).defers
      rw [wOf_defers, u3]; exact I.defers ht
  | pure =>
    obtain ⟨h1, h2, h3, _⟩ := st.pure
    have hw := wanted_dWd I.tm (ops := ops) (o := o) (hwd.trans h2)
    rcases h3 with ⟨f, h3, h4⟩ | ⟨f, h3, h4⟩
    · rw [h3] at hdep hsound
      have hf : f ts = V j := by cases hdep with | mv _ hx => rw [hx _ _ hag]; exact h4.symm
      obtain ⟨a', w', π', s, i', g'⟩ := op_step (k := k) (rest := rest) (f := sMv (wOf o.dst).fn f) hC ho hw h1 hsound rfl I.in (ts' := (wOf o.dst).fn ts (V j)) (h' := (S c).h) (by rw [← hf]; rfl) hb
      exact ⟨c, a', w', π', s, I.quiet F alt ho hd ha (by rw [hk]; simp) (by rw [hk]; simp) i' g'⟩
    · rw [h3] at hdep hsound
      have hf : f ts = some (V j) := by cases hdep with | p _ hx => rw [hx _ _ hag]; exact h4
      obtain ⟨a', w', π', s, i', g'⟩ := op_step (k := k) (rest := rest) (f := sP (wOf o.dst).fn f) hC ho hw h1 hsound rfl I.in (ts' := (wOf o.dst).fn ts (V j)) (h' := (S c).h) (by unfold sP; rw [hf]) hb
      exact ⟨c, a', w', π', s, I.quiet F alt ho hd ha (by rw [hk]; simp) (by rw [hk]; simp) i' g'⟩
  | read =>
    obtain ⟨f, h1, h3, h2, h4⟩ := F.read_at (c := c) ho hk I.cle
      (fun x hx hkx hcx => by
        cases hbit : (bef j).testBit x with
        | false => rfl
        | true => have := (I.acts x hx hkx).mp (ha x hbit); omega)
      (fun p hp hkp => by
        cases hbit : (bef p).testBit j with
        | false => rfl
        | true =>
          have hcn := I.cle
          have := I.clos p ((I.acts p (by omega) hkp).mpr hp) j hbit
          rw [hd] at this; cases this)
    have hw := wanted_dWd I.tm (ops := ops) (o := o) (hwd.trans h2)
    rw [h3] at hdep hsound
    have hf : f ts (S c).h = some (V j) := by cases hdep with | r _ hx => rw [hx _ _ hag]; exact h4
    obtain ⟨a', w', π', s, i', g'⟩ := op_step (k := k) (rest := rest) (f := sR (wOf o.dst).fn f) hC ho hw h1 hsound rfl I.in (ts' := (wOf o.dst).fn ts (V j)) (h' := (S c).h) (by unfold sR; rw [hf]) hb
    exact ⟨c, a', w', π', s, I.quiet F alt ho hd ha (by rw [hk]; simp) (by rw [hk]; simp) i' g'⟩
  | alloc ob =>
    obtain ⟨f, sh, h1, h3, h2, h4, hv, _⟩ := st.alloc
    have hw := wanted_dWd I.tm (ops := ops) (o := o) (hwd.trans h2)
    rw [h3] at hdep hsound
    have hf : f ts = .ok ob sh := by cases hdep with | f _ hx => rw [hx _ _ hag]; exact h4
    cases hsound with
    | f _ hs =>
      obtain ⟨obj, v', hx, hfresh⟩ := hs π ts a.tmps ob sh I.tm hf w o rfl
      obtain ⟨inf, hr, hrel⟩ := hfresh (h0.next + j)
      have hn : π (h0.next + j) = none := I.unb j ob hj hk hd
      have hlt : h0.next + j < (S c).h.next := Nat.lt_of_lt_of_le (alt j ob hj hk) I.nx
      have hle := Pi.le_set (i := inf) hn
      obtain ⟨r1, r2⟩ := hrel (π.set (h0.next + j) inf) hle (Pi.set_same _ _ _)
      obtain ⟨gr, gt⟩ := I.good.rel.grow hn hlt hr obj
      have hsz := I.good.size
      have hst := value_step (P := P) (b := b) (k := k) (cs := cs) (rest := rest) ho hw hx (.inl rfl)
      obtain ⟨t1, t2, t3, t4⟩ := write_rel (I.tm.mono hle) I.size h1 r2
      have hne : ∀ i, i ≠ j → (π.set (h0.next + j) inf) (h0.next + i) = π (h0.next + i) := fun i hi => Pi.set_ne _ _ (by omega)
      have dcase : ∀ i, (D i || Nat.beq i j) = true → D i = true ∨ i = j := fun i hi => by
        rw [Bool.or_eq_true] at hi
        rcases hi with hi | hi
        · exact .inl hi
        · exact .inr (beq_t hi)
      have dne : ∀ i, D i = true → i ≠ j := fun i hi e => by rw [e, hd] at hi; cases hi
      have hsame : (π.set (h0.next + j) inf) (h0.next + j) = some inf := Pi.set_same _ _ _
      have hold : ∀ i x, D i = true → π (h0.next + i) = some x → x.r < w.heap.size := fun i x _ hx => (I.good.rel.fresh _ _ hx).2
      refine ⟨c, _, _, π.set (h0.next + j) inf, hst, ⟨I.cle, I.acts_next (by rw [hk]; simp), I.clos_next ha, I.dn_next ho, ?_, I.nx, ?_, ?_, ?_, ?_, ?_, ?_, ?_, ?_, I.vals_next F ho hd⟩⟩
      · refine ⟨Pi.le_trans I.good.le hle, gr, ?_, I.good.next, by simp; omega, ?_, ?_, I.good.os, I.good.output, I.good.tape⟩
        · intro x i hx
          by_cases e : x = h0.next + j
          · right
            refine ⟨?_, by omega⟩
            cases hp : π0 x with
            | none => rfl
            | some y => rw [e] at hp; rw [I.good.le _ _ hp] at hn; cases hn
          · rw [Pi.set_ne _ _ e] at hx; exact I.good.newIds x i hx
        · intro r h1 h2
          show (w.heap.push obj)[r]? = _
          rw [Array.getElem?_push, if_neg (by omega)]; exact I.good.frame r h1 h2
        · intro r ht; exact I.good.taken r (gt r ht)
      · intro i o' hi hki hcom
        rcases dcase i hi with hi | hi
        · exact (I.pend i o' hi hki hcom).grow I.good.rel hn hlt hr obj
        · rw [hi] at hki ⊢
          rw [hk] at hki; injection hki with hki; subst hki
          refine ⟨inf, obj, hsame, by rw [hr]; simp, r1, fun ht => ?_, by omega⟩
          obtain ⟨x, ox, ix, hx1, hx2, hx3⟩ := gt _ ht
          have := (I.good.rel.fresh _ _ hx2).2
          omega
      · intro i i2 o1 o2 x y hi hi2 hk1 hk2 hx hy hxy
        rcases dcase i hi with hi | hi <;> rcases dcase i2 hi2 with hi2 | hi2
        · rw [hne i (dne i hi)] at hx
          rw [hne i2 (dne i2 hi2)] at hy
          exact I.dist i i2 o1 o2 x y hi hi2 hk1 hk2 hx hy hxy
        · rw [hne i (dne i hi)] at hx
          rw [hi2, hsame] at hy; injection hy with hy
          have := hold i x hi hx
          subst hy; omega
        · rw [hne i2 (dne i2 hi2)] at hy
          rw [hi, hsame] at hx; injection hx with hx
          have := hold i2 y hi2 hy
          subst hx; omega
        · rw [hi, hi2]
      · intro i o' hi hki hD
        rw [Bool.or_eq_false_iff] at hD
        have : i ≠ j := fun e => by rw [e] at hD; simp at hD
        rw [hne i this]
        exact I.unb i o' hi hki hD.1
      · rw [hv]; exact t1
      · rw [t2]; exact I.size
      · have := I.base
        simp; omega
      · intro ht
        obtain ⟨d1, d2⟩ := I.defers ht
        rw [wOf_defers, t3]
        exact ⟨d1.mono hle, d2.grow I.good.rel hn hlt hr obj⟩
      · rw [wOf_defers]; exact I.dfs
  | act =>
    obtain ⟨f, h1, h3, h2, h4, _⟩ := st.act
    have hw := wanted_dWd I.tm (ops := ops) (o := o) (hwd.trans h2)
    rw [h3] at hdep hsound
    have hmove : ∀ i, i < ops.size → K i = .act → (D i = true ↔ i < j) := by
      intro i hi hki
      obtain ⟨oi, hoi⟩ := get_op hi
      constructor
      · intro hD
        have hne : i ≠ j := fun e => by rw [e, hd] at hD; cases hD
        by_cases hlt : i < j
        · exact hlt
        · rcases F.indep (show j < i by omega) ho hoi with h | ⟨h, _⟩
          · have := I.clos i hD j h
            rw [hd] at this; cases this
          · exact absurd ⟨hk, hki⟩ h
      · intro hlt
        rcases F.indep hlt hoi ho with h | ⟨h, _⟩
        · exact ha i h
        · exact absurd ⟨hki, hk⟩ h
    obtain ⟨hS, hCom⟩ := I.move F (c' := j) (by omega) hmove
    rw [commit_eq] at h4
    simp only at h4
    have hgood := I.good
    rw [← hS] at hgood
    have hl : ∀ e ∈ (S j).pend.filter (fun e => (bef j).testBit e.1), Waits P π (S j).h w w0.heap.size e.2.1 e.2.2 ∧ D e.1 = true ∧ K e.1 = .alloc e.2.2 ∧ e.2.1 = h0.next + e.1 := by
      intro e he
      obtain ⟨e1, e2⟩ := List.mem_filter.mp he
      obtain ⟨q1, q2, q3, q4⟩ := (F.pend_mem (c := j) (by omega) e).mp e1
      have hD := ha e.1 e2
      refine ⟨?_, hD, q3, q1⟩
      rw [q1, hS]
      exact I.pend e.1 e.2.2 hD q3 (fun h => q4 ((hCom e.1).mpr h))
    have hdis : ((S j).pend.filter (fun e => (bef j).testBit e.1)).Pairwise (fun x y => ∀ i j, π x.2.1 = some i → π y.2.1 = some j → i.r ≠ j.r) := by
      refine List.Pairwise.imp_of_mem ?_ (List.Pairwise.filter _ (F.pend_sorted (c := j) (by omega)))
      intro x y hx hy hxy i' j' h1 h2 he
      obtain ⟨_, x1, x2, x3⟩ := hl x hx
      obtain ⟨_, y1, y2, y3⟩ := hl y hy
      rw [x3] at h1; rw [y3] at h2
      have := I.dist x.1 y.1 _ _ i' j' x1 y1 x2 y2 h1 h2 he
      omega
    have hX := hgood.putAll (fun e he => (hl e he).1) hdis
    have hin : In P top nt n0 π { t := commitAll ((S j).pend.filter (fun e => (bef j).testBit e.1)) (S j).h.t, next := (S j).h.next } w ts a := ⟨hX.rel, I.tm, I.size, I.base, fun ht => by
      obtain ⟨d1, d2⟩ := I.defers ht
      rw [← hS] at d2
      exact ⟨d1, d2.putAll hgood.rel (fun e he => (hl e he).1) hdis⟩⟩
    have hf : f callF ts { t := commitAll ((S j).pend.filter (fun e => (bef j).testBit e.1)) (S j).h.t, next := (S j).h.next } = .ok (V j) (S (j + 1)).h := by
      cases hdep with | m _ hx => rw [hx callF _ _ hag]; exact h4
    obtain ⟨a', w', π', s, i', g'⟩ := op_step (k := k) (rest := rest) (f := sM (wOf o.dst).fn f) hC ho hw h1 hsound rfl hin (ts' := (wOf o.dst).fn ts (V j)) (h' := (S (j + 1)).h) (by unfold sM; rw [hf]) hb
    refine ⟨j + 1, a', w', π', s, I.next F alt ho hd ha (by omega) ?_ (by rw [hk]; simp) hX ?_ ?_ i' g' rfl⟩
    · intro i hi hki
      have := hmove i hi hki
      rw [Bool.or_eq_true]
      constructor
      · rintro (h | h)
        · have := this.mp h; omega
        · have := beq_t h; omega
      · intro h
        by_cases e : i = j
        · right; rw [e]; exact Nat.beq_refl j
        · left; exact this.mpr (by omega)
    · show (S 0).h.next ≤ (S j).h.next
      rw [hS]; exact I.nx
    · intro i ob hD hki hcom
      rw [Facts.com_act hk] at hcom
      obtain ⟨inf, obj, q1, q2, q3, q4, q5⟩ := I.pend i ob hD hki (fun h => hcom (.inl ((hCom i).mpr h)))
      refine ⟨inf, obj, q1, q2, q3, fun ht => ?_, q5⟩
      rcases (Rel.putAll hgood.rel (fun e he => (hl e he).1) hdis).2 _ ht with ht | ⟨e, he, i', e1, e2⟩
      · rw [hS] at ht; exact q4 ht
      · obtain ⟨_, y1, y2, y3⟩ := hl e he
        rw [y3] at e1
        have := I.dist i e.1 _ _ inf i' hD y1 hki y2 q1 e1 e2
        exact hcom (.inr (by rw [this]; exact (List.mem_filter.mp he).2))

theorem draw_steps (hC : CallOK P callF) (F : Facts P callF ops nt h0.next S V K bef) (alt : ∀ i o, i < ops.size → K i = .alloc o → h0.next + i < (S 0).h.next) {k : List Item} {b : Frame} {cs : List Frame} (hb : FrameOK top b cs) {l : List Nat} (hv : Valid ops D l) :
    ∀ {c : Nat} {π : Pi} {w : World} {ts : Env} {a : Act}, DI P top nt n0 π0 h0 w0 ops S V K bef D c π w ts a →
    ∃ D' c' a' w' π' ts', (∀ i, i < ops.size → D' i = true) ∧ Steps P (lone (b.atR a (.inRegion ops l :: k)) cs w) (lone (b.atR a' (.inRegion ops [] :: k)) cs w') ∧
      DI P top nt n0 π0 h0 w0 ops S V K bef D' c' π' w' ts' a' := by
  induction hv with
  | nil h => intro c π w ts a I; exact ⟨_, c, a, w, π, ts, h, .refl _ _, I⟩
  | @cons D i o l ho hd he hv ih =>
    intro c π w ts a I
    obtain ⟨c1, a1, w1, π1, s1, I1⟩ := draw_step (k := k) (rest := l) hC F alt I ho hd he hb
    obtain ⟨D2, c2, a2, w2, π2, ts2, h2, s2, I2⟩ := ih I1
    exact ⟨D2, c2, a2, w2, π2, ts2, h2, s1.trans s2, I2⟩

theorem Facts.defers (F : Facts P callF ops nt h0.next S V K bef) : ∀ {i : Nat}, i ≤ ops.size → defersOf (S i).ts = defersOf (S 0).ts
  | 0, _ => rfl
  | i + 1, hi => by
    obtain ⟨o, ho⟩ := get_op (ops := ops) (i := i) (by omega)
    rw [(F.step i o ho).ts_eq, wOf_defers, Facts.defers F (by omega)]

/-- What all of them come to. -/
theorem DI.done (F : Facts P callF ops nt h0.next S V K bef) (I : DI P top nt n0 π0 h0 w0 ops S V K bef D c π w ts a) (hD : ∀ i, i < ops.size → D i = true) :
    In P top nt n0 π { t := commitAll (S ops.size).pend (S ops.size).h.t, next := (S ops.size).h.next } w (S ops.size).ts a ∧ Good P π0 h0 w0 π { t := commitAll (S ops.size).pend (S ops.size).h.t, next := (S ops.size).h.next } w := by
  obtain ⟨hS, hCom⟩ := I.move F (c' := ops.size) (Nat.le_refl _) fun i hi _ => ⟨fun _ => hi, fun _ => hD i hi⟩
  have hgood := I.good
  rw [← hS] at hgood
  have hl : ∀ e ∈ (S ops.size).pend, Waits P π (S ops.size).h w w0.heap.size e.2.1 e.2.2 ∧ D e.1 = true ∧ K e.1 = .alloc e.2.2 ∧ e.2.1 = h0.next + e.1 := by
    intro e he
    obtain ⟨q1, q2, q3, q4⟩ := (F.pend_mem (c := ops.size) (Nat.le_refl _) e).mp he
    have hDe := hD e.1 q2
    refine ⟨?_, hDe, q3, q1⟩
    rw [q1, hS]
    exact I.pend e.1 e.2.2 hDe q3 (fun h => q4 ((hCom e.1).mpr h))
  have hdis : (S ops.size).pend.Pairwise (fun x y => ∀ i j, π x.2.1 = some i → π y.2.1 = some j → i.r ≠ j.r) := by
    refine List.Pairwise.imp_of_mem ?_ (F.pend_sorted (c := ops.size) (Nat.le_refl _))
    intro x y hx hy hxy i' j' h1 h2 he
    obtain ⟨_, x1, x2, x3⟩ := hl x hx
    obtain ⟨_, y1, y2, y3⟩ := hl y hy
    rw [x3] at h1; rw [y3] at h2
    have := I.dist x.1 y.1 _ _ i' j' x1 y1 x2 y2 h1 h2 he
    omega
  have hX := hgood.putAll (fun e he => (hl e he).1) hdis
  refine ⟨⟨hX.rel, ?_, I.size, I.base, fun ht => ?_⟩, hX⟩
  · intro t ht
    have h1 := I.tm t ht
    rw [I.vals t ht, valAt_congr (D' := fun _ => true) (fun i hi _ => hD i hi), ← F.vals ht (Nat.le_refl _)] at h1
    exact h1
  · obtain ⟨d1, d2⟩ := I.defers ht
    rw [← hS] at d2
    rw [F.defers (Nat.le_refl _), ← I.dfs]
    exact ⟨d1, d2.putAll hgood.rel (fun e he => (hl e he).1) hdis⟩
end

theorem anyF_mem : ∀ {l : List DItem} {x : DItem}, x ∈ l → isF (opOf x) = true → anyF l = true
  | y :: l, x, h, hf => by
    simp only [anyF, Bool.or_eq_true]
    rcases List.mem_cons.mp h with rfl | h
    · exact .inl hf
    · exact .inr (anyF_mem h hf)

/-- A region that draws its order. -/
theorem draw_ok {callF : CallF} (hC : CallOK P callF) {fn : FuncId} {top : Bool} {nt n0 : Nat} (id : Nat) (ops : Array Oper) : CodeOK P callF fn top nt n0 (.region id ops true) := by
  intro π h w ts a hin b k cs hb hfn
  rw [compileC]
  show Post P top nt n0 π h w b k cs _ (codeA callF fn (cond (P.follows .mixedOrders && pairsOk (dstOf ops) 0 ops.toList (compileD P nt (dstOf ops) 0 [] ops.toList))
    (.draw (cond (anyF (compileD P nt (dstOf ops) 0 [] ops.toList)) (compileD P nt (dstOf ops) 0 [] ops.toList).length 0) (compileD P nt (dstOf ops) 0 [] ops.toList)) .bad) ts h)
  cases hc : P.follows .mixedOrders && pairsOk (dstOf ops) 0 ops.toList (compileD P nt (dstOf ops) 0 [] ops.toList) with
  | false => trivial
  | true =>
    rw [cond_true]
    rw [Bool.and_eq_true] at hc
    obtain ⟨hmix, hpairs⟩ := hc
    generalize hitems : compileD P nt (dstOf ops) 0 [] ops.toList = items at *
    generalize hn : cond (anyF items) items.length 0 = n
    have hlen : items.length = ops.size := by rw [← hitems, compileD_length]; simp
    show Post P top nt n0 π h w b k cs _ (okC (drawEnd (drawI callF h.next items (.mk ts { t := h.t, next := Nat.add h.next n } [] [] []))))
    by_cases hno : drawI callF h.next items (.mk ts { t := h.t, next := Nat.add h.next n } [] [] []) = .no
    · rw [hno]; trivial
    · obtain ⟨S, V, K, hS0, hSn, hstep⟩ := drawI_trace hno (l := items) (s := ⟨ts, { t := h.t, next := Nat.add h.next n }, [], [], []⟩) rfl
      rw [← hSn]
      rw [hlen] at hSn ⊢
      show Post P top nt n0 π h w b k cs _ (okC (cond (readsOk (S ops.size).hist (S ops.size).h (S ops.size).reads) (.ok (S ops.size).ts { t := commitAll (S ops.size).pend (S ops.size).h.t, next := (S ops.size).h.next }) .no))
      cases hfin : readsOk (S ops.size).hist (S ops.size).h (S ops.size).reads with
      | false => trivial
      | true =>
        rw [cond_true]
        have hget : ∀ i o, ops[i]? = some o → items[i]? = some (cItem P nt (dstOf ops) i (orBefore ((items.take i).map befOf) o.after.toList) o) := fun i o ho => by
          have := compileD_get (P := P) (nt := nt) (dst := dstOf ops) (i := 0) (acc := []) (l := ops.toList) (k := i) (o := o) (by simpa using ho)
          rw [hitems] at this
          simpa using this
        let bef : Nat → Nat := fun i => (items[i]?.map befOf).getD 0
        have hbef : ∀ i o, ops[i]? = some o → bef i = orBefore ((items.take i).map befOf) o.after.toList := fun i o ho => by
          show (items[i]?.map befOf).getD 0 = _
          rw [hget i o ho]; rfl
        have hget2 : ∀ i o, ops[i]? = some o → items[i]? = some (cItem P nt (dstOf ops) i (bef i) o) := fun i o ho => by
          rw [hbef i o ho]; exact hget i o ho
        have hedges : ∀ i o, ops[i]? = some o → ∀ e ∈ o.after, Region.binds .any e = true → e.on < i := fun i o ho e he hbd => by
          have := edgesOk_get hpairs (k := i) (a := o) (by simpa using ho) e he hbd
          omega
        have F : Facts P callF ops nt h.next S V K bef := {
          step := fun i o ho => hstep i _ (hget2 i o ho)
          pair := fun i j x y hij hx hy => by
            have := pairsOk_get ops.toList items 0 hpairs i j x y _ _ (by simpa using hx) (hget2 i x hx) hij (by simpa using hy) (hget2 j y hy)
            simpa using this
          edges := hedges
          befs := fun j o ho k' hk' => by
            rw [hbef j o ho] at hk'
            obtain ⟨e, h1, h2, h3⟩ := orBefore_bit hk'
            have h1' : e ∈ o.after := by simpa using h1
            refine ⟨e, h1', h2, ?_⟩
            rcases h3 with h3 | h3
            · exact .inl h3
            · right
              have hlt := hedges j o ho e h1' h2
              have : ((items.take j).map befOf).getD e.on 0 = bef e.on := by
                show _ = (items[e.on]?.map befOf).getD 0
                rw [List.getD_eq_getElem?_getD, List.getElem?_map, List.getElem?_take, if_pos hlt]
              rw [this] at h3
              exact h3
          p0 := by rw [hS0]
          r0 := by rw [hS0]
          t0 := by rw [hS0]
          fin := hfin }
        have alt : ∀ i ob, i < ops.size → K i = .alloc ob → h.next + i < (S 0).h.next := fun i ob hi hk => by
          obtain ⟨o, ho⟩ := get_op hi
          have st := F.step i o ho
          rw [hk] at st
          obtain ⟨f, sh, h1, h2, _⟩ := st.alloc
          have hany : anyF items = true := anyF_mem (List.mem_of_getElem? (hget2 i o ho)) (by
            show isF (cond (dstOk nt o.dst) (compileOp P o.op) .bad) = true
            rw [h1, cond_true, h2]; rfl)
          rw [hany, cond_true, hlen] at hn
          rw [hS0]
          show h.next + i < Nat.add h.next n
          have : Nat.add h.next n = h.next + n := rfl
          omega
        have hnx : (S 0).h.next = h.next + n := by rw [hS0]; rfl
        have hht : (S 0).h.t = h.t := by rw [hS0]
        have hrel0 := hin.rel.drew (w.drawn + 1)
        have hTaken : ∀ r, Taken π (S 0).h r → Taken π h r := by
          rintro r ⟨x, o, i, h1, h2⟩
          rw [hht] at h1
          exact ⟨x, o, i, h1, h2⟩
        have hgood : Good P π h w π (S 0).h { w with drawn := w.drawn + 1 } := by
          refine ⟨Pi.le_refl _, ⟨?_, ?_, ?_⟩, fun _ _ e => .inl e, by rw [hnx]; omega, Nat.le_refl _, fun _ _ _ => rfl, fun r hr => .inl (hTaken r hr), rfl, rfl, rfl⟩
          · intro x o hx; rw [hht] at hx; exact hrel0.live x o hx
          · intro x y o o' i i' h1 h2; rw [hht] at h1 h2; exact hrel0.inj x y o o' i i' h1 h2
          · intro x i hx
            have := hrel0.fresh x i hx
            exact ⟨by rw [hnx]; omega, this.2⟩
        have I : DI P top nt n0 π h w ops S V K bef (fun _ => false) 0 π { w with drawn := w.drawn + 1 } ts a := {
          cle := Nat.zero_le _
          acts := fun i _ _ => ⟨fun h => absurd h (by simp), fun h => absurd h (by omega)⟩
          clos := fun i hi => by cases hi
          dn := fun i hi => by cases hi
          good := hgood
          nx := Nat.le_refl _
          pend := fun i o hi => by cases hi
          dist := fun i j o o' x y hi => by cases hi
          unb := fun i o _ _ _ => hin.rel.next_none (Nat.le_add_right _ _)
          tm := hin.tm
          size := hin.size
          base := hin.base
          defers := fun ht => by
            obtain ⟨d1, d2⟩ := hin.defers ht
            refine ⟨d1, d2.nodup, fun r hr => ?_⟩
            obtain ⟨q1, q2, q3, q4⟩ := d2.each r hr
            exact ⟨q1, q2, fun h => q3 (hTaken r h), q4⟩
          dfs := by rw [hS0]
          vals := fun t ht => by
            rw [valAt_tail (k := 0) (Nat.zero_le _) (fun i _ _ _ => rfl), hS0]
            rfl }
        have hstart := stepR_region_draw (P := P) (b := b) (a := a) (k := k) (cs := cs) (w := w) (ops := ops) (id := id)
        rw [hmix] at hstart
        obtain ⟨D', c', a', w', π', ts', hD', hs, I'⟩ := draw_steps (k := k) (b := b) (cs := cs) hC F alt hb (schedule_valid hedges (w.tape w.drawn (.order b.fn id))) I
        obtain ⟨i', g'⟩ := I'.done F hD'
        exact ⟨a', w', π', .head hstart (hs.trans (.one stepR_region_end)), i', g'⟩

end
end Go.Eng
