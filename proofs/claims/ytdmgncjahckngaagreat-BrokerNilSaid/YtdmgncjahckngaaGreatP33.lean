import Derived.Test.YtdmgncjahckngaaGreatP32
/-! Soundness, 33: the canonical run of a region that draws its order, piece by piece. -/
namespace Go.Eng
set_option linter.all false

structure St where
  ts : Env
  h : Heap
  pend : List (Nat × Nat × AObj)
  reads : List Read
  hist : List (Nat × Nat × Heap)
def St.ds (s : St) : DS := .mk s.ts s.h s.pend s.reads s.hist

inductive Kd where
  | skip
  | pure
  | read
  | alloc (o : AObj)
  | act

noncomputable def dWd (g : Option (Option (Env → AV) × Bool)) (ts : Env) : Option Bool := match g with
  | none => some true
  | some (none, _) => some false
  | some (some r, want) => onGuard none (some true) (some false) want (r ts)

theorem onGuard_map {α β : Type} (f : α → β) (no yes skip : α) (want : Bool) (x : AV) : onGuard (f no) (f yes) (f skip) want x = f (onGuard no yes skip want x) := by
  cases x with
  | bool b => cases b <;> cases want <;> rfl
  | _ => rfl

theorem dWanted_eq (no yes skip : DS) (ts : Env) (g : Option (Option (Env → AV) × Bool)) : dWanted no yes skip ts g = (match dWd g ts with
    | some true => yes
    | some false => skip
    | none => no) := by
  cases g with
  | none => rfl
  | some g =>
    obtain ⟨r, want⟩ := g
    cases r with
    | none => rfl
    | some r => exact onGuard_map (fun o : Option Bool => match o with
        | some true => yes
        | some false => skip
        | none => no) none (some true) (some false) want (r ts)

/-- A step of the canonical run. -/
inductive DStep (callF : CallF) (base : Nat) : DItem → St → St → AV → Kd → Prop
  | skip {i bef : Nat} {w : Env → AV → Env} {g : Option (Option (Env → AV) × Bool)} {op : COp} {s : St} : dWd g s.ts = some false → DStep callF base (.mk i w g op bef) s { s with ts := w s.ts .undef } .undef .skip
  | mv {i bef : Nat} {w : Env → AV → Env} {g : Option (Option (Env → AV) × Bool)} {f : Env → AV} {s : St} : dWd g s.ts = some true → DStep callF base (.mk i w g (.mv f) bef) s { s with ts := w s.ts (f s.ts) } (f s.ts) .pure
  | p {i bef : Nat} {w : Env → AV → Env} {g : Option (Option (Env → AV) × Bool)} {f : Env → Option AV} {v : AV} {s : St} : dWd g s.ts = some true → f s.ts = some v → DStep callF base (.mk i w g (.p f) bef) s { s with ts := w s.ts v } v .pure
  | r {i bef : Nat} {w : Env → AV → Env} {g : Option (Option (Env → AV) × Bool)} {f : Env → Heap → Option AV} {v : AV} {s : St} : dWd g s.ts = some true → f s.ts s.h = some v → DStep callF base (.mk i w g (.r f) bef) s { s with ts := w s.ts v, reads := ⟨i, bef, f, s.ts, v⟩ :: s.reads } v .read
  | f {i bef : Nat} {w : Env → AV → Env} {g : Option (Option (Env → AV) × Bool)} {f : Env → FR} {o : AObj} {sh : Shp} {s : St} : dWd g s.ts = some true → f s.ts = .ok o sh → DStep callF base (.mk i w g (.f f) bef) s { s with ts := w s.ts (sh.valF (base + i)), pend := s.pend ++ [(i, base + i, o)] } (sh.valF (base + i)) (.alloc o)
  | m {i bef : Nat} {w : Env → AV → Env} {g : Option (Option (Env → AV) × Bool)} {f : CallF → Env → Heap → Res} {v : AV} {h' : Heap} {s : St} : dWd g s.ts = some true → f callF s.ts { t := (commit bef s.pend s.h.t).1, next := s.h.next } = .ok v h' →
      DStep callF base (.mk i w g (.m f) bef) s { ts := w s.ts v, h := h', pend := (commit bef s.pend s.h.t).2, reads := s.reads, hist := (i, bef, s.h) :: s.hist } v .act

section
variable {callF : CallF} {base : Nat}

theorem drawI_no : ∀ l : List DItem, drawI callF base l .no = .no
  | [] => rfl
  | _ :: _ => rfl

theorem drawI_step {it : DItem} {l : List DItem} {s : St} {x : DS} (hx : x ≠ .no) (h : drawI callF base (it :: l) s.ds = x) : ∃ s' v k, DStep callF base it s s' v k ∧ drawI callF base l s'.ds = x := by
  obtain ⟨i, w, g, op, bef⟩ := it
  have h : dWanted .no (drawI callF base l (dOp callF base i w bef op s.ts s.h s.pend s.reads s.hist)) (drawI callF base l (.mk (w s.ts .undef) s.h s.pend s.reads s.hist)) s.ts g = x := h
  rw [dWanted_eq] at h
  cases hw : dWd g s.ts with
  | none => rw [hw] at h; exact absurd h.symm hx
  | some b =>
    rw [hw] at h
    cases b with
    | false => exact ⟨_, _, _, .skip hw, h⟩
    | true =>
      have h : drawI callF base l (dOp callF base i w bef op s.ts s.h s.pend s.reads s.hist) = x := h
      have bad : dOp callF base i w bef op s.ts s.h s.pend s.reads s.hist = .no → False := fun e => by
        rw [e, drawI_no] at h; exact hx h.symm
      cases op with
      | mv f => exact ⟨_, _, _, .mv hw, h⟩
      | p f =>
        cases hf : f s.ts with
        | none => exact (bad (by show onSome DS.no _ (f s.ts) = _; rw [hf]; rfl)).elim
        | some v => exact ⟨_, _, _, .p hw hf, by rw [← h]; show drawI callF base l _ = drawI callF base l (onSome DS.no _ (f s.ts)); rw [hf]; rfl⟩
      | r f =>
        cases hf : f s.ts s.h with
        | none => exact (bad (by show onSome DS.no _ (f s.ts s.h) = _; rw [hf]; rfl)).elim
        | some v => exact ⟨_, _, _, .r hw hf, by rw [← h]; show drawI callF base l _ = drawI callF base l (onSome DS.no _ (f s.ts s.h)); rw [hf]; rfl⟩
      | f f =>
        cases hf : f s.ts with
        | no => exact (bad (by show dPut base i w s.ts s.h s.pend s.reads s.hist (f s.ts) = _; rw [hf]; rfl)).elim
        | ok o sh => exact ⟨_, _, _, .f hw hf, by rw [← h]; show drawI callF base l _ = drawI callF base l (dPut base i w s.ts s.h s.pend s.reads s.hist (f s.ts)); rw [hf]; rfl⟩
      | m f =>
        have e : dOp callF base i w bef (.m f) s.ts s.h s.pend s.reads s.hist = (Res.rec (motive := fun _ => DS) (fun v h' => .mk (w s.ts v) h' (commit bef s.pend s.h.t).2 s.reads ((i, bef, s.h) :: s.hist)) .no
            (f callF s.ts { t := (commit bef s.pend s.h.t).1, next := s.h.next }) : DS) := rfl
        cases hf : f callF s.ts { t := (commit bef s.pend s.h.t).1, next := s.h.next } with
        | no => exact (bad (by rw [e, hf])).elim
        | ok v h' => exact ⟨_, _, _, .m hw hf, by rw [← h, e, hf]; rfl⟩
      | defer f => exact (bad rfl).elim
      | recover => exact (bad rfl).elim
      | bad => exact (bad rfl).elim

theorem drawI_trace {x : DS} (hx : x ≠ .no) : ∀ {l : List DItem} {s : St}, drawI callF base l s.ds = x →
    ∃ (S : Nat → St) (V : Nat → AV) (K : Nat → Kd), S 0 = s ∧ (S l.length).ds = x ∧ ∀ i it, l[i]? = some it → DStep callF base it (S i) (S (i + 1)) (V i) (K i)
  | [], s, h => ⟨fun _ => s, fun _ => .undef, fun _ => .skip, rfl, h, fun i it hi => by cases hi⟩
  | it :: l, s, h => by
    obtain ⟨s', v, k, h1, h2⟩ := drawI_step hx h
    obtain ⟨S, V, K, a, b, c⟩ := drawI_trace hx h2
    refine ⟨fun i => match i with
      | 0 => s
      | i + 1 => S i, fun i => match i with
      | 0 => v
      | i + 1 => V i, fun i => match i with
      | 0 => k
      | i + 1 => K i, rfl, b, ?_⟩
    intro i it' hi
    cases i with
    | zero =>
      injection hi with hi; subst hi
      show DStep callF base it s (S 0) v k
      rw [a]; exact h1
    | succ i => exact c i it' hi

/-! ### The compiled list -/
noncomputable def dGd (dst : Nat → Option Tmp) (g : Option (Nat × Bool)) : Option (Option (Env → AV) × Bool) := match g with
  | none => none
  | some (j, want) => match dst j with
    | some t => some (some (gOf (.tmp t)).fn, want)
    | none => some (none, want)
theorem dGuard_eq {β : Type} (dst : Nat → Option Tmp) (g : Option (Nat × Bool)) (k : Option (Option (Env → AV) × Bool) → β) : dGuard dst g k = k (dGd dst g) := by
  unfold dGuard dGd
  split
  · rfl
  · split <;> simp_all [opd_eq]

noncomputable def cItem (P : Program) (nt : Nat) (dst : Nat → Option Tmp) (i bef : Nat) (o : Oper) : DItem := .mk i (wOf o.dst).fn (dGd dst o.guard) (cond (dstOk nt o.dst) (compileOp P o.op) .bad) bef
theorem dItem_eq (P : Program) (nt : Nat) (dst : Nat → Option Tmp) (i bef : Nat) (o : Oper) : dItem P nt dst i bef o = cItem P nt dst i bef o := by
  unfold dItem cItem
  rw [wr_eq, dGuard_eq]

theorem compileD_get {P : Program} {nt : Nat} {dst : Nat → Option Tmp} : ∀ {l : List Oper} {i : Nat} {acc : List Nat} {k : Nat} {o : Oper}, l[k]? = some o →
    (compileD P nt dst i acc l)[k]? = some (cItem P nt dst (i + k) (orBefore (acc ++ ((compileD P nt dst i acc l).take k).map befOf) o.after.toList) o)
  | [], i, acc, k, o, h => by cases h
  | x :: l, i, acc, 0, o, h => by
    injection h with h; subst h
    simp [compileD, dItem_eq]
  | x :: l, i, acc, k + 1, o, h => by
    have h : l[k]? = some o := h
    have ih := compileD_get (P := P) (nt := nt) (dst := dst) (i := i + 1) (acc := acc ++ [orBefore acc x.after.toList]) h
    have e : befOf (dItem P nt dst i (orBefore acc x.after.toList) x) = orBefore acc x.after.toList := by rw [dItem_eq]; rfl
    rw [compileD, List.getElem?_cons_succ, ih, List.take_succ_cons, List.map_cons, e]
    rw [show i + 1 + k = i + (k + 1) by omega, List.append_assoc, List.singleton_append]
theorem compileD_length {P : Program} {nt : Nat} {dst : Nat → Option Tmp} : ∀ {l : List Oper} {i : Nat} {acc : List Nat}, (compileD P nt dst i acc l).length = l.length
  | [], _, _ => rfl
  | x :: l, i, acc => by rw [compileD, List.length_cons, List.length_cons, compileD_length]

theorem orBefore_bit {acc : List Nat} : ∀ {es : List Edge} {k : Nat}, (orBefore acc es).testBit k = true → ∃ e ∈ es, Region.binds .any e = true ∧ (k = e.on ∨ (acc.getD e.on 0).testBit k = true)
  | [], k, h => by simp [orBefore] at h
  | e :: es, k, h => by
    unfold orBefore at h
    split at h
    · rename_i hb
      have h : (((1 <<< e.on) ||| acc.getD e.on 0) ||| orBefore acc es).testBit k = true := h
      rw [Nat.testBit_or, Nat.testBit_or, Nat.one_shiftLeft, Nat.testBit_two_pow] at h
      simp only [Bool.or_eq_true, decide_eq_true_eq] at h
      rcases h with (h | h) | h
      · exact ⟨e, List.mem_cons_self, hb, .inl h.symm⟩
      · exact ⟨e, List.mem_cons_self, hb, .inr h⟩
      · obtain ⟨e', h1, h2⟩ := orBefore_bit h
        exact ⟨e', List.mem_cons_of_mem _ h1, h2⟩
    · obtain ⟨e', h1, h2⟩ := orBefore_bit h
      exact ⟨e', List.mem_cons_of_mem _ h1, h2⟩

/-! ### What was looked at -/
theorem allPairs_get {dst : Nat → Option Tmp} {i : Nat} {a : Oper} {ai : DItem} : ∀ {l : List Oper} {li : List DItem}, pairsOk.allPairs dst i a ai l li = true → ∀ {k : Nat} {b : Oper} {bi : DItem}, l[k]? = some b → li[k]? = some bi → pairOk dst i a ai b bi = true
  | [], _, _, k, b, bi, h, _ => by cases h
  | _ :: _, [], h, _, _, _, _, h2 => by cases h2
  | x :: l, y :: li, h, 0, b, bi, h1, h2 => by
    injection h1 with h1; injection h2 with h2
    subst h1; subst h2
    simp only [pairsOk.allPairs, Bool.and_eq_true] at h
    exact h.1
  | x :: l, y :: li, h, k + 1, b, bi, h1, h2 => by
    simp only [pairsOk.allPairs, Bool.and_eq_true] at h
    exact allPairs_get h.2 (k := k) h1 h2

theorem pairsOk_get {dst : Nat → Option Tmp} (l : List Oper) : ∀ (li : List DItem) (i0 : Nat), pairsOk dst i0 l li = true → ∀ (k m : Nat) (a b : Oper) (ai bi : DItem), l[k]? = some a → li[k]? = some ai → k < m → l[m]? = some b → li[m]? = some bi → pairOk dst (i0 + k) a ai b bi = true := by
  induction l with
  | nil => intro li i0 h k m a b ai bi h1; simp at h1
  | cons x l ih =>
    intro li i0 h k m a b ai bi h1 h2 hk h3 h4
    cases li with
    | nil => simp at h2
    | cons y li =>
      simp only [pairsOk, Bool.and_eq_true] at h
      cases m with
      | zero => omega
      | succ m =>
        rw [List.getElem?_cons_succ] at h3 h4
        cases k with
        | zero =>
          rw [List.getElem?_cons_zero] at h1 h2
          injection h1 with h1; injection h2 with h2
          subst h1; subst h2
          exact allPairs_get h.1.1 (k := m) h3 h4
        | succ k =>
          rw [List.getElem?_cons_succ] at h1 h2
          have := ih li (i0 + 1) h.2 k m a b ai bi h1 h2 (by omega) h3 h4
          rw [show i0 + 1 + k = i0 + (k + 1) by omega] at this
          exact this
theorem edgesOk_get {dst : Nat → Option Tmp} : ∀ {l : List Oper} {li : List DItem} {i0 : Nat}, pairsOk dst i0 l li = true → ∀ {k : Nat} {a : Oper}, l[k]? = some a → ∀ e ∈ a.after, Region.binds .any e = true → e.on < i0 + k
  | [], _, _, _, k, _, h => by cases h
  | _ :: _, [], _, h, _, _, _ => by simp [pairsOk] at h
  | x :: l, y :: li, i0, h, 0, a, h1 => by
    injection h1 with h1; subst h1
    simp only [pairsOk, Bool.and_eq_true] at h
    intro e he hb
    have := List.all_eq_true.mp h.1.2 e (by simpa using he)
    simp only [hb, Bool.not_true, Bool.false_or, decide_eq_true_eq] at this
    simpa using this
  | x :: l, y :: li, i0, h, k + 1, a, h1 => by
    simp only [pairsOk, Bool.and_eq_true] at h
    intro e he hb
    have := edgesOk_get h.2 (k := k) h1 e he hb
    omega

/-! ### Blocks that wait -/
theorem commit_eq (bef : Nat) : ∀ (l : List (Nat × Nat × AObj)) (t : HT), commit bef l t = (commitAll (l.filter fun e => bef.testBit e.1) t, l.filter fun e => !bef.testBit e.1)
  | [], t => rfl
  | e :: l, t => by
    show cond (bef.testBit e.1) (commit bef l (HT.put t e.2.1 (some e.2.2))) ((commit bef l t).1, e :: (commit bef l t).2) = _
    cases hb : bef.testBit e.1 with
    | true =>
      rw [cond_true, commit_eq bef l]
      rw [List.filter_cons_of_pos (by simpa using hb), List.filter_cons_of_neg (by simp [hb])]
      rfl
    | false =>
      rw [cond_false, commit_eq bef l]
      rw [List.filter_cons_of_neg (by simp [hb]), List.filter_cons_of_pos (by simp [hb])]

end
end Go.Eng
