import Derived.Test.YtdmgncjahckngaaGreatP23
/-! Soundness, 24: regions in order; code. -/
namespace Go.Eng
set_option linter.all false

section
variable {P : Program}

theorem skip_step {top : Bool} {nt n0 : Nat} {ops : Array Oper} {i : Nat} {rest : List Nat} {k : List Item} {o : Oper} {b : Frame} {a : Act} {cs : List Frame} {w : World} {π : Pi} {h : Heap} {ts : Env}
    (ho : ops[i]? = some o) (hw : Region.wanted o (yielded ops a.tmps) = false) (hd : dstOk nt o.dst = true) (hin : In P top nt n0 π h w ts a) :
    ∃ a' w' π', Steps P (lone (b.atR a (.inRegion ops (i :: rest) :: k)) cs w) (lone (b.atR a' (.inRegion ops rest :: k)) cs w') ∧ In P top nt n0 π' h w' ((wOf o.dst).fn ts .undef) a' ∧ Good P π h w π' h w' := by
  have hs := stepR_op_skip (P := P) (b := b) (a := a) (k := k) (cs := cs) (w := w) (ops := ops) (i := i) (rest := rest) (by simp [ho, hw])
  rw [ho] at hs
  exact ⟨_, w, π, .one hs, hin.value (.refl hin.rel) hd (.undef π), .refl hin.rel⟩

theorem oper_step {callF : CallF} (hC : CallOK P callF) {top : Bool} {nt n0 : Nat} {ops : Array Oper} {i : Nat} {rest : List Nat} {k : List Item} {o : Oper} {b : Frame} {a : Act} {cs : List Frame} {w : World}
    (ho : ops[i]? = some o) {f : SFun} (hf : sOper P top nt (dstOf ops) o = .mk f)
    {π : Pi} {h h' : Heap} {ts ts' : Env} (hin : In P top nt n0 π h w ts a) (hrun : f callF ts h = .ok ts' h') (hb : FrameOK top b cs) :
    ∃ a' w' π', Steps P (lone (b.atR a (.inRegion ops (i :: rest) :: k)) cs w) (lone (b.atR a' (.inRegion ops rest :: k)) cs w') ∧ In P top nt n0 π' h' w' ts' a' ∧ Good P π h w π' h' w' := by
  unfold sOper at hf
  cases hd : dstOk nt o.dst with
  | false =>
    rw [hd] at hf
    injection hf with hf; subst hf; cases hrun
  | true =>
    rw [hd, cond_true, wr_eq] at hf
    unfold sGuard at hf
    split at hf
    · rename_i hg
      exact op_step hC ho (wanted_none hg _) hd (compileOp_sound o.op) hf hin hrun hb
    · rename_i j want hg
      split at hf
      · rename_i t ht
        rw [opd_eq] at hf
        cases hs : sOp top o.dst.isNone (wOf o.dst).fn (compileOp P o.op) with
        | mk f0 =>
          rw [hs] at hf
          injection hf with hf; subst hf
          unfold sG at hrun
          rcases wanted_rel hin.tm hg ht hrun (by simp) with ⟨h1, h2⟩ | ⟨h1, h2⟩
          · exact op_step hC ho h1 hd (compileOp_sound o.op) hs hin h2 hb
          · injection h2 with q1 q2
            subst q1; subst q2
            exact skip_step ho h1 hd hin
      · rename_i hn
        injection hf with hf; subst hf
        injection hrun with q1 q2
        subst q1; subst q2
        exact skip_step ho (unwanted_none hg hn) hd hin

theorem seq_steps {callF : CallF} (hC : CallOK P callF) {top : Bool} {nt n0 : Nat} {ops : Array Oper} {k : List Item} {b : Frame} {cs : List Frame} (hb : FrameOK top b cs) {ts' : Env} {h' : Heap} :
    ∀ (l : List Oper) (i : Nat), (∀ j, ops[i + j]? = l[j]?) → ∀ (π : Pi) (h : Heap) (w : World) (ts : Env) (a : Act), In P top nt n0 π h w ts a → seqI (compileS P top nt (dstOf ops) l) callF ts h = .ok ts' h' →
    ∃ a' w' π', Steps P (lone (b.atR a (.inRegion ops (List.range' i l.length) :: k)) cs w) (lone (b.atR a' k) cs w') ∧ In P top nt n0 π' h' w' ts' a' ∧ Good P π h w π' h' w'
  | [], i, _, π, h, w, ts, a, hin, hrun => by
    injection hrun with q1 q2
    subst q1; subst q2
    exact ⟨a, w, π, .one stepR_region_end, hin, .refl hin.rel⟩
  | o :: l, i, hl, π, h, w, ts, a, hin, hrun => by
    have ho : ops[i]? = some o := hl 0
    cases hs : sOper P top nt (dstOf ops) o with
    | mk f =>
      have hrun : (RR.rec (motive := fun _ => RR) (fun ts h => seqI (compileS P top nt (dstOf ops) l) callF ts h) .no (f callF ts h) : RR) = .ok ts' h' := by
        have : compileS P top nt (dstOf ops) (o :: l) = .cons f (compileS P top nt (dstOf ops) l) := by
          rw [compileS, hs]
        rw [this] at hrun
        exact hrun
      cases hf : f callF ts h with
      | no => rw [hf] at hrun; cases hrun
      | ok ts1 h1 =>
        rw [hf] at hrun
        obtain ⟨a1, w1, π1, s1, i1, g1⟩ := oper_step (k := k) (rest := List.range' (i + 1) l.length) hC ho hs hin hf hb
        obtain ⟨a2, w2, π2, s2, i2, g2⟩ := seq_steps hC hb l (i + 1) (fun j => by rw [show i + 1 + j = i + (j + 1) by omega]; exact hl (j + 1)) π1 h1 w1 ts1 a1 i1 hrun
        exact ⟨a2, w2, π2, s1.trans s2, i2, g1.trans g2⟩

/-- What is left after a piece of code. -/
def Post (P : Program) (top : Bool) (nt n0 : Nat) (π : Pi) (h : Heap) (w : World) (b : Frame) (k : List Item) (cs : List Frame) (m : Machine) : CR → Prop
  | .norm ts' h' => ∃ a' w' π', Steps P m (lone (b.atR a' k) cs w') ∧ In P top nt n0 π' h' w' ts' a' ∧ Good P π h w π' h' w'
  | .exit id ts' h' => ∃ a' w' π' k', Steps P m (lone (b.atR a' (.code (.exit id) :: k')) cs w') ∧ exitTo id k' = exitTo id k ∧ In P top nt n0 π' h' w' ts' a' ∧ Good P π h w π' h' w'
  | .ret ts' h' => ∃ a' w' π' k', Steps P m (lone (b.atR a' (.code .ret :: k')) cs w') ∧ In P top nt n0 π' h' w' ts' a' ∧ Good P π h w π' h' w'
  | .no => True

def CodeOK (P : Program) (callF : CallF) (fn : FuncId) (top : Bool) (nt n0 : Nat) (c : Code) : Prop :=
  ∀ (π : Pi) (h : Heap) (w : World) (ts : Env) (a : Act), In P top nt n0 π h w ts a → ∀ (b : Frame) (k : List Item) (cs : List Frame), FrameOK top b cs → b.fn = fn →
    Post P top nt n0 π h w b k cs (lone (b.atR a (.code c :: k)) cs w) (codeA callF fn (compileC P top nt c) ts h)

theorem Post.steps {top : Bool} {nt n0 : Nat} {π : Pi} {h : Heap} {w : World} {b : Frame} {k : List Item} {cs : List Frame} {m m' : Machine} {r : CR} (hs : Steps P m m') (hp : Post P top nt n0 π h w b k cs m' r) : Post P top nt n0 π h w b k cs m r := by
  cases r with
  | norm ts h => obtain ⟨a, w', π', s, x⟩ := hp; exact ⟨a, w', π', hs.trans s, x⟩
  | exit id ts h => obtain ⟨a, w', π', k', s, x⟩ := hp; exact ⟨a, w', π', k', hs.trans s, x⟩
  | ret ts h => obtain ⟨a, w', π', k', s, x⟩ := hp; exact ⟨a, w', π', k', hs.trans s, x⟩
  | no => trivial

theorem Post.good {top : Bool} {nt n0 : Nat} {π π1 : Pi} {h h1 : Heap} {w w1 : World} {b : Frame} {k k1 : List Item} {cs : List Frame} {m : Machine} {r : CR} (g : Good P π h w π1 h1 w1) (hk : ∀ id, exitTo id k1 = exitTo id k) (hn : ∀ ts h, r ≠ .norm ts h)
    (hp : Post P top nt n0 π1 h1 w1 b k1 cs m r) : Post P top nt n0 π h w b k cs m r := by
  cases r with
  | norm ts h => exact absurd rfl (hn _ _)
  | exit id ts h => obtain ⟨a, w', π', k', s, e, i, g'⟩ := hp; exact ⟨a, w', π', k', s, e.trans (hk id), i, g.trans g'⟩
  | ret ts h => obtain ⟨a, w', π', k', s, i, g'⟩ := hp; exact ⟨a, w', π', k', s, i, g.trans g'⟩
  | no => trivial

theorem stepR_scope {b : Frame} {a : Act} {k : List Item} {cs : List Frame} {w : World} {c : Code} : step P (lone (b.atR a (.code (.scope c) :: k)) cs w) = .next (lone (b.atR a (.code c :: .inScope c :: k)) cs w) :=
  step_lone_go (by simp [stepG, stepG.exec, Frame.atR])
theorem stepR_inScope {b : Frame} {a : Act} {k : List Item} {cs : List Frame} {w : World} {c : Code} : step P (lone (b.atR a (.inScope c :: k)) cs w) = .next (lone (b.atR a k) cs w) :=
  step_lone_go (by simp [stepG, stepG.exec, Frame.atR])

theorem loop_ok {top : Bool} {nt n0 : Nat} {b : Frame} {k : List Item} {cs : List Frame} {c : Code} {F : Env → Heap → CR}
    (hF : ∀ (π : Pi) (h : Heap) (w : World) (ts : Env) (a : Act), In P top nt n0 π h w ts a → ∀ k, Post P top nt n0 π h w b k cs (lone (b.atR a (.code c :: k)) cs w) (F ts h)) :
    ∀ (n : Nat) (π : Pi) (h : Heap) (w : World) (ts : Env) (a : Act), In P top nt n0 π h w ts a → Post P top nt n0 π h w b k cs (lone (b.atR a (.code c :: .inLoop c :: k)) cs w) (loopN F n ts h)
  | 0, π, h, w, ts, a, hin => trivial
  | n + 1, π, h, w, ts, a, hin => by
    have h1 := hF π h w ts a hin (.inLoop c :: k)
    show Post P top nt n0 π h w b k cs _ (CR.rec (motive := fun _ => CR) (fun ts' h' => loopN F n ts' h') (fun i ts h => .exit i ts h) (fun ts h => .ret ts h) .no (F ts h))
    cases hr : F ts h with
    | norm ts1 h1' =>
      rw [hr] at h1
      obtain ⟨a1, w1, π1, s1, i1, g1⟩ := h1
      have h2 := loop_ok (k := k) hF n π1 h1' w1 ts1 a1 i1
      show Post P top nt n0 π h w b k cs _ (loopN F n ts1 h1')
      have hs := s1.trans (.one (stepR_inLoop (P := P) (b := b) (a := a1) (k := k) (cs := cs) (w := w1) (c := c)))
      refine Post.steps hs ?_
      cases hl : loopN F n ts1 h1' with
      | norm ts h => rw [hl] at h2; obtain ⟨a', w', π', s, i, g⟩ := h2; exact ⟨a', w', π', s, i, g1.trans g⟩
      | exit id ts h => rw [hl] at h2; exact Post.good g1 (fun _ => rfl) (fun _ _ => by simp) h2
      | ret ts h => rw [hl] at h2; exact Post.good g1 (fun _ => rfl) (fun _ _ => by simp) h2
      | no => trivial
    | exit id ts h => rw [hr] at h1; obtain ⟨a', w', π', k', s, e, x⟩ := h1; exact ⟨a', w', π', k', s, e, x⟩
    | ret ts h => rw [hr] at h1; exact h1
    | no => trivial

/-- Code, piece by piece; what regions that draw their order and loops over functions do is asked for. -/
theorem code_ok {callF : CallF} (hC : CallOK P callF) {fn : FuncId} {top : Bool} {nt n0 : Nat}
    (hD : ∀ id ops, CodeOK P callF fn top nt n0 (.region id ops true)) (hR : ∀ f params assign body, CodeOK P callF fn top nt n0 (.rangeFunc f params assign body)) :
    ∀ c, CodeOK P callF fn top nt n0 c
  | .skip => fun π h w ts a hin b k cs hb hfn => ⟨a, w, π, .one stepR_skip, hin, .refl hin.rel⟩
  | .label _ => fun π h w ts a hin b k cs hb hfn => ⟨a, w, π, .one stepR_label, hin, .refl hin.rel⟩
  | .region id ops true => hD id ops
  | .region id ops false => fun π h w ts a hin b k cs hb hfn => by
    show Post P top nt n0 π h w b k cs _ (okC (seqI (compileS P top nt (dstOf ops) ops.toList) callF ts h))
    cases hr : seqI (compileS P top nt (dstOf ops) ops.toList) callF ts h with
    | no => trivial
    | ok ts' h' =>
      obtain ⟨a', w', π', s, i, g⟩ := seq_steps (k := k) hC hb ops.toList 0 (fun j => by simp) π h w ts a hin hr
      refine ⟨a', w', π', .head stepR_region ?_, i, g⟩
      rw [List.range_eq_range']
      simpa using s
  | .seq x y => fun π h w ts a hin b k cs hb hfn => by
    have h1 := code_ok hC hD hR x π h w ts a hin b (.code y :: k) cs hb hfn
    refine Post.steps (.one stepR_seq) ?_
    show Post P top nt n0 π h w b k cs _ (CR.rec (motive := fun _ => CR) (fun ts' h' => codeA callF fn (compileC P top nt y) ts' h') (fun i ts h => .exit i ts h) (fun ts h => .ret ts h) .no (codeA callF fn (compileC P top nt x) ts h))
    cases hr : codeA callF fn (compileC P top nt x) ts h with
    | norm ts1 h1' =>
      rw [hr] at h1
      obtain ⟨a1, w1, π1, s1, i1, g1⟩ := h1
      have h2 := code_ok hC hD hR y π1 h1' w1 ts1 a1 i1 b k cs hb hfn
      refine Post.steps s1 ?_
      show Post P top nt n0 π h w b k cs _ (codeA callF fn (compileC P top nt y) ts1 h1')
      cases hl : codeA callF fn (compileC P top nt y) ts1 h1' with
      | norm ts h => rw [hl] at h2; obtain ⟨a', w', π', s, i, g⟩ := h2; exact ⟨a', w', π', s, i, g1.trans g⟩
      | exit id ts h => rw [hl] at h2; exact Post.good g1 (fun _ => rfl) (fun _ _ => by simp) h2
      | ret ts h => rw [hl] at h2; exact Post.good g1 (fun _ => rfl) (fun _ _ => by simp) h2
      | no => trivial
    | exit id ts h => rw [hr] at h1; obtain ⟨a', w', π', k', s, e, x⟩ := h1; exact ⟨a', w', π', k', s, e, x⟩
    | ret ts h => rw [hr] at h1; exact h1
    | no => trivial
  | .cond c x y => fun π h w ts a hin b k cs hb hfn => by
    have hcomp : compileC P top nt (.cond c x y) = .cond (gOf c).fn (compileC P top nt x) (compileC P top nt y) := by
      rw [compileC, opd_eq]
    rw [hcomp]
    show Post P top nt n0 π h w b k cs _ (onBool .no (fun t => cond t (codeA callF fn (compileC P top nt x) ts h) (codeA callF fn (compileC P top nt y) ts h)) ((gOf c).fn ts))
    have rc := gOf_rel hin.tm c
    by_cases hno : onBool CR.no (fun t => cond t (codeA callF fn (compileC P top nt x) ts h) (codeA callF fn (compileC P top nt y) ts h)) ((gOf c).fn ts) = .no
    · rw [hno]; trivial
    · obtain ⟨t, ht, he⟩ := onBool_ne rfl hno
      rw [ht] at rc
      have hv := rc.bool_inv
      rw [← act_eval] at hv
      rw [← he]
      refine Post.steps (.one (stepR_cond hv)) ?_
      cases t with
      | true => exact code_ok hC hD hR x π h w ts a hin b k cs hb hfn
      | false => exact code_ok hC hD hR y π h w ts a hin b k cs hb hfn
  | .block id x => fun π h w ts a hin b k cs hb hfn => by
    have h1 := code_ok hC hD hR x π h w ts a hin b (.inBlock id :: k) cs hb hfn
    refine Post.steps (.one stepR_block) ?_
    show Post P top nt n0 π h w b k cs _ (CR.rec (motive := fun _ => CR) (fun ts' h' => .norm ts' h') (fun i ts' h' => cond (Nat.beq i id) (.norm ts' h') (.exit i ts' h')) (fun ts h => .ret ts h) .no (codeA callF fn (compileC P top nt x) ts h))
    cases hr : codeA callF fn (compileC P top nt x) ts h with
    | norm ts1 h1' =>
      rw [hr] at h1
      obtain ⟨a1, w1, π1, s1, i1, g1⟩ := h1
      exact ⟨a1, w1, π1, s1.trans (.one stepR_inBlock), i1, g1⟩
    | exit i ts1 h1' =>
      rw [hr] at h1
      obtain ⟨a1, w1, π1, k', s1, e, i1, g1⟩ := h1
      by_cases hid : i = id
      · subst hid
        have : exitTo i k' = some k := by rw [e]; simp [exitTo]
        show Post P top nt n0 π h w b k cs _ (cond (Nat.beq i i) (.norm ts1 h1') (.exit i ts1 h1'))
        rw [Nat.beq_refl]
        exact ⟨a1, w1, π1, s1.trans (.one (stepR_exit this)), i1, g1⟩
      · show Post P top nt n0 π h w b k cs _ (cond (Nat.beq i id) (.norm ts1 h1') (.exit i ts1 h1'))
        rw [beq_f hid]
        refine ⟨a1, w1, π1, k', s1, e.trans ?_, i1, g1⟩
        have : (id == i) = false := by simp; exact fun h => hid h.symm
        simp [exitTo, this]
    | ret ts h => rw [hr] at h1; exact h1
    | no => trivial
  | .scope x => fun π h w ts a hin b k cs hb hfn => by
    have h1 := code_ok hC hD hR x π h w ts a hin b (.inScope x :: k) cs hb hfn
    refine Post.steps (.one stepR_scope) ?_
    show Post P top nt n0 π h w b k cs _ (codeA callF fn (compileC P top nt x) ts h)
    cases hr : codeA callF fn (compileC P top nt x) ts h with
    | norm ts1 h1' =>
      rw [hr] at h1
      obtain ⟨a1, w1, π1, s1, i1, g1⟩ := h1
      exact ⟨a1, w1, π1, s1.trans (.one stepR_inScope), i1, g1⟩
    | exit i ts1 h1' =>
      rw [hr] at h1
      obtain ⟨a1, w1, π1, k', s1, e, x⟩ := h1
      exact ⟨a1, w1, π1, k', s1, e.trans (by simp [exitTo]), x⟩
    | ret ts h => rw [hr] at h1; exact h1
    | no => trivial
  | .loop x => fun π h w ts a hin b k cs hb hfn => by
    refine Post.steps (.one stepR_loop) ?_
    show Post P top nt n0 π h w b k cs _ (loopN (codeA callF fn (compileC P top nt x)) 100000 ts h)
    exact loop_ok (fun π h w ts a hin k => code_ok hC hD hR x π h w ts a hin b k cs hb hfn) 100000 π h w ts a hin
  | .exit id => fun π h w ts a hin b k cs hb hfn => ⟨a, w, π, k, .refl _ _, rfl, hin, .refl hin.rel⟩
  | .ret => fun π h w ts a hin b k cs hb hfn => ⟨a, w, π, k, .refl _ _, hin, .refl hin.rel⟩
  | .rangeFunc f params assign body => hR f params assign body
  | .goto _ => fun π h w ts a hin b k cs hb hfn => trivial
  | .refuse _ => fun π h w ts a hin b k cs hb hfn => trivial

end
end Go.Eng
