import Derived.Test.YtdmgncjahckngaaGreatP30
/-! Soundness, 31: an operation looks at its operands alone. -/
namespace Go.Eng
set_option linter.all false

/-- Two rows of temporaries that are the same to an operation. -/
def Agree (o : Op) (ts ts' : Env) : Prop := ∀ x ∈ o.operands.toList, (gOf x).fn ts = (gOf x).fn ts'
def Dep {β : Type} (o : Op) (g : Env → β) : Prop := ∀ ts ts', Agree o ts ts' → g ts = g ts'

inductive DepC (o : Op) : COp → Prop
  | mv (g : Env → AV) : Dep o g → DepC o (.mv g)
  | p (f : Env → Option AV) : Dep o f → DepC o (.p f)
  | r (f : Env → Heap → Option AV) : Dep o f → DepC o (.r f)
  | f (f : Env → FR) : Dep o f → DepC o (.f f)
  | m (f : CallF → Env → Heap → Res) : (∀ c, Dep o (f c)) → DepC o (.m f)
  | defer (g : Env → AV) : DepC o (.defer g)
  | recover : DepC o .recover
  | bad : DepC o .bad

section
variable {o : Op} {P : Program}

theorem dep_op {x : Operand} (h : x ∈ o.operands.toList) : Dep o (gOf x).fn := fun _ _ ha => ha x h

def DepO (o : Op) (x : Option (Env → AV)) : Prop := ∀ g, x = some g → Dep o g
def DepL (o : Op) (l : List (Env → AV)) : Prop := ∀ g ∈ l, Dep o g
def DepF (o : Op) (l : List (Nat × Nat × (Env → AV))) : Prop := ∀ p ∈ l, Dep o p.2.2

theorem dep_evalOp {x : Option (Env → AV)} (h : DepO o x) : Dep o (evalOp x) := fun ts ts' ha => by
  cases x with
  | none => rfl
  | some g => exact congrArg some (h g rfl ts ts' ha)
theorem dep_evalL : ∀ {l : List (Env → AV)}, DepL o l → Dep o (evalL l)
  | [], _ => fun _ _ _ => rfl
  | g :: l, h => fun ts ts' ha => by
    show g ts :: evalL l ts = g ts' :: evalL l ts'
    rw [h g List.mem_cons_self ts ts' ha, dep_evalL (fun g hg => h g (List.mem_cons_of_mem _ hg)) ts ts' ha]
theorem dep_fillA : ∀ {l : List (Nat × Nat × (Env → AV))}, DepF o l → ∀ cs, Dep o (fun ts => fillA ts l cs)
  | [], _, _ => fun _ _ _ => rfl
  | p :: l, h, cs => fun ts ts' ha => by
    show onSome none (fillA ts l) (fill1 cs p.1 p.2.1 (p.2.2 ts)) = onSome none (fillA ts' l) (fill1 cs p.1 p.2.1 (p.2.2 ts'))
    rw [h p List.mem_cons_self ts ts' ha]
    cases fill1 cs p.1 p.2.1 (p.2.2 ts') with
    | none => rfl
    | some cs' => exact dep_fillA (fun g hg => h g (List.mem_cons_of_mem _ hg)) cs' ts ts' ha

theorem depO_map {x : Option Operand} (h : ∀ y, x = some y → y ∈ o.operands.toList) : DepO o (x.map fun x => (gOf x).fn) := by
  intro g hg
  cases x with
  | none => cases hg
  | some y => injection hg with hg; subst hg; exact dep_op (h y rfl)
theorem depL_map {l : List Operand} (h : ∀ y ∈ l, y ∈ o.operands.toList) : DepL o (l.map fun x => (gOf x).fn) := by
  intro g hg
  obtain ⟨y, hy, rfl⟩ := List.mem_map.mp hg
  exact dep_op (h y hy)

section
variable {x y z : Env → AV}

theorem dep_bini (f : IntKind → Int → Int → Option AV) (hx : Dep o x) (hy : Dep o y) : Dep o (xBini f x y) := fun ts ts' h => by simp only [xBini, hx ts ts' h, hy ts ts' h]
theorem dep_eqi (f : IntKind → Int → Int → Option AV) (r : AV) (hx : Dep o x) (hy : Dep o y) : Dep o (xEqi f r x y) := fun ts ts' h => by simp only [xEqi, dep_bini f hx hy ts ts' h, hx ts ts' h, hy ts ts' h]
theorem dep_shift (f : IntKind → Int → Int → Option AV) (hx : Dep o x) (hy : Dep o y) : Dep o (xShift f x y) := fun ts ts' h => by simp only [xShift, hx ts ts' h, hy ts ts' h]
theorem dep_bins (f : List Nat → List Nat → Option AV) (hx : Dep o x) (hy : Dep o y) : Dep o (xBins f x y) := fun ts ts' h => by simp only [xBins, hx ts ts' h, hy ts ts' h]

theorem depC_bini (op : BinOp) (hx : Dep o x) (hy : Dep o y) : DepC o (cBini op x y) := by
  cases op <;> first | exact .p _ (dep_bini _ hx hy) | exact .p _ (dep_shift _ hx hy) | exact .p _ (dep_eqi _ _ hx hy)
theorem depC_bins (op : BinOp) (hx : Dep o x) (hy : Dep o y) : DepC o (cBins op x y) := by
  cases op <;> first | exact .p _ (dep_bins _ hx hy) | exact .bad
end

theorem placesS_dep : ∀ {fs : List Field} {l : List (Nat × Operand)} {k : List (Nat × Nat × (Env → AV)) → COp}, (∀ p ∈ l, p.2 ∈ o.operands.toList) →
    (∀ r, DepF o r → DepC o (k r)) → DepC o (placesS P .bad fs l k)
  | fs, [], k, h, hk => hk [] (fun p hp => by cases hp)
  | fs, (i, x) :: l, k, h, hk => by
    unfold placesS
    split
    · split
      · rw [opd_eq]
        refine placesS_dep (fun p hp => h p (List.mem_cons_of_mem _ hp)) fun r hr => hk _ ?_
        intro p hp
        rcases List.mem_cons.mp hp with rfl | hp
        · exact dep_op (h (i, x) List.mem_cons_self)
        · exact hr p hp
      · exact .bad
    · exact .bad
theorem placesA_dep {zz : Nat} : ∀ {l : List (Nat × Operand)} {k : List (Nat × Nat × (Env → AV)) → COp}, (∀ p ∈ l, p.2 ∈ o.operands.toList) →
    (∀ r, DepF o r → DepC o (k r)) → DepC o (placesA zz l k)
  | [], k, h, hk => hk [] (fun p hp => by cases hp)
  | (i, x) :: l, k, h, hk => by
    unfold placesA
    rw [opd_eq]
    refine placesA_dep (fun p hp => h p (List.mem_cons_of_mem _ hp)) fun r hr => hk _ ?_
    intro p hp
    rcases List.mem_cons.mp hp with rfl | hp
    · exact dep_op (h (i, x) List.mem_cons_self)
    · exact hr p hp

theorem dep_build (zero : List AV) {l : List (Nat × Nat × (Env → AV))} (h : DepF o l) : Dep o (xBuild zero l) := fun ts ts' ha => by
  have := dep_fillA h zero ts ts' ha
  simp only at this
  simp only [xBuild, this]
theorem dep_bslice (e : TypeId) (zz : Nat) (zero : List AV) (len : Nat) {l : List (Nat × Nat × (Env → AV))} (h : DepF o l) : Dep o (zBslice e zz zero len l) := fun ts ts' ha => by
  have := dep_fillA h (List.replicate len zero).flatten ts ts' ha
  simp only at this
  simp only [zBslice, this]

theorem compileOp_dep (o : Op) : DepC o (compileOp P o) := by
  unfold compileOp
  split
  · rw [opd_eq]; exact .mv _ (dep_op (by simp [Op.operands]))
  · rw [opd_eq]; exact .mv _ (dep_op (by simp [Op.operands]))
  · rename_i c a b
    rw [opd_eq, opd_eq, opd_eq]
    have hc : Dep (.pick c a b) (gOf c).fn := dep_op (by simp [Op.operands])
    have ha : Dep (.pick c a b) (gOf a).fn := dep_op (by simp [Op.operands])
    have hb : Dep (.pick c a b) (gOf b).fn := dep_op (by simp [Op.operands])
    exact .p _ fun ts ts' h => by simp only [xPick, hc ts ts' h, ha ts ts' h, hb ts ts' h]
  · rename_i t parts
    have hp : ∀ p ∈ parts.toList, p.2 ∈ (Op.build t parts).operands.toList := fun p hp => by
      simp only [Op.operands, List.mem_map]
      exact ⟨p, hp, rfl⟩
    unfold cBuild
    split
    · split
      · exact placesS_dep hp fun r hr => .p _ (dep_build _ hr)
      · exact .bad
    · split
      · exact placesA_dep hp fun r hr => .p _ (dep_build _ hr)
      · exact .bad
    · exact .bad
  · rename_i x
    rw [opd_eq]
    have hx : Dep (.nilCheck x) (gOf x).fn := dep_op (by simp [Op.operands])
    exact .p _ fun ts ts' h => by simp only [xNilc, hx ts ts' h]
  · rename_i op t x y yt
    have hx : Dep (.binOp op t x y yt) (gOf x).fn := dep_op (by simp [Op.operands])
    have hy : Dep (.binOp op t x y yt) (gOf y).fn := dep_op (by simp [Op.operands])
    unfold cBin
    rw [opd_eq, opd_eq]
    split
    · exact depC_bini op hx hy
    · exact depC_bins op hx hy
    · rename_i d _ _ _
      cases eqOk P t x y d with
      | true =>
        rw [cond_true]
        split
        · exact .p _ fun ts ts' h => by simp only [xEqv, hx ts ts' h, hy ts ts' h]
        · exact .p _ fun ts ts' h => by simp only [xEqv, hx ts ts' h, hy ts ts' h]
        · exact .bad
      | false => exact .bad
    · exact .bad
  · rename_i op t x
    rw [opd_eq]
    have hx : Dep (.unOp op t x) (gOf x).fn := dep_op (by simp [Op.operands])
    exact .p _ fun ts ts' h => by simp only [xUn, hx ts ts' h]
  · rename_i s d x
    have hx : Dep (.convert s d x) (gOf x).fn := dep_op (by simp [Op.operands])
    unfold cConv
    rw [opd_eq]
    split
    · exact .p _ fun ts ts' h => by simp only [xCint, hx ts ts' h]
    · exact .p _ fun ts ts' h => by simp only [xCstr, hx ts ts' h]
    · split
      · exact .m _ fun c ts ts' h => by funext hh; simp only [wS2b, hx ts ts' h]
      · exact .bad
    · split
      · exact .r _ fun ts ts' h => by funext hh; simp only [yB2s, hx ts ts' h]
      · exact .bad
    · split
      · exact .r _ fun ts ts' h => by funext hh; simp only [yP2u, hx ts ts' h]
      · exact .bad
    · split
      · exact .r _ fun ts ts' h => by funext hh; simp only [yU2p, hx ts ts' h]
      · exact .bad
    · exact .bad
  · rename_i t x
    split
    · exact .bad
    · rw [opd_eq]
      have hx : Dep (.makeInterface t x) (gOf x).fn := dep_op (by simp [Op.operands])
      exact .p _ fun ts ts' h => by simp only [xMki, hx ts ts' h]
    · exact .bad
  · rename_i fn first captured
    rw [opdL_eq, opdL_eq]
    have h1 : DepL (.makeFunc fn first captured) (first.toList.map fun x => (gOf x).fn) := depL_map fun y hy => by simp [Op.operands] at hy ⊢; exact .inl hy
    have h2 : DepL (.makeFunc fn first captured) (captured.toList.map fun x => (gOf x).fn) := depL_map fun y hy => by simp [Op.operands] at hy ⊢; exact .inr hy
    exact .p _ fun ts ts' h => by simp only [xMkf, dep_evalL h1 ts ts' h, dep_evalL h2 ts ts' h]
  · rename_i t x lo hi
    have hx : Dep (.slice t x lo hi none) (gOf x).fn := dep_op (by simp [Op.operands])
    have hl : DepO (.slice t x lo hi none) (lo.map fun x => (gOf x).fn) := depO_map fun y hy => by subst hy; simp [Op.operands]
    have hh : DepO (.slice t x lo hi none) (hi.map fun x => (gOf x).fn) := depO_map fun y hy => by subst hy; simp [Op.operands]
    unfold cSlice
    rw [opd_eq, opdO_eq, opdO_eq]
    split
    · exact .p _ fun ts ts' h => by simp only [xSls, hx ts ts' h, dep_evalOp hl ts ts' h, dep_evalOp hh ts ts' h]
    · split
      · exact .p _ fun ts ts' h => by simp only [xSlv, hx ts ts' h, dep_evalOp hl ts ts' h, dep_evalOp hh ts ts' h]
      · exact .bad
    · split
      · exact .p _ fun ts ts' h => by simp only [xSla, hx ts ts' h, dep_evalOp hl ts ts' h, dep_evalOp hh ts ts' h]
      · exact .bad
    · exact .bad
  · rename_i t x f
    have hx : Dep (.fieldAddr t x f) (gOf x).fn := dep_op (by simp [Op.operands])
    unfold cFad
    rw [opd_eq]
    split
    · split
      · exact .p _ fun ts ts' h => by simp only [xFad, hx ts ts' h]
      · exact .bad
    · exact .bad
  · rename_i t x f
    have hx : Dep (.field t x f) (gOf x).fn := dep_op (by simp [Op.operands])
    unfold cFld
    rw [opd_eq]
    split
    · split
      · exact .p _ fun ts ts' h => by simp only [xFld, hx ts ts' h]
      · exact .bad
    · exact .bad
  · rename_i t x i
    have hx : Dep (.indexAddr t x i) (gOf x).fn := dep_op (by simp [Op.operands])
    have hi : Dep (.indexAddr t x i) (gOf i).fn := dep_op (by simp [Op.operands])
    unfold cIxa
    rw [opd_eq, opd_eq]
    split
    · split
      · exact .p _ fun ts ts' h => by simp only [xIxa, hx ts ts' h, hi ts ts' h]
      · exact .bad
    · split
      · exact .p _ fun ts ts' h => by simp only [xIxs, hx ts ts' h, hi ts ts' h]
      · exact .bad
    · exact .bad
  · rename_i t x i
    have hx : Dep (.index t x i) (gOf x).fn := dep_op (by simp [Op.operands])
    have hi : Dep (.index t x i) (gOf i).fn := dep_op (by simp [Op.operands])
    unfold cIx
    rw [opd_eq, opd_eq]
    split
    · split
      · exact .p _ fun ts ts' h => by simp only [xIxv, hx ts ts' h, hi ts ts' h]
      · exact .bad
    · exact .p _ fun ts ts' h => by simp only [xIxt, hx ts ts' h, hi ts ts' h]
    · exact .bad
  · rename_i x i
    rw [opd_eq]
    have hx : Dep (.extract x i) (gOf x).fn := dep_op (by simp [Op.operands])
    exact .p _ fun ts ts' h => by simp only [xExt, hx ts ts' h]
  · rename_i t x
    have hx : Dep (.load t x) (gOf x).fn := dep_op (by simp [Op.operands])
    unfold cLoad
    rw [opd_eq]
    split
    · exact .r _ fun ts ts' h => by funext hh; simp only [yLoadn, hx ts ts' h]
    · exact .r _ fun ts ts' h => by funext hh; simp only [yLoad1, hx ts ts' h]
    · exact .bad
  · rename_i t m k ok
    have hm : Dep (.lookup t m k ok) (gOf m).fn := dep_op (by simp [Op.operands])
    have hk : Dep (.lookup t m k ok) (gOf k).fn := dep_op (by simp [Op.operands])
    rw [opd_eq, opd_eq]
    split
    · split
      · exact .r _ fun ts ts' h => by funext hh; simp only [yLook, hm ts ts' h, hk ts ts' h]
      · exact .bad
    · exact .bad
  · rename_i x
    have hx : Dep (.entry x) (gOf x).fn := dep_op (by simp [Op.operands])
    rw [opd_eq]
    exact .r _ fun ts ts' h => by funext hh; simp only [yEntry, hx ts ts' h]
  · rename_i t x v
    have hx : Dep (.store t x v) (gOf x).fn := dep_op (by simp [Op.operands])
    have hv : Dep (.store t x v) (gOf v).fn := dep_op (by simp [Op.operands])
    rw [opd_eq, opd_eq]
    split
    · exact .m _ fun c ts ts' h => by funext hh; simp only [wStore, hx ts ts' h, hv ts ts' h]
    · exact .bad
  · rename_i t m k v
    have hm : Dep (.mapUpdate t m k v) (gOf m).fn := dep_op (by simp [Op.operands])
    have hk : Dep (.mapUpdate t m k v) (gOf k).fn := dep_op (by simp [Op.operands])
    have hv : Dep (.mapUpdate t m k v) (gOf v).fn := dep_op (by simp [Op.operands])
    rw [opd_eq, opd_eq, opd_eq]
    split
    · exact .m _ fun c ts ts' h => by funext hh; simp only [wUpd, hm ts ts' h, hk ts ts' h, hv ts ts' h]
    · exact .bad
  · rename_i t x
    have hx : Dep (.range t x) (gOf x).fn := dep_op (by simp [Op.operands])
    rw [opd_eq]
    split
    · exact .m _ fun c ts ts' h => by funext hh; simp only [wRanges, hx ts ts' h]
    · exact .m _ fun c ts ts' h => by funext hh; simp only [wRangem, hx ts ts' h]
    · exact .bad
  · rename_i x s
    have hx : Dep (.next x s) (gOf x).fn := dep_op (by simp [Op.operands])
    rw [opd_eq]
    exact .m _ fun c ts ts' h => by funext hh; simp only [wNext, hx ts ts' h]
  · rename_i c
    exact depC_call c
  · rw [opd_eq]; exact .defer _
  · unfold cAlloc
    split
    · split
      · exact .f _ fun ts ts' h => rfl
      · exact .bad
    · exact .bad
  · rename_i t x
    have hx : Dep (.box t x) (gOf x).fn := dep_op (by simp [Op.operands])
    unfold cBox
    rw [opd_eq]
    split
    · split
      · exact .f _ fun ts ts' h => by simp only [zBox, hx ts ts' h]
      · exact .bad
    · exact .bad
  · rename_i t n ps
    have hp : ∀ p ∈ ps.toList, p.2 ∈ (Op.buildSlice t n ps).operands.toList := fun p hp => by
      simp only [Op.operands, List.mem_map]
      exact ⟨p, hp, rfl⟩
    unfold cBslice
    split
    · split
      · split
        · exact placesA_dep hp fun r hr => .f _ (dep_bslice _ _ _ _ hr)
        · exact .bad
      · exact .bad
    · exact .bad
  · rename_i t r
    cases r with
    | none => exact .f _ fun ts ts' h => rfl
    | some x => exact .bad
  · rename_i t l c
    have hl : Dep (.makeSlice t l c) (gOf l).fn := dep_op (by simp [Op.operands])
    have hc : Dep (.makeSlice t l c) (gOf c).fn := dep_op (by simp [Op.operands])
    unfold cMslice
    rw [opd_eq, opd_eq]
    split
    · split
      · split
        · exact .f _ fun ts ts' h => by simp only [zMslice, hl ts ts' h, hc ts ts' h]
        · exact .bad
      · exact .bad
    · exact .bad
  · exact .bad
where
  depC_call (c : Call) : DepC (.call c) (cCall P c) := by
    obtain ⟨callee, ⟨args⟩, ⟨ats⟩⟩ := c
    cases callee with
    | value f =>
      show DepC _ (opd f fun f => opdL args fun args => .m (wCall f args))
      rw [opd_eq, opdL_eq]
      have hf : Dep (.call { callee := .value f, args := ⟨args⟩, argTypes := ⟨ats⟩ }) (gOf f).fn := dep_op (by simp [Op.operands, Call.operands])
      have ha : DepL (.call { callee := .value f, args := ⟨args⟩, argTypes := ⟨ats⟩ }) (args.map fun x => (gOf x).fn) := depL_map fun y hy => by simp [Op.operands, Call.operands, hy]
      exact .m _ fun c ts ts' h => by funext hh; simp only [wCall, hf ts ts' h, dep_evalL ha ts ts' h]
    | builtin b =>
      show DepC _ (match b, args, ats with
        | .len, [x], [t] => cLen P t x
        | .cap, [x], [t] => cCap P t x
        | .min, x :: l, _ => opd x fun x => opdL l fun l => .p (xMn x l)
        | .max, x :: l, _ => opd x fun x => opdL l fun l => .p (xMx x l)
        | .append, [s, x], [st, xt] => cAppend P st xt s x
        | .copy, [d, s], dt :: _ => cCopy P dt d s
        | .delete, [m, k], t :: _ => cDelete P t m k
        | .unsafeSliceData, [x], _ => opd x fun x => .m (wSdata x)
        | .unsafeString, [p, n], pt :: _ => cUstr P pt p n
        | .recover, _, _ => .recover
        | _, _, _ => .bad)
      have mem : ∀ y ∈ args, y ∈ (Op.call { callee := .builtin b, args := ⟨args⟩, argTypes := ⟨ats⟩ }).operands.toList := fun y hy => by simp [Op.operands, Call.operands, hy]
      split
      · have hx := dep_op (mem _ List.mem_cons_self)
        unfold cLen
        rw [opd_eq]
        split
        · exact .p _ fun ts ts' h => by simp only [xLens, hx ts ts' h]
        · exact .p _ fun ts ts' h => rfl
        · split
          · exact .p _ fun ts ts' h => rfl
          · exact .bad
        · exact .p _ fun ts ts' h => by simp only [xLenv, hx ts ts' h]
        · exact .r _ fun ts ts' h => by funext hh; simp only [yLenm, hx ts ts' h]
        · exact .bad
      · have hx := dep_op (mem _ List.mem_cons_self)
        unfold cCap
        rw [opd_eq]
        split
        · exact .p _ fun ts ts' h => by simp only [xCapv, hx ts ts' h]
        · exact .bad
      · have hx := dep_op (mem _ List.mem_cons_self)
        have hl := depL_map fun y hy => mem y (List.mem_cons_of_mem _ hy)
        rw [opd_eq, opdL_eq]
        exact .p _ fun ts ts' h => by simp only [xMn, hx ts ts' h, dep_evalL hl ts ts' h]
      · have hx := dep_op (mem _ List.mem_cons_self)
        have hl := depL_map fun y hy => mem y (List.mem_cons_of_mem _ hy)
        rw [opd_eq, opdL_eq]
        exact .p _ fun ts ts' h => by simp only [xMx, hx ts ts' h, dep_evalL hl ts ts' h]
      · have hs := dep_op (mem _ List.mem_cons_self)
        have hx := dep_op (mem _ (List.mem_cons_of_mem _ List.mem_cons_self))
        unfold cAppend
        rw [opd_eq, opd_eq]
        split
        · split
          · exact .bad
          · split
            · split
              · exact .m _ fun c ts ts' h => by funext hh; simp only [wAppend, hs ts ts' h, hx ts ts' h]
              · exact .bad
            · exact .bad
        · exact .bad
      · have hs := dep_op (mem _ List.mem_cons_self)
        have hx := dep_op (mem _ (List.mem_cons_of_mem _ List.mem_cons_self))
        unfold cCopy
        rw [opd_eq, opd_eq]
        split
        · split
          · exact .m _ fun c ts ts' h => by funext hh; simp only [wCopy, hs ts ts' h, hx ts ts' h]
          · exact .bad
        · exact .bad
      · have hs := dep_op (mem _ List.mem_cons_self)
        have hx := dep_op (mem _ (List.mem_cons_of_mem _ List.mem_cons_self))
        unfold cDelete
        rw [opd_eq, opd_eq]
        split
        · exact .m _ fun c ts ts' h => by funext hh; simp only [wDelete, hs ts ts' h, hx ts ts' h]
        · exact .bad
      · have hx := dep_op (mem _ List.mem_cons_self)
        rw [opd_eq]
        exact .m _ fun c ts ts' h => by funext hh; simp only [wSdata, hx ts ts' h]
      · have hs := dep_op (mem _ List.mem_cons_self)
        have hx := dep_op (mem _ (List.mem_cons_of_mem _ List.mem_cons_self))
        unfold cUstr
        rw [opd_eq, opd_eq]
        split
        · exact .m _ fun c ts ts' h => by funext hh; simp only [wUstr, hs ts ts' h, hx ts ts' h]
        · exact .bad
      · exact .recover
      · exact .bad
    | _ => exact .bad

end
end Go.Eng
