import Derived.Test.YtdmgncjahckngaaGreatP20
/-! Soundness, 21: what is compiled is what stands there. -/
namespace Go.Eng
set_option linter.all false

section
variable {P : Program}

/-- A compiled operation is the operation. -/
inductive SoundC (P : Program) (o : Op) : COp → Prop
  | mv (g : Env → AV) : SoundP P o (fun ts => some (g ts)) → SoundC P o (.mv g)
  | p (f : Env → Option AV) : SoundP P o f → SoundC P o (.p f)
  | r (f : Env → Heap → Option AV) : SoundR P o f → SoundC P o (.r f)
  | f (f : Env → FR) : SoundF P o f → SoundC P o (.f f)
  | m (f : CallF → Env → Heap → Res) : SoundW P o f → SoundC P o (.m f)
  | call (fo : Operand) (args : Array Operand) (ats : Array TypeId) : o = .call { callee := .value fo, args, argTypes := ats } → SoundC P o (.m (wCall (gOf fo).fn (args.toList.map fun x => (gOf x).fn)))
  | defer (fo : Operand) (ats : Array TypeId) : o = .defer { callee := .value fo, args := #[], argTypes := ats } → SoundC P o (.defer (gOf fo).fn)
  | recover (args : Array Operand) (ats : Array TypeId) : o = .call { callee := .builtin .recover, args, argTypes := ats } → SoundC P o .recover
  | bad : SoundC P o .bad

theorem sound_move (x : Operand) : SoundP P (.move x) (fun ts => some ((gOf x).fn ts)) := by
  intro π ts tmps v ht hf w oo ho
  injection hf with hf; subst hf
  exact ⟨_, by simp [execOp, ho], gOf_rel ht x⟩
theorem sound_assign (x : Operand) : SoundP P (.assign x) (fun ts => some ((gOf x).fn ts)) := by
  intro π ts tmps v ht hf w oo ho
  injection hf with hf; subst hf
  exact ⟨_, by simp [execOp, ho], gOf_rel ht x⟩

theorem c_bini (op : BinOp) (t yt : TypeId) (x y : Operand) : SoundC P (.binOp op t x y yt) (cBini op (gOf x).fn (gOf y).fn) := by
  cases op with
  | add => exact .p _ (sound_bini says_add t yt x y)
  | sub => exact .p _ (sound_bini says_sub t yt x y)
  | mul => exact .p _ (sound_bini says_mul t yt x y)
  | quo => exact .p _ (sound_bini says_quo t yt x y)
  | rem => exact .p _ (sound_bini says_rem t yt x y)
  | and => exact .p _ (sound_bini says_and t yt x y)
  | or => exact .p _ (sound_bini says_or t yt x y)
  | xor => exact .p _ (sound_bini says_xor t yt x y)
  | andNot => exact .p _ (sound_bini says_andNot t yt x y)
  | shl => exact .p _ (sound_shl t yt x y)
  | shr => exact .p _ (sound_shr t yt x y)
  | eql => exact .p _ (sound_eqi says_eql eql_self t yt x y)
  | neq => exact .p _ (sound_eqi says_neq neq_self t yt x y)
  | lss => exact .p _ (sound_bini says_lss t yt x y)
  | leq => exact .p _ (sound_bini says_leq t yt x y)
  | gtr => exact .p _ (sound_bini says_gtr t yt x y)
  | geq => exact .p _ (sound_bini says_geq t yt x y)

theorem c_bins (op : BinOp) (t yt : TypeId) (x y : Operand) : SoundC P (.binOp op t x y yt) (cBins op (gOf x).fn (gOf y).fn) := by
  cases op with
  | add => exact .p _ (sound_bins saysS_add t yt x y)
  | eql => exact .p _ (sound_bins saysS_eql t yt x y)
  | neq => exact .p _ (sound_bins saysS_neq t yt x y)
  | lss => exact .p _ (sound_bins saysS_lss t yt x y)
  | leq => exact .p _ (sound_bins saysS_leq t yt x y)
  | gtr => exact .p _ (sound_bins saysS_gtr t yt x y)
  | geq => exact .p _ (sound_bins saysS_geq t yt x y)
  | _ => exact .bad

theorem c_bin (op : BinOp) (t yt : TypeId) (x y : Operand) : SoundC P (.binOp op t x y yt) (cBin P op t x y) := by
  unfold cBin
  rw [opd_eq, opd_eq]
  split
  · exact c_bini op t yt x y
  · exact c_bins op t yt x y
  · rename_i d hn1 hn2 hd
    by_cases h : eqOk P t x y d = true
    · rw [h]
      simp only [cond_true]
      split
      · exact .p _ (sound_eqv (yt := yt) hd (fun k e => hn1 k e) (fun e => hn2 e) h false)
      · exact .p _ (sound_eqv (yt := yt) hd (fun k e => hn1 k e) (fun e => hn2 e) h true)
      · exact .bad
    · rw [Bool.eq_false_iff.mpr h]
      exact .bad
  · exact .bad

theorem c_conv (s d : TypeId) (x : Operand) : SoundC P (.convert s d x) (cConv P s d x) := by
  unfold cConv
  rw [opd_eq]
  split
  · rename_i h1 h2; exact .p _ (sound_cint h1 h2 x)
  · rename_i h1 h2; exact .p _ (sound_cstr h1 h2 x)
  · rename_i h1 h2
    split
    · rename_i h3 h4; exact .m _ (sound_s2b (v := .any) h1 h2 h3 x)
    · exact .bad
  · rename_i h1 h2
    split
    · rename_i h3; exact .r _ (sound_b2s h1 h2 h3 x)
    · exact .bad
  · rename_i h1 h2
    split
    · rename_i h3; exact .r _ (sound_p2u h1 h2 h3 x)
    · exact .bad
  · rename_i h1 h2
    split
    · rename_i h3; exact .r _ (sound_u2p h1 h2 h3 x)
    · exact .bad
  · exact .bad

theorem c_slice (t : TypeId) (x : Operand) (lo hi : Option Operand) : SoundC P (.slice t x lo hi none) (cSlice P t x lo hi) := by
  unfold cSlice
  rw [opd_eq, opdO_eq, opdO_eq]
  split
  · rename_i h; exact .p _ (sound_sls h x lo hi)
  · rename_i h
    split
    · rename_i h2; exact .p _ (sound_slv h h2 x lo hi)
    · exact .bad
  · rename_i h
    split
    · rename_i h2; exact .p _ (sound_sla h h2 x lo hi)
    · exact .bad
  · exact .bad

theorem c_fad (t : TypeId) (x : Operand) (f : Nat) : SoundC P (.fieldAddr t x f) (cFad P t x f) := by
  unfold cFad
  rw [opd_eq]
  split
  · rename_i h
    split
    · rename_i h2; exact .p _ (sound_fad h h2 x)
    · exact .bad
  · exact .bad
theorem c_fld (t : TypeId) (x : Operand) (f : Nat) : SoundC P (.field t x f) (cFld P t x f) := by
  unfold cFld
  rw [opd_eq]
  split
  · rename_i h
    split
    · rename_i h2 h3; exact .p _ (sound_fld h h2 h3 x)
    · exact .bad
  · exact .bad
theorem c_ixa (t : TypeId) (x i : Operand) : SoundC P (.indexAddr t x i) (cIxa P t x i) := by
  unfold cIxa
  rw [opd_eq, opd_eq]
  split
  · rename_i h
    split
    · rename_i h2; exact .p _ (sound_ixa h h2 x i)
    · exact .bad
  · rename_i h
    split
    · rename_i h2; exact .p _ (sound_ixs h h2 x i)
    · exact .bad
  · exact .bad
theorem c_ix (t : TypeId) (x i : Operand) : SoundC P (.index t x i) (cIx P t x i) := by
  unfold cIx
  rw [opd_eq, opd_eq]
  split
  · rename_i h
    split
    · rename_i h2 h3; exact .p _ (sound_ixv h h2 h3 x i)
    · exact .bad
  · rename_i h; exact .p _ (sound_ixt h x i)
  · exact .bad

theorem c_len (t : TypeId) (x : Operand) : SoundC P (.call { callee := .builtin .len, args := #[x], argTypes := #[t] }) (cLen P t x) := by
  unfold cLen
  rw [opd_eq]
  split
  · rename_i h; exact .p _ (sound_lens h x)
  · rename_i h; exact .p _ (sound_lenc_array h x)
  · rename_i h
    split
    · rename_i h2; exact .p _ (sound_lenc_ptr h h2 x)
    · exact .bad
  · rename_i h; exact .p _ (sound_lenv h x)
  · rename_i h; exact .r _ (sound_lenm h x)
  · exact .bad

theorem c_load (t : TypeId) (x : Operand) : SoundC P (.load t x) (cLoad P t x) := by
  unfold cLoad
  rw [opd_eq]
  split
  · rename_i h h2; exact .r _ (sound_loadn h h2 x)
  · rename_i h h2; exact .r _ (sound_load1 h x)
  · exact .bad

theorem c_build (t : TypeId) (parts : Array (Nat × Operand)) : SoundC P (.build t parts) (cBuild P t parts.toList) := by
  unfold cBuild
  split
  · rename_i zero fs hz hu
    split
    · rename_i hs
      generalize hr : placesS P COp.bad fs.toList parts.toList (fun l => COp.p (xBuild zero l)) = r
      by_cases hb : r = .bad
      · rw [hb]; exact .bad
      · obtain ⟨l, hl, hk⟩ := placesS_eq (P := P) _ _ _ hr hb
        rw [← hk]
        exact .p _ (sound_build_struct hz hu hs hl)
    · exact .bad
  · rename_i zero n e hz hu
    split
    · rename_i z hs
      obtain ⟨l, hl, hk⟩ := placesA_eq z parts.toList (fun l => COp.p (xBuild zero l))
      rw [hk]
      exact .p _ (sound_build_array hz hu hs hl)
    · exact .bad
  · exact .bad

theorem c_alloc (t : TypeId) : SoundC P (.alloc t) (cAlloc P t) := by
  unfold cAlloc
  split
  · rename_i h
    split
    · rename_i h2; exact .f _ (sound_alloc h h2)
    · exact .bad
  · exact .bad
theorem c_box (t : TypeId) (x : Operand) : SoundC P (.box t x) (cBox P t x) := by
  unfold cBox
  rw [opd_eq]
  split
  · rename_i h
    split
    · rename_i h2; exact .f _ (sound_box h h2 x)
    · exact .bad
  · exact .bad
theorem c_bslice (t : TypeId) (len : Nat) (parts : Array (Nat × Operand)) : SoundC P (.buildSlice t len parts) (cBslice P t len parts.toList) := by
  unfold cBslice
  split
  · rename_i e hu
    split
    · rename_i zero hz
      split
      · rename_i hlen
        obtain ⟨l, hl, hk⟩ := placesA_eq zero.length parts.toList (fun l => COp.f (zBslice e zero.length zero len l))
        rw [hk]
        exact .f _ (sound_bslice hu hz hlen hl)
      · exact .bad
    · exact .bad
  · exact .bad
theorem c_map (t : TypeId) (r : Option Operand) : SoundC P (.makeMap t r) (cMap r) := by
  cases r with
  | none => exact .f _ (sound_map t)
  | some x => exact .bad
theorem c_mslice (t : TypeId) (l c : Operand) : SoundC P (.makeSlice t l c) (cMslice P t l c) := by
  unfold cMslice
  rw [opd_eq, opd_eq]
  split
  · rename_i hu
    split
    · rename_i hz hi
      split
      · rename_i hb; exact .f _ (sound_mslice hu hz hi hb l c)
      · exact .bad
    · exact .bad
  · exact .bad

theorem c_append (st xt : TypeId) (s x : Operand) : SoundC P (.call { callee := .builtin .append, args := #[s, x], argTypes := #[st, xt] }) (cAppend P st xt s x) := by
  unfold cAppend
  rw [opd_eq, opd_eq]
  split
  · rename_i e xd hu hx
    split
    · exact .bad
    · rename_i hn
      have hd : isIntD xd = false := by
        cases xd with
        | int k => exact (hn k rfl).elim
        | _ => rfl
      split
      · rename_i hz hi
        split
        · rename_i hb; exact .m _ (sound_append hu hx hd hz hi hb.1 hb.2 s x)
        · exact .bad
      · exact .bad
  · exact .bad
theorem c_copy (dt : TypeId) (ats : List TypeId) (d s : Operand) : SoundC P (.call { callee := .builtin .copy, args := #[d, s], argTypes := ⟨dt :: ats⟩ }) (cCopy P dt d s) := by
  unfold cCopy
  rw [opd_eq, opd_eq]
  split
  · rename_i hu
    split
    · rename_i hz; exact .m _ (sound_copy hu hz d s)
    · exact .bad
  · exact .bad
theorem c_delete (t : TypeId) (ats : List TypeId) (m k : Operand) : SoundC P (.call { callee := .builtin .delete, args := #[m, k], argTypes := ⟨t :: ats⟩ }) (cDelete P t m k) := by
  unfold cDelete
  rw [opd_eq, opd_eq]
  split
  · rename_i hu; exact .m _ (sound_delete hu m k)
  · exact .bad
theorem c_ustr (t : TypeId) (ats : List TypeId) (p n : Operand) : SoundC P (.call { callee := .builtin .unsafeString, args := #[p, n], argTypes := ⟨t :: ats⟩ }) (cUstr P t p n) := by
  unfold cUstr
  rw [opd_eq, opd_eq]
  split
  · rename_i hu; exact .m _ (sound_ustr hu p n)
  · exact .bad
theorem c_cap (t : TypeId) (x : Operand) : SoundC P (.call { callee := .builtin .cap, args := #[x], argTypes := #[t] }) (cCap P t x) := by
  unfold cCap
  rw [opd_eq]
  split
  · rename_i hu; exact .p _ (sound_capv hu x)
  · exact .bad

theorem c_call (c : Call) : SoundC P (.call c) (cCall P c) := by
  obtain ⟨callee, ⟨args⟩, ⟨ats⟩⟩ := c
  cases callee with
  | value f =>
    show SoundC P _ (opd f fun f => opdL args fun args => COp.m (wCall f args))
    rw [opd_eq, opdL_eq]
    exact .call f ⟨args⟩ ⟨ats⟩ rfl
  | builtin b =>
    show SoundC P _ (match b, args, ats with
      | .len, [x], [t] => cLen P t x
      | .cap, [x], [t] => cCap P t x
      | .min, x :: l, _ => opd x fun x => opdL l fun l => .p (xMn x l)
      | .max, x :: l, _ => opd x fun x => opdL l fun l => .p (xMx x l)
      | .append, [s, x], [st, xt] => cAppend P st xt s x
      | .copy, [d, s], dt :: _ => cCopy P dt d s
      | .delete, [m, k], t :: _ => cDelete P t m k
      | .unsafeSliceData, [x], _ => opd x fun x => .m (wSdata x)
      | .unsafeString, [p, n], pt :: _ => cUstr P pt p n
      | .recover, _, _ => .recover
      | _, _, _ => .bad)
    split
    · exact c_len _ _
    · exact c_cap _ _
    · rw [opd_eq, opdL_eq]; exact .p _ (sound_mn _ _)
    · rw [opd_eq, opdL_eq]; exact .p _ (sound_mx _ _)
    · exact c_append _ _ _ _
    · exact c_copy _ _ _ _
    · exact c_delete _ _ _ _
    · rw [opd_eq]; exact .m _ (sound_sdata _)
    · exact c_ustr _ _ _ _
    · exact .recover _ _ rfl
    · exact .bad
  | _ => exact .bad

theorem compileOp_sound (o : Op) : SoundC P o (compileOp P o) := by
  unfold compileOp
  split
  · rename_i x; rw [opd_eq]; exact .mv _ (sound_move x)
  · rename_i x; rw [opd_eq]; exact .mv _ (sound_assign x)
  · rw [opd_eq, opd_eq, opd_eq]; exact .p _ (sound_pick P _ _ _)
  · exact c_build _ _
  · rw [opd_eq]; exact .p _ (sound_nilc _)
  · exact c_bin _ _ _ _ _
  · rw [opd_eq]; exact .p _ (sound_un _ _ _)
  · exact c_conv _ _ _
  · split
    · exact .bad
    · rename_i d hn hd; rw [opd_eq]; exact .p _ (sound_mki hd (fun ms e => hn ms e) _)
    · exact .bad
  · rw [opdL_eq, opdL_eq]; exact .p _ (sound_mkf _ _ _)
  · exact c_slice _ _ _ _
  · exact c_fad _ _ _
  · exact c_fld _ _ _
  · exact c_ixa _ _ _
  · exact c_ix _ _ _
  · rw [opd_eq]; exact .p _ (sound_ext _ _)
  · exact c_load _ _
  · rw [opd_eq, opd_eq]
    split
    · rename_i hu
      split
      · rename_i hz; exact .r _ (sound_look hu hz _ _ _)
      · exact .bad
    · exact .bad
  · rw [opd_eq]; exact .r _ (sound_entry _)
  · rw [opd_eq, opd_eq]
    split
    · rename_i hs; exact .m _ (sound_store hs _ _)
    · exact .bad
  · rw [opd_eq, opd_eq, opd_eq]
    split
    · rename_i hu; exact .m _ (sound_upd hu _ _ _ (fun ρ oo ho => by simp [execOp, ho]))
    · exact .bad
  · rw [opd_eq]
    split
    · rename_i hu; exact .m _ (sound_ranges hu _)
    · rename_i hu; exact .m _ (sound_rangem hu _)
    · exact .bad
  · rw [opd_eq]; exact .m _ (sound_next _ _)
  · exact c_call _
  · rw [opd_eq]; exact .defer _ _ rfl
  · exact c_alloc _
  · exact c_box _ _
  · exact c_bslice _ _ _
  · exact c_map _ _
  · exact c_mslice _ _ _
  · exact .bad

end
end Go.Eng
