import Derived.Test.YtdmgncjahckngaaGreatP7
import Derived.Laws.StructEq
/-! Soundness, 8: equality; structs and arrays put together. -/
namespace Go.Eng
set_option linter.all false

section
variable {P : Program}

theorem partE_rel {π : Pi} {l : List AV} {l' : List Value} (h : VRels π l l') {t : TypeId} {off : Nat} {v : AV} (hv : part P t l off = some v) :
    ∃ v', (∀ w, (Go.part t ⟨l'⟩ off).run P w = .ok v' w) ∧ VRel π v v' := by
  unfold part at hv
  cases ha : aggT P t with
  | none => simp [ha] at hv
  | some a =>
    cases hz : sizeT P t with
    | none => cases a <;> simp [ha, hz] at hv
              obtain ⟨v', h1, h2⟩ := h.get hv
              exact ⟨v', fun w => by simp [Go.part, run_agg ha, h1], h2⟩
    | some z =>
      refine part_rel (a := a) h ha hz ?_
      cases a <;> simpa [ha, hz, partA] using hv

theorem eqA_succ (d : Nat) (t : TypeId) (x y : AV) : eqA P (d + 1) t x y = (match underT P t, x, y with
    | some .bool, .bool a, .bool b => some (a == b)
    | some (.int _), .int k a, .int k' b => cond (Nat.beq (kidx k) (kidx k')) (some (eqI a b)) none
    | some .string, .str a, .str b => some (beqS a b)
    | some (.pointer _), .nilp, .nilp => some true
    | some (.pointer _), .nilp, .ptr _ _ | some (.pointer _), .ptr _ _, .nilp => some false
    | some (.pointer e), .ptr a i, .ptr b j => cond (Nat.beq a b) (match sizeT P e with
        | some (_ + 1) => some (Nat.beq i j)
        | _ => none) none
    | some (.interface _), .nili, .nili => some true
    | some (.interface _), .nili, .iface _ _ | some (.interface _), .iface _ _, .nili => some false
    | some (.struct fields), .agg xs, .agg ys => match P.stoodInHeld t with
      | true => none
      | false => fieldsM fields.toList fun f => match part P f.type xs f.offset, part P f.type ys f.offset with
        | some a, some b => eqA P d f.type a b
        | _, _ => none
    | some (.slice _), .nils, .nils => some true
    | some (.slice _), .nils, .sl .. | some (.slice _), .sl .., .nils | some (.slice _), .nils, .emp .. | some (.slice _), .emp .., .nils => some false
    | some (.map _ _), .nilm, .nilm => some true
    | some (.map _ _), .nilm, .map _ | some (.map _ _), .map _, .nilm => some false
    | some (.func _ _ _), .nilf, .nilf => some true
    | some (.func _ _ _), .nilf, .fn .. | some (.func _ _ _), .fn .., .nilf => some false
    | _, _, _ => none) := rfl

theorem eqFields_rel {π : Pi} {d : Nat} (ih : ∀ (t : TypeId) (x y : AV) (b : Bool) (x' y' : Value), eqA P d t x y = some b → VRel π x x' → VRel π y y' → ∀ w, (Op.equalIn d t x' y').run P w = .ok b w)
    {xs ys : List AV} {xs' ys' : List Value} (hx : VRels π xs xs') (hy : VRels π ys ys') : ∀ (fs : List Field) (b : Bool),
    (fieldsM fs fun f => match part P f.type xs f.offset, part P f.type ys f.offset with
        | some a, some b => eqA P d f.type a b
        | _, _ => none) = some b → ∀ w, (Op.eqFields d ⟨xs'⟩ ⟨ys'⟩ fs).run P w = .ok b w
  | [], b, h, w => by simp [fieldsM] at h; subst h; rfl
  | f :: fs, b, h, w => by
    unfold fieldsM at h
    unfold Op.eqFields
    by_cases hn : f.name ≠ "_"
    · rw [if_pos hn] at h ⊢
      cases hp : part P f.type xs f.offset with
      | none => simp [hp] at h
      | some a =>
        cases hq : part P f.type ys f.offset with
        | none => simp [hp, hq] at h
        | some c =>
          simp only [hp, hq] at h
          obtain ⟨a', ha, ra⟩ := partE_rel hx hp
          obtain ⟨c', hc, rc⟩ := partE_rel hy hq
          cases he : eqA P d f.type a c with
          | none => simp [he] at h
          | some r =>
            simp only [he] at h
            have := ih _ _ _ _ _ _ he ra rc w
            simp only [Sem.run_bind, ha, hc, Result.andThen_ok, this]
            cases r with
            | true => simp only at h; simpa using eqFields_rel ih hx hy fs b h w
            | false => simp at h; subst h; rfl
    · rw [if_neg hn] at h ⊢
      exact eqFields_rel ih hx hy fs b h w

theorem eqA_rel {π : Pi} : ∀ (d : Nat) (t : TypeId) (x y : AV) (b : Bool) (x' y' : Value), eqA P d t x y = some b → VRel π x x' → VRel π y y' → ∀ w, (Op.equalIn d t x' y').run P w = .ok b w
  | 0, _, _, _, _, _, _, h, _, _, _ => by simp [eqA] at h
  | d + 1, t, x, y, b, x', y', h, rx, ry, w => by
    rw [eqA_succ] at h
    split at h
    · rename_i hu
      injection h with h; subst h
      rw [rx.bool_inv, ry.bool_inv]; simp [Op.equalIn, run_under (under_of hu)]
    · rename_i hu
      obtain ⟨hk, h2⟩ := cond_ne h (by simp)
      have hk := kidx_inj (beq_t hk); subst hk
      injection h2 with h2; subst h2
      rw [rx.int_inv, ry.int_inv]; simp [Op.equalIn, run_under (under_of hu), eqI_eq]
    · rename_i hu
      injection h with h; subst h
      obtain ⟨a, rfl, rfl⟩ := rx.str_inv
      obtain ⟨c, rfl, rfl⟩ := ry.str_inv
      rw [run_equalIn_string _ _ _ _ _ (under_of hu), beqS_eq, nats_beq, toList_eq, toList_eq]
    · rename_i hu; injection h with h; subst h; cases rx; cases ry; simp only [Op.equalIn, Sem.run_bind, run_under (under_of hu), Result.andThen_ok]; rfl
    · rename_i hu; injection h with h; subst h; cases rx; cases ry; simp only [Op.equalIn, Sem.run_bind, run_under (under_of hu), Result.andThen_ok]; rfl
    · rename_i hu; injection h with h; subst h; cases rx; cases ry; simp only [Op.equalIn, Sem.run_bind, run_under (under_of hu), Result.andThen_ok]; rfl
    · rename_i hu
      obtain ⟨hk, h2⟩ := cond_ne h (by simp)
      have hk := beq_t hk; subst hk
      clear h
      split at h2
      · rename_i hz
        injection h2 with h2; subst h2
        obtain ⟨i, hi, rfl⟩ := rx.ptr_inv
        obtain ⟨j, hj, rfl⟩ := ry.ptr_inv
        rw [hi] at hj; injection hj with hj; subst hj
        simp only [Op.equalIn, Sem.run_bind, run_under (under_of hu), Result.andThen_ok, run_size hz]
        rename_i p q _ _
        have e : ((⟨i.r, i.base + p, none⟩ : Addr) == ⟨i.r, i.base + q, none⟩) = Nat.beq p q := by
          rw [Bool.eq_iff_iff]
          simp
        simp [sameAddr, e]
      · cases h2
    · rename_i hu; injection h with h; subst h; cases rx; cases ry; simp only [Op.equalIn, Sem.run_bind, run_under (under_of hu), Result.andThen_ok]; rfl
    · rename_i hu; injection h with h; subst h; cases rx; cases ry; simp only [Op.equalIn, Sem.run_bind, run_under (under_of hu), Result.andThen_ok]; rfl
    · rename_i hu; injection h with h; subst h; cases rx; cases ry; simp only [Op.equalIn, Sem.run_bind, run_under (under_of hu), Result.andThen_ok]; rfl
    · rename_i fields xs ys hu
      split at h
      · cases h
      · rename_i hst
        obtain ⟨xs', rfl, hx⟩ := rx.agg_inv
        obtain ⟨ys', rfl, hy⟩ := ry.agg_inv
        have hf : P.fieldsOf t = fields := by unfold Program.fieldsOf; rw [under_of hu]
        rw [run_equalIn_struct w d t _ _ (by rw [hf]; exact under_of hu) hst, hf]
        exact eqFields_rel (fun t x y b x' y' e ex ey w => eqA_rel d t x y b x' y' e ex ey w) hx hy _ _ h w
    · rename_i hu; injection h with h; subst h; cases rx; cases ry; simp only [Op.equalIn, Sem.run_bind, run_under (under_of hu), Result.andThen_ok]; rfl
    · rename_i hu; injection h with h; subst h; cases rx; cases ry <;> simp only [Op.equalIn, Sem.run_bind, run_under (under_of hu), Result.andThen_ok] <;> rfl
    · rename_i hu; injection h with h; subst h; cases ry; cases rx <;> simp only [Op.equalIn, Sem.run_bind, run_under (under_of hu), Result.andThen_ok] <;> rfl
    · rename_i hu; injection h with h; subst h; cases rx; cases ry <;> simp only [Op.equalIn, Sem.run_bind, run_under (under_of hu), Result.andThen_ok] <;> rfl
    · rename_i hu; injection h with h; subst h; cases ry; cases rx <;> simp only [Op.equalIn, Sem.run_bind, run_under (under_of hu), Result.andThen_ok] <;> rfl
    · rename_i hu; injection h with h; subst h; cases rx; cases ry; simp only [Op.equalIn, Sem.run_bind, run_under (under_of hu), Result.andThen_ok]; rfl
    · rename_i hu; injection h with h; subst h; cases rx; cases ry; simp only [Op.equalIn, Sem.run_bind, run_under (under_of hu), Result.andThen_ok]; rfl
    · rename_i hu; injection h with h; subst h; cases rx; cases ry; simp only [Op.equalIn, Sem.run_bind, run_under (under_of hu), Result.andThen_ok]; rfl
    · rename_i hu; injection h with h; subst h; cases rx; cases ry; simp only [Op.equalIn, Sem.run_bind, run_under (under_of hu), Result.andThen_ok]; rfl
    · rename_i hu; injection h with h; subst h; cases rx; cases ry; simp only [Op.equalIn, Sem.run_bind, run_under (under_of hu), Result.andThen_ok]; rfl
    · rename_i hu; injection h with h; subst h; cases rx; cases ry; simp only [Op.equalIn, Sem.run_bind, run_under (under_of hu), Result.andThen_ok]; rfl
    · cases h

end
end Go.Eng
