import Derived.Test.YtdmgncjahckngaaGreatP37
import GoSem.ClaimDataLaid
/-! The types' rows are laid out well: a quick look. -/
namespace Go.Eng
set_option linter.all false

section
variable {P : Program}

noncomputable def cT (P : Program) (t : TypeId) : Nat := (sizeT P t).getD 0
noncomputable def isVarT (P : Program) (n : Nat) (t : TypeId) : Bool := Nat.blt t n && (match underT P t with
  | some d => kindOk (some d)
  | none => false)
/-- A part: a kind of variable with a size. -/
noncomputable def partT (P : Program) (n : Nat) (t : TypeId) : Bool := isVarT P n t && (sizeT P t).isSome
noncomputable def offsOk (P : Program) : Nat → List Field → Bool
  | _, [] => true
  | k, f :: fs => Nat.beq f.offset k && offsOk P (k + cT P f.type) fs
noncomputable def rowT (P : Program) (n : Nat) (t : TypeId) : Bool := match underT P t with
  | none => false
  | some (.tuple _) => true
  | some .invalid => true
  | some (.named _ _) => true
  | some (.struct fs) => (sizeT P t).isSome && fs.toList.all (fun f => partT P n f.type) && Nat.beq (cT P t) (fs.toList.map fun f => cT P f.type).sum && offsOk P 0 fs.toList
  | some (.array k e) => (sizeT P t).isSome && partT P n e && Nat.beq (cT P t) (k * cT P e)
  | some (.pointer e) => (sizeT P t).isSome && isVarT P n e && Nat.beq (cT P t) 1
  | some (.slice e) => (sizeT P t).isSome && isVarT P n e && Nat.beq (cT P t) 1
  | some _ => (sizeT P t).isSome && Nat.beq (cT P t) 1

noncomputable def rowsT (P : Program) (n : Nat) (k : Nat) : Bool := Nat.rec (motive := fun _ => Bool) true (fun i ih => rowT P n i && ih) k
noncomputable def laidT (P : Program) (n : Nat) : Bool := Nat.beq P.types.size n && rowsT P n n && P.globals.toList.all (fun g => Nat.blt g.type n) && P.funcs.toList.all (fun f => f.params.toList.all fun t => Nat.blt t n)

theorem cT_of {t : TypeId} (h : (sizeT P t).isSome = true) : P.cellsOf t = cT P t := by
  obtain ⟨k, hk⟩ := Option.isSome_iff_exists.mp h
  obtain ⟨i, hi, hs⟩ := size_of hk
  unfold cT Program.cellsOf
  rw [hk, hi]; simp [hs]
theorem isVarT_of {n : Nat} (hn : P.types.size = n) {t : TypeId} (h : isVarT P n t = true) : isVar P t = true := by
  unfold isVarT at h
  rw [Bool.and_eq_true] at h
  obtain ⟨h1, h2⟩ := h
  cases hu : underT P t with
  | none => rw [hu] at h2; cases h2
  | some d =>
    rw [hu] at h2
    unfold isVar
    rw [under_of hu, hn]
    simp at h1 h2 ⊢
    exact ⟨h1, h2⟩
theorem partT_of {n : Nat} (hn : P.types.size = n) {t : TypeId} (h : partT P n t = true) : isVar P t = true ∧ P.cellsOf t = cT P t := by
  unfold partT at h
  rw [Bool.and_eq_true] at h
  exact ⟨isVarT_of hn h.1, cT_of h.2⟩
theorem offs_of : ∀ {fs : List Field} {k : Nat}, offsOk P k fs = true → ∀ (j : Nat) (f : Field), fs[j]? = some f → f.offset = k + ((fs.take j).map fun f => cT P f.type).sum
  | [], k, _, j, f, h => by simp at h
  | g :: fs, k, h, 0, f, h1 => by
    simp only [offsOk, Bool.and_eq_true] at h
    simp at h1; subst h1
    simpa using h.1
  | g :: fs, k, h, j + 1, f, h1 => by
    simp only [offsOk, Bool.and_eq_true] at h
    have := offs_of h.2 j f (by simpa using h1)
    simp [this]; omega

theorem row_of {n : Nat} (hn : P.types.size = n) {t : TypeId} (h : rowT P n t = true) : rowFine P t = true := by
  unfold rowT at h
  unfold rowFine
  split at h
  · cases h
  · rename_i hu; rw [isVar, under_of hu]; simp [kindOk]
  · rename_i hu; rw [isVar, under_of hu]; simp [kindOk]
  · rename_i hu; rw [isVar, under_of hu]; simp [kindOk]
  · rename_i fs hu
    rw [under_of hu]
    simp only [Bool.and_eq_true] at h
    obtain ⟨⟨⟨h1, h2⟩, h3⟩, h4⟩ := h
    have hp : ∀ f ∈ fs.toList, isVar P f.type = true ∧ P.cellsOf f.type = cT P f.type := fun f hf => partT_of hn (List.all_eq_true.mp h2 f hf)
    have hm : ∀ l : List Field, (∀ f ∈ l, f ∈ fs.toList) → (l.map fun f => P.cellsOf f.type) = l.map fun f => cT P f.type := fun l hl => List.map_congr_left fun f hf => (hp f (hl f hf)).2
    simp only [Bool.or_eq_true, Bool.and_eq_true]
    right
    refine ⟨⟨List.all_eq_true.mpr fun f hf => (hp f hf).1, ?_⟩, List.all_eq_true.mpr fun j hj => ?_⟩
    · rw [cT_of h1, hm _ (fun _ h => h), Nat.eq_of_beq_eq_true h3]; simp
    · cases hf : fs.toList[j]? with
      | none => rfl
      | some f =>
        simp only
        rw [hm _ (fun f hf => List.mem_of_mem_take hf), offs_of h4 j f hf]; simp
  · rename_i k e hu
    rw [under_of hu]
    simp only [Bool.and_eq_true] at h
    obtain ⟨⟨h1, h2⟩, h3⟩ := h
    obtain ⟨q1, q2⟩ := partT_of hn h2
    simp only [Bool.or_eq_true, Bool.and_eq_true]
    right
    exact ⟨q1, by rw [cT_of h1, q2, Nat.eq_of_beq_eq_true h3]; simp⟩
  · rename_i e hu
    rw [under_of hu]
    simp only [Bool.and_eq_true] at h
    obtain ⟨⟨h1, h2⟩, h3⟩ := h
    simp only [Bool.or_eq_true, Bool.and_eq_true]
    right
    exact ⟨isVarT_of hn h2, by rw [cT_of h1, Nat.eq_of_beq_eq_true h3]; rfl⟩
  · rename_i e hu
    rw [under_of hu]
    simp only [Bool.and_eq_true] at h
    obtain ⟨⟨h1, h2⟩, h3⟩ := h
    simp only [Bool.or_eq_true, Bool.and_eq_true]
    right
    exact ⟨isVarT_of hn h2, by rw [cT_of h1, Nat.eq_of_beq_eq_true h3]; rfl⟩
  · rename_i d _ _ _ _ _ _ _ hu
    simp only [Bool.and_eq_true] at h
    have e : P.cellsOf t = 1 := by rw [cT_of h.1, Nat.eq_of_beq_eq_true h.2]
    rw [under_of hu, e]
    cases d <;> simp_all

theorem rows_of {n : Nat} (hn : P.types.size = n) : ∀ {k : Nat}, rowsT P n k = true → ∀ i, i < k → rowFine P i = true
  | 0, _, i, hi => absurd hi (by omega)
  | k + 1, h, i, hi => by
    have h : (rowT P n k && rowsT P n k) = true := h
    rw [Bool.and_eq_true] at h
    by_cases e : i = k
    · subst e; exact row_of hn h.1
    · exact rows_of hn h.2 i (by omega)

theorem laid_of {n : Nat} (h : laidT P n = true) : laidOutB P = true := by
  unfold laidT at h
  simp only [Bool.and_eq_true] at h
  obtain ⟨⟨⟨h1, h2⟩, h3⟩, h4⟩ := h
  have hn : P.types.size = n := Nat.eq_of_beq_eq_true h1
  unfold laidOutB
  simp only [Bool.and_eq_true]
  refine ⟨⟨?_, ?_⟩, ?_⟩
  · rw [hn]
    exact List.all_eq_true.mpr fun i hi => rows_of hn h2 i (List.mem_range.mp hi)
  · rw [← Array.all_toList]
    refine List.all_eq_true.mpr fun g hg => ?_
    have := List.all_eq_true.mp h3 g hg
    rw [hn]; simpa using this
  · rw [← Array.all_toList]
    refine List.all_eq_true.mpr fun f hf => ?_
    rw [← Array.all_toList]
    refine List.all_eq_true.mpr fun t ht => ?_
    have := List.all_eq_true.mp (List.all_eq_true.mp h4 f hf) t ht
    rw [hn]; simpa using this

end
end Go.Eng
