import Derived.Test.YtdmgncjahckngaaGreatP31
import Derived.OrdersIn
/-! Soundness, 32: the orders in which a region may go. -/
namespace Go.Eng
set_option linter.all false

/-- A list of all operations that are not done yet, each behind those that must be ahead of it. -/
inductive Valid (ops : Array Oper) : (Nat → Bool) → List Nat → Prop
  | nil {D : Nat → Bool} : (∀ i, i < ops.size → D i = true) → Valid ops D []
  | cons {D : Nat → Bool} {i : Nat} {o : Oper} {l : List Nat} : ops[i]? = some o → D i = false → (∀ e ∈ o.after, Region.binds .any e = true → D e.on = true) →
      Valid ops (fun k => D k || Nat.beq k i) l → Valid ops D (i :: l)

theorem countP_lt {α : Type} {p q : α → Bool} (h : ∀ a, q a = true → p a = true) : ∀ {l : List α}, (∃ a ∈ l, p a = true ∧ q a = false) → l.countP q < l.countP p
  | [], ⟨a, ha, _⟩ => by cases ha
  | b :: l, ⟨a, ha, h1, h2⟩ => by
    have hle : l.countP q ≤ l.countP p := List.countP_mono_left fun x _ hx => h x hx
    rcases List.mem_cons.mp ha with rfl | ha
    · rw [List.countP_cons, List.countP_cons, h1, h2]; simp; omega
    · have := countP_lt h ⟨a, ha, h1, h2⟩
      rw [List.countP_cons, List.countP_cons]
      cases hq : q b with
      | true => rw [h b hq]; simp; omega
      | false => cases p b <;> simp <;> omega

theorem ready_ne {ops : Array Oper} (he : ∀ i o, ops[i]? = some o → ∀ e ∈ o.after, Region.binds .any e = true → e.on < i) {listed : Array Bool} (hs : listed.size = ops.size) :
    ∀ i, i < ops.size → listed.getD i false = false → Region.ready .any ops listed ≠ [] := by
  intro i
  induction i using Nat.strongRecOn with
  | ind i ih =>
    intro hi hl
    obtain ⟨o, ho⟩ : ∃ o, ops[i]? = some o := ⟨ops[i], by simp [hi]⟩
    by_cases hr : ∀ e ∈ o.after, Region.binds .any e = true → listed.getD e.on false = true
    · have : i ∈ Region.ready .any ops listed := mem_ready.mpr ⟨by
        have hi2 : i < listed.size := by omega
        simp [hi2] at hl ⊢; exact hl, o, ho, hr⟩
      intro h; rw [h] at this; cases this
    · have : ∃ e, e ∈ o.after ∧ Region.binds .any e = true ∧ listed.getD e.on false = false := by
        refine Classical.byContradiction fun hn => hr fun e h1 h2 => ?_
        cases hx : listed.getD e.on false with
        | true => rfl
        | false => exact absurd ⟨e, h1, h2, hx⟩ hn
      obtain ⟨e, h1, h2, h3⟩ := this
      have hlt := he i o ho e h1 h2
      exact ih e.on hlt (by omega) h3

theorem go_valid {ops : Array Oper} (he : ∀ i o, ops[i]? = some o → ∀ e ∈ o.after, Region.binds .any e = true → e.on < i) :
    ∀ (fuel t : Nat) (listed : Array Bool), listed.size = ops.size → (List.range ops.size).countP (fun i => !listed.getD i false) ≤ fuel →
    Valid ops (fun k => listed.getD k false) (Region.linearise.go .any ops fuel t listed [])
  | 0, t, listed, hs, hc => by
    refine .nil fun i hi => ?_
    have := List.countP_eq_zero.mp (Nat.le_zero.mp hc) i (List.mem_range.mpr hi)
    simpa using this
  | fuel + 1, t, listed, hs, hc => by
    simp only [Region.linearise.go]
    change Valid ops _ (match (Region.ready .any ops listed)[t % (Region.ready .any ops listed).length]? with
      | some i => Region.linearise.go .any ops fuel (t / (Region.ready .any ops listed).length) (listed.setIfInBounds i true) [i]
      | none => [].reverse)
    cases hi : (Region.ready .any ops listed)[t % (Region.ready .any ops listed).length]? with
    | none =>
      have hnil : Region.ready .any ops listed = [] := by
        cases hr : Region.ready .any ops listed with
        | nil => rfl
        | cons x xs =>
          rw [hr] at hi
          have hlt : t % (x :: xs).length < (x :: xs).length := Nat.mod_lt _ (by simp)
          simp at hi
          simp at hlt
          omega
      refine .nil fun i hi => ?_
      cases hl : listed.getD i false with
      | true => rfl
      | false => exact absurd hnil (ready_ne he hs i hi hl)
    | some i =>
      have hm := List.mem_of_getElem? hi
      obtain ⟨h1, o, h2, h3⟩ := mem_ready.mp hm
      have hlt : i < ops.size := (Array.getElem?_eq_some_iff.1 h2).1
      simp only []
      rw [linearise_go_acc, List.reverse_singleton, List.singleton_append]
      have hl : listed.getD i false = false := by
        have hi2 : i < listed.size := by omega
        simp [hi2] at h1 ⊢; exact h1
      have hset : ∀ k, (listed.setIfInBounds i true).getD k false = (listed.getD k false || Nat.beq k i) := by
        intro k
        by_cases hk : i = k
        · subst hk
          have hi2 : i < listed.size := by omega
          simp [hi2]
        · have : Nat.beq k i = false := by
            cases hb : Nat.beq k i with
            | false => rfl
            | true => exact absurd (Nat.eq_of_beq_eq_true hb).symm hk
          rw [this, Bool.or_false]
          simp [Array.getElem?_setIfInBounds_ne hk]
      refine .cons h2 hl h3 ?_
      have ih := go_valid he fuel (t / (Region.ready .any ops listed).length) (listed.setIfInBounds i true) (by simpa using hs) (by
        have := countP_lt (p := fun i => !listed.getD i false) (q := fun k => !(listed.setIfInBounds i true).getD k false) (l := List.range ops.size)
          (fun a ha => by
            simp only [hset, Bool.not_eq_true', Bool.or_eq_false_iff] at ha
            simp only [Bool.not_eq_true']
            exact ha.1)
          ⟨i, List.mem_range.mpr hlt, by simp only [hl]; rfl, by simp only [hset]; simp⟩
        omega)
      have e : (fun k => (listed.setIfInBounds i true).getD k false) = (fun k => listed.getD k false || Nat.beq k i) := funext hset
      rw [e] at ih
      exact ih

theorem schedule_valid {ops : Array Oper} (he : ∀ i o, ops[i]? = some o → ∀ e ∈ o.after, Region.binds .any e = true → e.on < i) (t : Nat) :
    Valid ops (fun _ => false) (Region.schedule true ops t) := by
  have h := go_valid he ops.size t (Array.replicate ops.size false) (by simp) (by
    exact Nat.le_trans List.countP_le_length (by simp))
  have e : (fun k => (Array.replicate ops.size false).getD k false) = (fun _ => false) := by
    funext k
    by_cases hk : k < ops.size <;> simp [hk]
  rw [e] at h
  simpa [Region.schedule, Region.linearise] using h

end Go.Eng
