import Derived.Test.YtdmgncjahckngaaGreatP3
import Derived.Laws.Strings
/-! Soundness, 4: numbers and strings. -/
namespace Go.Eng
set_option linter.all false

theorem kidx_inj {k k' : IntKind} (h : kidx k = kidx k') : k = k' := by cases k <;> cases k' <;> first | rfl | exact absurd h (by decide)
theorem beq_t {a b : Nat} (h : Nat.beq a b = true) : a = b := Nat.eq_of_beq_eq_true h

theorem wrap_of_lt (k : IntKind) (m : Nat) (h : m < lim k) : k.wrap (Int.ofNat m) = Int.ofNat m := by
  cases k <;> simp only [lim] at h <;> simp [IntKind.wrap, IntKind.bits, IntKind.signed] <;> omega
theorem retRaw_eq (k : IntKind) (n : Int) : retRaw k n = some (.int k n) := by simp [retRaw]
theorem retNat_eq (k : IntKind) (m : Nat) : retNat k m = some (.int k (k.wrap (Int.ofNat m))) := by
  unfold retNat
  rw [forceN_eq]
  by_cases h : m < lim k
  · rw [blt_t h, wrap_of_lt k m h]; rfl
  · rw [blt_f h]; simp [retRaw_eq]
theorem retInt_eq (k : IntKind) (n : Int) : retInt k n = some (.int k (k.wrap n)) := by
  cases n with
  | ofNat m => exact retNat_eq k m
  | negSucc m => exact retRaw_eq k _
theorem retBool_eq (b : Bool) : retBool b = some (.bool b) := by cases b <;> rfl
theorem retNot_eq (b : Bool) : retNot b = some (.bool !b) := by cases b <;> rfl

theorem eqI_eq (a b : Int) : eqI a b = (a == b) := by
  cases a <;> cases b <;> simp [eqI] <;> first
    | (rename_i m n; rw [Bool.eq_iff_iff]; simp; try omega)
    | skip
theorem ltI_eq (a b : Int) : ltI a b = decide (a < b) := by
  cases a <;> cases b <;> simp only [ltI] <;> rename_i m n <;> rw [Bool.eq_iff_iff] <;> simp <;> omega

theorem addK_eq (k : IntKind) (a b : Int) : addK k a b = some (.int k (k.wrap (a + b))) := by
  cases a <;> cases b <;> simp only [addK, nat2, retNat_eq, retInt_eq] <;> rfl
theorem subK_eq (k : IntKind) (a b : Int) : subK k a b = some (.int k (k.wrap (a - b))) := by
  cases a <;> cases b <;> simp only [subK, nat2, retNat_eq, retInt_eq] <;> try rfl
  rename_i m n
  by_cases h : n ≤ m
  · rw [ble_t h]
    simp only [cond_true]
    congr 3
    simp; omega
  · rw [ble_f h]; rfl
theorem mulK_eq (k : IntKind) (a b : Int) : mulK k a b = some (.int k (k.wrap (a * b))) := by
  cases a <;> cases b <;> simp only [mulK, nat2, retNat_eq, retInt_eq] <;> rfl
theorem quoK_eq (k : IntKind) (a b : Int) : quoK k a b = if b = 0 then none else some (.int k (k.wrap (a.tdiv b))) := by
  have e : ∀ a b : Int, (cond (eqI b 0) none (retInt k (a.tdiv b))) = if b = 0 then none else some (.int k (k.wrap (a.tdiv b))) := by
    intro a b
    rw [eqI_eq]
    by_cases h : b = 0
    · simp [h]
    · have hb : (b == 0) = false := by simpa using h
      simp [hb, h, retInt_eq]
  cases a <;> cases b <;> simp only [quoK, nat2] <;> try exact e _ _
  rename_i m n
  by_cases h : n = 0
  · subst h; simp
  · have : Nat.beq n 0 = false := by cases hb : Nat.beq n 0 with | false => rfl | true => exact absurd (beq_t hb) h
    rw [this]
    have hn : ¬ (Int.ofNat n = 0) := by simpa using h
    rw [if_neg hn]
    simp only [cond_false, retNat_eq]
    rfl
theorem remK_eq (k : IntKind) (a b : Int) : remK k a b = if b = 0 then none else some (.int k (a.tmod b)) := by
  have e : ∀ a b : Int, (cond (eqI b 0) none (retRaw k (a.tmod b))) = if b = 0 then none else some (.int k (a.tmod b)) := by
    intro a b
    rw [eqI_eq]
    by_cases h : b = 0
    · simp [h]
    · have hb : (b == 0) = false := by simpa using h
      simp [hb, h, retRaw_eq]
  cases a <;> cases b <;> simp only [remK, nat2] <;> try exact e _ _
  rename_i m n
  by_cases h : n = 0
  · subst h; simp
  · have : Nat.beq n 0 = false := by cases hb : Nat.beq n 0 with | false => rfl | true => exact absurd (beq_t hb) h
    rw [this]
    have hn : ¬ (Int.ofNat n = 0) := by simpa using h
    rw [if_neg hn]
    simp only [cond_false, retRaw_eq]
    rfl
theorem shAmt_eq (k : IntKind) (n : Nat) : shAmt k n = min n k.bits := by
  unfold shAmt
  by_cases h : n ≤ k.bits
  · rw [ble_t h]; simp; omega
  · rw [ble_f h]; simp; omega
theorem shlK_eq (k : IntKind) (a b : Int) {v : AV} (h : shlK k a b = some v) : 0 ≤ b ∧ v = .int k (k.wrap (a * 2 ^ (min b.toNat k.bits))) := by
  cases a <;> cases b <;> simp [shlK, nat2, retNat_eq, retInt_eq, shAmt_eq] at h <;> subst h <;> simp
theorem shrK_eq (k : IntKind) (a b : Int) {v : AV} (h : shrK k a b = some v) : 0 ≤ b ∧ v = .int k (a.fdiv (2 ^ (min b.toNat k.bits))) := by
  cases a <;> cases b <;> simp [shrK, nat2, retRaw_eq, shAmt_eq] at h <;> subst h <;> simp
  rename_i m n
  rw [Int.fdiv_eq_ediv_of_nonneg _ (by exact Int.pow_nonneg (by omega))]
  show ((m / 2 ^ min n k.bits : Nat) : Int) = _
  simp
theorem lim_bits (k : IntKind) : lim k ≤ 2 ^ k.bits := by cases k <;> simp [lim, IntKind.bits]
theorem lim_pow (k : IntKind) : ∃ e, lim k = 2 ^ e := by
  cases k
  · exact ⟨7, rfl⟩
  · exact ⟨15, rfl⟩
  · exact ⟨31, rfl⟩
  · exact ⟨63, rfl⟩
  · exact ⟨8, rfl⟩
  · exact ⟨16, rfl⟩
  · exact ⟨32, rfl⟩
  · exact ⟨64, rfl⟩
theorem bv_toNat (k : IntKind) {m : Nat} (h : m < lim k) : (BitVec.ofInt k.bits (Int.ofNat m)).toNat = m := by
  have h2 : m < 2 ^ k.bits := Nat.lt_of_lt_of_le h (lim_bits k)
  rw [BitVec.toNat_ofInt]
  show ((m : Int) % ((2 ^ k.bits : Nat) : Int)).toNat = m
  rw [← Int.natCast_emod, Nat.mod_eq_of_lt h2]
  rfl
theorem andK_eq (k : IntKind) (a b : Int) : andK k a b = some (.int k (k.wrap (BitVec.ofInt k.bits a &&& BitVec.ofInt k.bits b).toNat)) := by
  cases a <;> cases b <;> simp only [andK, bitsK, nat2, andSlow, retRaw_eq] <;> try rfl
  rename_i m n
  by_cases h1 : m < lim k
  · rw [blt_t h1]
    by_cases h2 : n < lim k
    · rw [blt_t h2]
      simp only [cond_true, forceN_eq]
      rw [BitVec.toNat_and, bv_toNat k h1, bv_toNat k h2]
      have : m &&& n < lim k := Nat.lt_of_le_of_lt Nat.and_le_left h1
      rw [show ((m &&& n : Nat) : Int) = Int.ofNat (m &&& n) from rfl, wrap_of_lt k _ this]; rfl
    · rw [blt_f h2]; rfl
  · rw [blt_f h1]; rfl
theorem orK_eq (k : IntKind) (a b : Int) : orK k a b = some (.int k (k.wrap (BitVec.ofInt k.bits a ||| BitVec.ofInt k.bits b).toNat)) := by
  cases a <;> cases b <;> simp only [orK, bitsK, nat2, orSlow, retRaw_eq] <;> try rfl
  rename_i m n
  by_cases h1 : m < lim k
  · rw [blt_t h1]
    by_cases h2 : n < lim k
    · rw [blt_t h2]
      simp only [cond_true, forceN_eq]
      rw [BitVec.toNat_or, bv_toNat k h1, bv_toNat k h2]
      have : m ||| n < lim k := by
        obtain ⟨e, he⟩ := lim_pow k
        rw [he] at h1 h2 ⊢; exact Nat.or_lt_two_pow h1 h2
      rw [show ((m ||| n : Nat) : Int) = Int.ofNat (m ||| n) from rfl, wrap_of_lt k _ this]; rfl
    · rw [blt_f h2]; rfl
  · rw [blt_f h1]; rfl
theorem xorK_eq (k : IntKind) (a b : Int) : xorK k a b = some (.int k (k.wrap (BitVec.ofInt k.bits a ^^^ BitVec.ofInt k.bits b).toNat)) := by
  cases a <;> cases b <;> simp only [xorK, bitsK, nat2, xorSlow, retRaw_eq] <;> try rfl
  rename_i m n
  by_cases h1 : m < lim k
  · rw [blt_t h1]
    by_cases h2 : n < lim k
    · rw [blt_t h2]
      simp only [cond_true, forceN_eq]
      rw [BitVec.toNat_xor, bv_toNat k h1, bv_toNat k h2]
      have : m ^^^ n < lim k := by
        obtain ⟨e, he⟩ := lim_pow k
        rw [he] at h1 h2 ⊢; exact Nat.xor_lt_two_pow h1 h2
      rw [show ((m ^^^ n : Nat) : Int) = Int.ofNat (m ^^^ n) from rfl, wrap_of_lt k _ this]; rfl
    · rw [blt_f h2]; rfl
  · rw [blt_f h1]; rfl

/-! ### Strings -/
theorem beqS_eq (a : List Nat) : ∀ b, beqS a b = (a == b) := by
  induction a with
  | nil => intro b; cases b <;> rfl
  | cons x a ih =>
    intro b
    cases b with
    | nil => rfl
    | cons y b =>
      show cond (Nat.beq x y) (beqS a b) false = _
      rw [ih]
      cases h : Nat.beq x y with
      | true => have := beq_t h; subst this; simp
      | false =>
        have : x ≠ y := fun e => by subst e; simp at h
        simp [this]
theorem appS_eq (a b : List Nat) : appS a b = a ++ b := by
  induction a with
  | nil => rfl
  | cons x a ih => show x :: appS a b = _; rw [ih]; rfl

theorem nats_inj : ∀ {a b : List UInt8}, a.map UInt8.toNat = b.map UInt8.toNat → a = b
  | [], [], _ => rfl
  | [], _ :: _, h => by simp at h
  | _ :: _, [], h => by simp at h
  | x :: a, y :: b, h => by
    simp only [List.map_cons, List.cons.injEq] at h
    rw [UInt8.toNat_inj.mp h.1, nats_inj h.2]
theorem nats_beq (a b : List UInt8) : ((a.map UInt8.toNat) == (b.map UInt8.toNat)) = (a == b) := by
  rw [Bool.eq_iff_iff]
  simp only [beq_iff_eq]
  exact ⟨nats_inj, fun h => by rw [h]⟩
theorem ltS_eq (a : List UInt8) : ∀ b : List UInt8, ltS (a.map UInt8.toNat) (b.map UInt8.toNat) = Op.bytesLess a b := by
  induction a with
  | nil => intro b; cases b <;> rfl
  | cons x a ih =>
    intro b
    cases b with
    | nil => rfl
    | cons y b =>
      show cond (Nat.blt x.toNat y.toNat) true (cond (Nat.beq x.toNat y.toNat) (ltS (a.map UInt8.toNat) (b.map UInt8.toNat)) false) = (decide (x < y) || (x == y && Op.bytesLess a b))
      rw [ih]
      by_cases h : x < y
      · have : x.toNat < y.toNat := by simpa [UInt8.lt_iff_toNat_lt] using h
        rw [blt_t this]; simp [h]
      · have : ¬ x.toNat < y.toNat := by simpa [UInt8.lt_iff_toNat_lt] using h
        rw [blt_f this]
        by_cases e : x = y
        · subst e; simp
        · have : Nat.beq x.toNat y.toNat = false := by
            cases hb : Nat.beq x.toNat y.toNat with
            | false => rfl
            | true => exact absurd (UInt8.toNat_inj.mp (beq_t hb)) e
          rw [this]; simp [h, e]
theorem toList_eq (s : ByteArray) : s.toList = s.data.toList := ByteArray.toList_eq s

end Go.Eng
