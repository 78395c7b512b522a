import Derived.Test.YtdmgncjahckngaaGreatP14
/-! Soundness, 15: append. -/
namespace Go.Eng
set_option linter.all false

section
variable {P : Program}

/-- A live block is moved to the next number, and given another object; it may start further on. -/
theorem Good.move {π : Pi} {h : Heap} {w : World} (hr : Rel P π h w) {b : Nat} {o0 : AObj} {i i' : Info} (hb : HT.get h.t b = some o0) (hi : π b = some i) (hi' : i'.r = i.r)
    (o : AObj) (obj : Obj) (ho : ORel P (π.set h.next i') i' o obj) (hp : Array Obj) (hsz : hp.size = w.heap.size) (hat : hp[i.r]? = some obj) (hne : ∀ r, r ≠ i.r → hp[r]? = w.heap[r]?) :
    Good P π h w (π.set h.next i') (addObj (delObj h b) o) { w with heap := hp } := by
  have hn : π h.next = none := hr.next_none (Nat.le_refl _)
  have hle := Pi.le_set (i := i') hn
  have hbn : b < h.next := hr.lt_next hb
  have getN : ∀ c o', HT.get (addObj (delObj h b) o).t c = some o' → (c = h.next ∧ o' = o) ∨ (c ≠ h.next ∧ c ≠ b ∧ HT.get h.t c = some o') := fun c o' hc => by
    rcases HT.get_put_some hc with ⟨a, e⟩ | ⟨a, e⟩
    · left; exact ⟨a, by injection e with e; exact e.symm⟩
    · right
      refine ⟨a, get_del e, ?_⟩
      rcases HT.get_put_some e with ⟨_, e⟩ | ⟨_, e⟩
      · cases e
      · exact e
  have hrlt := (hr.fresh _ _ hi).2
  refine ⟨hle, ⟨?_, ?_, ?_⟩, ?_, Nat.le_succ _, by simp [hsz], ?_, ?_, rfl, rfl, rfl⟩
  · intro c o' hc
    rcases getN c o' hc with ⟨rfl, rfl⟩ | ⟨hc1, hc2, hc⟩
    · exact ⟨i', obj, Pi.set_same _ _ _, by rw [hi']; exact hat, ho⟩
    · obtain ⟨j, ob, h1, h2, h3⟩ := hr.live c o' hc
      refine ⟨j, ob, hle _ _ h1, ?_, h3.mono hle⟩
      show hp[j.r]? = _
      rw [hne _ (fun e => hc2 (hr.inj _ _ _ _ _ _ hc hb h1 hi e))]; exact h2
  · intro c c' o1 o2 j j' h1 h2 e1 e2 er
    rcases getN c o1 h1 with ⟨hc, _⟩ | ⟨hc, hcb, h1⟩ <;> rcases getN c' o2 h2 with ⟨hc', _⟩ | ⟨hc', hcb', h2⟩
    · rw [hc, hc']
    · rw [hc, Pi.set_same] at e1
      rw [Pi.set_ne _ _ hc'] at e2
      injection e1 with e1
      subst e1
      exact absurd (hr.inj _ _ _ _ _ _ h2 hb e2 hi (by rw [← er]; exact hi')) hcb'
    · rw [hc', Pi.set_same] at e2
      rw [Pi.set_ne _ _ hc] at e1
      injection e2 with e2
      subst e2
      exact absurd (hr.inj _ _ _ _ _ _ h1 hb e1 hi (by rw [er]; exact hi')) hcb
    · rw [Pi.set_ne _ _ hc] at e1
      rw [Pi.set_ne _ _ hc'] at e2
      exact hr.inj _ _ _ _ _ _ h1 h2 e1 e2 er
  · intro c j e
    by_cases hc : c = h.next
    · subst hc
      rw [Pi.set_same] at e
      injection e with e
      exact ⟨Nat.lt_succ_self _, by subst e; show i'.r < hp.size; rw [hsz, hi']; exact hrlt⟩
    · rw [Pi.set_ne _ _ hc] at e
      have := hr.fresh _ _ e
      exact ⟨Nat.lt_succ_of_lt this.1, by show j.r < hp.size; rw [hsz]; exact this.2⟩
  · intro c j e
    by_cases hc : c = h.next
    · subst hc; exact .inr ⟨hn, Nat.le_refl _⟩
    · rw [Pi.set_ne _ _ hc] at e; exact .inl e
  · intro r _ hn
    exact hne r (fun e => hn ⟨b, o0, i, hb, hi, e.symm⟩)
  · rintro r ⟨c, o', j, hc, e, rfl⟩
    rcases getN c o' hc with ⟨hc, _⟩ | ⟨hc1, _, hc⟩
    · subst hc; rw [Pi.set_same] at e; injection e with e; subst e
      exact .inl ⟨b, o0, i, hb, hi, hi'.symm⟩
    · rw [Pi.set_ne _ _ hc1] at e; exact .inl ⟨c, o', j, hc, e, rfl⟩

theorem growBy_le (need : Nat) : ∀ (r c : Nat), c ≤ need + (need + 768) / 4 → Builtin.growBy need r c ≤ need + (need + 768) / 4
  | 0, c, h => h
  | r + 1, c, h => by
    unfold Builtin.growBy
    split
    · exact h
    · exact growBy_le need r _ (by omega)
theorem nextslicecap_small {need old : Nat} (h : need ≤ 1000000) (ho : old < need) : Builtin.nextslicecap need old ≤ 2001000 := by
  unfold Builtin.nextslicecap
  split
  · omega
  · split
    · omega
    · have := growBy_le need 4 old (by omega)
      omega

def isIntD : TypeDesc → Bool
  | .int _ => true
  | _ => false
theorem zeroCells_size (z : Array Value) (n : Nat) : (Builtin.zeroCells z n).size = n * z.size := by simp [Builtin.zeroCells]

theorem noInt {xd : TypeDesc} (hxd : isIntD xd = false) : (Builtin.append_.match_1 (fun _ => Bool) xd (fun _ => true) (fun _ => false)) = false := by
  cases xd <;> first
    | rfl
    | (simp [isIntD] at hxd; done)

section
variable {st xt e : TypeId} {z : Nat} {i : TypeInfo} {zv : Value} {ats : Array TypeId} {ty : TypeId} {vx : Value} {n : Nat}
variable (hats : ats = #[st, xt]) (hu : underT P st = some (.slice e)) {xd : TypeDesc} (hx : underT P xt = some xd) (hxd : isIntD xd = false)
variable (hi : P.info? e = some i) (hiz : i.zero = some zv) (hz : i.size = z) (hzs : zv.cells.size = z) (hb0 : 0 < i.bytes) (hb : i.bytes ≤ 1000000)

include hats hu hx hxd hi hz in
/-- In place. -/
theorem run_append_fit {w w2 : World} {base : Option Addr} {sLen sCap : Nat} {new : List Value} (hlen : (Builtin.lenOf vx).run P w = .ok n w) (hfit : sLen + n ≤ sCap)
    (hnew : (Builtin.firstCells z n vx).run P w = .ok new.toArray w) (hst : match base with | some a => (storeCells (a.add (sLen * z)) new).run P w = .ok () w2 | none => w2 = w) :
    (Builtin.append_ ats ty #[.slice base sLen sCap, vx]).run P w = .ok (.slice base (sLen + n) sCap) w2 := by
  subst hats
  have hsz : (sizeOf e).run P w = .ok z w := by simp [sizeOf, run_info hi, hz]
  cases base with
  | none =>
    simp only at hst
    subst hst
    simp [noInt hxd, Builtin.append_, run_under (under_of hu), run_under (under_of hx), hsz, hlen, hfit, hnew]
  | some a =>
    simp [noInt hxd, Builtin.append_, run_under (under_of hu), run_under (under_of hx), hsz, hlen, hfit, hnew, show (storeCells (a.add (sLen * z)) new).run P w = .ok () w2 from hst]

include hats hu hx hxd hi hz hiz hzs hb0 hb in
/-- A new row. -/
theorem run_append_grow {w : World} {base : Option Addr} {sLen sCap : Nat} {old new : List Value} (hlen : (Builtin.lenOf vx).run P w = .ok n w) (hfit : ¬ sLen + n ≤ sCap) (hneed : sLen + n ≤ 1000000)
    (hold : ∀ w2 : World, w2.heap = w.heap → (Builtin.firstCells z sLen (.slice base sLen sCap)).run P w2 = .ok old.toArray w2)
    (hnew : ∀ w2 : World, w2.heap = w.heap → (Builtin.firstCells z n vx).run P w2 = .ok new.toArray w2) :
    ∃ (cap d : Nat) (zs : List Value), sLen + n ≤ cap ∧ zs.length = (cap - (sLen + n)) * z ∧
      (Builtin.append_ ats ty #[.slice base sLen sCap, vx]).run P w = .ok (.slice (some ⟨w.heap.size, 0, none⟩) (sLen + n) cap) { w with drawn := d, heap := w.heap.push (.cells (old ++ new ++ zs).toArray e) } := by
  subst hats
  have hsz : ∀ w, (sizeOf e).run P w = .ok z w := fun w => by simp [sizeOf, run_info hi, hz]
  have h1 := nextslicecap_small hneed (old := sCap) (by omega)
  have h2 : Builtin.nextslicecap (sLen + n) sCap * i.bytes ≤ 2001000 * 1000000 := Nat.mul_le_mul h1 hb
  have h48 : ¬ (281474976710656 < Builtin.nextslicecap (sLen + n) sCap * i.bytes) := by omega
  have hbz : ¬ i.bytes = 0 := by omega
  have hold' : (Builtin.firstCells z sLen (.slice base sLen sCap)).run P w.drew = .ok old.toArray w.drew := hold _ rfl
  have hnew' : (Builtin.firstCells z n vx).run P w.drew = .ok new.toArray w.drew := hnew _ rfl
  refine ⟨Question.cut (.appendCap (sLen + n) sCap e) (w.tape w.drawn (.appendCap (sLen + n) sCap e)), w.drawn + 1,
    (Builtin.zeroCells zv.cells (Question.cut (.appendCap (sLen + n) sCap e) (w.tape w.drawn (.appendCap (sLen + n) sCap e)) - (sLen + n))).toList, ?_, ?_, ?_⟩
  · simp only [Question.cut]; omega
  · rw [Array.length_toList, zeroCells_size, hzs]
  · simp [noInt hxd, Builtin.append_, run_under (under_of hu), run_under (under_of hx), hsz, hlen, hfit, run_info hi, hbz, h48, Question.forced, hold', hnew', run_zero hi hiz, newRow]
    have harr : ∀ z : Array Value, old.toArray ++ (new.toArray ++ z) = (old ++ (new ++ z.toList)).toArray := fun z => Array.ext' (by simp)
    rw [harr]
    rfl
end

end
end Go.Eng
