import Derived.Test.YtdmgncjahckngaaGreatP15
/-! Soundness, 16: append, whole. -/
namespace Go.Eng
set_option linter.all false

section
variable {P : Program}

/-- A row whose known cells start somewhere. -/
theorem row_any {π : Pi} {cs : List AV} {c : Array Value} {i : Info} {elem : TypeId} {lo hi frz : Nat} (hn : i.ncells = c.size) (hs : cs.length ≤ 65536) (hle : i.base + cs.length ≤ c.size)
    (hg : ∀ k x, cs[k]? = some x → ∃ v, c[i.base + k]? = some v ∧ VRel π x v) (hfz : ∀ k, k < c.size → lo ≤ k → k < hi → k < i.base + frz % 1048576) (hmk : frz < 1048576 → lo = hi ∨ (lo < hi ∧ lo < c.size)) :
    ORel P π i (rowObj elem cs true frz) (.cells c elem (lo, hi)) := by
  rw [rowObj_eq]
  have hroom := Cells.room_of cs.length .undef hs
  refine .cells hn (fun h => by simp at h) hle (by rw [setCells_room]; exact hroom) (fun k hk => ?_) hfz hmk
  rw [setCells_get _ _ _ _ (by omega) (by omega), if_pos (Nat.zero_le _)]
  obtain ⟨x, hx⟩ : ∃ x, cs[k]? = some x := ⟨cs[k], by simp [hk]⟩
  obtain ⟨v, h1, h2⟩ := hg k x hx
  refine ⟨v, h1, ?_⟩
  simp only [Nat.sub_zero, hx, Option.getD_some]
  exact h2

theorem cellsFrom_ok {β : Type} (no : β) (n : Nat) (t : Cells) : ∀ (k o : Nat) (f : List AV → β), o + k ≤ n → ∃ l, cellsFrom no n t k o f = f l
  | 0, o, f, _ => ⟨[], rfl⟩
  | k + 1, o, f, h => by
    obtain ⟨l, hl⟩ := cellsFrom_ok no n t k (o + 1) (fun l => f (Cells.get t o :: l)) (by omega)
    refine ⟨Cells.get t o :: l, ?_⟩
    show cond (Nat.blt o n) (forceN (Nat.succ o) fun o' => cellsFrom no n t k o' fun l => f (Cells.get t o :: l)) no = _
    rw [blt_t (by omega), forceN_eq]
    exact hl

theorem onCells_some {β : Type} (no : β) (f : Nat → Cells → TypeId → Bool → Nat → β) (n : Nat) (t : Cells) (e : TypeId) (g : Bool) (fz : Nat) : onCells no f (some (.cells n t e g fz)) = f n t e g fz := rfl

/-- The two ways of an append, to the end. -/
theorem append_ends {st xt e : TypeId} {z n : Nat} {i : TypeInfo} {zv : Value} {vs vx : Value} {ty : TypeId} (hu : underT P st = some (.slice e)) {xd : TypeDesc} (hx : underT P xt = some xd) (hxd : isIntD xd = false)
    (hi : P.info? e = some i) (hiz : i.zero = some zv) (hz : i.size = z) (hzs : zv.cells.size = z) (hb0 : 0 < i.bytes) (hb : i.bytes ≤ 1000000)
    {π : Pi} {h h' : Heap} {w : World} {r : AV} (hr : Rel P π h w) {new : List AV} {new' : List Value} (hlen : ∀ w, (Builtin.lenOf vx).run P w = .ok n w)
    (hnew : ∀ w2 : World, w2.heap = w.heap → (Builtin.firstCells z n vx).run P w2 = .ok new'.toArray w2) (hrel : VRels π new new') (hnz : new.length = n * z)
    {tmps : Array Value} {oo : Oper} {cs : Array Bool} (he : (execOp (evT tmps) oo).run P w = (builtin .append #[st, xt] ty cs #[vs, vx]).run P w) :
    (∀ (base : Option Addr) (sCap sLen : Nat) (w2 : World) (π' : Pi), vs = .slice base sLen sCap → sLen + n ≤ sCap →
      (match base with | some a => (storeCells (a.add (sLen * z)) new').run P w = .ok () w2 | none => w2 = w) → Good P π h w π' h' w2 → VRel π' r (.slice base (sLen + n) sCap) →
      ∃ n v' w' π', (execOp (evT tmps) oo).run P w = .ok n w' ∧ (n = .value v' ∨ (n = .skip ∧ v' = undef)) ∧ VRel π' r v' ∧ Good P π h w π' h' w') ∧
    (∀ (base : Option Addr) (sCap sLen : Nat) (old : List AV) (old' : List Value) (h1 : Heap) (o : AObj), vs = .slice base sLen sCap → ¬ sLen + n ≤ sCap → sLen + n ≤ 1000000 →
      VRels π old old' → (∀ w2 : World, w2.heap = w.heap → (Builtin.firstCells z sLen vs).run P w2 = .ok old'.toArray w2) → old.length = sLen * z → Good P π h w π h1 w →
      r = .sl h1.next 0 (sLen + n) (.gr z) → h' = addObj h1 o →
      (∀ (π' : Pi) (rr : Nat) (rest : List Value), π.le π' → ORel P π' ⟨rr, 0, (old' ++ new' ++ rest).length, undef⟩ o (.cells (old' ++ new' ++ rest).toArray e)) →
      ∃ n v' w' π', (execOp (evT tmps) oo).run P w = .ok n w' ∧ (n = .value v' ∨ (n = .skip ∧ v' = undef)) ∧ VRel π' r v' ∧ Good P π h w π' h' w') := by
  constructor
  · intro base sCap sLen w2 π' hvs hfit hst hg hv
    subst hvs
    refine ⟨_, _, w2, π', ?_, .inl rfl, hv, hg⟩
    rw [he]
    simp only [builtin, Sem.run_bind, run_append_fit (ats := #[st, xt]) (ty := ty) rfl hu hx hxd hi hz (hlen w) hfit (hnew w rfl) hst, Result.andThen_ok, Sem.run_pure]
  · intro base sCap sLen old old' h1 o hvs hfit hneed hold hrun hol hg1 hrr hh hO
    subst hvs
    obtain ⟨cap, d, zs, hcap, hzl, hres⟩ := run_append_grow (ats := #[st, xt]) (ty := ty) rfl hu hx hxd hi hiz hz hzs hb0 hb (hlen w) hfit hneed hrun hnew
    have g2 := hg1.trans (Good.drew hg1.rel d)
    have g3 := g2.trans (Good.add g2.rel o (.cells (old' ++ new' ++ zs).toArray e) ⟨w.heap.size, 0, (old' ++ new' ++ zs).length, undef⟩ rfl (hO _ _ zs (Pi.le_set (g2.rel.next_none (Nat.le_refl _)))))
    rw [← hh] at g3
    refine ⟨_, .slice (some ⟨w.heap.size, 0, none⟩) (sLen + n) cap, _, _, ?_, .inl rfl, ?_, g3⟩
    · rw [he]
      simp only [builtin, Sem.run_bind, hres, Result.andThen_ok, Sem.run_pure]
    · rw [hrr]
      have e1 : (old' ++ new' ++ zs).length = cap * z := by
        have h1 := hold.length
        have h2 := hrel.length
        simp only [List.length_append, hzl, ← h1, ← h2, hol, hnz]
        rw [← Nat.add_mul, ← Nat.add_mul]
        congr 1; omega
      have := VRel.slu (π := π.set h1.next ⟨w.heap.size, 0, (old' ++ new' ++ zs).length, undef⟩) (b := h1.next) (o := 0) (n := sLen + n) (c := cap) (z := z) (i := ⟨w.heap.size, 0, (old' ++ new' ++ zs).length, undef⟩) (Pi.set_same _ _ _) hcap (by simp only [e1]; omega)
      exact this

theorem appNew_ne {h : Heap} {e : TypeId} {z n : Nat} {cs : List AV} {frz : Nat} {r : AV} {h' : Heap} (hf : appNew h e z n cs frz = .ok r h') :
    n ≤ 1000000 ∧ cs.length ≤ 65536 ∧ r = .sl h.next 0 n (.gr z) ∧ h' = addObj h (rowObj e cs true frz) := by
  obtain ⟨h1, hf⟩ := cond_ne (no := Res.no) hf (by simp)
  obtain ⟨h2, hf⟩ := cond_ne (no := Res.no) hf (by simp)
  injection hf with h3 h4
  exact ⟨Nat.le_of_ble_eq_true h1, Nat.le_of_ble_eq_true h2, h3.symm, h4.symm⟩

theorem row_grow {π π' : Pi} {old new : List AV} {old' new' : List Value} (ho : VRels π old old') (hn : VRels π new new') (hle : π.le π') (hs : (old ++ new).length ≤ 65536) (elem : TypeId) (frz rr : Nat) (rest : List Value) :
    ORel P π' ⟨rr, 0, (old' ++ new' ++ rest).length, undef⟩ (rowObj elem (old ++ new) true frz) (.cells (old' ++ new' ++ rest).toArray elem) := by
  have hl := (VRels.append hn ho).length
  refine row_any (by simp) hs (by simp only [Nat.zero_add, List.size_toArray, List.length_append] at *; omega) (fun k x hx => ?_) (fun k _ h1 h2 => absurd h2 (by simp)) (fun _ => .inl rfl)
  obtain ⟨y, hy, hr⟩ := (VRels.append hn ho).get hx
  refine ⟨y, ?_, hr.mono hle⟩
  simp only [Nat.zero_add, List.getElem?_toArray]
  rw [List.getElem?_append_left (by have := (List.getElem?_eq_some_iff.mp hy).1; omega)]
  exact hy

end
end Go.Eng
