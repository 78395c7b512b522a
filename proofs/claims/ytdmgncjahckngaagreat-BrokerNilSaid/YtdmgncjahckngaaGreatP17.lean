import Derived.Test.YtdmgncjahckngaaGreatP16
/-! Soundness, 17: append. -/
namespace Go.Eng
set_option linter.all false

section
variable {P : Program}

theorem beq_f {a b : Nat} (h : a ≠ b) : Nat.beq a b = false := by
  cases hb : Nat.beq a b with
  | false => rfl
  | true => exact absurd (beq_t hb) h

theorem putL_at {c : Array Value} {off : Nat} {l : List Value} {k : Nat} (h : off + l.length ≤ c.size) (hk : k < l.length) : (putL c off l)[off + k]? = l[k]? := by
  rw [putL_get _ _ _ _ h, if_pos ⟨by omega, by omega⟩]
  congr 1; omega
theorem putL_before {c : Array Value} {off : Nat} {l : List Value} {k : Nat} (h : off + l.length ≤ c.size) (hk : k < off) : (putL c off l)[k]? = c[k]? := by
  rw [putL_get _ _ _ _ h, if_neg (by omega)]

theorem sound_append {st xt e : TypeId} {zero : List AV} {i : TypeInfo} {xd : TypeDesc} (hu : underT P st = some (.slice e)) (hx : underT P xt = some xd) (hxd : isIntD xd = false) (hz : zeroCs P e = some zero)
    (hi : infoT P e = some i) (hb0 : 0 < i.bytes) (hb : i.bytes ≤ 1000000) (s x : Operand) :
    SoundW P (.call { callee := .builtin .append, args := #[s, x], argTypes := #[st, xt] }) (wAppend e zero.length (gOf s).fn (gOf x).fn) := by
  intro π ts tmps h w r h' callF ht hr hf oo ho
  have rs := gOf_rel ht s
  have rx := gOf_rel ht x
  unfold wAppend appendA at hf
  obtain ⟨cs, he⟩ := exec_builtin (P := P) (tmps := tmps) ho w
  simp only [List.map_toArray, List.map_cons, List.map_nil] at he
  generalize (gOf s).fn ts = as at *
  generalize (gOf x).fn ts = ax at *
  generalize evT tmps s = vs at *
  generalize evT tmps x = vx at *
  obtain ⟨j, zv, hj, hiz, _, hzl, hpl, hzs, hzr⟩ := zeroCs_eq hz
  have hij : j = i := by have := info_of hi; rw [hj] at this; injection this
  subst hij
  generalize zero.length = z at *
  obtain ⟨n, hf1, hlen⟩ := lenOf_ne (P := P) rx hf (by simp)
  clear hf
  obtain ⟨new, new', hf2, hrel, hrun, h0⟩ := firstCells_ne (P := P) hr rx (fun b z e => lenOf_emp_run rx (hlen w) b z e) hf1 (by simp)
  clear hf1
  obtain ⟨hnz, hf⟩ := cond_ne hf2 (by simp)
  clear hf2
  have hnz := beq_t hnz
  have hnl := hrel.length
  obtain ⟨fit, grow⟩ := append_ends hu hx hxd hj hiz hzl.symm (by rw [hzs, hzl]) hb0 hb hr hlen hrun hrel hnz he (r := r) (h' := h')
  have hnz : new.length = n * z := hnz
  have new0 : n = 0 → new' = [] := fun e => by
    have := h0 e
    rw [this] at hnl
    exact List.eq_nil_of_length_eq_zero hnl.symm
  cases rs <;> simp only at hf <;> try (cases hf; done)
  · -- nil
    by_cases e0 : n = 0
    · subst e0
      simp only [Nat.beq_refl, cond_true] at hf
      injection hf with h1 h2
      subst h1; subst h2
      exact fit none 0 0 w π rfl (Nat.le_refl _) rfl (.refl hr) .nils
    · rw [beq_f e0] at hf
      simp only [cond_false] at hf
      obtain ⟨a1, a2, a3, a4⟩ := appNew_ne hf
      refine grow none 0 0 [] [] h _ rfl (by omega) (by omega) .nil (fun _ _ => rfl) (by simp) (.refl hr) (by rw [Nat.zero_add]; exact a3) a4 (fun π' rr rest hle => ?_)
      exact row_grow .nil hrel hle (by simpa using a2) e 0 rr rest
  · -- a known capacity
    rename_i b o len c k hk
    unfold appCap at hf
    by_cases hfit : len + n ≤ c
    · have : Nat.ble (Nat.add len n) c = true := ble_t hfit
      simp only [this, cond_true] at hf
      replace hf := cond_ne hf (by simp)
      obtain ⟨hp, hf⟩ := hf
      obtain ⟨k2, h2, hp2, hk2, hke, hst, hg⟩ := store_rel (P := P) hr hrel (plain_ones hrel hp) hf (by simp)
      rw [hk] at hk2; injection hk2 with hk2; subst hk2
      simp only [forceN_eq] at hke
      injection hke with h3 h4
      subst h3; subst h4
      refine fit (some ⟨k.r, k.base + o, none⟩) c len _ π rfl hfit ?_ hg (.slx hk)
      have hst : (storeCells ⟨k.r, k.base + (o + len * z), none⟩ new').run P w = _ := hst
      show (storeCells (Addr.add ⟨k.r, k.base + o, none⟩ (len * z)) new').run P w = _
      rw [add_eq _ rfl, Nat.add_assoc]
      exact hst
    · have : Nat.ble (Nat.add len n) c = false := ble_f hfit
      simp only [this, cond_false] at hf
      obtain ⟨k2, old, old', hk2, hf3, hol, hold, hor⟩ := load_rel2 (P := P) hr hf (by simp)
      rw [hk] at hk2; injection hk2 with hk2; subst hk2
      obtain ⟨a1, a2, a3, a4⟩ := appNew_ne hf3
      exact grow (some ⟨k.r, k.base + o, none⟩) c len old old' h _ rfl hfit a1 hold (fun w2 e2 => hor w2 e2) hol (.refl hr) a3 a4 (fun π' rr rest hle => row_grow hold hrel hle a2 e 0 rr rest)
  · -- room that is not known
    rename_i b o len c z' k hk hlc hroom
    unfold appCap at hf
    replace hf := cond_ne hf (by simp)
    obtain ⟨hzz, hf⟩ := hf
    have hzz := beq_t hzz
    subst hzz
    by_cases e0 : n = 0
    · simp only [e0, Nat.beq_refl, cond_true] at hf
      injection hf with h1 h2
      subst h1; subst h2
      refine fit (some ⟨k.r, k.base + o, none⟩) c len w π rfl (by omega) (by rw [new0 e0]; rfl) (.refl hr) ?_
      rw [e0]; exact .slu hk hlc hroom
    · rw [beq_f e0] at hf
      simp only [cond_false] at hf
      replace hf := cond_ne hf (by simp)
      obtain ⟨hp, hf⟩ := hf
      replace hf := onCells_ne hf (by simp)
      obtain ⟨m, t, e', g, fz, hbo, hf⟩ := hf
      replace hf := cond_ne hf (by simp)
      obtain ⟨hg, hf⟩ := hf
      replace hf := cond_ne hf (by simp)
      obtain ⟨hee, hf⟩ := hf
      replace hf := cond_ne hf (by simp)
      obtain ⟨hfz, hf⟩ := hf
      replace hf := cond_ne hf (by simp)
      obtain ⟨hmm, hf⟩ := hf
      have hmm : o + len * z' ≤ m := Nat.le_of_ble_eq_true hmm
      have hee := beq_t hee
      have hfz : fz % 1048576 ≤ o + len * z' := Nat.le_of_ble_eq_true hfz
      subst hee; subst hg
      obtain ⟨k2, cc, lo, hi2, hk2, hw, hn, _, hle, hroomt, hcell, hfr, hmk⟩ := hr.row hbo
      rw [hk] at hk2; injection hk2 with hk2; subst hk2
      have hfitcells : len + n ≤ c → k.base + (o + len * z') + new'.length ≤ cc.size := fun hfit => by
        have : (len + n) * z' ≤ c * z' := Nat.mul_le_mul_right _ hfit
        rw [Nat.add_mul] at this
        omega
      -- what the store in place does
      have inpl : len + n ≤ c → ∃ hp' : Array Obj, (storeCells ⟨k.r, k.base + (o + len * z'), none⟩ new').run P w = .ok () { w with heap := hp' } ∧ hp'.size = w.heap.size ∧
          hp'[k.r]? = some (.cells (putL cc (k.base + (o + len * z')) new') e' (lo, hi2)) ∧ ∀ r', r' ≠ k.r → hp'[r']? = w.heap[r']? := fun hfit => by
        have := hfitcells hfit
        have := run_storeCells (P := P) new' w k.r (k.base + (o + len * z')) 0 cc e' lo hi2 hw (by omega) (fun q q1 q2 hq => by
          have := hfr q (by omega) hq.1 hq.2
          omega) (plain_ones hrel hp)
        simpa using this
      by_cases hbr : (Nat.beq o 0 && Nat.beq (Nat.mul len z') m && Nat.ble (Nat.add m new.length) t.room) = true
      · rw [hbr] at hf
        simp only [cond_true] at hf
        simp only [Bool.and_eq_true] at hbr
        obtain ⟨⟨q1, q2⟩, q3⟩ := hbr
        have q1 := beq_t q1
        have q2 : len * z' = m := beq_t q2
        have q3 : m + new.length ≤ t.room := Nat.le_of_ble_eq_true q3
        subst q1
        replace hf := cond_ne hf (by simp)
        obtain ⟨hbig, hf⟩ := hf
        have hbig : len + n ≤ 1000000 := Nat.le_of_ble_eq_true hbig
        simp only [forceN_eq] at hf
        injection hf with h1 h2
        have h2 : addObj (delObj h b) (.cells (m + new.length) (setCells t m new) e' true fz) = h' := h2
        by_cases hfit : len + n ≤ c
        · obtain ⟨hp', e1, e2, e3, e4⟩ := inpl hfit
          have hin := hfitcells hfit
          rw [Nat.zero_add, q2] at hin e1 e3
          have hle' := Pi.le_set (i := k) (hr.next_none (Nat.le_refl h.next))
          have hgood := Good.move hr hbo hk (i' := k) rfl (.cells (m + new.length) (setCells t m new) e' true fz) _ ?_ hp' e2 e3 e4
          · rw [show addObj (delObj h b) (.cells (m + new.length) (setCells t m new) e' true fz) = h' from h2] at hgood
            refine fit (some ⟨k.r, k.base + 0, none⟩) c len _ _ rfl hfit ?_ hgood ?_
            · show (storeCells (Addr.add ⟨k.r, k.base + 0, none⟩ (len * z')) new').run P w = _
              rw [add_eq _ rfl, q2]
              exact e1
            · rw [← h1]
              exact .slu (Pi.set_same _ _ _) hfit hroom
          · refine .cells (by rw [putL_size]; exact hn) (fun h => by simp at h) (by rw [putL_size]; omega) (by rw [setCells_room]; exact q3) (fun q hq => ?_) (fun q q0 => by rw [putL_size] at q0; exact hfr q q0) (fun q1 => by rw [putL_size]; exact hmk q1)
            rw [setCells_get _ _ _ _ q3 (by omega)]
            by_cases hqm : m ≤ q
            · rw [if_pos hqm]
              obtain ⟨j, rfl⟩ : ∃ j, q = m + j := ⟨q - m, by omega⟩
              rw [← Nat.add_assoc, putL_at hin (by omega)]
              have hjl : j < new.length := by omega
              obtain ⟨y, hy, hry⟩ := hrel.get (i := j) (x := new[j]) (by simp [hjl])
              refine ⟨y, hy, ?_⟩
              rw [show m + j - m = j by omega, List.getElem?_eq_getElem hjl]
              exact hry.mono hle'
            · rw [if_neg hqm, putL_before hin (by omega)]
              obtain ⟨v, v1, v2⟩ := hcell q (by omega)
              exact ⟨v, v1, v2.mono hle'⟩
        · obtain ⟨old, hol⟩ := cellsFrom_ok (none : Option (List AV)) m t (len * z') 0 some (by omega)
          have hl : loadN (none : Option (List AV)) h b 0 (len * z') some = some old := by
            unfold loadN
            rw [hbo, onCells_some]
            exact hol
          obtain ⟨l2, hl2, hlen2, hcf⟩ := cellsFrom_ne _ _ _ hol (by simp)
          injection hl2 with hl2
          subst hl2
          obtain ⟨k2, old2, old', hk2, hs2, _, hold, hor⟩ := load_rel2 (P := P) hr hl (by simp)
          rw [hk] at hk2; injection hk2 with hk2; subst hk2
          injection hs2 with hs2
          subst hs2
          have hol' := hold.length
          refine grow (some ⟨k.r, k.base + 0, none⟩) c len old2 old' (delObj h b) _ rfl hfit hbig hold (fun w2 e2 => hor w2 e2) hlen2 (Good.del hr b) h1.symm h2.symm (fun π' rr rest hle => ?_)
          refine .cells (by simp) (fun h => by simp at h) (by simp only [Nat.zero_add, List.size_toArray, List.length_append]; omega) (by rw [setCells_room]; exact q3) (fun q hq => ?_) (fun q _ _ q1 => absurd q1 (by simp)) (fun _ => .inl rfl)
          rw [setCells_get _ _ _ _ q3 (by omega)]
          simp only [Nat.zero_add, List.getElem?_toArray]
          by_cases hqm : m ≤ q
          · rw [if_pos hqm]
            obtain ⟨j, rfl⟩ : ∃ j, q = m + j := ⟨q - m, by omega⟩
            have hjl : j < new.length := by omega
            obtain ⟨y, hy, hry⟩ := hrel.get (i := j) (x := new[j]) (by simp [hjl])
            refine ⟨y, ?_, ?_⟩
            · rw [List.getElem?_append_left (by simp only [List.length_append]; omega), List.getElem?_append_right (by omega), show m + j - old'.length = j by omega]
              exact hy
            · rw [show m + j - m = j by omega, List.getElem?_eq_getElem hjl]
              exact hry.mono hle
          · rw [if_neg hqm]
            have hx2 := (hcf q (by omega)).2
            rw [Nat.zero_add] at hx2
            obtain ⟨y, hy, hry⟩ := hold.get hx2
            refine ⟨y, ?_, hry.mono hle⟩
            rw [List.getElem?_append_left (by simp only [List.length_append]; omega), List.getElem?_append_left (by omega)]
            exact hy
      · have hbr : (Nat.beq o 0 && Nat.beq (Nat.mul len z') m && Nat.ble (Nat.add m new.length) t.room) = false := Bool.eq_false_iff.mpr hbr
        rw [hbr] at hf
        simp only [cond_false] at hf
        have hlo := hf
        unfold loadN at hlo
        rw [hbo, onCells_some] at hlo
        obtain ⟨l2, hl2, hlen2, hcf⟩ := cellsFrom_ne _ _ _ hlo (by simp)
        obtain ⟨a1, a2, a3, a4⟩ := appNew_ne hl2
        have hol : l2.length = len * z' := hlen2
        by_cases hfit : len + n ≤ c
        · obtain ⟨hp', e1, e2, e3, e4⟩ := inpl hfit
          have hin := hfitcells hfit
          have hle' := Pi.le_set (i := (⟨k.r, k.base + o, k.ncells, undef⟩ : Info)) (hr.next_none (Nat.le_refl h.next))
          have hgood := Good.move hr hbo hk (i' := ⟨k.r, k.base + o, k.ncells, undef⟩) rfl (rowObj e' (l2 ++ new) true (cond (Nat.blt fz 1048576) (Nat.sub fz o) (Nat.add 1048576 (Nat.sub (Nat.mod fz 1048576) o)))) _ ?_ hp' e2 e3 e4
          · rw [show addObj (delObj h b) (rowObj e' (l2 ++ new) true (cond (Nat.blt fz 1048576) (Nat.sub fz o) (Nat.add 1048576 (Nat.sub (Nat.mod fz 1048576) o)))) = h' from a4.symm] at hgood
            refine fit (some ⟨k.r, k.base + o, none⟩) c len _ _ rfl hfit ?_ hgood ?_
            · show (storeCells (Addr.add ⟨k.r, k.base + o, none⟩ (len * z')) new').run P w = _
              rw [add_eq _ rfl, Nat.add_assoc]
              exact e1
            · rw [a3]
              exact VRel.slu (o := 0) (Pi.set_same _ _ _) hfit hroom
          · refine row_any (by rw [putL_size]; exact hn) a2 (by rw [putL_size, List.length_append, hol]; show k.base + o + _ ≤ _; omega) (fun q x hx => ?_) (fun q q0 q1 q2 => ?_) (fun q1 => ?_)
            · show ∃ v, (putL cc (k.base + (o + len * z')) new')[k.base + o + q]? = some v ∧ _
              by_cases hq : q < l2.length
              · rw [List.getElem?_append_left hq] at hx
                obtain ⟨hlt, hx2⟩ := hcf q (by omega)
                rw [hx] at hx2; injection hx2 with hx2; subst hx2
                rw [putL_before hin (by omega), Nat.add_assoc]
                obtain ⟨v, v1, v2⟩ := hcell (o + q) hlt
                exact ⟨v, v1, v2.mono hle'⟩
              · rw [List.getElem?_append_right (by omega)] at hx
                obtain ⟨y, hy, hry⟩ := hrel.get hx
                refine ⟨y, ?_, hry.mono hle'⟩
                have hyl := (List.getElem?_eq_some_iff.mp hy).1
                rw [show k.base + o + q = k.base + (o + len * z') + (q - l2.length) by omega, putL_at hin (by omega)]
                exact hy
            · rw [putL_size] at q0
              have := hfr q q0 q1 q2
              show q < k.base + o + (cond (Nat.blt fz 1048576) (Nat.sub fz o) (Nat.add 1048576 (Nat.sub (Nat.mod fz 1048576) o))) % 1048576
              by_cases hB : fz < 1048576
              · rw [blt_t hB]
                simp only [cond_true]
                have e1 : Nat.sub fz o = fz - o := rfl
                rw [e1]
                omega
              · rw [blt_f hB]
                simp only [cond_false]
                have e1 : Nat.add 1048576 (Nat.sub (Nat.mod fz 1048576) o) = 1048576 + (fz % 1048576 - o) := rfl
                rw [e1]
                omega
            · rw [putL_size]
              refine hmk ?_
              by_cases hB : fz < 1048576
              · exact hB
              · rw [blt_f hB] at q1
                simp only [cond_false] at q1
                have e1 : Nat.add 1048576 (Nat.sub (Nat.mod fz 1048576) o) = 1048576 + (fz % 1048576 - o) := rfl
                rw [e1] at q1
                omega
        · obtain ⟨k2, old, old', hk2, hs2, hlen3, hold, hor⟩ := load_rel2 (P := P) hr hf (by simp)
          rw [hk] at hk2; injection hk2 with hk2; subst hk2
          obtain ⟨a1, a2, a3, a4⟩ := appNew_ne hs2
          exact grow (some ⟨k.r, k.base + o, none⟩) c len old old' (delObj h b) _ rfl hfit a1 hold (fun w2 e2 => hor w2 e2) hlen3 (Good.del hr b) a3 a4 (fun π' rr rest hle => row_grow hold hrel hle a2 e' _ rr rest)
  · -- an empty one
    rename_i b off c z' k hk hbase hroom
    obtain ⟨hzz, hf⟩ := cond_ne hf (by simp)
    have hzz := beq_t hzz
    subst hzz
    by_cases e0 : n = 0
    · simp only [e0, Nat.beq_refl, cond_true] at hf
      injection hf with h1 h2
      subst h1; subst h2
      refine fit (some ⟨k.r, off, none⟩) c 0 w π rfl (by omega) (by rw [new0 e0]; rfl) (.refl hr) ?_
      rw [e0]; exact .emp hk hbase hroom
    · rw [beq_f e0] at hf
      simp only [cond_false] at hf
      replace hf := onCells_ne hf (by simp)
      obtain ⟨m, t, e', g, fz, hbo, hf⟩ := hf
      replace hf := cond_ne hf (by simp)
      obtain ⟨hfz, hf⟩ := hf
      replace hf := cond_ne hf (by simp)
      obtain ⟨hee, hf⟩ := hf
      replace hf := cond_ne hf (by simp)
      obtain ⟨hp, hf⟩ := hf
      have hee := beq_t hee
      have hfz := beq_t hfz
      subst hee; subst hfz
      obtain ⟨a1, a2, a3, a4⟩ := appNew_ne hf
      obtain ⟨k2, cc, lo, hi2, hk2, hw, hn, _, hle, hroomt, hcell, hfr, hmk⟩ := hr.row hbo
      rw [hk] at hk2; injection hk2 with hk2; subst hk2
      by_cases hfit : 0 + n ≤ c
      · have hin : off + new'.length ≤ cc.size := by
          have : (0 + n) * z' ≤ c * z' := Nat.mul_le_mul_right _ hfit
          rw [Nat.zero_add] at this
          omega
        obtain ⟨hp', e1, e2, e3, e4⟩ := run_storeCells (P := P) new' w k.r off 0 cc e' lo hi2 hw (by omega) (fun q q1 q2 hq => by
          have := hfr q (by omega) hq.1 hq.2
          omega) (plain_ones hrel hp)
        rw [Nat.add_zero] at e3
        have hle' := Pi.le_set (i := (⟨k.r, off, k.ncells, undef⟩ : Info)) (hr.next_none (Nat.le_refl h.next))
        have hgood := Good.move hr hbo hk (i' := ⟨k.r, off, k.ncells, undef⟩) rfl (rowObj e' new true 0) _ ?_ hp' e2 e3 e4
        · rw [show addObj (delObj h b) (rowObj e' new true 0) = h' from a4.symm] at hgood
          refine fit (some ⟨k.r, off, none⟩) c 0 _ _ rfl hfit ?_ hgood ?_
          · show (storeCells (Addr.add ⟨k.r, off, none⟩ (0 * z')) new').run P w = _
            rw [add_eq _ rfl, Nat.zero_mul]
            exact e1
          · rw [a3, Nat.zero_add]
            exact VRel.slu (o := 0) (Pi.set_same _ _ _) (by omega) hroom
        · refine row_any (by rw [putL_size]; exact hn) a2 (by rw [putL_size]; show off + _ ≤ _; omega) (fun q x hx => ?_) (fun q q0 q1 q2 => ?_) (fun q1 => ?_)
          · obtain ⟨y, hy, hry⟩ := hrel.get hx
            have hyl := (List.getElem?_eq_some_iff.mp hy).1
            exact ⟨y, by rw [show (⟨k.r, off, k.ncells, undef⟩ : Info).base = off from rfl, putL_at hin hyl]; exact hy, hry.mono hle'⟩
          · rw [putL_size] at q0
            have := hfr q q0 q1 q2
            show q < off + 0
            omega
          · rw [putL_size]
            exact hmk (by omega)
      · refine grow (some ⟨k.r, off, none⟩) c 0 [] [] (delObj h b) _ rfl hfit (by omega) .nil (fun _ _ => ?_) (by simp) (Good.del hr b) (by rw [Nat.zero_add]; exact a3) a4 (fun π' rr rest hle => ?_)
        · simp [Builtin.firstCells, loadCells, loadCellsFrom]
        · exact row_grow .nil hrel hle (by simpa using a2) e' 0 rr rest

end
end Go.Eng
