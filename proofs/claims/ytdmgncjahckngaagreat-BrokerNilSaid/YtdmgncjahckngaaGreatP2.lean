import Derived.Test.YtdmgncjahckngaaGreatP1
import Derived.Laws.Sem
/-! Soundness, 2: what the abstract values, cells and heaps stand for. -/
namespace Go.Eng
set_option linter.all false

theorem cells_one {v : Value} (h : v.oneCell' = true) : v.cells.toList = [v] := by
  cases v <;> first | rfl | (cases h; done)

/-- Where a block lies: its number, from which cell on, how many cells it has. -/
structure Info where
  r : Nat
  base : Nat
  ncells : Nat
  v : Value
abbrev Pi := Nat → Option Info
def Pi.le (π π' : Pi) : Prop := ∀ b i, π b = some i → π' b = some i
theorem Pi.le_refl (π : Pi) : π.le π := fun _ _ h => h
theorem Pi.le_trans {a b c : Pi} (h : a.le b) (h' : b.le c) : a.le c := fun _ _ e => h' _ _ (h _ _ e)

mutual
inductive VRel (π : Pi) : AV → Value → Prop
  | any (v : Value) : VRel π .any v
  | bool (b : Bool) : VRel π (.bool b) (.bool b)
  | int (k : IntKind) (n : Int) : VRel π (.int k n) (.int k n)
  | str (s : ByteArray) : VRel π (.str (s.data.toList.map UInt8.toNat)) (.string s)
  | nilp : VRel π .nilp (.pointer none)
  | ptr {b o : Nat} {i : Info} : π b = some i → VRel π (.ptr b o) (.pointer (some ⟨i.r, i.base + o, none⟩))
  | nils : VRel π .nils (.slice none 0 0)
  | slx {b o n c : Nat} {i : Info} : π b = some i → VRel π (.sl b o n (.ex c)) (.slice (some ⟨i.r, i.base + o, none⟩) n c)
  | slu {b o n c z : Nat} {i : Info} : π b = some i → n ≤ c → i.base + o + c * z ≤ i.ncells → VRel π (.sl b o n (.gr z)) (.slice (some ⟨i.r, i.base + o, none⟩) n c)
  | emp {b off c z : Nat} {i : Info} : π b = some i → i.base ≤ off → off + c * z ≤ i.ncells → VRel π (.emp b z) (.slice (some ⟨i.r, off, none⟩) 0 c)
  | nilm : VRel π .nilm (.map none)
  | map {b : Nat} {i : Info} : π b = some i → VRel π (.map b) (.map (some i.r))
  | nilf : VRel π .nilf .nilFunc
  | fn {f : Fn} {a c : List AV} {a' c' : List Value} : VRels π a a' → VRels π c c' → VRel π (.fn f a c) (.func f ⟨a'⟩ ⟨c'⟩)
  | yld {b : Nat} {i : Info} : π b = some i → VRel π (.yld b) (.func (.yield i.r) #[] #[])
  | nili : VRel π .nili .nilIface
  | iface {t : TypeId} {v : AV} {v' : Value} : VRel π v v' → VRel π (.iface t v) (.iface t v')
  | agg {l : List AV} {l' : List Value} : VRels π l l' → VRel π (.agg l) (.agg ⟨l'⟩)
  | tup {l : List AV} {l' : List Value} : VRels π l l' → VRel π (.tup l) (.tuple ⟨l'⟩)
  | sym {b : Nat} {t : Option IntKind} {i : Info} : π b = some i → i.v.oneCell' = true → (∀ k, t = some k → ∃ n, i.v = .int k n) → VRel π (.sym b t) i.v
inductive VRels (π : Pi) : List AV → List Value → Prop
  | nil : VRels π [] []
  | cons {v : AV} {v' : Value} {l : List AV} {l' : List Value} : VRel π v v' → VRels π l l' → VRels π (v :: l) (v' :: l')
end

theorem VRel.undef (π : Pi) : VRel π .undef undef := .tup .nil

mutual
theorem VRel.mono {π π' : Pi} (h : π.le π') : ∀ {a : AV} {v : Value}, VRel π a v → VRel π' a v
  | _, _, .any v => .any v
  | _, _, .bool b => .bool b
  | _, _, .int k n => .int k n
  | _, _, .str s => .str s
  | _, _, .nilp => .nilp
  | _, _, .ptr e => .ptr (h _ _ e)
  | _, _, .nils => .nils
  | _, _, .slx e => .slx (h _ _ e)
  | _, _, .slu e a b => .slu (h _ _ e) a b
  | _, _, .emp e a b => .emp (h _ _ e) a b
  | _, _, .nilm => .nilm
  | _, _, .map e => .map (h _ _ e)
  | _, _, .nilf => .nilf
  | _, _, .fn a c => .fn (VRels.mono h a) (VRels.mono h c)
  | _, _, .yld e => .yld (h _ _ e)
  | _, _, .nili => .nili
  | _, _, .iface v => .iface (VRel.mono h v)
  | _, _, .agg l => .agg (VRels.mono h l)
  | _, _, .tup l => .tup (VRels.mono h l)
  | _, _, .sym e a b => .sym (h _ _ e) a b
theorem VRels.mono {π π' : Pi} (h : π.le π') : ∀ {a : List AV} {v : List Value}, VRels π a v → VRels π' a v
  | _, _, .nil => .nil
  | _, _, .cons a b => .cons (VRel.mono h a) (VRels.mono h b)
end

theorem VRels.length {π : Pi} : ∀ {a : List AV} {v : List Value}, VRels π a v → a.length = v.length
  | _, _, .nil => rfl
  | _, _, .cons _ b => by simp [VRels.length b]
theorem VRels.append {π : Pi} {c : List AV} {d : List Value} (h' : VRels π c d) : ∀ {a : List AV} {v : List Value}, VRels π a v → VRels π (a ++ c) (v ++ d)
  | _, _, .nil => h'
  | _, _, .cons a b => .cons a (VRels.append h' b)
theorem VRels.get {π : Pi} : ∀ {a : List AV} {v : List Value}, VRels π a v → ∀ {i : Nat} {x : AV}, a[i]? = some x → ∃ y, v[i]? = some y ∧ VRel π x y
  | _, _, .nil, i, x, e => by simp at e
  | _, _, .cons h _, 0, x, e => by simp at e; subst e; exact ⟨_, rfl, h⟩
  | _, _, .cons _ b, i + 1, x, e => by simpa using VRels.get b (i := i) (by simpa using e)
theorem VRels.getV {π : Pi} : ∀ {a : List AV} {v : List Value}, VRels π a v → ∀ {i : Nat} {y : Value}, v[i]? = some y → ∃ x, a[i]? = some x ∧ VRel π x y
  | _, _, .nil, i, x, e => by simp at e
  | _, _, .cons h _, 0, x, e => by simp at e; subst e; exact ⟨_, rfl, h⟩
  | _, _, .cons _ b, i + 1, x, e => by simpa using VRels.getV b (i := i) (by simpa using e)
theorem VRels.drop {π : Pi} : ∀ {a : List AV} {v : List Value}, VRels π a v → ∀ n, VRels π (a.drop n) (v.drop n)
  | _, _, .nil, n => by simpa using VRels.nil
  | _, _, .cons h b, 0 => .cons h b
  | _, _, .cons _ b, n + 1 => by simpa using VRels.drop b n
theorem VRels.take {π : Pi} : ∀ {a : List AV} {v : List Value}, VRels π a v → ∀ n, VRels π (a.take n) (v.take n)
  | _, _, .nil, n => by simpa using VRels.nil
  | _, _, .cons _ _, 0 => by simpa using VRels.nil
  | _, _, .cons h b, n + 1 => by simpa using VRels.cons h (VRels.take b n)
theorem VRels.of_get {π : Pi} : ∀ {a : List AV} {v : List Value}, a.length = v.length → (∀ (i : Nat) x y, a[i]? = some x → v[i]? = some y → VRel π x y) → VRels π a v
  | [], [], _, _ => .nil
  | x :: a, y :: v, hl, h => .cons (h 0 x y rfl rfl) (VRels.of_get (by simpa using hl) fun i x y h1 h2 => h (i + 1) x y (by simpa using h1) (by simpa using h2))
  | [], _ :: _, hl, _ => by simp at hl
  | _ :: _, [], hl, _ => by simp at hl

mutual
theorem ofV_rel (π : Pi) : ∀ v : Value, VRel π (ofV v) v
  | .bool b => by simp only [ofV]; exact .bool b
  | .int k n => by simp only [ofV]; exact .int k n
  | .string s => by simp only [ofV]; exact .str s
  | .pointer none => by simp only [ofV]; exact .nilp
  | .pointer (some _) => by simp only [ofV]; exact .any _
  | .slice none 0 0 => by simp only [ofV]; exact .nils
  | .slice none (n + 1) c => by simp only [ofV]; exact .any _
  | .slice none 0 (c + 1) => by simp only [ofV]; exact .any _
  | .slice (some _) _ _ => by simp only [ofV]; exact .any _
  | .map none => by simp only [ofV]; exact .nilm
  | .map (some _) => by simp only [ofV]; exact .any _
  | .nilFunc => by simp only [ofV]; exact .nilf
  | .func fn ⟨[]⟩ ⟨[]⟩ => by simp only [ofV]; exact .fn .nil .nil
  | .func fn ⟨_ :: _⟩ _ => by simp only [ofV]; exact .any _
  | .func fn ⟨[]⟩ ⟨_ :: _⟩ => by simp only [ofV]; exact .any _
  | .nilIface => by simp only [ofV]; exact .nili
  | .iface t v => by simp only [ofV]; exact .iface (ofV_rel π v)
  | .agg ⟨l⟩ => by simp only [ofV]; exact .agg (ofVL_rel π l)
  | .tuple ⟨l⟩ => by simp only [ofV]; exact .tup (ofVL_rel π l)
  | .float .. => by simp only [ofV]; exact .any _
  | .complex .. => by simp only [ofV]; exact .any _
  | .chan .. => by simp only [ofV]; exact .any _
theorem ofVL_rel (π : Pi) : ∀ l : List Value, VRels π (ofVL l) l
  | [] => by simp only [ofVL]; exact .nil
  | v :: l => by simp only [ofVL]; exact .cons (ofV_rel π v) (ofVL_rel π l)
end

/-- The cells of a value. -/
theorem VRel.cells {π : Pi} {a : AV} {v : Value} (h : VRel π a v) (hp : a.cells.all plainAV = true) : VRels π a.cells v.cells.toList := by
  cases h with
  | any v => simp [AV.cells, plainAV] at hp
  | tup l => simp [AV.cells, plainAV] at hp
  | agg l => exact l
  | bool b => exact .cons (.bool b) .nil
  | int k n => exact .cons (.int k n) .nil
  | str s => exact .cons (.str s) .nil
  | nilp => exact .cons .nilp .nil
  | ptr e => exact .cons (.ptr e) .nil
  | nils => exact .cons .nils .nil
  | slx e => exact .cons (.slx e) .nil
  | slu e a b => exact .cons (.slu e a b) .nil
  | emp e a b => exact .cons (.emp e a b) .nil
  | nilm => exact .cons .nilm .nil
  | map e => exact .cons (.map e) .nil
  | nilf => exact .cons .nilf .nil
  | fn a c => exact .cons (.fn a c) .nil
  | yld e => exact .cons (.yld e) .nil
  | nili => exact .cons .nili .nil
  | iface v => exact .cons (.iface v) .nil
  | sym e a b => rw [cells_one a]; exact .cons (.sym e a b) .nil

/-- The temporaries. -/
def TRel (π : Pi) (ts : Env) (tmps : Array Value) : Prop := ∀ t, t < 255 → VRel π (get2 ts (pathOf t)) (tmps.getD t undef)
theorem TRel.mono {π π' : Pi} (h : π.le π') {ts : Env} {tmps : Array Value} (hr : TRel π ts tmps) : TRel π' ts tmps := fun t ht => (hr t ht).mono h
theorem TRel.set {π : Pi} {ts : Env} {tmps : Array Value} (hr : TRel π ts tmps) {t : Nat} (ht : t < 255) (hs : t < tmps.size) {a : AV} {v : Value} (hv : VRel π a v) :
    TRel π (set2 ts (pathOf t) a) (tmps.setIfInBounds t v) := by
  intro u hu
  rw [env_get_set _ (by omega) (by omega)]
  by_cases e : t = u
  · subst e; simpa [hs] using hv
  · rw [if_neg e]
    have := hr u hu
    simpa [Array.getElem?_setIfInBounds_ne e] using this
theorem TRel.set_defer {π : Pi} {ts : Env} {tmps : Array Value} (hr : TRel π ts tmps) (a : AV) : TRel π (set2 ts deferPath a) tmps := by
  intro u hu
  show VRel π (get2 (set2 ts (pathOf 255) a) (pathOf u)) _
  rw [env_get_set _ (by omega) (by omega), if_neg (by omega)]
  exact hr u hu

/-- Entries of a map. -/
inductive ERel (π : Pi) : List (AV × AV × Nat) → List MapEntry → Prop
  | nil : ERel π [] []
  | cons {k v : AV} {b : Nat} {e : MapEntry} {l : List (AV × AV × Nat)} {l' : List MapEntry} : VRel π k e.key → VRel π v e.val → e.born = b → ERel π l l' → ERel π ((k, v, b) :: l) (e :: l')
theorem ERel.mono {π π' : Pi} (h : π.le π') : ∀ {l : List (AV × AV × Nat)} {l' : List MapEntry}, ERel π l l' → ERel π' l l'
  | _, _, .nil => .nil
  | _, _, .cons a b c d => .cons (a.mono h) (b.mono h) c (ERel.mono h d)

/-- What an object of the abstract heap stands for. -/
inductive ORel (P : Program) (π : Pi) (i : Info) : AObj → Obj → Prop
  | cells {n : Nat} {t : Cells} {elem : Nat} {grown : Bool} {frz : Nat} {c : Array Value} {lo hi : Nat} :
      i.ncells = c.size → (grown = false → c.size = n ∧ i.base = 0) → i.base + n ≤ c.size → n ≤ t.room →
      (∀ k, k < n → ∃ v, c[i.base + k]? = some v ∧ VRel π (t.get k) v) → (∀ k, k < c.size → lo ≤ k → k < hi → k < i.base + frz % 1048576) → (frz < 1048576 → lo = hi ∨ (lo < hi ∧ lo < c.size)) →
      ORel P π i (.cells n t elem grown frz) (.cells c elem (lo, hi))
  | map {es : List (AV × AV × Nat)} {es' : List MapEntry} {clock : Nat} : ERel π es es' → ORel P π i (.map es clock) (.map ⟨es'⟩ clock)
  | iter0 {since : Nat} {seen : List Nat} {stepped : Nat} : i.base = 0 → ORel P π i (.iter none since seen stepped) (.mapIter none since ⟨seen⟩ stepped)
  | iter {m since : Nat} {seen : List Nat} {stepped : Nat} {j : Info} : i.base = 0 → π m = some j → ORel P π i (.iter (some m) since seen stepped) (.mapIter (some j.r) since ⟨seen⟩ stepped)
  | siter {s : ByteArray} {pos : Nat} : i.base = 0 → ORel P π i (.siter (s.data.toList.map UInt8.toNat) pos) (.stringIter s pos)
  | loop {state : LoopState} {pending : Option Code} {fn : FuncId} {ts : Env} {tmps : Array Value} {params : List Tmp} {assign body : Code} {defers : Nat} :
      TRel π ts tmps → (∀ f, P.funcs[fn]? = some f → f.ntmps ≤ tmps.size) → ORel P π i (.loop state pending fn ts params assign body) (.loop { state, pending, fn, tmps, params := ⟨params⟩, assign, body, defers })

theorem ORel.mono {P : Program} {π π' : Pi} (h : π.le π') {i : Info} {o : AObj} {b : Obj} (hr : ORel P π i o b) : ORel P π' i o b := by
  cases hr with
  | cells a c d e f g g2 => exact .cells a c d e (fun k hk => let ⟨v, h1, h2⟩ := f k hk; ⟨v, h1, h2.mono h⟩) g g2
  | map a => exact .map (a.mono h)
  | iter0 a => exact .iter0 a
  | iter a b => exact .iter a (h _ _ b)
  | siter a => exact .siter a
  | loop a b => exact .loop (a.mono h) b

/-- The abstract heap stands for a part of the world's. -/
structure Rel (P : Program) (π : Pi) (h : Heap) (w : World) : Prop where
  live : ∀ b o, HT.get h.t b = some o → ∃ i obj, π b = some i ∧ w.heap[i.r]? = some obj ∧ ORel P π i o obj
  inj : ∀ b b' o o' i i', HT.get h.t b = some o → HT.get h.t b' = some o' → π b = some i → π b' = some i' → i.r = i'.r → b = b'
  fresh : ∀ b i, π b = some i → b < h.next ∧ i.r < w.heap.size

/-- A block that stands for a live one. -/
def Taken (π : Pi) (h : Heap) (r : Nat) : Prop := ∃ b o i, HT.get h.t b = some o ∧ π b = some i ∧ i.r = r

/-- From one state to another: what the abstract heap does not know stays as it was. -/
structure Good (P : Program) (π : Pi) (h : Heap) (w : World) (π' : Pi) (h' : Heap) (w' : World) : Prop where
  le : π.le π'
  rel : Rel P π' h' w'
  newIds : ∀ b i, π' b = some i → π b = some i ∨ (π b = none ∧ h.next ≤ b)
  next : h.next ≤ h'.next
  size : w.heap.size ≤ w'.heap.size
  frame : ∀ r, r < w.heap.size → ¬ Taken π h r → w'.heap[r]? = w.heap[r]?
  taken : ∀ r, Taken π' h' r → Taken π h r ∨ w.heap.size ≤ r
  os : w'.os = w.os
  output : w'.output = w.output
  tape : w'.tape = w.tape

theorem Good.refl {P : Program} {π : Pi} {h : Heap} {w : World} (hr : Rel P π h w) : Good P π h w π h w :=
  ⟨Pi.le_refl π, hr, fun _ _ e => .inl e, Nat.le_refl _, Nat.le_refl _, fun _ _ _ => rfl, fun _ e => .inl e, rfl, rfl, rfl⟩

theorem Good.trans {P : Program} {π π1 π2 : Pi} {h h1 h2 : Heap} {w w1 w2 : World} (a : Good P π h w π1 h1 w1) (b : Good P π1 h1 w1 π2 h2 w2) : Good P π h w π2 h2 w2 where
  le := Pi.le_trans a.le b.le
  rel := b.rel
  newIds := fun c i e => by
    rcases b.newIds c i e with e1 | ⟨e1, e2⟩
    · exact a.newIds c i e1
    · right
      refine ⟨?_, Nat.le_trans a.next e2⟩
      cases hc : π c with
      | none => rfl
      | some j => rw [a.le _ _ hc] at e1; cases e1
  next := Nat.le_trans a.next b.next
  size := Nat.le_trans a.size b.size
  frame := fun r hr hn => by
    rw [b.frame r (Nat.lt_of_lt_of_le hr a.size) (fun ht => by
      rcases a.taken r ht with h' | h'
      · exact hn h'
      · omega), a.frame r hr hn]
  taken := fun r ht => by
    rcases b.taken r ht with h' | h'
    · exact a.taken r h'
    · exact .inr (Nat.le_trans a.size h')
  os := b.os.trans a.os
  output := b.output.trans a.output
  tape := b.tape.trans a.tape

/-- Draws alone. -/
theorem Good.drew {P : Program} {π : Pi} {h : Heap} {w : World} (hr : Rel P π h w) (n : Nat) : Good P π h w π h { w with drawn := n } :=
  ⟨Pi.le_refl π, ⟨hr.live, hr.inj, hr.fresh⟩, fun _ _ e => .inl e, Nat.le_refl _, Nat.le_refl _, fun _ _ _ => rfl, fun _ e => .inl e, rfl, rfl, rfl⟩
theorem Rel.drew {P : Program} {π : Pi} {h : Heap} {w : World} (hr : Rel P π h w) (n : Nat) : Rel P π h { w with drawn := n } := ⟨hr.live, hr.inj, hr.fresh⟩

def Pi.set (π : Pi) (b : Nat) (i : Info) : Pi := fun c => if c = b then some i else π c
theorem Pi.le_set {π : Pi} {b : Nat} {i : Info} (h : π b = none) : π.le (π.set b i) := fun c j e => by
  unfold Pi.set
  by_cases hc : c = b
  · subst hc; rw [h] at e; cases e
  · rw [if_neg hc]; exact e
theorem Pi.set_same (π : Pi) (b : Nat) (i : Info) : π.set b i b = some i := by simp [Pi.set]
theorem Pi.set_ne (π : Pi) {b c : Nat} (i : Info) (h : c ≠ b) : π.set b i c = π c := by simp [Pi.set, h]

theorem Rel.next_none {P : Program} {π : Pi} {h : Heap} {w : World} (hr : Rel P π h w) {b : Nat} (hb : h.next ≤ b) : π b = none := by
  cases e : π b with
  | none => rfl
  | some i => exact absurd (hr.fresh b i e).1 (by omega)
theorem Rel.lt_next {P : Program} {π : Pi} {h : Heap} {w : World} (hr : Rel P π h w) {b : Nat} {o : AObj} (hb : HT.get h.t b = some o) : b < h.next := by
  obtain ⟨i, _, e, _⟩ := hr.live b o hb
  exact (hr.fresh b i e).1

/-- A new block, of which the heap knows under its next number. -/
theorem Good.add {P : Program} {π : Pi} {h : Heap} {w : World} (hr : Rel P π h w) (o : AObj) (obj : Obj) (i : Info) (hi : i.r = w.heap.size)
    (ho : ORel P (π.set h.next i) i o obj) : Good P π h w (π.set h.next i) (addObj h o) { w with heap := w.heap.push obj } := by
  have hn : π h.next = none := hr.next_none (Nat.le_refl _)
  have hle := Pi.le_set (i := i) hn
  have old : ∀ r, r < w.heap.size → (w.heap.push obj)[r]? = w.heap[r]? := fun r h => by rw [Array.getElem?_push]; rw [if_neg (by omega)]
  have new : (w.heap.push obj)[w.heap.size]? = some obj := by simp
  have getN : ∀ b o', HT.get (addObj h o).t b = some o' → (b = h.next ∧ o' = o) ∨ (b ≠ h.next ∧ HT.get h.t b = some o') := fun b o' hb => by
    rcases HT.get_put_some hb with ⟨a, c⟩ | ⟨a, c⟩
    · left; exact ⟨a, by injection c with c; exact c.symm⟩
    · right; exact ⟨a, c⟩
  refine ⟨hle, ⟨?_, ?_, ?_⟩, ?_, Nat.le_succ _, by simp, ?_, ?_, rfl, rfl, rfl⟩
  · intro b o' hb
    rcases getN b o' hb with ⟨rfl, rfl⟩ | ⟨hb', hb⟩
    · exact ⟨i, obj, Pi.set_same _ _ _, by rw [hi]; exact new, ho⟩
    · obtain ⟨j, ob, h1, h2, h3⟩ := hr.live b o' hb
      refine ⟨j, ob, hle _ _ h1, ?_, h3.mono hle⟩
      rw [old _ (hr.fresh _ _ h1).2]; exact h2
  · intro b b' o1 o2 j j' h1 h2 e1 e2 er
    rcases getN b o1 h1 with ⟨hb, _⟩ | ⟨hb, h1⟩ <;> rcases getN b' o2 h2 with ⟨hb', _⟩ | ⟨hb', h2⟩
    · rw [hb, hb']
    · rw [hb, Pi.set_same] at e1
      rw [Pi.set_ne _ _ hb'] at e2
      injection e1 with e1
      have := (hr.fresh _ _ e2).2
      subst e1; omega
    · rw [hb', Pi.set_same] at e2
      rw [Pi.set_ne _ _ hb] at e1
      injection e2 with e2
      have := (hr.fresh _ _ e1).2
      subst e2; omega
    · rw [Pi.set_ne _ _ hb] at e1
      rw [Pi.set_ne _ _ hb'] at e2
      exact hr.inj _ _ _ _ _ _ h1 h2 e1 e2 er
  · intro b j e
    by_cases hb : b = h.next
    · subst hb
      rw [Pi.set_same] at e
      injection e with e
      exact ⟨Nat.lt_succ_self _, by subst e; simp [hi]⟩
    · rw [Pi.set_ne _ _ hb] at e
      have := hr.fresh _ _ e
      exact ⟨Nat.lt_succ_of_lt this.1, by simp; omega⟩
  · intro b j e
    by_cases hb : b = h.next
    · subst hb; exact .inr ⟨hn, Nat.le_refl _⟩
    · rw [Pi.set_ne _ _ hb] at e; exact .inl e
  · intro r hr' _; exact old r hr'
  · rintro r ⟨b, o', j, hb, e, rfl⟩
    rcases getN b o' hb with ⟨hb, _⟩ | ⟨hb', hb⟩
    · subst hb; rw [Pi.set_same] at e; injection e with e; subst e; exact .inr (by omega)
    · rw [Pi.set_ne _ _ hb'] at e; exact .inl ⟨b, o', j, hb, e, rfl⟩

/-- A new block of which the heap does not know. -/
theorem Good.push {P : Program} {π : Pi} {h : Heap} {w : World} (hr : Rel P π h w) (obj : Obj) : Good P π h w π h { w with heap := w.heap.push obj } := by
  have old : ∀ r, r < w.heap.size → (w.heap.push obj)[r]? = w.heap[r]? := fun r h => by rw [Array.getElem?_push]; rw [if_neg (by omega)]
  refine ⟨Pi.le_refl _, ⟨?_, hr.inj, ?_⟩, fun _ _ e => .inl e, Nat.le_refl _, by simp, fun r h _ => old r h, fun _ e => .inl e, rfl, rfl, rfl⟩
  · intro b o hb
    obtain ⟨j, ob, h1, h2, h3⟩ := hr.live b o hb
    exact ⟨j, ob, h1, by rw [old _ (hr.fresh _ _ h1).2]; exact h2, h3⟩
  · intro b j e
    have := hr.fresh _ _ e
    exact ⟨this.1, by simp; omega⟩

/-- A live block is given another object. -/
theorem Good.put {P : Program} {π : Pi} {h : Heap} {w : World} (hr : Rel P π h w) {b : Nat} {o0 : AObj} {i : Info} (hb : HT.get h.t b = some o0) (hi : π b = some i)
    (o : AObj) (obj : Obj) (ho : ORel P π i o obj) (hp : Array Obj) (hsz : hp.size = w.heap.size) (hat : hp[i.r]? = some obj) (hne : ∀ r, r ≠ i.r → hp[r]? = w.heap[r]?) :
    Good P π h w π (putObj h b o) { w with heap := hp } := by
  have getN : ∀ c o', HT.get (putObj h b o).t c = some o' → (c = b ∧ o' = o) ∨ (c ≠ b ∧ HT.get h.t c = some o') := fun c o' hc => by
    rcases HT.get_put_some hc with ⟨a, c⟩ | ⟨a, c⟩
    · left; exact ⟨a, by injection c with c; exact c.symm⟩
    · right; exact ⟨a, c⟩
  refine ⟨Pi.le_refl _, ⟨?_, ?_, ?_⟩, fun _ _ e => .inl e, Nat.le_refl _, by simp [hsz], ?_, ?_, rfl, rfl, rfl⟩
  · intro c o' hc
    rcases getN c o' hc with ⟨rfl, rfl⟩ | ⟨hcb, hc⟩
    · exact ⟨i, obj, hi, hat, ho⟩
    · obtain ⟨j, ob, h1, h2, h3⟩ := hr.live c o' hc
      refine ⟨j, ob, h1, ?_, h3⟩
      show hp[j.r]? = _
      rw [hne _ (fun e => hcb (hr.inj _ _ _ _ _ _ hc hb h1 hi e))]; exact h2
  · intro c c' o1 o2 j j' h1 h2 e1 e2 er
    have lv : ∀ c o', HT.get (putObj h b o).t c = some o' → ∃ o'', HT.get h.t c = some o'' := fun c o' hc => by
      rcases getN c o' hc with ⟨rfl, _⟩ | ⟨_, hc⟩
      · exact ⟨_, hb⟩
      · exact ⟨_, hc⟩
    obtain ⟨_, h1⟩ := lv _ _ h1
    obtain ⟨_, h2⟩ := lv _ _ h2
    exact hr.inj _ _ _ _ _ _ h1 h2 e1 e2 er
  · intro c j e
    have := hr.fresh _ _ e
    exact ⟨this.1, by show j.r < hp.size; rw [hsz]; exact this.2⟩
  · intro r _ hn
    exact hne r (fun e => hn ⟨b, o0, i, hb, hi, e.symm⟩)
  · rintro r ⟨c, o', j, hc, e, rfl⟩
    rcases getN c o' hc with ⟨rfl, _⟩ | ⟨_, hc⟩
    · exact .inl ⟨_, _, _, hb, e, rfl⟩
    · exact .inl ⟨_, _, _, hc, e, rfl⟩

/-- A live block is forgotten. -/
theorem Good.del {P : Program} {π : Pi} {h : Heap} {w : World} (hr : Rel P π h w) (b : Nat) : Good P π h w π (delObj h b) w := by
  have getN : ∀ c o', HT.get (delObj h b).t c = some o' → HT.get h.t c = some o' := fun c o' hc => by
    rcases HT.get_put_some hc with ⟨_, c⟩ | ⟨_, c⟩
    · cases c
    · exact c
  refine ⟨Pi.le_refl _, ⟨fun c o hc => hr.live c o (getN _ _ hc), fun _ _ _ _ _ _ h1 h2 => hr.inj _ _ _ _ _ _ (getN _ _ h1) (getN _ _ h2), hr.fresh⟩, fun _ _ e => .inl e, Nat.le_refl _, Nat.le_refl _, fun _ _ _ => rfl, ?_, rfl, rfl, rfl⟩
  rintro r ⟨c, o', j, hc, e, rfl⟩
  exact .inl ⟨c, o', j, getN _ _ hc, e, rfl⟩
theorem get_del {h : Heap} {b c : Nat} {o : AObj} (hc : HT.get (delObj h b).t c = some o) : c ≠ b := by
  rcases HT.get_put_some hc with ⟨_, c⟩ | ⟨c, _⟩
  · cases c
  · exact c

end Go.Eng
