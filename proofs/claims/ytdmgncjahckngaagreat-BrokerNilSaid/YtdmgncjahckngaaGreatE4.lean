import Derived.Test.YtdmgncjahckngaaGreatE3
/-! The abstract machine, 4: regions, code, calls. -/
namespace Go.Eng
set_option linter.all false

/-- Where a value goes. -/
noncomputable def wOf : Option Tmp → W
  | some t => nth (.mk keep) wTab t
  | none => .mk keep
noncomputable def W.fn (w : W) : Env → AV → Env := W.rec (motive := fun _ => Env → AV → Env) (fun f => f) w
noncomputable def wr {β : Type} (d : Option Tmp) (k : (Env → AV → Env) → β) : β := W.rec (motive := fun _ => β) k (wOf d)
/-- It is a place of ours. -/
def dstOk (nt : Nat) : Option Tmp → Bool
  | some d => Nat.blt d (nat_lit 255) && Nat.blt d nt
  | none => true

/-- A guard's temporary says: wanted, or not; 'no' where that can't be told. -/
noncomputable def onGuard {β : Type} (no yes skip : β) (want : Bool) (x : AV) : β :=
  AV.rec (motive_1 := fun _ => β) (motive_2 := fun _ => PUnit) no (fun b => cond (cond b want (!want)) yes skip) skip skip (fun _ _ => skip) skip (fun _ => skip) skip (fun _ _ _ _ _ => skip) (fun _ => skip) skip (fun _ _ _ => skip) (fun _ _ => skip) (fun _ _ => skip) (fun _ _ _ _ => skip) (fun _ => skip) (fun _ _ => skip) (fun _ _ => skip) (fun _ _ => no) PUnit.unit (fun _ _ _ _ => PUnit.unit) x

section
variable (P : Program)

/-! ### Regions in the text's order -/
abbrev SFun := CallF → Env → Heap → RR
noncomputable def sMv (w : Env → AV → Env) (g : Env → AV) (_ : CallF) (ts : Env) (h : Heap) : RR := .ok (w ts (g ts)) h
noncomputable def sP (w : Env → AV → Env) (f : Env → Option AV) (_ : CallF) (ts : Env) (h : Heap) : RR := Option.rec (motive := fun _ => RR) .no (fun v => .ok (w ts v) h) (f ts)
noncomputable def sR (w : Env → AV → Env) (f : Env → Heap → Option AV) (_ : CallF) (ts : Env) (h : Heap) : RR := Option.rec (motive := fun _ => RR) .no (fun v => .ok (w ts v) h) (f ts h)
noncomputable def sF (w : Env → AV → Env) (f : Env → FR) (_ : CallF) (ts : Env) (h : Heap) : RR := FR.rec (motive := fun _ => RR) (fun o s => .ok (w ts (s.valF h.next)) (addObj h o)) .no (f ts)
noncomputable def sM (w : Env → AV → Env) (f : CallF → Env → Heap → Res) (c : CallF) (ts : Env) (h : Heap) : RR := Res.rec (motive := fun _ => RR) (fun v h => .ok (w ts v) h) .no (f c ts h)
def deferFn {β : Type} (no : β) (k : AV → β) : AV → β
  | .fn (.func g) a b => k (.fn (.func g) a b)
  | _ => no
noncomputable def sDefer (g : Env → AV) (_ : CallF) (ts : Env) (h : Heap) : RR := deferFn .no (fun v => .ok (set2 ts deferPath (.tup (v :: defersOf ts))) h) (g ts)
noncomputable def sRecover (w : Env → AV → Env) (_ : CallF) (ts : Env) (h : Heap) : RR := .ok (w ts .nili) h
noncomputable def sNo (_ : CallF) (ts : Env) (h : Heap) : RR := .no

inductive SF where
  | mk (f : SFun)
noncomputable def sOp (top : Bool) (noDst : Bool) (w : Env → AV → Env) (o : COp) : SF :=
  COp.rec (motive := fun _ => SF) (fun g => .mk (sMv w g)) (fun f => .mk (sP w f)) (fun f => .mk (sR w f)) (fun f => .mk (sF w f)) (fun f => .mk (sM w f))
    (fun g => cond (top && noDst) (.mk (sDefer g)) (.mk sNo)) (cond top (.mk (sRecover w)) (.mk sNo)) (.mk sNo) o

/-- Under a guard. -/
noncomputable def sG (g : Env → AV) (want : Bool) (w : Env → AV → Env) (f : SFun) (c : CallF) (ts : Env) (h : Heap) : RR :=
  onGuard .no (f c ts h) (.ok (w ts .undef) h) want (g ts)
/-- Under a guard that no operation writes: never wanted. -/
noncomputable def sSkip (w : Env → AV → Env) (c : CallF) (ts : Env) (h : Heap) : RR := .ok (w ts .undef) h

noncomputable def sGuard (dst : Nat → Option Tmp) (w : Env → AV → Env) (g : Option (Nat × Bool)) (s : SF) : SF := match g with
  | none => s
  | some (j, want) => match dst j with
    | some t => opd (.tmp t) fun g => SF.rec (motive := fun _ => SF) (fun f => .mk (sG g want w f)) s
    | none => .mk (sSkip w)

noncomputable def sOper (top : Bool) (nt : Nat) (dst : Nat → Option Tmp) (o : Oper) : SF :=
  cond (dstOk nt o.dst) (wr o.dst fun w => sGuard dst w o.guard (sOp top o.dst.isNone w (compileOp P o.op))) (.mk sNo)

inductive IL where
  | nil
  | cons (f : SFun) (l : IL)
noncomputable def compileS (top : Bool) (nt : Nat) (dst : Nat → Option Tmp) : List Oper → IL
  | [] => .nil
  | o :: l => SF.rec (motive := fun _ => IL) (fun f => .cons f (compileS top nt dst l)) (sOper P top nt dst o)

noncomputable def seqI (l : IL) : CallF → Env → Heap → RR :=
  IL.rec (motive := fun _ => CallF → Env → Heap → RR) (fun _ ts h => .ok ts h)
    (fun f _ ih c ts h => RR.rec (motive := fun _ => RR) (fun ts h => ih c ts h) .no (f c ts h)) l

/-! ### Regions that draw their order -/
/-- A compiled operation: its number, where it writes, its guard, what it does, those ahead of it (bits). -/
inductive DItem where
  | mk (i : Nat) (w : Env → AV → Env) (guard : Option (Option (Env → AV) × Bool)) (op : COp) (bef : Nat)

def orBefore (acc : List Nat) : List Edge → Nat
  | [] => 0
  | e :: es => if Region.binds .any e then Nat.lor (Nat.lor (Nat.shiftLeft 1 e.on) (acc.getD e.on 0)) (orBefore acc es) else orBefore acc es

noncomputable def dGuard {β : Type} (dst : Nat → Option Tmp) (g : Option (Nat × Bool)) (k : Option (Option (Env → AV) × Bool) → β) : β := match g with
  | none => k none
  | some (j, want) => match dst j with
    | some t => opd (.tmp t) fun g => k (some (some g, want))
    | none => k (some (none, want))

noncomputable def dItem (nt : Nat) (dst : Nat → Option Tmp) (i bef : Nat) (o : Oper) : DItem := wr o.dst fun w => dGuard dst o.guard fun g =>
  .mk i w g (cond (dstOk nt o.dst) (compileOp P o.op) .bad) bef

noncomputable def compileD (nt : Nat) (dst : Nat → Option Tmp) (i : Nat) (acc : List Nat) : List Oper → List DItem
  | [] => []
  | o :: l => dItem P nt dst i (orBefore acc o.after.toList) o :: compileD nt dst (i + 1) (acc ++ [orBefore acc o.after.toList]) l

def dstOf (ops : Array Oper) (i : Nat) : Option Tmp := (ops.toList[i]?).bind (·.dst)

def looksA (dst : Nat → Option Tmp) (o : Oper) : List Tmp :=
  (o.op.operands.toList.filterMap fun | .tmp t => some t | _ => none) ++
  (match o.guard with
   | some (g, _) => (dst g).toList
   | none => [])

def isM : COp → Bool
  | .m _ => true
  | _ => false
def isF : COp → Bool
  | .f _ => true
  | _ => false
def befOf : DItem → Nat
  | .mk _ _ _ _ b => b
def opOf : DItem → COp
  | .mk _ _ _ o _ => o

/-- 'a', number i, is ahead of 'b' in the text: it must be ahead of it; or they have nothing to do with one another's temporaries, and do not both act. -/
def pairOk (dst : Nat → Option Tmp) (i : Nat) (a : Oper) (ai : DItem) (b : Oper) (bi : DItem) : Bool :=
  (befOf bi).testBit i ||
  (!(isM (opOf ai) && isM (opOf bi)) &&
   (match a.dst with
    | some d => !(looksA dst b).contains d && b.dst != some d
    | none => true) &&
   (match b.dst with
    | some d => !(looksA dst a).contains d
    | none => true))

def pairsOk (dst : Nat → Option Tmp) : Nat → List Oper → List DItem → Bool
  | i, a :: l, ai :: li => allPairs dst i a ai l li && edgesOk i a && pairsOk dst (i + 1) l li
  | _, [], [] => true
  | _, _, _ => false
where
  allPairs (dst : Nat → Option Tmp) (i : Nat) (a : Oper) (ai : DItem) : List Oper → List DItem → Bool
    | b :: l, bi :: li => pairOk dst i a ai b bi && allPairs dst i a ai l li
    | [], [] => true
    | _, _ => false
  edgesOk (i : Nat) (a : Oper) : Bool := a.after.toList.all fun e => !Region.binds .any e || e.on < i

def anyF : List DItem → Bool
  | [] => false
  | a :: l => isF (opOf a) || anyF l

/-- Those of the blocks that wait that an operation must have, laid; and the others. -/
noncomputable def commit (bef : Nat) (l : List (Nat × Nat × AObj)) (t : HT) : HT × List (Nat × Nat × AObj) :=
  List.rec (motive := fun _ => HT → HT × List (Nat × Nat × AObj)) (fun t => (t, []))
    (fun e _ ih t => cond (bef.testBit e.1) (ih (HT.put t e.2.1 (some e.2.2))) ((ih t).1, e :: (ih t).2)) l t

noncomputable def commitAll (l : List (Nat × Nat × AObj)) (t : HT) : HT :=
  List.rec (motive := fun _ => HT → HT) (fun t => t) (fun e _ ih t => ih (HT.put t e.2.1 (some e.2.2))) l t

/-- What was read: number, bits, operation, temporaries, value. -/
structure Read where
  i : Nat
  bef : Nat
  f : Env → Heap → Option AV
  ts : Env
  v : AV

inductive DS where
  | mk (ts : Env) (h : Heap) (pend : List (Nat × Nat × AObj)) (reads : List Read) (hist : List (Nat × Nat × Heap))
  | no

noncomputable def dPut (base i : Nat) (w : Env → AV → Env) (ts : Env) (h : Heap) (pend : List (Nat × Nat × AObj)) (reads : List Read) (hist : List (Nat × Nat × Heap)) (x : FR) : DS :=
  FR.rec (motive := fun _ => DS) (fun o s => .mk (w ts (s.valF (Nat.add base i))) h (pend ++ [(i, Nat.add base i, o)]) reads hist) .no x

noncomputable def dOp (callF : CallF) (base i : Nat) (w : Env → AV → Env) (bef : Nat) (o : COp) (ts : Env) (h : Heap) (pend : List (Nat × Nat × AObj)) (reads : List Read) (hist : List (Nat × Nat × Heap)) : DS :=
  COp.rec (motive := fun _ => DS)
    (fun g => .mk (w ts (g ts)) h pend reads hist)
    (fun f => onSome .no (fun v => .mk (w ts v) h pend reads hist) (f ts))
    (fun f => onSome .no (fun v => .mk (w ts v) h pend (⟨i, bef, f, ts, v⟩ :: reads) hist) (f ts h))
    (fun f => dPut base i w ts h pend reads hist (f ts))
    (fun f => Res.rec (motive := fun _ => DS) (fun v h' => .mk (w ts v) h' (commit bef pend h.t).2 reads ((i, bef, h) :: hist)) .no
      (f callF ts { t := (commit bef pend h.t).1, next := h.next }))
    (fun _ => .no) .no .no o

noncomputable def dWanted (no yes skip : DS) (ts : Env) (g : Option (Option (Env → AV) × Bool)) : DS :=
  Option.rec (motive := fun _ => DS) yes (fun g => Option.rec (motive := fun _ => DS) skip (fun r => onGuard no yes skip g.2 (r ts)) g.1) g

noncomputable def drawI (callF : CallF) (base : Nat) (l : List DItem) : DS → DS :=
  List.rec (motive := fun _ => DS → DS) (fun s => s)
    (fun it _ ih s => DS.rec (motive := fun _ => DS) (fun ts h pend reads hist => DItem.rec (motive := fun _ => DS)
      (fun i w g op bef => dWanted .no (ih (dOp callF base i w bef op ts h pend reads hist)) (ih (.mk (w ts .undef) h pend reads hist)) ts g) it) .no s) l

mutual
def beqAV : AV → AV → Bool
  | .bool a, .bool b => a == b
  | .int j a, .int k b => j == k && a == b
  | .str a, .str b => a == b
  | .nilp, .nilp => true
  | .nils, .nils => true
  | .nilm, .nilm => true
  | .nilf, .nilf => true
  | .nili, .nili => true
  | .ptr a i, .ptr b j => a == b && i == j
  | .sl a i n c, .sl b j m d => a == b && i == j && n == m && c == d
  | .emp a y, .emp b z => a == b && y == z
  | .map a, .map b => a == b
  | .yld a, .yld b => a == b
  | .sym a t, .sym b u => a == b && t == u
  | .fn f x y, .fn g z w => f == g && beqL x z && beqL y w
  | .iface t v, .iface u w => t == u && beqAV v w
  | .agg a, .agg b => beqL a b
  | .tup a, .tup b => beqL a b
  | _, _ => false
def beqL : List AV → List AV → Bool
  | [], [] => true
  | a :: x, b :: y => beqAV a b && beqL x y
  | _, _ => false
end

noncomputable def readSame (r : Read) (h : Heap) : Bool := onSome false (fun v => beqAV v r.v) (r.f r.ts h)

/-- The heaps ahead of those that acted (the last first): each of them in which it may be read says the same. -/
noncomputable def readOk (r : Read) : List (Nat × Nat × Heap) → Bool
  | [] => true
  | (m, _, h) :: l => readOk r l && (r.bef.testBit m || (match l with
      | (_, b, _) :: _ => b.testBit r.i
      | [] => false) || readSame r h)
noncomputable def readLast (r : Read) (hist : List (Nat × Nat × Heap)) (h : Heap) : Bool := match hist with
  | (_, b, _) :: _ => b.testBit r.i || readSame r h
  | [] => true

noncomputable def readsOk (hist : List (Nat × Nat × Heap)) (h : Heap) : List Read → Bool
  | [] => true
  | r :: l => readOk r hist && readLast r hist h && readsOk hist h l

noncomputable def drawEnd (s : DS) : RR :=
  DS.rec (motive := fun _ => RR) (fun ts h pend reads hist => cond (readsOk hist h reads) (.ok ts { t := commitAll pend h.t, next := h.next }) .no) .no s
noncomputable def drawR (callF : CallF) (n : Nat) (l : List DItem) (ts : Env) (h : Heap) : RR :=
  drawEnd (drawI callF h.next l (.mk ts { t := h.t, next := Nat.add h.next n } [] [] []))

/-! ### Code -/
inductive CC where
  | skip
  | seqr (l : IL)
  | draw (n : Nat) (l : List DItem)
  | seq (a b : CC)
  | cond (c : Env → AV) (a b : CC)
  | block (id : Nat) (b : CC)
  | loop (b : CC)
  | rangeFunc (f : Env → AV) (params : List Tmp) (assign body : Code)
  | exit (id : Nat)
  | ret
  | bad

/-- A list, evaluated to its end and its elements. -/
noncomputable def cDraw (ops : Array Oper) (l : List DItem) : CC :=
  cond (P.follows .mixedOrders && pairsOk (dstOf ops) 0 ops.toList l) (.draw (cond (anyF l) l.length 0) l) .bad
noncomputable def cRegion (top : Bool) (nt : Nat) (ops : Array Oper) (draw : Bool) : CC :=
  cond draw (cDraw P ops (compileD P nt (dstOf ops) 0 [] ops.toList)) (.seqr (compileS P top nt (dstOf ops) ops.toList))

noncomputable def compileC (top : Bool) (nt : Nat) : Code → CC
  | .skip => .skip
  | .label _ => .skip
  | .region _ ops draw => cRegion P top nt ops draw
  | .seq a b => .seq (compileC top nt a) (compileC top nt b)
  | .cond c a b => opd c fun c => .cond c (compileC top nt a) (compileC top nt b)
  | .block id b => .block id (compileC top nt b)
  | .scope b => compileC top nt b
  | .loop b => .loop (compileC top nt b)
  | .exit id => .exit id
  | .ret => .ret
  | .rangeFunc f params assign body => cond (top && params.toList.all fun t => Nat.blt t (nat_lit 255) && Nat.blt t nt) (opd f fun f => .rangeFunc f params.toList assign body) .bad
  | .goto _ => .bad
  | .refuse _ => .bad

noncomputable def argsFrom (l : List AV) : Env := List.rec (motive := fun _ => Nat → Env → Env) (fun _ ts => ts) (fun v _ ih i ts => forceN (Nat.succ i) fun j => ih j (set2 ts (pathOf i) v)) l (nat_lit 0) env0

noncomputable def loopN (round : Env → Heap → CR) (n : Nat) : Env → Heap → CR :=
  Nat.rec (motive := fun _ => Env → Heap → CR) (fun _ _ => .no)
    (fun _ ih ts h => CR.rec (motive := fun _ => CR) (fun ts' h' => ih ts' h') (fun i ts h => .exit i ts h) (fun ts h => .ret ts h) .no (round ts h)) n

noncomputable def setTmps (ts : Env) : List Tmp → List AV → Env
  | t :: l, v :: vs => setTmps (set2 ts (pathOf t) v) l vs
  | _, _ => ts

def onLoop {β : Type} (no : β) (f : LoopState → Option Code → FuncId → Env → List Tmp → Code → Code → β) : Option AObj → β
  | some (.loop s p f' ts ps a b) => f s p f' ts ps a b
  | _ => no

noncomputable def rangeEnd (l : Nat) (ts : Env) : Res → CR
  | .ok _ h' => onLoop .no (fun st pend fn' ts' ps a b => match st with
      | .busy => .no
      | _ => match pend with
        | none => .norm ts (putObj h' l (.loop .exhausted pend fn' ts' ps a b))
        | some (.exit id) => .exit id ts (putObj h' l (.loop .exhausted pend fn' ts' ps a b))
        | some .ret => .ret ts (putObj h' l (.loop .exhausted pend fn' ts' ps a b))
        | some _ => .no) (HT.get h'.t l)
  | .no => .no
noncomputable def rangeFn (callF : CallF) (fn : FuncId) (params : List Tmp) (assign body : Code) (ts : Env) (h : Heap) : AV → CR
  | .fn (.func g) first captured => rangeEnd h.next ts (callF (.func g) (first ++ [.yld h.next] ++ captured) (addObj h (.loop .ready none fn ts params assign body)))
  | _ => .no

noncomputable def okC (x : RR) : CR := RR.rec (motive := fun _ => CR) (fun ts h => .norm ts h) .no x

noncomputable def codeA (callF : CallF) (fn : FuncId) (c : CC) : Env → Heap → CR :=
  CC.rec (motive := fun _ => Env → Heap → CR)
    (fun ts h => .norm ts h)
    (fun l ts h => okC (seqI l callF ts h))
    (fun n l ts h => okC (drawR callF n l ts h))
    (fun _ _ ia ib ts h => CR.rec (motive := fun _ => CR) (fun ts' h' => ib ts' h') (fun i ts h => .exit i ts h) (fun ts h => .ret ts h) .no (ia ts h))
    (fun c _ _ ia ib ts h => onBool .no (fun b => cond b (ia ts h) (ib ts h)) (c ts))
    (fun id _ ib ts h => CR.rec (motive := fun _ => CR) (fun ts' h' => .norm ts' h') (fun i ts' h' => cond (Nat.beq i id) (.norm ts' h') (.exit i ts' h')) (fun ts h => .ret ts h) .no (ib ts h))
    (fun _ ib ts h => loopN ib (nat_lit 100000) ts h)
    (fun f params assign body ts h => rangeFn callF fn params assign body ts h (f ts))
    (fun id ts h => .exit id ts h)
    (fun ts h => .ret ts h)
    (fun _ _ => .no) c

noncomputable def resultsA (ts : Env) (h : Heap) : List ResultVar → Option (List AV)
  | [] => some []
  | .tmp t :: l => onSome none (fun vs => some ((gOf (.tmp t)).fn ts :: vs)) (resultsA ts h l)
  | .cell a t :: l => match cLoad P t (.tmp a) with
    | .r f => onSome none (fun v => onSome none (fun vs => some (v :: vs)) (resultsA ts h l)) (f ts h)
    | _ => none

def resultA : List AV → AV
  | [v] => v
  | vs => .tup vs

def externA (fn : Func) (args : List AV) (h : Heap) : Res :=
  if fn.name = "internal/abi.NoEscape" then (match args with
    | [v] => .ok v h
    | _ => .no)
  else .no
noncomputable def makeNoZero (fn : Func) (args : List AV) (h : Heap) : Res :=
  if fn.name = "internal/bytealg.MakeNoZero" then (match args, fn.resultTypes.toList with
    | [.int .i64 (.ofNat n)], t :: _ => match underT P t with
      | some (.slice e) => match zeroCs P e with
        | some [_] => cond (Nat.ble n (nat_lit 65536)) (.ok (.sl h.next 0 n (.gr 1)) (addObj h (.cells n (Cells.of n .any) e true 0))) .no
        | _ => .no
      | _ => .no
    | _, _ => .no)
  else externA fn args h

noncomputable def runDefers (callF : CallF) : List AV → Heap → Option Heap
  | [], h => some h
  | .fn (.func g) first captured :: l, h => match callF (.func g) (first ++ captured) h with
    | .ok _ h' => runDefers callF l h'
    | .no => none
  | _ :: _, _ => none

noncomputable def finish (callF : CallF) (fn : Func) (ts : Env) (h : Heap) : Res :=
  onSome .no (fun h => onSome .no (fun vs => .ok (resultA vs) h) (resultsA P ts h fn.results.toList)) (runDefers callF (defersOf ts) h)

noncomputable def callFn (callF : CallF) (f : FuncId) (args : List AV) (h : Heap) (fn : Func) : Res :=
  cond (fn.name == "runtime.NumGoroutine" || Nat.blt (nat_lit 200) args.length) .no <| Option.rec (motive := fun _ => Res) (makeNoZero P fn args h)
    (fun c => CR.rec (motive := fun _ => Res) (fun ts h => finish P callF fn ts h) (fun _ _ _ => .no) (fun ts h => finish P callF fn ts h) .no (codeA callF f (compileC P true fn.ntmps c) (argsFrom args) h)) fn.body

noncomputable def yieldEnd (l : Nat) (j : Option Code) (h : Heap) : Res :=
  onLoop .no (fun _ _ fn' ts0 ps a b => .ok (.bool j.isNone) (putObj h l (.loop (if j.isNone then .ready else .done) j fn' ts0 ps a b))) (HT.get h.t l)
noncomputable def yieldBody (nt : Nat) (callF : CallF) (l : Nat) (fn : FuncId) (body : Code) (ts : Env) (h : Heap) : Res :=
  CR.rec (motive := fun _ => Res) (fun _ h => yieldEnd l none h) (fun id _ h => yieldEnd l (some (.exit id)) h) (fun _ h => yieldEnd l (some .ret) h) .no (codeA callF fn (compileC P false nt body) ts h)
def isReady : LoopState → Bool
  | .ready => true
  | _ => false
noncomputable def yieldBegin (nt : Nat) (callF : CallF) (l : Nat) (fn : FuncId) (body : Code) (ts : Env) (h : Heap) : Res :=
  onLoop .no (fun st pend fn' ts0 ps a b => cond (isReady st) (yieldBody P nt callF l fn body ts (putObj h l (.loop .busy pend fn' ts0 ps a b))) .no) (HT.get h.t l)
noncomputable def yieldFn (nt : Nat) (callF : CallF) (l : Nat) (args : List AV) (h : Heap) (fn : FuncId) (ts : Env) (params : List Tmp) (assign body : Code) : Res :=
  cond (Nat.beq args.length params.length && params.all fun t => Nat.blt t (nat_lit 255) && Nat.blt t nt)
    (CR.rec (motive := fun _ => Res) (fun ts h => yieldBegin P nt callF l fn body ts h) (fun _ _ _ => .no) (fun _ _ => .no) .no (codeA callF fn (compileC P false nt assign) (setTmps ts params args) h)) .no
noncomputable def yieldA (callF : CallF) (l : Nat) (args : List AV) (h : Heap) : Res :=
  onLoop .no (fun _ _ fn ts params assign body => onSome .no (fun f : Func => yieldFn P f.ntmps callF l args h fn ts params assign body) (towerGet (fnTab P) fn)) (HT.get h.t l)
noncomputable def callFunc (callF : CallF) (f : FuncId) (args : List AV) (h : Heap) : Res := onSome .no (callFn P callF f args h) (towerGet (fnTab P) f)

/-- 'orc': functions whose results are known by a contract of their own. -/
noncomputable def callA (orc : FuncId → List AV → Option AV) (n : Nat) : CallF :=
  Nat.rec (motive := fun _ => CallF) (fun _ _ _ => .no)
    (fun _ ih t args h => Tgt.rec (motive := fun _ => Res)
      (fun f => Option.rec (motive := fun _ => Res) (callFunc P ih f args h) (fun v => .ok v h) (orc f args))
      (fun l => yieldA P ih l args h) t) n

noncomputable def noOrc (f : FuncId) (args : List AV) : Option AV := none

end
end Go.Eng
