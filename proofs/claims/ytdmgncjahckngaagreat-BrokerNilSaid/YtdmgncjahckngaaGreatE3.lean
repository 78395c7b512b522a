import Derived.Test.YtdmgncjahckngaaGreatE2
/-! The abstract machine, 3: compiling operations. -/
namespace Go.Eng
set_option linter.all false

/-- A compiled operation. -/
inductive COp where
  | mv (g : Env → AV)
  | p (f : Env → Option AV)
  | r (f : Env → Heap → Option AV)
  | f (f : Env → FR)
  | m (f : CallF → Env → Heap → Res)
  | defer (g : Env → AV)
  | recover
  | bad

noncomputable def nth {α : Type} (d : α) (l : List α) : Nat → α :=
  List.rec (motive := fun _ => Nat → α) (fun _ => d) (fun x _ ih n => Nat.rec (motive := fun _ => α) x (fun m _ => ih m) n) l

/-- How an operand is read. -/
noncomputable def gOf : Operand → G
  | .tmp t => nth (.mk (kst .any)) rTab t
  | .const v => .mk (kst (ofV v))
  | .global _ => .mk (kst .any)
  | .func f => .mk (kst (.fn (.func f) [] []))
noncomputable def G.fn (g : G) : Env → AV := G.rec (motive := fun _ => Env → AV) (fun f => f) g
section
variable {β : Type}
/-- With how it is read. -/
noncomputable def opd (x : Operand) (k : (Env → AV) → β) : β := G.rec (motive := fun _ => β) k (gOf x)
noncomputable def opdO (x : Option Operand) (k : Option (Env → AV) → β) : β := Option.rec (motive := fun _ => β) (k none) (fun x => opd x fun g => k (some g)) x
noncomputable def opdL (l : List Operand) : (List (Env → AV) → β) → β :=
  List.rec (motive := fun _ => (List (Env → AV) → β) → β) (fun k => k []) (fun x _ ih k => opd x fun g => ih fun r => k (g :: r)) l
end

section
variable (P : Program)

noncomputable def placesS {β : Type} (no : β) (fs : List Field) : List (Nat × Operand) → (List (Nat × Nat × (Env → AV)) → β) → β
  | [], k => k []
  | (i, x) :: l, k => match fs[i]? with
    | some f => match sizeT P f.type with
      | some z => opd x fun g => placesS no fs l fun r => k ((f.offset, z, g) :: r)
      | none => no
    | none => no
noncomputable def placesA {β : Type} (z : Nat) : List (Nat × Operand) → (List (Nat × Nat × (Env → AV)) → β) → β
  | [], k => k []
  | (i, x) :: l, k => opd x fun g => placesA z l fun r => k ((i * z, z, g) :: r)

/-- Every field's type has a size. -/
noncomputable def sized : List Field → Bool
  | [] => true
  | f :: fs => (sizeT P f.type).isSome && sized fs

noncomputable def cBuild (t : TypeId) (parts : List (Nat × Operand)) : COp := match zeroCs P t, underT P t with
  | some zero, some (.struct fs) => if sized P fs.toList then placesS P .bad fs.toList parts fun l => .p (xBuild zero l) else .bad
  | some zero, some (.array _ e) => match sizeT P e with
    | some z => placesA z parts fun l => .p (xBuild zero l)
    | none => .bad
  | _, _ => .bad

noncomputable def cBini (op : BinOp) (x y : Env → AV) : COp := match op with
  | .add => .p (xBini addK x y)
  | .sub => .p (xBini subK x y)
  | .mul => .p (xBini mulK x y)
  | .quo => .p (xBini quoK x y)
  | .rem => .p (xBini remK x y)
  | .and => .p (xBini andK x y)
  | .or => .p (xBini orK x y)
  | .xor => .p (xBini xorK x y)
  | .andNot => .p (xBini andNotK x y)
  | .shl => .p (xShift shlK x y)
  | .shr => .p (xShift shrK x y)
  | .eql => .p (xEqi eqlK (.bool true) x y)
  | .neq => .p (xEqi neqK (.bool false) x y)
  | .lss => .p (xBini lssK x y)
  | .leq => .p (xBini leqK x y)
  | .gtr => .p (xBini gtrK x y)
  | .geq => .p (xBini geqK x y)
noncomputable def cBins (op : BinOp) (x y : Env → AV) : COp := match op with
  | .add => .p (xBins addS x y)
  | .eql => .p (xBins eqlS x y)
  | .neq => .p (xBins neqS x y)
  | .lss => .p (xBins lssS x y)
  | .leq => .p (xBins leqS x y)
  | .gtr => .p (xBins gtrS x y)
  | .geq => .p (xBins geqS x y)
  | _ => .bad
def isConstO : Operand → Bool
  | .const _ => true
  | _ => false
/-- May values of the type be compared here? -/
def eqOk (t : TypeId) (x y : Operand) : TypeDesc → Bool
  | .interface _ => isConstO x || isConstO y
  | .struct _ => !P.eqGuardType P.depth t
  | .array _ _ => false
  | _ => true
noncomputable def cBin (op : BinOp) (t : TypeId) (x y : Operand) : COp := opd x fun gx => opd y fun gy => match underT P t with
  | some (.int _) => cBini op gx gy
  | some .string => cBins op gx gy
  | some d => cond (eqOk P t x y d) (match op with
    | .eql => .p (xEqv P t false gx gy)
    | .neq => .p (xEqv P t true gx gy)
    | _ => .bad) .bad
  | none => .bad

noncomputable def cConv (s d : TypeId) (x : Operand) : COp := opd x fun x => match underT P s, underT P d with
  | some (.int _), some (.int k) => .p (xCint k x)
  | some .string, some .string => .p (xCstr x)
  | some .string, some (.slice e) => match underT P e, zeroCs P e with
    | some (.int .u8), some [_] => .m (wS2b e x)
    | _, _ => .bad
  | some (.slice e), some .string => match underT P e with
    | some (.int .u8) => .r (yB2s x)
    | _ => .bad
  | some (.pointer u), some .unsafePointer => match sizeT P u with
    | some (_ + 1) => .r (yP2u x)
    | _ => .bad
  | some .unsafePointer, some (.pointer u) => match sizeT P u with
    | some (_ + 1) => .r (yU2p P u x)
    | _ => .bad
  | _, _ => .bad

noncomputable def cSlice (t : TypeId) (x : Operand) (lo hi : Option Operand) : COp := opd x fun x => opdO lo fun lo => opdO hi fun hi => match underT P t with
  | some .string => .p (xSls x lo hi)
  | some (.slice e) => match sizeT P e with
    | some z => .p (xSlv z x lo hi)
    | none => .bad
  | some (.array n e) => match sizeT P e with
    | some z => .p (xSla n z x lo hi)
    | none => .bad
  | _ => .bad

noncomputable def cFad (t : TypeId) (x : Operand) (f : Nat) : COp := opd x fun x => match fieldOf P t f with
  | some fd => match sizeT P fd.type with
    | some (_ + 1) => .p (xFad fd.offset x)
    | _ => .bad
  | none => .bad

noncomputable def cFld (t : TypeId) (x : Operand) (f : Nat) : COp := opd x fun x => match fieldOf P t f with
  | some fd => match aggT P fd.type, sizeT P fd.type with
    | some a, some z => .p (xFld a z fd.offset x)
    | _, _ => .bad
  | none => .bad

noncomputable def cIxa (t : TypeId) (x i : Operand) : COp := opd x fun x => opd i fun i => match underT P t with
  | some (.array n e) => match sizeT P e with
    | some z => .p (xIxa n z x i)
    | none => .bad
  | some (.slice e) => match sizeT P e with
    | some z => .p (xIxs z x i)
    | none => .bad
  | _ => .bad

noncomputable def cIx (t : TypeId) (x i : Operand) : COp := opd x fun x => opd i fun i => match underT P t with
  | some (.array n e) => match aggT P e, sizeT P e with
    | some a, some z => .p (xIxv a n z x i)
    | _, _ => .bad
  | some .string => .p (xIxt x i)
  | _ => .bad

noncomputable def cLen (t : TypeId) (x : Operand) : COp := opd x fun x => match underT P t with
  | some .string => .p (xLens x)
  | some (.array n _) => .p (xLenc n)
  | some (.pointer a) => match underT P a with
    | some (.array n _) => .p (xLenc n)
    | _ => .bad
  | some (.slice _) => .p (xLenv x)
  | some (.map _ _) => .r (yLenm x)
  | _ => .bad

noncomputable def cLoad (t : TypeId) (x : Operand) : COp := opd x fun x => match aggT P t, sizeT P t with
  | some true, some k => .r (yLoadn k x)
  | some false, some _ => .r (yLoad1 x)
  | _, _ => .bad

noncomputable def cAlloc (t : TypeId) : COp := match zeroCs P t with
    | some cs => if cs.length ≤ 65536 then .f (zAlloc (rowObj t cs false 0)) else .bad
    | none => .bad
noncomputable def cBox (t : TypeId) (x : Operand) : COp := opd x fun x => match sizeT P t with
    | some k => if k ≤ 65536 then .f (zBox t k x) else .bad
    | none => .bad
noncomputable def cBslice (t : TypeId) (len : Nat) (parts : List (Nat × Operand)) : COp := match underT P t with
    | some (.slice e) => match zeroCs P e with
      | some zero => if len * zero.length ≤ 10000 then placesA zero.length parts fun l => .f (zBslice e zero.length zero len l) else .bad
      | none => .bad
    | _ => .bad
noncomputable def cMap (r : Option Operand) : COp := match r with
  | none => .f zMap
  | some _ => .bad
noncomputable def cMslice (t : TypeId) (l c : Operand) : COp := opd l fun l => opd c fun c => match underT P t with
    | some (.slice e) => match zeroCs P e, infoT P e with
      | some zero, some i => if i.bytes ≤ 1000000 then .f (zMslice e zero.length zero l c) else .bad
      | _, _ => .bad
    | _ => .bad

noncomputable def cAppend (st xt : TypeId) (s x : Operand) : COp := opd s fun s => opd x fun x => match underT P st, underT P xt with
      | some (.slice e), some xd => match xd with
        | .int _ => .bad
        | _ => match zeroCs P e, infoT P e with
          | some zero, some i => if 0 < i.bytes ∧ i.bytes ≤ 1000000 then .m (wAppend e zero.length s x) else .bad
          | _, _ => .bad
      | _, _ => .bad
noncomputable def cCopy (dt : TypeId) (d s : Operand) : COp := opd d fun d => opd s fun s => match underT P dt with
      | some (.slice e) => match sizeT P e with
        | some z => .m (wCopy z d s)
        | none => .bad
      | _ => .bad
noncomputable def cDelete (t : TypeId) (m k : Operand) : COp := opd m fun m => opd k fun k => match underT P t with
      | some (.map kt _) => .m (wDelete P kt m k)
      | _ => .bad
noncomputable def cUstr (pt : TypeId) (p n : Operand) : COp := opd p fun p => opd n fun n => match underT P pt with
      | some (.pointer u) => .m (wUstr P u p n)
      | _ => .bad
noncomputable def cCap (t : TypeId) (x : Operand) : COp := opd x fun x => match underT P t with
      | some (.slice _) => .p (xCapv x)
      | _ => .bad

noncomputable def cCall : Call → COp
  | { callee := .value f, args, .. } => opd f fun f => opdL args.toList fun args => .m (wCall f args)
  | { callee := .builtin b, args, argTypes } => match b, args.toList, argTypes.toList with
    | .len, [x], [t] => cLen P t x
    | .cap, [x], [t] => cCap P t x
    | .min, x :: l, _ => opd x fun x => opdL l fun l => .p (xMn x l)
    | .max, x :: l, _ => opd x fun x => opdL l fun l => .p (xMx x l)
    | .append, [s, x], [st, xt] => cAppend P st xt s x
    | .copy, [d, s], dt :: _ => cCopy P dt d s
    | .delete, [m, k], t :: _ => cDelete P t m k
    | .unsafeSliceData, [x], _ => opd x fun x => .m (wSdata x)
    | .unsafeString, [p, n], pt :: _ => cUstr P pt p n
    | .recover, _, _ => .recover
    | _, _, _ => .bad
  | _ => .bad

noncomputable def compileOp (o : Op) : COp := match o with
  | .move x | .assign x => opd x fun x => .mv x
  | .pick c a b => opd c fun c => opd a fun a => opd b fun b => .p (xPick c a b)
  | .build t parts => cBuild P t parts.toList
  | .nilCheck x => opd x fun x => .p (xNilc x)
  | .binOp op t x y _ => cBin P op t x y
  | .unOp op _ x => opd x fun x => .p (xUn op x)
  | .convert s d x => cConv P s d x
  | .makeInterface t x => match underT P t with
    | some (.interface _) => .bad
    | some _ => opd x fun x => .p (xMki t x)
    | none => .bad
  | .makeFunc fn first captured => opdL first.toList fun first => opdL captured.toList fun captured => .p (xMkf fn first captured)
  | .slice t x lo hi none => cSlice P t x lo hi
  | .fieldAddr t x f => cFad P t x f
  | .field t x f => cFld P t x f
  | .indexAddr t x i => cIxa P t x i
  | .index t x i => cIx P t x i
  | .extract x i => opd x fun x => .p (xExt x i)
  | .load t x => cLoad P t x
  | .lookup t m k ok => opd m fun m => opd k fun k => match underT P t with
    | some (.map kt et) => match zeroT P et with
      | some z => .r (yLook P kt z m k ok)
      | none => .bad
    | _ => .bad
  | .entry x => opd x fun x => .r (yEntry x)
  | .store t x v => opd x fun x => opd v fun v => match sizeT P t with
    | some k => .m (wStore k x v)
    | none => .bad
  | .mapUpdate t m k v => opd m fun m => opd k fun k => opd v fun v => match underT P t with
    | some (.map kt _) => .m (wUpd P kt m k v)
    | _ => .bad
  | .range t x => opd x fun x => match underT P t with
    | some .string => .m (wRanges x)
    | some (.map _ _) => .m (wRangem x)
    | _ => .bad
  | .next x s => opd x fun x => .m (wNext x s)
  | .call c => cCall P c
  | .defer { callee := .value f, args := ⟨[]⟩, .. } => opd f fun f => .defer f
  | .alloc t => cAlloc P t
  | .box t x => cBox P t x
  | .buildSlice t n ps => cBslice P t n ps.toList
  | .makeMap _ r => cMap r
  | .makeSlice t l c => cMslice P t l c
  | _ => .bad
end
end Go.Eng
