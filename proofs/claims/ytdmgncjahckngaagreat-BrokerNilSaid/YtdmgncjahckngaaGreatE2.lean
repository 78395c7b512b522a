import Derived.Test.YtdmgncjahckngaaGreatE1
/-! The abstract machine, 2: what operations do: each as a function of the temporaries (and the heap). -/
namespace Go.Eng
set_option linter.all false

/-! ### Integers -/
noncomputable def lim (k : IntKind) : Nat := IntKind.rec (motive := fun _ => Nat) (nat_lit 128) (nat_lit 32768) (nat_lit 2147483648) (nat_lit 9223372036854775808) (nat_lit 256) (nat_lit 65536) (nat_lit 4294967296) (nat_lit 18446744073709551616) k

noncomputable def kidx (k : IntKind) : Nat := IntKind.rec (motive := fun _ => Nat) (nat_lit 0) (nat_lit 1) (nat_lit 2) (nat_lit 3) (nat_lit 4) (nat_lit 5) (nat_lit 6) (nat_lit 7) k

/-- The number itself. -/
noncomputable def retRaw (k : IntKind) (n : Int) : Option AV := forceI n fun n => some (.int k n)
/-- The wrapped number, as a value. -/
noncomputable def retNat (k : IntKind) (m : Nat) : Option AV :=
  forceN m fun m => cond (Nat.blt m (lim k)) (some (.int k (.ofNat m))) (retRaw k (k.wrap (.ofNat m)))
noncomputable def retInt (k : IntKind) (n : Int) : Option AV :=
  Int.rec (motive := fun _ => Option AV) (fun m => retNat k m) (fun m => retRaw k (k.wrap (.negSucc m))) n
noncomputable def retBool (b : Bool) : Option AV := Bool.rec (motive := fun _ => Option AV) (some (.bool false)) (some (.bool true)) b
noncomputable def retNot (b : Bool) : Option AV := Bool.rec (motive := fun _ => Option AV) (some (.bool true)) (some (.bool false)) b

/-- Two numbers: both of them no negative ones, or else. -/
noncomputable def nat2 {β : Type} (f : Nat → Nat → β) (slow : Int → Int → β) (a b : Int) : β :=
  Int.rec (motive := fun _ => β) (fun m => Int.rec (motive := fun _ => β) (fun n => f m n) (fun n => slow (.ofNat m) (.negSucc n)) b) (fun m => slow (.negSucc m) b) a

noncomputable def eqI (a b : Int) : Bool :=
  Int.rec (motive := fun _ => Bool) (fun m => Int.rec (motive := fun _ => Bool) (fun n => Nat.beq m n) (fun _ => false) b) (fun m => Int.rec (motive := fun _ => Bool) (fun _ => false) (fun n => Nat.beq m n) b) a
noncomputable def ltI (a b : Int) : Bool :=
  Int.rec (motive := fun _ => Bool) (fun m => Int.rec (motive := fun _ => Bool) (fun n => Nat.blt m n) (fun _ => false) b) (fun m => Int.rec (motive := fun _ => Bool) (fun _ => true) (fun n => Nat.blt n m) b) a

noncomputable def addK (k : IntKind) (a b : Int) : Option AV := nat2 (fun m n => retNat k (Nat.add m n)) (fun a b => retInt k (Int.add a b)) a b
noncomputable def subK (k : IntKind) (a b : Int) : Option AV := nat2 (fun m n => cond (Nat.ble n m) (retNat k (Nat.sub m n)) (retInt k (Int.sub (.ofNat m) (.ofNat n)))) (fun a b => retInt k (Int.sub a b)) a b
noncomputable def mulK (k : IntKind) (a b : Int) : Option AV := nat2 (fun m n => retNat k (Nat.mul m n)) (fun a b => retInt k (Int.mul a b)) a b
noncomputable def quoK (k : IntKind) (a b : Int) : Option AV := nat2 (fun m n => cond (Nat.beq n (nat_lit 0)) none (retNat k (Nat.div m n))) (fun a b => cond (eqI b 0) none (retInt k (a.tdiv b))) a b
noncomputable def remK (k : IntKind) (a b : Int) : Option AV := nat2 (fun m n => cond (Nat.beq n (nat_lit 0)) none (retRaw k (.ofNat (Nat.mod m n)))) (fun a b => cond (eqI b 0) none (retRaw k (a.tmod b))) a b

noncomputable def andSlow (k : IntKind) (a b : Int) : Option AV := retRaw k (k.wrap (BitVec.ofInt k.bits a &&& BitVec.ofInt k.bits b).toNat)
noncomputable def orSlow (k : IntKind) (a b : Int) : Option AV := retRaw k (k.wrap (BitVec.ofInt k.bits a ||| BitVec.ofInt k.bits b).toNat)
noncomputable def xorSlow (k : IntKind) (a b : Int) : Option AV := retRaw k (k.wrap (BitVec.ofInt k.bits a ^^^ BitVec.ofInt k.bits b).toNat)
/-- Both within the kind: by Nat's function. -/
noncomputable def bitsK (f : Nat → Nat → Nat) (slow : IntKind → Int → Int → Option AV) (k : IntKind) (a b : Int) : Option AV :=
  nat2 (fun m n => cond (Nat.blt m (lim k)) (cond (Nat.blt n (lim k)) (forceN (f m n) fun m => some (.int k (.ofNat m))) (slow k (.ofNat m) (.ofNat n))) (slow k (.ofNat m) (.ofNat n))) (slow k) a b
noncomputable def andK (k : IntKind) (a b : Int) : Option AV := bitsK Nat.land andSlow k a b
noncomputable def orK (k : IntKind) (a b : Int) : Option AV := bitsK Nat.lor orSlow k a b
noncomputable def xorK (k : IntKind) (a b : Int) : Option AV := bitsK Nat.xor xorSlow k a b
noncomputable def andNotK (k : IntKind) (a b : Int) : Option AV := retRaw k (k.wrap (BitVec.ofInt k.bits a &&& ~~~(BitVec.ofInt k.bits b)).toNat)

noncomputable def shAmt (k : IntKind) (n : Nat) : Nat := cond (Nat.ble n k.bits) n k.bits
noncomputable def shlK (k : IntKind) (a b : Int) : Option AV :=
  nat2 (fun m n => retNat k (Nat.mul m (Nat.pow (nat_lit 2) (shAmt k n)))) (fun a b => Int.rec (motive := fun _ => Option AV) (fun n => retInt k (a * 2 ^ (shAmt k n))) (fun _ => none) b) a b
noncomputable def shrK (k : IntKind) (a b : Int) : Option AV :=
  nat2 (fun m n => retRaw k (.ofNat (Nat.div m (Nat.pow (nat_lit 2) (shAmt k n))))) (fun a b => Int.rec (motive := fun _ => Option AV) (fun n => retRaw k (a.fdiv (2 ^ (shAmt k n)))) (fun _ => none) b) a b

noncomputable def eqlK (k : IntKind) (a b : Int) : Option AV := retBool (eqI a b)
noncomputable def neqK (k : IntKind) (a b : Int) : Option AV := retNot (eqI a b)
noncomputable def lssK (k : IntKind) (a b : Int) : Option AV := retBool (ltI a b)
noncomputable def leqK (k : IntKind) (a b : Int) : Option AV := retNot (ltI b a)
noncomputable def gtrK (k : IntKind) (a b : Int) : Option AV := retBool (ltI b a)
noncomputable def geqK (k : IntKind) (a b : Int) : Option AV := retNot (ltI a b)

/-- Of two numbers of one kind; of two numbers (shifts). -/
noncomputable def xBini (f : IntKind → Int → Int → Option AV) (x y : Env → AV) (ts : Env) : Option AV :=
  onInt none (fun k a => onInt none (fun k' b => cond (Nat.beq (kidx k) (kidx k')) (f k a b) none) (y ts)) (x ts)
noncomputable def xShift (f : IntKind → Int → Int → Option AV) (x y : Env → AV) (ts : Env) : Option AV :=
  onInt none (fun k a => onInt none (fun _ b => f k a b) (y ts)) (x ts)

/-- Two unknown numbers that are one. -/
noncomputable def symEq (r : Option AV) (x y : AV) : Option AV := onSym none (fun a t => onSym none (fun b _ => cond (Nat.beq a b) (Option.rec (motive := fun _ => Option AV) none (fun _ => r) t) none) y) x
noncomputable def xEqi (f : IntKind → Int → Int → Option AV) (r : AV) (x y : Env → AV) (ts : Env) : Option AV := onSym (xBini f x y ts) (fun _ _ => symEq (some r) (x ts) (y ts)) (x ts)

/-! ### Strings -/
noncomputable def beqS (a : List Nat) : List Nat → Bool :=
  List.rec (motive := fun _ => List Nat → Bool) (fun b => List.rec (motive := fun _ => Bool) true (fun _ _ _ => false) b)
    (fun x _ ih b => List.rec (motive := fun _ => Bool) false (fun y b _ => cond (Nat.beq x y) (ih b) false) b) a
noncomputable def ltS (a : List Nat) : List Nat → Bool :=
  List.rec (motive := fun _ => List Nat → Bool) (fun b => List.rec (motive := fun _ => Bool) false (fun _ _ _ => true) b)
    (fun x _ ih b => List.rec (motive := fun _ => Bool) false (fun y b _ => cond (Nat.blt x y) true (cond (Nat.beq x y) (ih b) false)) b) a

noncomputable def appS (a b : List Nat) : List Nat := List.rec (motive := fun _ => List Nat) b (fun x _ ih => x :: ih) a

noncomputable def addS (a b : List Nat) : Option AV := cond (Nat.ble (Nat.add a.length b.length) (nat_lit 1000000)) (forceS (appS a b) fun s => some (.str s)) none
noncomputable def eqlS (a b : List Nat) : Option AV := retBool (beqS a b)
noncomputable def neqS (a b : List Nat) : Option AV := retNot (beqS a b)
noncomputable def lssS (a b : List Nat) : Option AV := retBool (ltS a b)
noncomputable def leqS (a b : List Nat) : Option AV := retBool (cond (ltS a b) true (beqS a b))
noncomputable def gtrS (a b : List Nat) : Option AV := retNot (cond (ltS a b) true (beqS a b))
noncomputable def geqS (a b : List Nat) : Option AV := retNot (ltS a b)
noncomputable def xBins (f : List Nat → List Nat → Option AV) (x y : Env → AV) (ts : Env) : Option AV :=
  onStr none (fun a => onStr none (fun b => f a b) (y ts)) (x ts)

/-! ### Equality -/
section
variable (P : Program)

/-- The program's types and functions, as towers. -/
noncomputable def tyTab : S (S (S (Option TypeInfo))) := tower P.types.toList
noncomputable def fnTab : S (S (S (Option Func))) := tower P.funcs.toList
noncomputable def infoT (t : TypeId) : Option TypeInfo := towerGet (tyTab P) t
noncomputable def underT (t : TypeId) : Option TypeDesc := match infoT P t with
  | some i => match i.desc with
    | .named _ u => (infoT P u).map (·.desc)
    | d => some d
  | none => none
noncomputable def aggT (t : TypeId) : Option Bool := match underT P t with
  | some (.struct _) | some (.array _ _) => some true
  | some _ => some false
  | none => none
noncomputable def sizeT (t : TypeId) : Option Nat := (infoT P t).map (·.size)
noncomputable def zeroT (t : TypeId) : Option AV := match infoT P t with
  | some i => i.zero.map ofV
  | none => none
noncomputable def fieldOf (t : TypeId) (f : Nat) : Option Field := match underT P t with
  | some (.struct fs) => fs.toList[f]?
  | _ => none

/-- A type's zero cells, as many as its size says, all plain. -/
noncomputable def zeroCs (t : TypeId) : Option (List AV) := match zeroT P t, sizeT P t with
  | some z, some k => if z.cells.length = k ∧ z.cells.all plainAV then some z.cells else none
  | _, _ => none

noncomputable def part (t : TypeId) (cs : List AV) (off : Nat) : Option AV := match aggT P t, sizeT P t with
  | some true, some k => some (.agg ((cs.drop off).take k))
  | some false, _ => cs[off]?
  | _, _ => none

def fieldsM : List Field → (Field → Option Bool) → Option Bool
  | [], _ => some true
  | f :: fs, g => if f.name ≠ "_" then (match g f with
      | some true => fieldsM fs g
      | r => r) else fieldsM fs g

noncomputable def eqA (d : Nat) : TypeId → AV → AV → Option Bool :=
  Nat.rec (motive := fun _ => TypeId → AV → AV → Option Bool) (fun _ _ _ => none) (fun _ ih t x y =>
    match underT P t, x, y with
    | some .bool, .bool a, .bool b => some (a == b)
    | some (.int _), .int k a, .int k' b => cond (Nat.beq (kidx k) (kidx k')) (some (eqI a b)) none
    | some .string, .str a, .str b => some (beqS a b)
    | some (.pointer _), .nilp, .nilp => some true
    | some (.pointer _), .nilp, .ptr _ _ | some (.pointer _), .ptr _ _, .nilp => some false
    | some (.pointer e), .ptr a i, .ptr b j => cond (Nat.beq a b) (match sizeT P e with
        | some (_ + 1) => some (Nat.beq i j)
        | _ => none) none
    | some (.interface _), .nili, .nili => some true
    | some (.interface _), .nili, .iface _ _ | some (.interface _), .iface _ _, .nili => some false
    | some (.struct fields), .agg xs, .agg ys => match P.stoodInHeld t with
      | true => none
      | false => fieldsM fields.toList fun f => match part P f.type xs f.offset, part P f.type ys f.offset with
        | some a, some b => ih f.type a b
        | _, _ => none
    | some (.slice _), .nils, .nils => some true
    | some (.slice _), .nils, .sl .. | some (.slice _), .sl .., .nils | some (.slice _), .nils, .emp .. | some (.slice _), .emp .., .nils => some false
    | some (.map _ _), .nilm, .nilm => some true
    | some (.map _ _), .nilm, .map _ | some (.map _ _), .map _, .nilm => some false
    | some (.func _ _ _), .nilf, .nilf => some true
    | some (.func _ _ _), .nilf, .fn .. | some (.func _ _ _), .fn .., .nilf => some false
    | _, _, _ => none) d

noncomputable def eqvA (t : TypeId) (neg : Bool) (x y : AV) : Option AV :=
  onSome none (fun b => cond neg (retNot b) (retBool b)) (eqA P (nat_lit 10000) t x y)

/-! ### Others without memory -/
noncomputable def unA (op : UnOp) (x : AV) : Option AV := match op, x with
  | .neg, .int k n => subK k 0 n
  | .xor, .int k n => retRaw k (k.wrap (BitVec.ofInt k.bits (if k.signed then -1 else k.max) ^^^ BitVec.ofInt k.bits n).toNat)
  | .not, .bool b => retNot b
  | _, _ => none

noncomputable def bound {β : Type} (no : β) (x : AV) (y : Nat) (f : Nat → β) : β :=
  onInt no (fun _ i => Int.rec (motive := fun _ => β) (fun m => cond (Nat.ble m y) (forceN m f) no) (fun _ => no) i) x
noncomputable def boundO {β : Type} (no : β) (x : Option AV) (dflt y : Nat) (f : Nat → β) : β :=
  Option.rec (motive := fun _ => β) (f dflt) (fun v => bound no v y f) x

noncomputable def slsA (x : AV) (lo hi : Option AV) : Option AV :=
  onStr none (fun s => boundO none hi s.length s.length fun h => boundO none lo (nat_lit 0) h fun l => forceS ((s.drop l).take (Nat.sub h l)) fun s => some (.str s)) x

noncomputable def sl1 (z b o : Nat) (cap : Cap) (l h : Nat) : Option AV :=
  Cap.rec (motive := fun _ => Option AV)
    (fun c => forceN (cond (Nat.beq c l) o (Nat.add o (Nat.mul l z))) fun o => forceN (Nat.sub h l) fun n => forceN (Nat.sub c l) fun c => some (.sl b o n (.ex c)))
    (fun z' => cond (Nat.beq z z') (cond (Nat.beq l (nat_lit 0)) (some (.sl b o h (.gr z'))) (cond (Nat.beq l h) (some (.emp b z')) (forceN (Nat.add o (Nat.mul l z)) fun o => forceN (Nat.sub h l) fun n => some (.sl b o n (.gr z'))))) none) cap
noncomputable def capMost (len : Nat) (cap : Cap) : Nat := Cap.rec (motive := fun _ => Nat) (fun c => c) (fun _ => len) cap

noncomputable def slvA (z : Nat) (x : AV) (lo hi : Option AV) : Option AV := match x with
  | .nils => boundO none hi (nat_lit 0) (nat_lit 0) fun h => boundO none lo (nat_lit 0) h fun _ => some .nils
  | .emp b z' => cond (Nat.beq z z') (boundO none hi (nat_lit 0) (nat_lit 0) fun h => boundO none lo (nat_lit 0) h fun _ => some (.emp b z')) none
  | .sl b o len cap => boundO none hi len (capMost len cap) fun h => boundO none lo (nat_lit 0) h fun l => sl1 z b o cap l h
  | _ => none

noncomputable def slaA (n z : Nat) (x : AV) (lo hi : Option AV) : Option AV :=
  onPtr none (fun b o => boundO none hi n n fun h => boundO none lo (nat_lit 0) h fun l => sl1 z b o (.ex n) l h) x

noncomputable def idx {β : Type} (no : β) (i : AV) (n : Nat) (f : Nat → β) : β :=
  onInt no (fun _ i => Int.rec (motive := fun _ => β) (fun m => cond (Nat.blt m n) (f m) no) (fun _ => no) i) i

noncomputable def ixsA (z : Nat) (x i : AV) : Option AV :=
  onSl none (fun b o n _ => idx none i n fun i => forceN (Nat.add o (Nat.mul i z)) fun o => some (.ptr b o)) x
noncomputable def ixaA (n z : Nat) (x i : AV) : Option AV :=
  onPtr none (fun b o => idx none i n fun i => forceN (Nat.add o (Nat.mul i z)) fun o => some (.ptr b o)) x

noncomputable def partA (agg : Bool) (size : Nat) (cs : List AV) (off : Nat) : Option AV :=
  cond agg (some (.agg ((cs.drop off).take size))) cs[off]?

noncomputable def ixvA (agg : Bool) (n z : Nat) (x i : AV) : Option AV :=
  onAgg none (fun cs => idx none i n fun i => partA agg z cs (Nat.mul i z)) x
noncomputable def ixtA (x i : AV) : Option AV :=
  onStr none (fun s => onInt none (fun _ i => Int.rec (motive := fun _ => Option AV) (fun m => onSome none (fun b => some (.int .u8 (.ofNat b))) s[m]?) (fun _ => none) i) i) x

noncomputable def mnA (l : List AV) : AV → Option AV :=
  List.rec (motive := fun _ => AV → Option AV) (fun v => some v) (fun y _ ih v => onInt none (fun k a => onInt none (fun _ b => ih (.int k (cond (ltI b a) b a))) y) v) l
noncomputable def mxA (l : List AV) : AV → Option AV :=
  List.rec (motive := fun _ => AV → Option AV) (fun v => some v) (fun y _ ih v => onInt none (fun k a => onInt none (fun _ b => ih (.int k (cond (ltI a b) b a))) y) v) l

/-- A part is laid into cells. -/
noncomputable def fill1 (cells : List AV) (off size : Nat) (v : AV) : Option (List AV) :=
  cond (Nat.beq v.cells.length size) (cond (Nat.ble (Nat.add off size) cells.length) (cond (v.cells.all plainAV) (some (cells.take off ++ v.cells ++ cells.drop (Nat.add off size))) none) none) none

noncomputable def fillA (ts : Env) (l : List (Nat × Nat × (Env → AV))) : List AV → Option (List AV) :=
  List.rec (motive := fun _ => List AV → Option (List AV)) (fun cs => some cs) (fun p _ ih cs => onSome none ih (fill1 cs p.1 p.2.1 (p.2.2 ts))) l

noncomputable def evalL (l : List (Env → AV)) (ts : Env) : List AV := List.rec (motive := fun _ => List AV) [] (fun x _ ih => x ts :: ih) l
noncomputable def evalOp (x : Option (Env → AV)) (ts : Env) : Option AV := Option.rec (motive := fun _ => Option AV) none (fun x => some (x ts)) x

noncomputable def xPick (c a b : Env → AV) (ts : Env) : Option AV := onBool none (fun t => cond t (some (a ts)) (some (b ts))) (c ts)
noncomputable def xBuild (zero : List AV) (parts : List (Nat × Nat × (Env → AV))) (ts : Env) : Option AV := onSome none (fun cs => some (.agg cs)) (fillA ts parts zero)
def nilcA : AV → Option AV
  | .ptr b o => some (.ptr b o)
  | .fn (.func f) a b => some (.fn (.func f) a b)
  | .yld b => some (.yld b)
  | _ => none
noncomputable def xNilc (x : Env → AV) (ts : Env) : Option AV := nilcA (x ts)
noncomputable def xEqv (t : TypeId) (neg : Bool) (x y : Env → AV) (ts : Env) : Option AV := eqvA P t neg (x ts) (y ts)
noncomputable def xUn (op : UnOp) (x : Env → AV) (ts : Env) : Option AV := unA op (x ts)
noncomputable def xCint (k : IntKind) (x : Env → AV) (ts : Env) : Option AV := onInt none (fun _ n => retInt k n) (x ts)
noncomputable def xCstr (x : Env → AV) (ts : Env) : Option AV := onStr none (fun s => some (.str s)) (x ts)
noncomputable def xMki (t : TypeId) (x : Env → AV) (ts : Env) : Option AV := some (.iface t (x ts))
noncomputable def xMkf (fn : Fn) (first captured : List (Env → AV)) (ts : Env) : Option AV := some (.fn fn (evalL first ts) (evalL captured ts))
noncomputable def xSls (x : Env → AV) (lo hi : Option (Env → AV)) (ts : Env) : Option AV := slsA (x ts) (evalOp lo ts) (evalOp hi ts)
noncomputable def xSlv (z : Nat) (x : Env → AV) (lo hi : Option (Env → AV)) (ts : Env) : Option AV := slvA z (x ts) (evalOp lo ts) (evalOp hi ts)
noncomputable def xSla (n z : Nat) (x : Env → AV) (lo hi : Option (Env → AV)) (ts : Env) : Option AV := slaA n z (x ts) (evalOp lo ts) (evalOp hi ts)
noncomputable def xFad (off : Nat) (x : Env → AV) (ts : Env) : Option AV := onPtr none (fun b o => forceN (Nat.add o off) fun o => some (.ptr b o)) (x ts)
noncomputable def xFld (agg : Bool) (size off : Nat) (x : Env → AV) (ts : Env) : Option AV := onAgg none (fun cs => partA agg size cs off) (x ts)
noncomputable def xIxa (n z : Nat) (x i : Env → AV) (ts : Env) : Option AV := ixaA n z (x ts) (i ts)
noncomputable def xIxs (z : Nat) (x i : Env → AV) (ts : Env) : Option AV := ixsA z (x ts) (i ts)
noncomputable def xIxv (agg : Bool) (n z : Nat) (x i : Env → AV) (ts : Env) : Option AV := ixvA agg n z (x ts) (i ts)
noncomputable def xIxt (x i : Env → AV) (ts : Env) : Option AV := ixtA (x ts) (i ts)
noncomputable def xExt (x : Env → AV) (i : Nat) (ts : Env) : Option AV := onTup none (fun vs => vs[i]?) (x ts)
noncomputable def xLens (x : Env → AV) (ts : Env) : Option AV := onStr none (fun s => forceN s.length fun n => some (.int .i64 (.ofNat n))) (x ts)
noncomputable def xLenc (n : Nat) (ts : Env) : Option AV := some (.int .i64 (.ofNat n))
def lenvA : AV → Option AV
  | .nils => some (.int .i64 0)
  | .emp .. => some (.int .i64 0)
  | .sl _ _ n _ => some (.int .i64 (.ofNat n))
  | _ => none
noncomputable def xLenv (x : Env → AV) (ts : Env) : Option AV := lenvA (x ts)
def capvA : AV → Option AV
  | .nils => some (.int .i64 0)
  | .sl _ _ _ (.ex c) => some (.int .i64 (.ofNat c))
  | _ => none
noncomputable def xCapv (x : Env → AV) (ts : Env) : Option AV := capvA (x ts)
noncomputable def xMn (x : Env → AV) (l : List (Env → AV)) (ts : Env) : Option AV := mnA (evalL l ts) (x ts)
noncomputable def xMx (x : Env → AV) (l : List (Env → AV)) (ts : Env) : Option AV := mxA (evalL l ts) (x ts)

/-! ### Those that read -/
noncomputable def keyOk (d : Nat) : TypeId → AV → Bool :=
  Nat.rec (motive := fun _ => TypeId → AV → Bool) (fun _ _ => false) (fun _ ih t v => match underT P t, v with
    | some (.int _), .int _ _ | some .string, .str _ | some .bool, .bool _ => true
    | some (.struct fs), .agg cs => fs.toList.all fun f => f.name == "_" || (match part P f.type cs f.offset with
        | some v => ih f.type v
        | none => false)
    | _, _ => false) d

noncomputable def findA {β : Type} (no : β) (kt : TypeId) (k : AV) (es : List (AV × AV × Nat)) : Nat → (Option (Nat × AV × AV × Nat) → β) → β :=
  List.rec (motive := fun _ => Nat → (Option (Nat × AV × AV × Nat) → β) → β) (fun _ f => f none)
    (fun e _ ih i f => onSome no (fun b => cond b (f (some (i, e))) (ih (Nat.succ i) f)) (eqA P (nat_lit 10000) kt k e.1)) es

def onMap {β : Type} (no : β) (f : List (AV × AV × Nat) → Nat → β) : Option AObj → β
  | some (.map es c) => f es c
  | _ => no

noncomputable def lookIn (kt : TypeId) (zero k : AV) (ok : Bool) (es : List (AV × AV × Nat)) : Option AV :=
  cond (keyOk P (nat_lit 10000) kt k) (findA P none kt k es (nat_lit 0) fun r =>
    Option.rec (motive := fun _ => Option AV) (cond ok (some (.tup [zero, .bool false])) (some zero)) (fun e => cond ok (some (.tup [e.2.2.1, .bool true])) (some e.2.2.1)) r) none
noncomputable def lookA (kt : TypeId) (zero m k : AV) (ok : Bool) (h : Heap) : Option AV := match m with
  | .nilm => lookIn P kt zero k ok []
  | .map b => onMap none (fun es _ => lookIn P kt zero k ok es) (HT.get h.t b)
  | _ => none

def byteA {β : Type} (no : β) (f : Nat → β) : AV → β
  | .int .u8 n => f ((UInt8.ofNat n.toNat).toNat)
  | _ => no
/-- A byte's cell, whose number is one. -/
noncomputable def byteF {β : Type} (no : β) (f : Nat → β) (v : AV) : β :=
  onInt no (fun k n => IntKind.rec (motive := fun _ => β) no no no no (Int.rec (motive := fun _ => β) (fun m => cond (Nat.blt m (nat_lit 256)) (forceN m f) no) (fun _ => no) n) no no no k) v

noncomputable def bytesA {β : Type} (no : β) (l : List AV) : (List Nat → β) → β :=
  List.rec (motive := fun _ => (List Nat → β) → β) (fun f => f []) (fun v _ ih f => byteF no (fun n => ih fun s => f (n :: s)) v) l

noncomputable def b2sA (x : AV) (h : Heap) : Option AV := match x with
  | .nils => some (.str [])
  | .sl b o n _ => loadN none h b o n fun l => bytesA none l fun s => some (.str s)
  | _ => none

noncomputable def yLoad1 (x : Env → AV) (ts : Env) (h : Heap) : Option AV := onPtr none (fun b o => load1 none h b o some) (x ts)
noncomputable def yLoadn (k : Nat) (x : Env → AV) (ts : Env) (h : Heap) : Option AV := onPtr none (fun b o => loadN none h b o k fun l => some (.agg l)) (x ts)
noncomputable def yLook (kt : TypeId) (zero : AV) (m k : Env → AV) (ok : Bool) (ts : Env) (h : Heap) : Option AV := lookA P kt zero (m ts) (k ts) ok h
noncomputable def yB2s (x : Env → AV) (ts : Env) (h : Heap) : Option AV := b2sA (x ts) h
noncomputable def yP2u (x : Env → AV) (ts : Env) (h : Heap) : Option AV :=
  onPtr none (fun b o => onCells none (fun n _ _ _ _ => cond (Nat.blt o n) (some (.ptr b o)) none) (HT.get h.t b)) (x ts)
noncomputable def yU2p (u : TypeId) (x : Env → AV) (ts : Env) (h : Heap) : Option AV :=
  onPtr none (fun b o => onCells none (fun n _ e g _ => cond g none (cond (liesAt P P.depth e (n / P.cellsOf e) o u 1) (some (.ptr b o)) none)) (HT.get h.t b)) (x ts)
noncomputable def entryIn (h : Heap) : Option AObj → Option AV
  | some (.iter (some m) _ seen stepped) => match seen.getLast?, HT.get h.t m with
    | some stamp, some (.map es clock) => if clock = stepped then (es.find? (·.2.2 == stamp)).map fun e => .tup [e.1, e.2.1] else none
    | _, _ => none
  | _ => none
noncomputable def yEntry (x : Env → AV) (ts : Env) (h : Heap) : Option AV := onPtr none (fun b o => cond (Nat.beq o (nat_lit 0)) (entryIn h (HT.get h.t b)) none) (x ts)
noncomputable def lenmA (x : AV) (h : Heap) : Option AV := match x with
  | .nilm => some (.int .i64 0)
  | .map b => onMap none (fun es _ => forceN es.length fun n => some (.int .i64 (.ofNat n))) (HT.get h.t b)
  | _ => none
noncomputable def yLenm (x : Env → AV) (ts : Env) (h : Heap) : Option AV := lenmA (x ts) h

/-! ### Those that make a block -/
inductive Shp where
  | ptr
  | sl (n : Nat) (c : Nat)
  | map
noncomputable def Shp.valF (b : Nat) (s : Shp) : AV := Shp.rec (motive := fun _ => AV) (.ptr b (nat_lit 0)) (fun n c => .sl b (nat_lit 0) n (.ex c)) (.map b) s

inductive FR where
  | ok (o : AObj) (s : Shp)
  | no

noncomputable def zAlloc (o : AObj) (ts : Env) : FR := .ok o .ptr
noncomputable def zBox (t : TypeId) (k : Nat) (x : Env → AV) (ts : Env) : FR :=
  cond (Nat.beq (x ts).cells.length k) (cond ((x ts).cells.all plainAV) (.ok (rowObj t (x ts).cells false (nat_lit 0)) .ptr) .no) .no
noncomputable def zBslice (e : TypeId) (z : Nat) (zero : List AV) (len : Nat) (parts : List (Nat × Nat × (Env → AV))) (ts : Env) : FR :=
  onSome .no (fun cs => cond (Nat.ble cs.length (nat_lit 65536)) (.ok (rowObj e cs false (nat_lit 0)) (.sl len len)) .no) (fillA ts parts (List.replicate len zero).flatten)
noncomputable def zMap (ts : Env) : FR := .ok (.map [] (nat_lit 0)) .map
def isI64 : IntKind → Bool
  | .i64 => true
  | _ => false
noncomputable def zMslice (e : TypeId) (z : Nat) (zero : List AV) (l c : Env → AV) (ts : Env) : FR :=
  onInt .no (fun _ l => onInt .no (fun _ c => Int.rec (motive := fun _ => FR) (fun l => Int.rec (motive := fun _ => FR) (fun c =>
    cond (Nat.ble l c) (cond (Nat.ble c (nat_lit 1000000) && Nat.ble (Nat.mul c zero.length) (nat_lit 65536)) (match zero with
      | [v] => .ok (.cells c (Cells.of c v) e false (nat_lit 0)) (.sl l c)
      | zs => match allSame zs with
        | some v => forceN (Nat.mul c zs.length) fun n => .ok (.cells n (Cells.of n v) e false (nat_lit 0)) (.sl l c)
        | none => .ok (rowObj e (List.replicate c zs).flatten false (nat_lit 0)) (.sl l c)) .no) .no)
    (fun _ => .no) c) (fun _ => .no) l) (c ts)) (l ts)
where
  /-- All bytes zero. -/
  allSame : List AV → Option AV
    | [] => none
    | [.int .u8 0] => some (.int .u8 0)
    | .int .u8 0 :: l => allSame l
    | _ => none

/-! ### Those that act -/
noncomputable def onSomeR (f : AV → Res) (x : Option AV) : Res := onSome .no f x

noncomputable def wStore (k : Nat) (x v : Env → AV) (_ : CallF) (ts : Env) (h : Heap) : Res :=
  onPtr .no (fun b o => cond (Nat.beq (v ts).cells.length k) (cond ((v ts).cells.all plainAV) (storeN .no h b o (v ts).cells fun h => .ok .undef h) .no) .no) (x ts)

noncomputable def sameBitsA (n : Nat) : AV → AV → Bool :=
  Nat.rec (motive := fun _ => AV → AV → Bool) (fun _ _ => false) (fun _ ih x y => match x, y with
    | .bool a, .bool b => a == b
    | .int j a, .int k b => j == k && eqI a b
    | .str a, .str b => beqS a b
    | .agg a, .agg b => sameL ih a b
    | _, _ => false) n
where
  sameL (g : AV → AV → Bool) : List AV → List AV → Bool
    | [], [] => true
    | a :: x, b :: y => g a b && sameL g x y
    | _, _ => false

def setNth {α : Type} (x : α) : List α → Nat → List α
  | [], _ => []
  | _ :: l, 0 => x :: l
  | y :: l, n + 1 => y :: setNth x l n

def onMapId {β : Type} (no : β) (f : Nat → β) : AV → β
  | .map b => f b
  | _ => no

noncomputable def updIn (kt : TypeId) (b : Nat) (k v : AV) (h : Heap) (es : List (AV × AV × Nat)) (clock : Nat) : Res :=
  cond (keyOk P (nat_lit 10000) kt k) (cond (plainKV k) (findA P .no kt k es (nat_lit 0) fun r =>
    Option.rec (motive := fun _ => Res) (.ok .undef (putObj h b (.map (es ++ [(k, v, clock)]) (Nat.succ clock))))
      (fun e => cond (sameBitsA (nat_lit 1000) e.2.1 k) (.ok .undef (putObj h b (.map (setNth (k, v, e.2.2.2) es e.1) clock))) .no) r) .no) .no
where plainKV : AV → Bool
  | .any => false
  | _ => true
noncomputable def wUpd (kt : TypeId) (m k v : Env → AV) (_ : CallF) (ts : Env) (h : Heap) : Res :=
  onMapId .no (fun b => onMap .no (fun es clock => updIn P kt b (k ts) (v ts) h es clock) (HT.get h.t b)) (m ts)

noncomputable def wRanges (x : Env → AV) (_ : CallF) (ts : Env) (h : Heap) : Res := onStr .no (fun s => .ok (.ptr h.next (nat_lit 0)) (addObj h (.siter s (nat_lit 0)))) (x ts)
noncomputable def rangemA (x : AV) (h : Heap) : Res := match x with
  | .nilm => .ok (.ptr h.next (nat_lit 0)) (addObj h (.iter none (nat_lit 0) [] (nat_lit 0)))
  | .map b => onMap .no (fun _ clock => .ok (.ptr h.next (nat_lit 0)) (addObj h (.iter (some b) clock [] clock))) (HT.get h.t b)
  | _ => .no
noncomputable def wRangem (x : Env → AV) (_ : CallF) (ts : Env) (h : Heap) : Res := rangemA (x ts) h

noncomputable def nextA (r : Nat) (isString : Bool) (h : Heap) (o : Option AObj) : Res := match o, isString with
    | some (.iter none _ _ _), false => .ok (.tup [.bool false]) h
    | some (.siter s pos), true => match s[pos]? with
      | none => .ok (.tup [.bool false]) h
      | some c => cond (Nat.blt c (nat_lit 128)) (forceN c fun c => .ok (.tup [.bool true, .int .i64 (.ofNat pos), .int .i32 (.ofNat c)]) (putObj h r (.siter s (Nat.succ pos)))) .no
    | some (.iter (some m) since seen last), false => onMap .no (fun es clock =>
        if !seen.isEmpty && !es.isEmpty && es.all (fun e => Nat.ble last e.2.2) then .no else
        match (es.filter fun e => !seen.contains e.2.2).filter (fun e => Nat.blt e.2.2 since), (es.filter fun e => !seen.contains e.2.2).filter (fun e => Nat.ble since e.2.2) with
        | [], [] => .ok (.tup [.bool false]) h
        | [e], [] => .ok (.tup [.bool true, e.1, e.2.1]) (putObj h r (.iter (some m) since (seen ++ [e.2.2]) clock))
        | _, _ => .no) (HT.get h.t m)
    | _, _ => .no
noncomputable def wNext (x : Env → AV) (isString : Bool) (_ : CallF) (ts : Env) (h : Heap) : Res := onPtr .no (fun r o => cond (Nat.beq o (nat_lit 0)) (nextA r isString h (HT.get h.t r)) .no) (x ts)

noncomputable def bytesV (s : List Nat) : List AV := s.map fun b => .int .u8 (.ofNat b)
noncomputable def wS2b (e : TypeId) (x : Env → AV) (_ : CallF) (ts : Env) (h : Heap) : Res :=
  onStr .no (fun l => cond (Nat.ble l.length (nat_lit 65536)) (.ok (.sl h.next (nat_lit 0) l.length (.gr (nat_lit 1))) (addObj h (rowObj e (bytesV l) true (nat_lit 1048576)))) .no) (x ts)

def callee (args : List AV) (h : Heap) (callF : CallF) : AV → Res
  | .fn (.func g) first captured => callF (.func g) (first ++ args ++ captured) h
  | .yld b => callF (.yld b) args h
  | _ => .no
noncomputable def wCall (f : Env → AV) (args : List (Env → AV)) (callF : CallF) (ts : Env) (h : Heap) : Res := callee (evalL args ts) h callF (f ts)

def lenOfA {β : Type} (no : β) (f : Nat → β) : AV → β
  | .nils => f 0
  | .emp .. => f 0
  | .sl _ _ n _ => f n
  | .str s => f s.length
  | _ => no
/-- The first 'n' elements' cells. -/
noncomputable def firstCellsA {β : Type} (no : β) (h : Heap) (size n : Nat) (x : AV) (f : List AV → β) : β := match x with
  | .sl b o _ _ => loadN no h b o (Nat.mul n size) f
  | .nils => f []
  | .emp .. => f []
  | .str s => f (bytesV (s.take n))
  | _ => no

noncomputable def appNew (h : Heap) (e : TypeId) (z n : Nat) (cs : List AV) (frz : Nat) : Res :=
  cond (Nat.ble n (nat_lit 1000000)) (cond (Nat.ble cs.length (nat_lit 65536)) (.ok (.sl h.next (nat_lit 0) n (.gr z)) (addObj h (rowObj e cs true frz))) .no) .no

noncomputable def appGrown (e : TypeId) (z b o len n : Nat) (new : List AV) (h : Heap) : Res :=
  onCells .no (fun m t e' g fz => cond g (cond (Nat.beq e' e) (cond (Nat.ble (Nat.mod fz (nat_lit 1048576)) (Nat.add o (Nat.mul len z))) (cond (Nat.ble (Nat.add o (Nat.mul len z)) m)
    (cond (Nat.beq o (nat_lit 0) && Nat.beq (Nat.mul len z) m && Nat.ble (Nat.add m new.length) t.room)
      (cond (Nat.ble (Nat.add len n) (nat_lit 1000000)) (forceN (Nat.add len n) fun ln => forceN (Nat.add m new.length) fun m' => .ok (.sl h.next (nat_lit 0) ln (.gr z)) (addObj (delObj h b) (.cells m' (setCells t m new) e true fz))) .no)
      (loadN .no h b o (Nat.mul len z) fun old => appNew (delObj h b) e z (Nat.add len n) (old ++ new) (cond (Nat.blt fz (nat_lit 1048576)) (Nat.sub fz o) (Nat.add (nat_lit 1048576) (Nat.sub (Nat.mod fz (nat_lit 1048576)) o))))) .no) .no) .no) .no) (HT.get h.t b)

noncomputable def appCap (e : TypeId) (z b o len n : Nat) (new : List AV) (h : Heap) (cap : Cap) : Res :=
  Cap.rec (motive := fun _ => Res)
    (fun c => cond (Nat.ble (Nat.add len n) c)
        (cond (new.all plainAV) (storeN .no h b (Nat.add o (Nat.mul len z)) new fun h' => forceN (Nat.add len n) fun ln => .ok (.sl b o ln (.ex c)) h') .no)
        (loadN .no h b o (Nat.mul len z) fun old => appNew h e z (Nat.add len n) (old ++ new) (nat_lit 0)))
    (fun z' => cond (Nat.beq z' z) (cond (Nat.beq n (nat_lit 0)) (.ok (.sl b o len (.gr z')) h) (cond (new.all plainAV) (appGrown e z b o len n new h) .no)) .no) cap

noncomputable def appendA (e : TypeId) (z : Nat) (s x : AV) (h : Heap) : Res :=
  lenOfA .no (fun n => firstCellsA .no h z n x fun new => cond (Nat.beq new.length (Nat.mul n z)) (match s with
    | .nils => cond (Nat.beq n (nat_lit 0)) (.ok .nils h) (appNew h e z n new (nat_lit 0))
    | .emp b z' => cond (Nat.beq z' z) (cond (Nat.beq n (nat_lit 0)) (.ok (.emp b z') h) (onCells .no (fun _ _ e' g fz => cond (Nat.beq fz (nat_lit 0)) (cond (Nat.beq e' e) (cond (new.all plainAV) (appNew (delObj h b) e z n new (nat_lit 0)) .no) .no) .no) (HT.get h.t b))) .no
    | .sl b o len cap => appCap e z b o len n new h cap
    | _ => .no) .no) x
noncomputable def wAppend (e : TypeId) (z : Nat) (s x : Env → AV) (_ : CallF) (ts : Env) (h : Heap) : Res := appendA e z (s ts) (x ts) h

noncomputable def minN (a b : Nat) : Nat := cond (Nat.ble a b) a b
noncomputable def copyA (z : Nat) (d s : AV) (h : Heap) : Res :=
  lenOfA .no (fun dl => lenOfA .no (fun sl => forceN (minN sl dl) fun n => firstCellsA .no h z n s fun cs => match d with
    | .sl b o _ _ => cond (cs.all plainAV) (storeN .no h b o cs fun h' => .ok (.int .i64 (.ofNat n)) h') .no
    | .nils => .ok (.int .i64 (.ofNat n)) h
    | .emp .. => .ok (.int .i64 (.ofNat n)) h
    | _ => .no) s) d
noncomputable def wCopy (z : Nat) (d s : Env → AV) (_ : CallF) (ts : Env) (h : Heap) : Res := copyA z (d ts) (s ts) h

noncomputable def delA (kt : TypeId) (m k : AV) (h : Heap) : Res := match m with
  | .nilm => cond (keyOk P (nat_lit 10000) kt k) (.ok (.tup []) h) .no
  | .map b => onMap .no (fun es clock => cond (keyOk P (nat_lit 10000) kt k) (findA P .no kt k es (nat_lit 0) fun r =>
      Option.rec (motive := fun _ => Res) (.ok (.tup []) h) (fun e => .ok (.tup []) (putObj h b (.map (es.eraseIdx e.1) clock))) r) .no) (HT.get h.t b)
  | _ => .no
noncomputable def wDelete (kt : TypeId) (m k : Env → AV) (_ : CallF) (ts : Env) (h : Heap) : Res := delA P kt (m ts) (k ts) h

noncomputable def wSdata (x : Env → AV) (_ : CallF) (ts : Env) (h : Heap) : Res := match x ts with
  | .nils => .ok .nilp h
  | .sl b o (_ + 1) (.ex (_ + 1)) => .ok (.ptr b o) h
  | .sl b o (_ + 1) (.gr _) => .ok (.ptr b o) h
  | _ => .no

noncomputable def ustrA (u : TypeId) (b o n : Nat) (h : Heap) : Res :=
  onCells .no (fun m t e g fz => cond (Nat.ble n (nat_lit 1000000) && Nat.blt fz (nat_lit 1048576)) (cond (Nat.ble (Nat.add o n) m) (cond (Nat.beq (P.cellsOf e) (nat_lit 1) && Nat.beq (P.cellsOf u) (nat_lit 1) && sameLayout P P.depth e u)
    (cellsFrom .no m t n o fun cs => bytesA .no cs fun s => .ok (.str s) (putObj h b (.cells m t e g (cond (Nat.ble fz (Nat.add o n)) (Nat.add o n) fz)))) .no) .no) .no) (HT.get h.t b)
noncomputable def wUstr (u : TypeId) (p n : Env → AV) (_ : CallF) (ts : Env) (h : Heap) : Res := match p ts, n ts with
  | .nilp, .int .i64 (.ofNat 0) => .ok (.str []) h
  | .ptr b o, .int .i64 (.ofNat (n + 1)) => ustrA P u b o (n + 1) h
  | _, _ => .no

/-- Where the deferred calls lie among the temporaries. -/
noncomputable def deferPath : Path := pathOf (nat_lit 255)
def tupOf : AV → List AV
  | .tup l => l
  | _ => []
noncomputable def defersOf (ts : Env) : List AV := tupOf (get2 ts deferPath)

end
end Go.Eng
