import GoSem.Dispatch
import GoSem.Step
/-! The abstract machine, 1: values, trees, heap. Written with recursors and with Nat's own functions, so that the kernel is quick at it. -/
namespace Go.Eng
set_option linter.all false

/-- What is known of a slice's capacity: it; or nothing, but that the row has room for so many of elements of so many cells. -/
inductive Cap where
  | ex (c : Nat)
  | gr (z : Nat)
  deriving DecidableEq

inductive AV where
  | any
  | bool (b : Bool)
  | nilp
  | nils
  | emp (b z : Nat)
  | nilm
  | map (b : Nat)
  | nilf
  | fn (f : Fn) (first captured : List AV)
  | yld (b : Nat)
  | nili
  | iface (t : TypeId) (v : AV)
  | tup (vs : List AV)
  | agg (cs : List AV)
  | sl (b o len : Nat) (cap : Cap)
  | str (s : List Nat)
  | ptr (b o : Nat)
  | int (k : IntKind) (n : Int)
  | sym (b : Nat) (t : Option IntKind)
  deriving Inhabited

abbrev AV.undef : AV := .tup []

def AV.cells : AV → List AV
  | .agg cs => cs
  | v => [v]

mutual
def ofV : Value → AV
  | .bool b => .bool b
  | .int k n => .int k n
  | .string s => .str (s.data.toList.map UInt8.toNat)
  | .pointer none => .nilp
  | .slice none 0 0 => .nils
  | .map none => .nilm
  | .nilFunc => .nilf
  | .func fn ⟨[]⟩ ⟨[]⟩ => .fn fn [] []
  | .nilIface => .nili
  | .iface t v => .iface t (ofV v)
  | .agg ⟨l⟩ => .agg (ofVL l)
  | .tuple ⟨l⟩ => .tup (ofVL l)
  | _ => .any
def ofVL : List Value → List AV
  | [] => []
  | v :: l => ofV v :: ofVL l
end

/-! ### Forcing: the kernel substitutes terms unevaluated; these make it evaluate first. -/
section
variable {β : Type}
noncomputable def forceN (n : Nat) (k : Nat → β) : β := Nat.rec (motive := fun _ => β) (k (nat_lit 0)) (fun p _ => k (Nat.succ p)) n
noncomputable def forceI (n : Int) (k : Int → β) : β := Int.rec (motive := fun _ => β) (fun m => forceN m fun m => k (.ofNat m)) (fun m => forceN m fun m => k (.negSucc m)) n
noncomputable def forceB (b : Bool) (k : Bool → β) : β := Bool.rec (motive := fun _ => β) (k false) (k true) b
noncomputable def forceS (s : List Nat) : (List Nat → β) → β :=
  List.rec (motive := fun _ => (List Nat → β) → β) (fun k => k []) (fun a _ ih k => forceN a fun a => ih fun l => k (a :: l)) s
end

/-! ### Sixteen things; towers of them -/
inductive D where
  | d0
  | d1
  | d2
  | d3
  | d4
  | d5
  | d6
  | d7
  | d8
  | d9
  | d10
  | d11
  | d12
  | d13
  | d14
  | d15

structure S (α : Type) where
  mk ::
  a0 : α
  a1 : α
  a2 : α
  a3 : α
  a4 : α
  a5 : α
  a6 : α
  a7 : α
  a8 : α
  a9 : α
  a10 : α
  a11 : α
  a12 : α
  a13 : α
  a14 : α
  a15 : α

namespace S
variable {α : Type}
noncomputable def g0 (s : S α) : α := s.a0
noncomputable def g1 (s : S α) : α := s.a1
noncomputable def g2 (s : S α) : α := s.a2
noncomputable def g3 (s : S α) : α := s.a3
noncomputable def g4 (s : S α) : α := s.a4
noncomputable def g5 (s : S α) : α := s.a5
noncomputable def g6 (s : S α) : α := s.a6
noncomputable def g7 (s : S α) : α := s.a7
noncomputable def g8 (s : S α) : α := s.a8
noncomputable def g9 (s : S α) : α := s.a9
noncomputable def g10 (s : S α) : α := s.a10
noncomputable def g11 (s : S α) : α := s.a11
noncomputable def g12 (s : S α) : α := s.a12
noncomputable def g13 (s : S α) : α := s.a13
noncomputable def g14 (s : S α) : α := s.a14
noncomputable def g15 (s : S α) : α := s.a15
noncomputable def s0 (s : S α) (x : α) : S α := S.rec (motive := fun _ => S α) (fun a0 a1 a2 a3 a4 a5 a6 a7 a8 a9 a10 a11 a12 a13 a14 a15 => S.mk x a1 a2 a3 a4 a5 a6 a7 a8 a9 a10 a11 a12 a13 a14 a15) s
noncomputable def s1 (s : S α) (x : α) : S α := S.rec (motive := fun _ => S α) (fun a0 a1 a2 a3 a4 a5 a6 a7 a8 a9 a10 a11 a12 a13 a14 a15 => S.mk a0 x a2 a3 a4 a5 a6 a7 a8 a9 a10 a11 a12 a13 a14 a15) s
noncomputable def s2 (s : S α) (x : α) : S α := S.rec (motive := fun _ => S α) (fun a0 a1 a2 a3 a4 a5 a6 a7 a8 a9 a10 a11 a12 a13 a14 a15 => S.mk a0 a1 x a3 a4 a5 a6 a7 a8 a9 a10 a11 a12 a13 a14 a15) s
noncomputable def s3 (s : S α) (x : α) : S α := S.rec (motive := fun _ => S α) (fun a0 a1 a2 a3 a4 a5 a6 a7 a8 a9 a10 a11 a12 a13 a14 a15 => S.mk a0 a1 a2 x a4 a5 a6 a7 a8 a9 a10 a11 a12 a13 a14 a15) s
noncomputable def s4 (s : S α) (x : α) : S α := S.rec (motive := fun _ => S α) (fun a0 a1 a2 a3 a4 a5 a6 a7 a8 a9 a10 a11 a12 a13 a14 a15 => S.mk a0 a1 a2 a3 x a5 a6 a7 a8 a9 a10 a11 a12 a13 a14 a15) s
noncomputable def s5 (s : S α) (x : α) : S α := S.rec (motive := fun _ => S α) (fun a0 a1 a2 a3 a4 a5 a6 a7 a8 a9 a10 a11 a12 a13 a14 a15 => S.mk a0 a1 a2 a3 a4 x a6 a7 a8 a9 a10 a11 a12 a13 a14 a15) s
noncomputable def s6 (s : S α) (x : α) : S α := S.rec (motive := fun _ => S α) (fun a0 a1 a2 a3 a4 a5 a6 a7 a8 a9 a10 a11 a12 a13 a14 a15 => S.mk a0 a1 a2 a3 a4 a5 x a7 a8 a9 a10 a11 a12 a13 a14 a15) s
noncomputable def s7 (s : S α) (x : α) : S α := S.rec (motive := fun _ => S α) (fun a0 a1 a2 a3 a4 a5 a6 a7 a8 a9 a10 a11 a12 a13 a14 a15 => S.mk a0 a1 a2 a3 a4 a5 a6 x a8 a9 a10 a11 a12 a13 a14 a15) s
noncomputable def s8 (s : S α) (x : α) : S α := S.rec (motive := fun _ => S α) (fun a0 a1 a2 a3 a4 a5 a6 a7 a8 a9 a10 a11 a12 a13 a14 a15 => S.mk a0 a1 a2 a3 a4 a5 a6 a7 x a9 a10 a11 a12 a13 a14 a15) s
noncomputable def s9 (s : S α) (x : α) : S α := S.rec (motive := fun _ => S α) (fun a0 a1 a2 a3 a4 a5 a6 a7 a8 a9 a10 a11 a12 a13 a14 a15 => S.mk a0 a1 a2 a3 a4 a5 a6 a7 a8 x a10 a11 a12 a13 a14 a15) s
noncomputable def s10 (s : S α) (x : α) : S α := S.rec (motive := fun _ => S α) (fun a0 a1 a2 a3 a4 a5 a6 a7 a8 a9 a10 a11 a12 a13 a14 a15 => S.mk a0 a1 a2 a3 a4 a5 a6 a7 a8 a9 x a11 a12 a13 a14 a15) s
noncomputable def s11 (s : S α) (x : α) : S α := S.rec (motive := fun _ => S α) (fun a0 a1 a2 a3 a4 a5 a6 a7 a8 a9 a10 a11 a12 a13 a14 a15 => S.mk a0 a1 a2 a3 a4 a5 a6 a7 a8 a9 a10 x a12 a13 a14 a15) s
noncomputable def s12 (s : S α) (x : α) : S α := S.rec (motive := fun _ => S α) (fun a0 a1 a2 a3 a4 a5 a6 a7 a8 a9 a10 a11 a12 a13 a14 a15 => S.mk a0 a1 a2 a3 a4 a5 a6 a7 a8 a9 a10 a11 x a13 a14 a15) s
noncomputable def s13 (s : S α) (x : α) : S α := S.rec (motive := fun _ => S α) (fun a0 a1 a2 a3 a4 a5 a6 a7 a8 a9 a10 a11 a12 a13 a14 a15 => S.mk a0 a1 a2 a3 a4 a5 a6 a7 a8 a9 a10 a11 a12 x a14 a15) s
noncomputable def s14 (s : S α) (x : α) : S α := S.rec (motive := fun _ => S α) (fun a0 a1 a2 a3 a4 a5 a6 a7 a8 a9 a10 a11 a12 a13 a14 a15 => S.mk a0 a1 a2 a3 a4 a5 a6 a7 a8 a9 a10 a11 a12 a13 x a15) s
noncomputable def s15 (s : S α) (x : α) : S α := S.rec (motive := fun _ => S α) (fun a0 a1 a2 a3 a4 a5 a6 a7 a8 a9 a10 a11 a12 a13 a14 a15 => S.mk a0 a1 a2 a3 a4 a5 a6 a7 a8 a9 a10 a11 a12 a13 a14 x) s
noncomputable def m0 {β : Type} (s : S α) (f : α → β) (k : β → (α → S α) → S α) : S α := S.rec (motive := fun _ => S α) (fun a0 a1 a2 a3 a4 a5 a6 a7 a8 a9 a10 a11 a12 a13 a14 a15 => k (f a0) (fun x => S.mk x a1 a2 a3 a4 a5 a6 a7 a8 a9 a10 a11 a12 a13 a14 a15)) s
noncomputable def m1 {β : Type} (s : S α) (f : α → β) (k : β → (α → S α) → S α) : S α := S.rec (motive := fun _ => S α) (fun a0 a1 a2 a3 a4 a5 a6 a7 a8 a9 a10 a11 a12 a13 a14 a15 => k (f a1) (fun x => S.mk a0 x a2 a3 a4 a5 a6 a7 a8 a9 a10 a11 a12 a13 a14 a15)) s
noncomputable def m2 {β : Type} (s : S α) (f : α → β) (k : β → (α → S α) → S α) : S α := S.rec (motive := fun _ => S α) (fun a0 a1 a2 a3 a4 a5 a6 a7 a8 a9 a10 a11 a12 a13 a14 a15 => k (f a2) (fun x => S.mk a0 a1 x a3 a4 a5 a6 a7 a8 a9 a10 a11 a12 a13 a14 a15)) s
noncomputable def m3 {β : Type} (s : S α) (f : α → β) (k : β → (α → S α) → S α) : S α := S.rec (motive := fun _ => S α) (fun a0 a1 a2 a3 a4 a5 a6 a7 a8 a9 a10 a11 a12 a13 a14 a15 => k (f a3) (fun x => S.mk a0 a1 a2 x a4 a5 a6 a7 a8 a9 a10 a11 a12 a13 a14 a15)) s
noncomputable def m4 {β : Type} (s : S α) (f : α → β) (k : β → (α → S α) → S α) : S α := S.rec (motive := fun _ => S α) (fun a0 a1 a2 a3 a4 a5 a6 a7 a8 a9 a10 a11 a12 a13 a14 a15 => k (f a4) (fun x => S.mk a0 a1 a2 a3 x a5 a6 a7 a8 a9 a10 a11 a12 a13 a14 a15)) s
noncomputable def m5 {β : Type} (s : S α) (f : α → β) (k : β → (α → S α) → S α) : S α := S.rec (motive := fun _ => S α) (fun a0 a1 a2 a3 a4 a5 a6 a7 a8 a9 a10 a11 a12 a13 a14 a15 => k (f a5) (fun x => S.mk a0 a1 a2 a3 a4 x a6 a7 a8 a9 a10 a11 a12 a13 a14 a15)) s
noncomputable def m6 {β : Type} (s : S α) (f : α → β) (k : β → (α → S α) → S α) : S α := S.rec (motive := fun _ => S α) (fun a0 a1 a2 a3 a4 a5 a6 a7 a8 a9 a10 a11 a12 a13 a14 a15 => k (f a6) (fun x => S.mk a0 a1 a2 a3 a4 a5 x a7 a8 a9 a10 a11 a12 a13 a14 a15)) s
noncomputable def m7 {β : Type} (s : S α) (f : α → β) (k : β → (α → S α) → S α) : S α := S.rec (motive := fun _ => S α) (fun a0 a1 a2 a3 a4 a5 a6 a7 a8 a9 a10 a11 a12 a13 a14 a15 => k (f a7) (fun x => S.mk a0 a1 a2 a3 a4 a5 a6 x a8 a9 a10 a11 a12 a13 a14 a15)) s
noncomputable def m8 {β : Type} (s : S α) (f : α → β) (k : β → (α → S α) → S α) : S α := S.rec (motive := fun _ => S α) (fun a0 a1 a2 a3 a4 a5 a6 a7 a8 a9 a10 a11 a12 a13 a14 a15 => k (f a8) (fun x => S.mk a0 a1 a2 a3 a4 a5 a6 a7 x a9 a10 a11 a12 a13 a14 a15)) s
noncomputable def m9 {β : Type} (s : S α) (f : α → β) (k : β → (α → S α) → S α) : S α := S.rec (motive := fun _ => S α) (fun a0 a1 a2 a3 a4 a5 a6 a7 a8 a9 a10 a11 a12 a13 a14 a15 => k (f a9) (fun x => S.mk a0 a1 a2 a3 a4 a5 a6 a7 a8 x a10 a11 a12 a13 a14 a15)) s
noncomputable def m10 {β : Type} (s : S α) (f : α → β) (k : β → (α → S α) → S α) : S α := S.rec (motive := fun _ => S α) (fun a0 a1 a2 a3 a4 a5 a6 a7 a8 a9 a10 a11 a12 a13 a14 a15 => k (f a10) (fun x => S.mk a0 a1 a2 a3 a4 a5 a6 a7 a8 a9 x a11 a12 a13 a14 a15)) s
noncomputable def m11 {β : Type} (s : S α) (f : α → β) (k : β → (α → S α) → S α) : S α := S.rec (motive := fun _ => S α) (fun a0 a1 a2 a3 a4 a5 a6 a7 a8 a9 a10 a11 a12 a13 a14 a15 => k (f a11) (fun x => S.mk a0 a1 a2 a3 a4 a5 a6 a7 a8 a9 a10 x a12 a13 a14 a15)) s
noncomputable def m12 {β : Type} (s : S α) (f : α → β) (k : β → (α → S α) → S α) : S α := S.rec (motive := fun _ => S α) (fun a0 a1 a2 a3 a4 a5 a6 a7 a8 a9 a10 a11 a12 a13 a14 a15 => k (f a12) (fun x => S.mk a0 a1 a2 a3 a4 a5 a6 a7 a8 a9 a10 a11 x a13 a14 a15)) s
noncomputable def m13 {β : Type} (s : S α) (f : α → β) (k : β → (α → S α) → S α) : S α := S.rec (motive := fun _ => S α) (fun a0 a1 a2 a3 a4 a5 a6 a7 a8 a9 a10 a11 a12 a13 a14 a15 => k (f a13) (fun x => S.mk a0 a1 a2 a3 a4 a5 a6 a7 a8 a9 a10 a11 a12 x a14 a15)) s
noncomputable def m14 {β : Type} (s : S α) (f : α → β) (k : β → (α → S α) → S α) : S α := S.rec (motive := fun _ => S α) (fun a0 a1 a2 a3 a4 a5 a6 a7 a8 a9 a10 a11 a12 a13 a14 a15 => k (f a14) (fun x => S.mk a0 a1 a2 a3 a4 a5 a6 a7 a8 a9 a10 a11 a12 a13 x a15)) s
noncomputable def m15 {β : Type} (s : S α) (f : α → β) (k : β → (α → S α) → S α) : S α := S.rec (motive := fun _ => S α) (fun a0 a1 a2 a3 a4 a5 a6 a7 a8 a9 a10 a11 a12 a13 a14 a15 => k (f a15) (fun x => S.mk a0 a1 a2 a3 a4 a5 a6 a7 a8 a9 a10 a11 a12 a13 a14 x)) s
noncomputable def get (d : D) : S α → α := D.rec (motive := fun _ => S α → α) g0 g1 g2 g3 g4 g5 g6 g7 g8 g9 g10 g11 g12 g13 g14 g15 d
noncomputable def set (d : D) : S α → α → S α := D.rec (motive := fun _ => S α → α → S α) s0 s1 s2 s3 s4 s5 s6 s7 s8 s9 s10 s11 s12 s13 s14 s15 d
def all (x : α) : S α := S.mk x x x x x x x x x x x x x x x x
/-- Evaluated first. -/
noncomputable def strict {β : Type} (s : S α) (k : S α → β) : β := S.rec (motive := fun _ => β) (fun a0 a1 a2 a3 a4 a5 a6 a7 a8 a9 a10 a11 a12 a13 a14 a15 => k (S.mk a0 a1 a2 a3 a4 a5 a6 a7 a8 a9 a10 a11 a12 a13 a14 a15)) s
end S

/-- A digit below sixteen. -/
noncomputable def dig (n : Nat) : D := Nat.rec (motive := fun _ => D) .d0 (fun n _ => Nat.rec (motive := fun _ => D) .d1 (fun n _ => Nat.rec (motive := fun _ => D) .d2 (fun n _ => Nat.rec (motive := fun _ => D) .d3 (fun n _ => Nat.rec (motive := fun _ => D) .d4 (fun n _ => Nat.rec (motive := fun _ => D) .d5 (fun n _ => Nat.rec (motive := fun _ => D) .d6 (fun n _ => Nat.rec (motive := fun _ => D) .d7 (fun n _ => Nat.rec (motive := fun _ => D) .d8 (fun n _ => Nat.rec (motive := fun _ => D) .d9 (fun n _ => Nat.rec (motive := fun _ => D) .d10 (fun n _ => Nat.rec (motive := fun _ => D) .d11 (fun n _ => Nat.rec (motive := fun _ => D) .d12 (fun n _ => Nat.rec (motive := fun _ => D) .d13 (fun n _ => Nat.rec (motive := fun _ => D) .d14 (fun n _ => .d15) n) n) n) n) n) n) n) n) n) n) n) n) n) n) n

inductive P2 where
  | mk (a b : D)
inductive P3 where
  | mk (a b c : D)
inductive P4 where
  | mk (a b c d : D)
noncomputable def p2 (n : Nat) : P2 := .mk (dig (Nat.div n (nat_lit 16))) (dig (Nat.mod n (nat_lit 16)))
noncomputable def p3 (n : Nat) : P3 := .mk (dig (Nat.div n (nat_lit 256))) (dig (Nat.mod (Nat.div n (nat_lit 16)) (nat_lit 16))) (dig (Nat.mod n (nat_lit 16)))
noncomputable def p4 (n : Nat) : P4 := .mk (dig (Nat.div n (nat_lit 4096))) (dig (Nat.mod (Nat.div n (nat_lit 256)) (nat_lit 16))) (dig (Nat.mod (Nat.div n (nat_lit 16)) (nat_lit 16))) (dig (Nat.mod n (nat_lit 16)))

section
variable {α : Type}
noncomputable def get2 (s : S (S α)) (p : P2) : α := P2.rec (motive := fun _ => α) (fun a b => S.get b (S.get a s)) p
noncomputable def set2 (s : S (S α)) (p : P2) (x : α) : S (S α) := P2.rec (motive := fun _ => S (S α)) (fun a b => S.strict (S.set b (S.get a s) x) fun y => S.set a s y) p
noncomputable def get3 (s : S (S (S α))) (p : P3) : α := P3.rec (motive := fun _ => α) (fun a b c => S.get c (S.get b (S.get a s))) p
noncomputable def set3 (s : S (S (S α))) (p : P3) (x : α) : S (S (S α)) :=
  P3.rec (motive := fun _ => S (S (S α))) (fun a b c => S.strict (S.set c (S.get b (S.get a s)) x) fun y => S.strict (S.set b (S.get a s) y) fun y => S.set a s y) p
noncomputable def get4 (s : S (S (S (S α)))) (p : P4) : α := P4.rec (motive := fun _ => α) (fun a b c d => S.get d (S.get c (S.get b (S.get a s)))) p
noncomputable def set4 (s : S (S (S (S α)))) (p : P4) (x : α) : S (S (S (S α))) :=
  P4.rec (motive := fun _ => S (S (S (S α)))) (fun a b c d => S.strict (S.set d (S.get c (S.get b (S.get a s))) x) fun y => S.strict (S.set c (S.get b (S.get a s)) y) fun y => S.strict (S.set b (S.get a s) y) fun y => S.set a s y) p
end

/-- The temporaries. -/
abbrev Env := S (S AV)
def env0 : Env := .all (.all .undef)
abbrev Path := P2
noncomputable def pathOf (n : Nat) : Path := p2 n

/-- A list as a tower (of its first 4096). -/
noncomputable def tower {α : Type} (l : List α) : S (S (S (Option α))) :=
  List.rec (motive := fun _ => Nat → S (S (S (Option α))) → S (S (S (Option α)))) (fun _ t => t)
    (fun x _ ih n t => cond (Nat.blt n (nat_lit 4096)) (forceN (Nat.succ n) fun n' => S.strict (set3 t (p3 n) (some x)) fun t => ih n' t) t) l (nat_lit 0) (.all (.all (.all none)))
noncomputable def towerGet {α : Type} (t : S (S (S (Option α)))) (n : Nat) : Option α := cond (Nat.blt n (nat_lit 4096)) (get3 t (p3 n)) none

/-! ### The places of the temporaries, one by one -/
noncomputable def r0 (s : Env) : AV := s.a0.a0
noncomputable def r1 (s : Env) : AV := s.a0.a1
noncomputable def r2 (s : Env) : AV := s.a0.a2
noncomputable def r3 (s : Env) : AV := s.a0.a3
noncomputable def r4 (s : Env) : AV := s.a0.a4
noncomputable def r5 (s : Env) : AV := s.a0.a5
noncomputable def r6 (s : Env) : AV := s.a0.a6
noncomputable def r7 (s : Env) : AV := s.a0.a7
noncomputable def r8 (s : Env) : AV := s.a0.a8
noncomputable def r9 (s : Env) : AV := s.a0.a9
noncomputable def r10 (s : Env) : AV := s.a0.a10
noncomputable def r11 (s : Env) : AV := s.a0.a11
noncomputable def r12 (s : Env) : AV := s.a0.a12
noncomputable def r13 (s : Env) : AV := s.a0.a13
noncomputable def r14 (s : Env) : AV := s.a0.a14
noncomputable def r15 (s : Env) : AV := s.a0.a15
noncomputable def r16 (s : Env) : AV := s.a1.a0
noncomputable def r17 (s : Env) : AV := s.a1.a1
noncomputable def r18 (s : Env) : AV := s.a1.a2
noncomputable def r19 (s : Env) : AV := s.a1.a3
noncomputable def r20 (s : Env) : AV := s.a1.a4
noncomputable def r21 (s : Env) : AV := s.a1.a5
noncomputable def r22 (s : Env) : AV := s.a1.a6
noncomputable def r23 (s : Env) : AV := s.a1.a7
noncomputable def r24 (s : Env) : AV := s.a1.a8
noncomputable def r25 (s : Env) : AV := s.a1.a9
noncomputable def r26 (s : Env) : AV := s.a1.a10
noncomputable def r27 (s : Env) : AV := s.a1.a11
noncomputable def r28 (s : Env) : AV := s.a1.a12
noncomputable def r29 (s : Env) : AV := s.a1.a13
noncomputable def r30 (s : Env) : AV := s.a1.a14
noncomputable def r31 (s : Env) : AV := s.a1.a15
noncomputable def r32 (s : Env) : AV := s.a2.a0
noncomputable def r33 (s : Env) : AV := s.a2.a1
noncomputable def r34 (s : Env) : AV := s.a2.a2
noncomputable def r35 (s : Env) : AV := s.a2.a3
noncomputable def r36 (s : Env) : AV := s.a2.a4
noncomputable def r37 (s : Env) : AV := s.a2.a5
noncomputable def r38 (s : Env) : AV := s.a2.a6
noncomputable def r39 (s : Env) : AV := s.a2.a7
noncomputable def r40 (s : Env) : AV := s.a2.a8
noncomputable def r41 (s : Env) : AV := s.a2.a9
noncomputable def r42 (s : Env) : AV := s.a2.a10
noncomputable def r43 (s : Env) : AV := s.a2.a11
noncomputable def r44 (s : Env) : AV := s.a2.a12
noncomputable def r45 (s : Env) : AV := s.a2.a13
noncomputable def r46 (s : Env) : AV := s.a2.a14
noncomputable def r47 (s : Env) : AV := s.a2.a15
noncomputable def r48 (s : Env) : AV := s.a3.a0
noncomputable def r49 (s : Env) : AV := s.a3.a1
noncomputable def r50 (s : Env) : AV := s.a3.a2
noncomputable def r51 (s : Env) : AV := s.a3.a3
noncomputable def r52 (s : Env) : AV := s.a3.a4
noncomputable def r53 (s : Env) : AV := s.a3.a5
noncomputable def r54 (s : Env) : AV := s.a3.a6
noncomputable def r55 (s : Env) : AV := s.a3.a7
noncomputable def r56 (s : Env) : AV := s.a3.a8
noncomputable def r57 (s : Env) : AV := s.a3.a9
noncomputable def r58 (s : Env) : AV := s.a3.a10
noncomputable def r59 (s : Env) : AV := s.a3.a11
noncomputable def r60 (s : Env) : AV := s.a3.a12
noncomputable def r61 (s : Env) : AV := s.a3.a13
noncomputable def r62 (s : Env) : AV := s.a3.a14
noncomputable def r63 (s : Env) : AV := s.a3.a15
noncomputable def r64 (s : Env) : AV := s.a4.a0
noncomputable def r65 (s : Env) : AV := s.a4.a1
noncomputable def r66 (s : Env) : AV := s.a4.a2
noncomputable def r67 (s : Env) : AV := s.a4.a3
noncomputable def r68 (s : Env) : AV := s.a4.a4
noncomputable def r69 (s : Env) : AV := s.a4.a5
noncomputable def r70 (s : Env) : AV := s.a4.a6
noncomputable def r71 (s : Env) : AV := s.a4.a7
noncomputable def r72 (s : Env) : AV := s.a4.a8
noncomputable def r73 (s : Env) : AV := s.a4.a9
noncomputable def r74 (s : Env) : AV := s.a4.a10
noncomputable def r75 (s : Env) : AV := s.a4.a11
noncomputable def r76 (s : Env) : AV := s.a4.a12
noncomputable def r77 (s : Env) : AV := s.a4.a13
noncomputable def r78 (s : Env) : AV := s.a4.a14
noncomputable def r79 (s : Env) : AV := s.a4.a15
noncomputable def r80 (s : Env) : AV := s.a5.a0
noncomputable def r81 (s : Env) : AV := s.a5.a1
noncomputable def r82 (s : Env) : AV := s.a5.a2
noncomputable def r83 (s : Env) : AV := s.a5.a3
noncomputable def r84 (s : Env) : AV := s.a5.a4
noncomputable def r85 (s : Env) : AV := s.a5.a5
noncomputable def r86 (s : Env) : AV := s.a5.a6
noncomputable def r87 (s : Env) : AV := s.a5.a7
noncomputable def r88 (s : Env) : AV := s.a5.a8
noncomputable def r89 (s : Env) : AV := s.a5.a9
noncomputable def r90 (s : Env) : AV := s.a5.a10
noncomputable def r91 (s : Env) : AV := s.a5.a11
noncomputable def r92 (s : Env) : AV := s.a5.a12
noncomputable def r93 (s : Env) : AV := s.a5.a13
noncomputable def r94 (s : Env) : AV := s.a5.a14
noncomputable def r95 (s : Env) : AV := s.a5.a15
noncomputable def r96 (s : Env) : AV := s.a6.a0
noncomputable def r97 (s : Env) : AV := s.a6.a1
noncomputable def r98 (s : Env) : AV := s.a6.a2
noncomputable def r99 (s : Env) : AV := s.a6.a3
noncomputable def r100 (s : Env) : AV := s.a6.a4
noncomputable def r101 (s : Env) : AV := s.a6.a5
noncomputable def r102 (s : Env) : AV := s.a6.a6
noncomputable def r103 (s : Env) : AV := s.a6.a7
noncomputable def r104 (s : Env) : AV := s.a6.a8
noncomputable def r105 (s : Env) : AV := s.a6.a9
noncomputable def r106 (s : Env) : AV := s.a6.a10
noncomputable def r107 (s : Env) : AV := s.a6.a11
noncomputable def r108 (s : Env) : AV := s.a6.a12
noncomputable def r109 (s : Env) : AV := s.a6.a13
noncomputable def r110 (s : Env) : AV := s.a6.a14
noncomputable def r111 (s : Env) : AV := s.a6.a15
noncomputable def r112 (s : Env) : AV := s.a7.a0
noncomputable def r113 (s : Env) : AV := s.a7.a1
noncomputable def r114 (s : Env) : AV := s.a7.a2
noncomputable def r115 (s : Env) : AV := s.a7.a3
noncomputable def r116 (s : Env) : AV := s.a7.a4
noncomputable def r117 (s : Env) : AV := s.a7.a5
noncomputable def r118 (s : Env) : AV := s.a7.a6
noncomputable def r119 (s : Env) : AV := s.a7.a7
noncomputable def r120 (s : Env) : AV := s.a7.a8
noncomputable def r121 (s : Env) : AV := s.a7.a9
noncomputable def r122 (s : Env) : AV := s.a7.a10
noncomputable def r123 (s : Env) : AV := s.a7.a11
noncomputable def r124 (s : Env) : AV := s.a7.a12
noncomputable def r125 (s : Env) : AV := s.a7.a13
noncomputable def r126 (s : Env) : AV := s.a7.a14
noncomputable def r127 (s : Env) : AV := s.a7.a15
noncomputable def r128 (s : Env) : AV := s.a8.a0
noncomputable def r129 (s : Env) : AV := s.a8.a1
noncomputable def r130 (s : Env) : AV := s.a8.a2
noncomputable def r131 (s : Env) : AV := s.a8.a3
noncomputable def r132 (s : Env) : AV := s.a8.a4
noncomputable def r133 (s : Env) : AV := s.a8.a5
noncomputable def r134 (s : Env) : AV := s.a8.a6
noncomputable def r135 (s : Env) : AV := s.a8.a7
noncomputable def r136 (s : Env) : AV := s.a8.a8
noncomputable def r137 (s : Env) : AV := s.a8.a9
noncomputable def r138 (s : Env) : AV := s.a8.a10
noncomputable def r139 (s : Env) : AV := s.a8.a11
noncomputable def r140 (s : Env) : AV := s.a8.a12
noncomputable def r141 (s : Env) : AV := s.a8.a13
noncomputable def r142 (s : Env) : AV := s.a8.a14
noncomputable def r143 (s : Env) : AV := s.a8.a15
noncomputable def r144 (s : Env) : AV := s.a9.a0
noncomputable def r145 (s : Env) : AV := s.a9.a1
noncomputable def r146 (s : Env) : AV := s.a9.a2
noncomputable def r147 (s : Env) : AV := s.a9.a3
noncomputable def r148 (s : Env) : AV := s.a9.a4
noncomputable def r149 (s : Env) : AV := s.a9.a5
noncomputable def r150 (s : Env) : AV := s.a9.a6
noncomputable def r151 (s : Env) : AV := s.a9.a7
noncomputable def r152 (s : Env) : AV := s.a9.a8
noncomputable def r153 (s : Env) : AV := s.a9.a9
noncomputable def r154 (s : Env) : AV := s.a9.a10
noncomputable def r155 (s : Env) : AV := s.a9.a11
noncomputable def r156 (s : Env) : AV := s.a9.a12
noncomputable def r157 (s : Env) : AV := s.a9.a13
noncomputable def r158 (s : Env) : AV := s.a9.a14
noncomputable def r159 (s : Env) : AV := s.a9.a15
noncomputable def r160 (s : Env) : AV := s.a10.a0
noncomputable def r161 (s : Env) : AV := s.a10.a1
noncomputable def r162 (s : Env) : AV := s.a10.a2
noncomputable def r163 (s : Env) : AV := s.a10.a3
noncomputable def r164 (s : Env) : AV := s.a10.a4
noncomputable def r165 (s : Env) : AV := s.a10.a5
noncomputable def r166 (s : Env) : AV := s.a10.a6
noncomputable def r167 (s : Env) : AV := s.a10.a7
noncomputable def r168 (s : Env) : AV := s.a10.a8
noncomputable def r169 (s : Env) : AV := s.a10.a9
noncomputable def r170 (s : Env) : AV := s.a10.a10
noncomputable def r171 (s : Env) : AV := s.a10.a11
noncomputable def r172 (s : Env) : AV := s.a10.a12
noncomputable def r173 (s : Env) : AV := s.a10.a13
noncomputable def r174 (s : Env) : AV := s.a10.a14
noncomputable def r175 (s : Env) : AV := s.a10.a15
noncomputable def r176 (s : Env) : AV := s.a11.a0
noncomputable def r177 (s : Env) : AV := s.a11.a1
noncomputable def r178 (s : Env) : AV := s.a11.a2
noncomputable def r179 (s : Env) : AV := s.a11.a3
noncomputable def r180 (s : Env) : AV := s.a11.a4
noncomputable def r181 (s : Env) : AV := s.a11.a5
noncomputable def r182 (s : Env) : AV := s.a11.a6
noncomputable def r183 (s : Env) : AV := s.a11.a7
noncomputable def r184 (s : Env) : AV := s.a11.a8
noncomputable def r185 (s : Env) : AV := s.a11.a9
noncomputable def r186 (s : Env) : AV := s.a11.a10
noncomputable def r187 (s : Env) : AV := s.a11.a11
noncomputable def r188 (s : Env) : AV := s.a11.a12
noncomputable def r189 (s : Env) : AV := s.a11.a13
noncomputable def r190 (s : Env) : AV := s.a11.a14
noncomputable def r191 (s : Env) : AV := s.a11.a15
noncomputable def r192 (s : Env) : AV := s.a12.a0
noncomputable def r193 (s : Env) : AV := s.a12.a1
noncomputable def r194 (s : Env) : AV := s.a12.a2
noncomputable def r195 (s : Env) : AV := s.a12.a3
noncomputable def r196 (s : Env) : AV := s.a12.a4
noncomputable def r197 (s : Env) : AV := s.a12.a5
noncomputable def r198 (s : Env) : AV := s.a12.a6
noncomputable def r199 (s : Env) : AV := s.a12.a7
noncomputable def r200 (s : Env) : AV := s.a12.a8
noncomputable def r201 (s : Env) : AV := s.a12.a9
noncomputable def r202 (s : Env) : AV := s.a12.a10
noncomputable def r203 (s : Env) : AV := s.a12.a11
noncomputable def r204 (s : Env) : AV := s.a12.a12
noncomputable def r205 (s : Env) : AV := s.a12.a13
noncomputable def r206 (s : Env) : AV := s.a12.a14
noncomputable def r207 (s : Env) : AV := s.a12.a15
noncomputable def r208 (s : Env) : AV := s.a13.a0
noncomputable def r209 (s : Env) : AV := s.a13.a1
noncomputable def r210 (s : Env) : AV := s.a13.a2
noncomputable def r211 (s : Env) : AV := s.a13.a3
noncomputable def r212 (s : Env) : AV := s.a13.a4
noncomputable def r213 (s : Env) : AV := s.a13.a5
noncomputable def r214 (s : Env) : AV := s.a13.a6
noncomputable def r215 (s : Env) : AV := s.a13.a7
noncomputable def r216 (s : Env) : AV := s.a13.a8
noncomputable def r217 (s : Env) : AV := s.a13.a9
noncomputable def r218 (s : Env) : AV := s.a13.a10
noncomputable def r219 (s : Env) : AV := s.a13.a11
noncomputable def r220 (s : Env) : AV := s.a13.a12
noncomputable def r221 (s : Env) : AV := s.a13.a13
noncomputable def r222 (s : Env) : AV := s.a13.a14
noncomputable def r223 (s : Env) : AV := s.a13.a15
noncomputable def r224 (s : Env) : AV := s.a14.a0
noncomputable def r225 (s : Env) : AV := s.a14.a1
noncomputable def r226 (s : Env) : AV := s.a14.a2
noncomputable def r227 (s : Env) : AV := s.a14.a3
noncomputable def r228 (s : Env) : AV := s.a14.a4
noncomputable def r229 (s : Env) : AV := s.a14.a5
noncomputable def r230 (s : Env) : AV := s.a14.a6
noncomputable def r231 (s : Env) : AV := s.a14.a7
noncomputable def r232 (s : Env) : AV := s.a14.a8
noncomputable def r233 (s : Env) : AV := s.a14.a9
noncomputable def r234 (s : Env) : AV := s.a14.a10
noncomputable def r235 (s : Env) : AV := s.a14.a11
noncomputable def r236 (s : Env) : AV := s.a14.a12
noncomputable def r237 (s : Env) : AV := s.a14.a13
noncomputable def r238 (s : Env) : AV := s.a14.a14
noncomputable def r239 (s : Env) : AV := s.a14.a15
noncomputable def r240 (s : Env) : AV := s.a15.a0
noncomputable def r241 (s : Env) : AV := s.a15.a1
noncomputable def r242 (s : Env) : AV := s.a15.a2
noncomputable def r243 (s : Env) : AV := s.a15.a3
noncomputable def r244 (s : Env) : AV := s.a15.a4
noncomputable def r245 (s : Env) : AV := s.a15.a5
noncomputable def r246 (s : Env) : AV := s.a15.a6
noncomputable def r247 (s : Env) : AV := s.a15.a7
noncomputable def r248 (s : Env) : AV := s.a15.a8
noncomputable def r249 (s : Env) : AV := s.a15.a9
noncomputable def r250 (s : Env) : AV := s.a15.a10
noncomputable def r251 (s : Env) : AV := s.a15.a11
noncomputable def r252 (s : Env) : AV := s.a15.a12
noncomputable def r253 (s : Env) : AV := s.a15.a13
noncomputable def r254 (s : Env) : AV := s.a15.a14
noncomputable def w0 (s : Env) (x : AV) : Env := S.rec (motive := fun _ => Env) (fun a0 a1 a2 a3 a4 a5 a6 a7 a8 a9 a10 a11 a12 a13 a14 a15 => S.rec (motive := fun _ => Env) (fun b0 b1 b2 b3 b4 b5 b6 b7 b8 b9 b10 b11 b12 b13 b14 b15 => S.mk (S.mk x b1 b2 b3 b4 b5 b6 b7 b8 b9 b10 b11 b12 b13 b14 b15) a1 a2 a3 a4 a5 a6 a7 a8 a9 a10 a11 a12 a13 a14 a15) a0) s
noncomputable def w1 (s : Env) (x : AV) : Env := S.rec (motive := fun _ => Env) (fun a0 a1 a2 a3 a4 a5 a6 a7 a8 a9 a10 a11 a12 a13 a14 a15 => S.rec (motive := fun _ => Env) (fun b0 b1 b2 b3 b4 b5 b6 b7 b8 b9 b10 b11 b12 b13 b14 b15 => S.mk (S.mk b0 x b2 b3 b4 b5 b6 b7 b8 b9 b10 b11 b12 b13 b14 b15) a1 a2 a3 a4 a5 a6 a7 a8 a9 a10 a11 a12 a13 a14 a15) a0) s
noncomputable def w2 (s : Env) (x : AV) : Env := S.rec (motive := fun _ => Env) (fun a0 a1 a2 a3 a4 a5 a6 a7 a8 a9 a10 a11 a12 a13 a14 a15 => S.rec (motive := fun _ => Env) (fun b0 b1 b2 b3 b4 b5 b6 b7 b8 b9 b10 b11 b12 b13 b14 b15 => S.mk (S.mk b0 b1 x b3 b4 b5 b6 b7 b8 b9 b10 b11 b12 b13 b14 b15) a1 a2 a3 a4 a5 a6 a7 a8 a9 a10 a11 a12 a13 a14 a15) a0) s
noncomputable def w3 (s : Env) (x : AV) : Env := S.rec (motive := fun _ => Env) (fun a0 a1 a2 a3 a4 a5 a6 a7 a8 a9 a10 a11 a12 a13 a14 a15 => S.rec (motive := fun _ => Env) (fun b0 b1 b2 b3 b4 b5 b6 b7 b8 b9 b10 b11 b12 b13 b14 b15 => S.mk (S.mk b0 b1 b2 x b4 b5 b6 b7 b8 b9 b10 b11 b12 b13 b14 b15) a1 a2 a3 a4 a5 a6 a7 a8 a9 a10 a11 a12 a13 a14 a15) a0) s
noncomputable def w4 (s : Env) (x : AV) : Env := S.rec (motive := fun _ => Env) (fun a0 a1 a2 a3 a4 a5 a6 a7 a8 a9 a10 a11 a12 a13 a14 a15 => S.rec (motive := fun _ => Env) (fun b0 b1 b2 b3 b4 b5 b6 b7 b8 b9 b10 b11 b12 b13 b14 b15 => S.mk (S.mk b0 b1 b2 b3 x b5 b6 b7 b8 b9 b10 b11 b12 b13 b14 b15) a1 a2 a3 a4 a5 a6 a7 a8 a9 a10 a11 a12 a13 a14 a15) a0) s
noncomputable def w5 (s : Env) (x : AV) : Env := S.rec (motive := fun _ => Env) (fun a0 a1 a2 a3 a4 a5 a6 a7 a8 a9 a10 a11 a12 a13 a14 a15 => S.rec (motive := fun _ => Env) (fun b0 b1 b2 b3 b4 b5 b6 b7 b8 b9 b10 b11 b12 b13 b14 b15 => S.mk (S.mk b0 b1 b2 b3 b4 x b6 b7 b8 b9 b10 b11 b12 b13 b14 b15) a1 a2 a3 a4 a5 a6 a7 a8 a9 a10 a11 a12 a13 a14 a15) a0) s
noncomputable def w6 (s : Env) (x : AV) : Env := S.rec (motive := fun _ => Env) (fun a0 a1 a2 a3 a4 a5 a6 a7 a8 a9 a10 a11 a12 a13 a14 a15 => S.rec (motive := fun _ => Env) (fun b0 b1 b2 b3 b4 b5 b6 b7 b8 b9 b10 b11 b12 b13 b14 b15 => S.mk (S.mk b0 b1 b2 b3 b4 b5 x b7 b8 b9 b10 b11 b12 b13 b14 b15) a1 a2 a3 a4 a5 a6 a7 a8 a9 a10 a11 a12 a13 a14 a15) a0) s
noncomputable def w7 (s : Env) (x : AV) : Env := S.rec (motive := fun _ => Env) (fun a0 a1 a2 a3 a4 a5 a6 a7 a8 a9 a10 a11 a12 a13 a14 a15 => S.rec (motive := fun _ => Env) (fun b0 b1 b2 b3 b4 b5 b6 b7 b8 b9 b10 b11 b12 b13 b14 b15 => S.mk (S.mk b0 b1 b2 b3 b4 b5 b6 x b8 b9 b10 b11 b12 b13 b14 b15) a1 a2 a3 a4 a5 a6 a7 a8 a9 a10 a11 a12 a13 a14 a15) a0) s
noncomputable def w8 (s : Env) (x : AV) : Env := S.rec (motive := fun _ => Env) (fun a0 a1 a2 a3 a4 a5 a6 a7 a8 a9 a10 a11 a12 a13 a14 a15 => S.rec (motive := fun _ => Env) (fun b0 b1 b2 b3 b4 b5 b6 b7 b8 b9 b10 b11 b12 b13 b14 b15 => S.mk (S.mk b0 b1 b2 b3 b4 b5 b6 b7 x b9 b10 b11 b12 b13 b14 b15) a1 a2 a3 a4 a5 a6 a7 a8 a9 a10 a11 a12 a13 a14 a15) a0) s
noncomputable def w9 (s : Env) (x : AV) : Env := S.rec (motive := fun _ => Env) (fun a0 a1 a2 a3 a4 a5 a6 a7 a8 a9 a10 a11 a12 a13 a14 a15 => S.rec (motive := fun _ => Env) (fun b0 b1 b2 b3 b4 b5 b6 b7 b8 b9 b10 b11 b12 b13 b14 b15 => S.mk (S.mk b0 b1 b2 b3 b4 b5 b6 b7 b8 x b10 b11 b12 b13 b14 b15) a1 a2 a3 a4 a5 a6 a7 a8 a9 a10 a11 a12 a13 a14 a15) a0) s
noncomputable def w10 (s : Env) (x : AV) : Env := S.rec (motive := fun _ => Env) (fun a0 a1 a2 a3 a4 a5 a6 a7 a8 a9 a10 a11 a12 a13 a14 a15 => S.rec (motive := fun _ => Env) (fun b0 b1 b2 b3 b4 b5 b6 b7 b8 b9 b10 b11 b12 b13 b14 b15 => S.mk (S.mk b0 b1 b2 b3 b4 b5 b6 b7 b8 b9 x b11 b12 b13 b14 b15) a1 a2 a3 a4 a5 a6 a7 a8 a9 a10 a11 a12 a13 a14 a15) a0) s
noncomputable def w11 (s : Env) (x : AV) : Env := S.rec (motive := fun _ => Env) (fun a0 a1 a2 a3 a4 a5 a6 a7 a8 a9 a10 a11 a12 a13 a14 a15 => S.rec (motive := fun _ => Env) (fun b0 b1 b2 b3 b4 b5 b6 b7 b8 b9 b10 b11 b12 b13 b14 b15 => S.mk (S.mk b0 b1 b2 b3 b4 b5 b6 b7 b8 b9 b10 x b12 b13 b14 b15) a1 a2 a3 a4 a5 a6 a7 a8 a9 a10 a11 a12 a13 a14 a15) a0) s
noncomputable def w12 (s : Env) (x : AV) : Env := S.rec (motive := fun _ => Env) (fun a0 a1 a2 a3 a4 a5 a6 a7 a8 a9 a10 a11 a12 a13 a14 a15 => S.rec (motive := fun _ => Env) (fun b0 b1 b2 b3 b4 b5 b6 b7 b8 b9 b10 b11 b12 b13 b14 b15 => S.mk (S.mk b0 b1 b2 b3 b4 b5 b6 b7 b8 b9 b10 b11 x b13 b14 b15) a1 a2 a3 a4 a5 a6 a7 a8 a9 a10 a11 a12 a13 a14 a15) a0) s
noncomputable def w13 (s : Env) (x : AV) : Env := S.rec (motive := fun _ => Env) (fun a0 a1 a2 a3 a4 a5 a6 a7 a8 a9 a10 a11 a12 a13 a14 a15 => S.rec (motive := fun _ => Env) (fun b0 b1 b2 b3 b4 b5 b6 b7 b8 b9 b10 b11 b12 b13 b14 b15 => S.mk (S.mk b0 b1 b2 b3 b4 b5 b6 b7 b8 b9 b10 b11 b12 x b14 b15) a1 a2 a3 a4 a5 a6 a7 a8 a9 a10 a11 a12 a13 a14 a15) a0) s
noncomputable def w14 (s : Env) (x : AV) : Env := S.rec (motive := fun _ => Env) (fun a0 a1 a2 a3 a4 a5 a6 a7 a8 a9 a10 a11 a12 a13 a14 a15 => S.rec (motive := fun _ => Env) (fun b0 b1 b2 b3 b4 b5 b6 b7 b8 b9 b10 b11 b12 b13 b14 b15 => S.mk (S.mk b0 b1 b2 b3 b4 b5 b6 b7 b8 b9 b10 b11 b12 b13 x b15) a1 a2 a3 a4 a5 a6 a7 a8 a9 a10 a11 a12 a13 a14 a15) a0) s
noncomputable def w15 (s : Env) (x : AV) : Env := S.rec (motive := fun _ => Env) (fun a0 a1 a2 a3 a4 a5 a6 a7 a8 a9 a10 a11 a12 a13 a14 a15 => S.rec (motive := fun _ => Env) (fun b0 b1 b2 b3 b4 b5 b6 b7 b8 b9 b10 b11 b12 b13 b14 b15 => S.mk (S.mk b0 b1 b2 b3 b4 b5 b6 b7 b8 b9 b10 b11 b12 b13 b14 x) a1 a2 a3 a4 a5 a6 a7 a8 a9 a10 a11 a12 a13 a14 a15) a0) s
noncomputable def w16 (s : Env) (x : AV) : Env := S.rec (motive := fun _ => Env) (fun a0 a1 a2 a3 a4 a5 a6 a7 a8 a9 a10 a11 a12 a13 a14 a15 => S.rec (motive := fun _ => Env) (fun b0 b1 b2 b3 b4 b5 b6 b7 b8 b9 b10 b11 b12 b13 b14 b15 => S.mk a0 (S.mk x b1 b2 b3 b4 b5 b6 b7 b8 b9 b10 b11 b12 b13 b14 b15) a2 a3 a4 a5 a6 a7 a8 a9 a10 a11 a12 a13 a14 a15) a1) s
noncomputable def w17 (s : Env) (x : AV) : Env := S.rec (motive := fun _ => Env) (fun a0 a1 a2 a3 a4 a5 a6 a7 a8 a9 a10 a11 a12 a13 a14 a15 => S.rec (motive := fun _ => Env) (fun b0 b1 b2 b3 b4 b5 b6 b7 b8 b9 b10 b11 b12 b13 b14 b15 => S.mk a0 (S.mk b0 x b2 b3 b4 b5 b6 b7 b8 b9 b10 b11 b12 b13 b14 b15) a2 a3 a4 a5 a6 a7 a8 a9 a10 a11 a12 a13 a14 a15) a1) s
noncomputable def w18 (s : Env) (x : AV) : Env := S.rec (motive := fun _ => Env) (fun a0 a1 a2 a3 a4 a5 a6 a7 a8 a9 a10 a11 a12 a13 a14 a15 => S.rec (motive := fun _ => Env) (fun b0 b1 b2 b3 b4 b5 b6 b7 b8 b9 b10 b11 b12 b13 b14 b15 => S.mk a0 (S.mk b0 b1 x b3 b4 b5 b6 b7 b8 b9 b10 b11 b12 b13 b14 b15) a2 a3 a4 a5 a6 a7 a8 a9 a10 a11 a12 a13 a14 a15) a1) s
noncomputable def w19 (s : Env) (x : AV) : Env := S.rec (motive := fun _ => Env) (fun a0 a1 a2 a3 a4 a5 a6 a7 a8 a9 a10 a11 a12 a13 a14 a15 => S.rec (motive := fun _ => Env) (fun b0 b1 b2 b3 b4 b5 b6 b7 b8 b9 b10 b11 b12 b13 b14 b15 => S.mk a0 (S.mk b0 b1 b2 x b4 b5 b6 b7 b8 b9 b10 b11 b12 b13 b14 b15) a2 a3 a4 a5 a6 a7 a8 a9 a10 a11 a12 a13 a14 a15) a1) s
noncomputable def w20 (s : Env) (x : AV) : Env := S.rec (motive := fun _ => Env) (fun a0 a1 a2 a3 a4 a5 a6 a7 a8 a9 a10 a11 a12 a13 a14 a15 => S.rec (motive := fun _ => Env) (fun b0 b1 b2 b3 b4 b5 b6 b7 b8 b9 b10 b11 b12 b13 b14 b15 => S.mk a0 (S.mk b0 b1 b2 b3 x b5 b6 b7 b8 b9 b10 b11 b12 b13 b14 b15) a2 a3 a4 a5 a6 a7 a8 a9 a10 a11 a12 a13 a14 a15) a1) s
noncomputable def w21 (s : Env) (x : AV) : Env := S.rec (motive := fun _ => Env) (fun a0 a1 a2 a3 a4 a5 a6 a7 a8 a9 a10 a11 a12 a13 a14 a15 => S.rec (motive := fun _ => Env) (fun b0 b1 b2 b3 b4 b5 b6 b7 b8 b9 b10 b11 b12 b13 b14 b15 => S.mk a0 (S.mk b0 b1 b2 b3 b4 x b6 b7 b8 b9 b10 b11 b12 b13 b14 b15) a2 a3 a4 a5 a6 a7 a8 a9 a10 a11 a12 a13 a14 a15) a1) s
noncomputable def w22 (s : Env) (x : AV) : Env := S.rec (motive := fun _ => Env) (fun a0 a1 a2 a3 a4 a5 a6 a7 a8 a9 a10 a11 a12 a13 a14 a15 => S.rec (motive := fun _ => Env) (fun b0 b1 b2 b3 b4 b5 b6 b7 b8 b9 b10 b11 b12 b13 b14 b15 => S.mk a0 (S.mk b0 b1 b2 b3 b4 b5 x b7 b8 b9 b10 b11 b12 b13 b14 b15) a2 a3 a4 a5 a6 a7 a8 a9 a10 a11 a12 a13 a14 a15) a1) s
noncomputable def w23 (s : Env) (x : AV) : Env := S.rec (motive := fun _ => Env) (fun a0 a1 a2 a3 a4 a5 a6 a7 a8 a9 a10 a11 a12 a13 a14 a15 => S.rec (motive := fun _ => Env) (fun b0 b1 b2 b3 b4 b5 b6 b7 b8 b9 b10 b11 b12 b13 b14 b15 => S.mk a0 (S.mk b0 b1 b2 b3 b4 b5 b6 x b8 b9 b10 b11 b12 b13 b14 b15) a2 a3 a4 a5 a6 a7 a8 a9 a10 a11 a12 a13 a14 a15) a1) s
noncomputable def w24 (s : Env) (x : AV) : Env := S.rec (motive := fun _ => Env) (fun a0 a1 a2 a3 a4 a5 a6 a7 a8 a9 a10 a11 a12 a13 a14 a15 => S.rec (motive := fun _ => Env) (fun b0 b1 b2 b3 b4 b5 b6 b7 b8 b9 b10 b11 b12 b13 b14 b15 => S.mk a0 (S.mk b0 b1 b2 b3 b4 b5 b6 b7 x b9 b10 b11 b12 b13 b14 b15) a2 a3 a4 a5 a6 a7 a8 a9 a10 a11 a12 a13 a14 a15) a1) s
noncomputable def w25 (s : Env) (x : AV) : Env := S.rec (motive := fun _ => Env) (fun a0 a1 a2 a3 a4 a5 a6 a7 a8 a9 a10 a11 a12 a13 a14 a15 => S.rec (motive := fun _ => Env) (fun b0 b1 b2 b3 b4 b5 b6 b7 b8 b9 b10 b11 b12 b13 b14 b15 => S.mk a0 (S.mk b0 b1 b2 b3 b4 b5 b6 b7 b8 x b10 b11 b12 b13 b14 b15) a2 a3 a4 a5 a6 a7 a8 a9 a10 a11 a12 a13 a14 a15) a1) s
noncomputable def w26 (s : Env) (x : AV) : Env := S.rec (motive := fun _ => Env) (fun a0 a1 a2 a3 a4 a5 a6 a7 a8 a9 a10 a11 a12 a13 a14 a15 => S.rec (motive := fun _ => Env) (fun b0 b1 b2 b3 b4 b5 b6 b7 b8 b9 b10 b11 b12 b13 b14 b15 => S.mk a0 (S.mk b0 b1 b2 b3 b4 b5 b6 b7 b8 b9 x b11 b12 b13 b14 b15) a2 a3 a4 a5 a6 a7 a8 a9 a10 a11 a12 a13 a14 a15) a1) s
noncomputable def w27 (s : Env) (x : AV) : Env := S.rec (motive := fun _ => Env) (fun a0 a1 a2 a3 a4 a5 a6 a7 a8 a9 a10 a11 a12 a13 a14 a15 => S.rec (motive := fun _ => Env) (fun b0 b1 b2 b3 b4 b5 b6 b7 b8 b9 b10 b11 b12 b13 b14 b15 => S.mk a0 (S.mk b0 b1 b2 b3 b4 b5 b6 b7 b8 b9 b10 x b12 b13 b14 b15) a2 a3 a4 a5 a6 a7 a8 a9 a10 a11 a12 a13 a14 a15) a1) s
noncomputable def w28 (s : Env) (x : AV) : Env := S.rec (motive := fun _ => Env) (fun a0 a1 a2 a3 a4 a5 a6 a7 a8 a9 a10 a11 a12 a13 a14 a15 => S.rec (motive := fun _ => Env) (fun b0 b1 b2 b3 b4 b5 b6 b7 b8 b9 b10 b11 b12 b13 b14 b15 => S.mk a0 (S.mk b0 b1 b2 b3 b4 b5 b6 b7 b8 b9 b10 b11 x b13 b14 b15) a2 a3 a4 a5 a6 a7 a8 a9 a10 a11 a12 a13 a14 a15) a1) s
noncomputable def w29 (s : Env) (x : AV) : Env := S.rec (motive := fun _ => Env) (fun a0 a1 a2 a3 a4 a5 a6 a7 a8 a9 a10 a11 a12 a13 a14 a15 => S.rec (motive := fun _ => Env) (fun b0 b1 b2 b3 b4 b5 b6 b7 b8 b9 b10 b11 b12 b13 b14 b15 => S.mk a0 (S.mk b0 b1 b2 b3 b4 b5 b6 b7 b8 b9 b10 b11 b12 x b14 b15) a2 a3 a4 a5 a6 a7 a8 a9 a10 a11 a12 a13 a14 a15) a1) s
noncomputable def w30 (s : Env) (x : AV) : Env := S.rec (motive := fun _ => Env) (fun a0 a1 a2 a3 a4 a5 a6 a7 a8 a9 a10 a11 a12 a13 a14 a15 => S.rec (motive := fun _ => Env) (fun b0 b1 b2 b3 b4 b5 b6 b7 b8 b9 b10 b11 b12 b13 b14 b15 => S.mk a0 (S.mk b0 b1 b2 b3 b4 b5 b6 b7 b8 b9 b10 b11 b12 b13 x b15) a2 a3 a4 a5 a6 a7 a8 a9 a10 a11 a12 a13 a14 a15) a1) s
noncomputable def w31 (s : Env) (x : AV) : Env := S.rec (motive := fun _ => Env) (fun a0 a1 a2 a3 a4 a5 a6 a7 a8 a9 a10 a11 a12 a13 a14 a15 => S.rec (motive := fun _ => Env) (fun b0 b1 b2 b3 b4 b5 b6 b7 b8 b9 b10 b11 b12 b13 b14 b15 => S.mk a0 (S.mk b0 b1 b2 b3 b4 b5 b6 b7 b8 b9 b10 b11 b12 b13 b14 x) a2 a3 a4 a5 a6 a7 a8 a9 a10 a11 a12 a13 a14 a15) a1) s
noncomputable def w32 (s : Env) (x : AV) : Env := S.rec (motive := fun _ => Env) (fun a0 a1 a2 a3 a4 a5 a6 a7 a8 a9 a10 a11 a12 a13 a14 a15 => S.rec (motive := fun _ => Env) (fun b0 b1 b2 b3 b4 b5 b6 b7 b8 b9 b10 b11 b12 b13 b14 b15 => S.mk a0 a1 (S.mk x b1 b2 b3 b4 b5 b6 b7 b8 b9 b10 b11 b12 b13 b14 b15) a3 a4 a5 a6 a7 a8 a9 a10 a11 a12 a13 a14 a15) a2) s
noncomputable def w33 (s : Env) (x : AV) : Env := S.rec (motive := fun _ => Env) (fun a0 a1 a2 a3 a4 a5 a6 a7 a8 a9 a10 a11 a12 a13 a14 a15 => S.rec (motive := fun _ => Env) (fun b0 b1 b2 b3 b4 b5 b6 b7 b8 b9 b10 b11 b12 b13 b14 b15 => S.mk a0 a1 (S.mk b0 x b2 b3 b4 b5 b6 b7 b8 b9 b10 b11 b12 b13 b14 b15) a3 a4 a5 a6 a7 a8 a9 a10 a11 a12 a13 a14 a15) a2) s
noncomputable def w34 (s : Env) (x : AV) : Env := S.rec (motive := fun _ => Env) (fun a0 a1 a2 a3 a4 a5 a6 a7 a8 a9 a10 a11 a12 a13 a14 a15 => S.rec (motive := fun _ => Env) (fun b0 b1 b2 b3 b4 b5 b6 b7 b8 b9 b10 b11 b12 b13 b14 b15 => S.mk a0 a1 (S.mk b0 b1 x b3 b4 b5 b6 b7 b8 b9 b10 b11 b12 b13 b14 b15) a3 a4 a5 a6 a7 a8 a9 a10 a11 a12 a13 a14 a15) a2) s
noncomputable def w35 (s : Env) (x : AV) : Env := S.rec (motive := fun _ => Env) (fun a0 a1 a2 a3 a4 a5 a6 a7 a8 a9 a10 a11 a12 a13 a14 a15 => S.rec (motive := fun _ => Env) (fun b0 b1 b2 b3 b4 b5 b6 b7 b8 b9 b10 b11 b12 b13 b14 b15 => S.mk a0 a1 (S.mk b0 b1 b2 x b4 b5 b6 b7 b8 b9 b10 b11 b12 b13 b14 b15) a3 a4 a5 a6 a7 a8 a9 a10 a11 a12 a13 a14 a15) a2) s
noncomputable def w36 (s : Env) (x : AV) : Env := S.rec (motive := fun _ => Env) (fun a0 a1 a2 a3 a4 a5 a6 a7 a8 a9 a10 a11 a12 a13 a14 a15 => S.rec (motive := fun _ => Env) (fun b0 b1 b2 b3 b4 b5 b6 b7 b8 b9 b10 b11 b12 b13 b14 b15 => S.mk a0 a1 (S.mk b0 b1 b2 b3 x b5 b6 b7 b8 b9 b10 b11 b12 b13 b14 b15) a3 a4 a5 a6 a7 a8 a9 a10 a11 a12 a13 a14 a15) a2) s
noncomputable def w37 (s : Env) (x : AV) : Env := S.rec (motive := fun _ => Env) (fun a0 a1 a2 a3 a4 a5 a6 a7 a8 a9 a10 a11 a12 a13 a14 a15 => S.rec (motive := fun _ => Env) (fun b0 b1 b2 b3 b4 b5 b6 b7 b8 b9 b10 b11 b12 b13 b14 b15 => S.mk a0 a1 (S.mk b0 b1 b2 b3 b4 x b6 b7 b8 b9 b10 b11 b12 b13 b14 b15) a3 a4 a5 a6 a7 a8 a9 a10 a11 a12 a13 a14 a15) a2) s
noncomputable def w38 (s : Env) (x : AV) : Env := S.rec (motive := fun _ => Env) (fun a0 a1 a2 a3 a4 a5 a6 a7 a8 a9 a10 a11 a12 a13 a14 a15 => S.rec (motive := fun _ => Env) (fun b0 b1 b2 b3 b4 b5 b6 b7 b8 b9 b10 b11 b12 b13 b14 b15 => S.mk a0 a1 (S.mk b0 b1 b2 b3 b4 b5 x b7 b8 b9 b10 b11 b12 b13 b14 b15) a3 a4 a5 a6 a7 a8 a9 a10 a11 a12 a13 a14 a15) a2) s
noncomputable def w39 (s : Env) (x : AV) : Env := S.rec (motive := fun _ => Env) (fun a0 a1 a2 a3 a4 a5 a6 a7 a8 a9 a10 a11 a12 a13 a14 a15 => S.rec (motive := fun _ => Env) (fun b0 b1 b2 b3 b4 b5 b6 b7 b8 b9 b10 b11 b12 b13 b14 b15 => S.mk a0 a1 (S.mk b0 b1 b2 b3 b4 b5 b6 x b8 b9 b10 b11 b12 b13 b14 b15) a3 a4 a5 a6 a7 a8 a9 a10 a11 a12 a13 a14 a15) a2) s
noncomputable def w40 (s : Env) (x : AV) : Env := S.rec (motive := fun _ => Env) (fun a0 a1 a2 a3 a4 a5 a6 a7 a8 a9 a10 a11 a12 a13 a14 a15 => S.rec (motive := fun _ => Env) (fun b0 b1 b2 b3 b4 b5 b6 b7 b8 b9 b10 b11 b12 b13 b14 b15 => S.mk a0 a1 (S.mk b0 b1 b2 b3 b4 b5 b6 b7 x b9 b10 b11 b12 b13 b14 b15) a3 a4 a5 a6 a7 a8 a9 a10 a11 a12 a13 a14 a15) a2) s
noncomputable def w41 (s : Env) (x : AV) : Env := S.rec (motive := fun _ => Env) (fun a0 a1 a2 a3 a4 a5 a6 a7 a8 a9 a10 a11 a12 a13 a14 a15 => S.rec (motive := fun _ => Env) (fun b0 b1 b2 b3 b4 b5 b6 b7 b8 b9 b10 b11 b12 b13 b14 b15 => S.mk a0 a1 (S.mk b0 b1 b2 b3 b4 b5 b6 b7 b8 x b10 b11 b12 b13 b14 b15) a3 a4 a5 a6 a7 a8 a9 a10 a11 a12 a13 a14 a15) a2) s
noncomputable def w42 (s : Env) (x : AV) : Env := S.rec (motive := fun _ => Env) (fun a0 a1 a2 a3 a4 a5 a6 a7 a8 a9 a10 a11 a12 a13 a14 a15 => S.rec (motive := fun _ => Env) (fun b0 b1 b2 b3 b4 b5 b6 b7 b8 b9 b10 b11 b12 b13 b14 b15 => S.mk a0 a1 (S.mk b0 b1 b2 b3 b4 b5 b6 b7 b8 b9 x b11 b12 b13 b14 b15) a3 a4 a5 a6 a7 a8 a9 a10 a11 a12 a13 a14 a15) a2) s
noncomputable def w43 (s : Env) (x : AV) : Env := S.rec (motive := fun _ => Env) (fun a0 a1 a2 a3 a4 a5 a6 a7 a8 a9 a10 a11 a12 a13 a14 a15 => S.rec (motive := fun _ => Env) (fun b0 b1 b2 b3 b4 b5 b6 b7 b8 b9 b10 b11 b12 b13 b14 b15 => S.mk a0 a1 (S.mk b0 b1 b2 b3 b4 b5 b6 b7 b8 b9 b10 x b12 b13 b14 b15) a3 a4 a5 a6 a7 a8 a9 a10 a11 a12 a13 a14 a15) a2) s
noncomputable def w44 (s : Env) (x : AV) : Env := S.rec (motive := fun _ => Env) (fun a0 a1 a2 a3 a4 a5 a6 a7 a8 a9 a10 a11 a12 a13 a14 a15 => S.rec (motive := fun _ => Env) (fun b0 b1 b2 b3 b4 b5 b6 b7 b8 b9 b10 b11 b12 b13 b14 b15 => S.mk a0 a1 (S.mk b0 b1 b2 b3 b4 b5 b6 b7 b8 b9 b10 b11 x b13 b14 b15) a3 a4 a5 a6 a7 a8 a9 a10 a11 a12 a13 a14 a15) a2) s
noncomputable def w45 (s : Env) (x : AV) : Env := S.rec (motive := fun _ => Env) (fun a0 a1 a2 a3 a4 a5 a6 a7 a8 a9 a10 a11 a12 a13 a14 a15 => S.rec (motive := fun _ => Env) (fun b0 b1 b2 b3 b4 b5 b6 b7 b8 b9 b10 b11 b12 b13 b14 b15 => S.mk a0 a1 (S.mk b0 b1 b2 b3 b4 b5 b6 b7 b8 b9 b10 b11 b12 x b14 b15) a3 a4 a5 a6 a7 a8 a9 a10 a11 a12 a13 a14 a15) a2) s
noncomputable def w46 (s : Env) (x : AV) : Env := S.rec (motive := fun _ => Env) (fun a0 a1 a2 a3 a4 a5 a6 a7 a8 a9 a10 a11 a12 a13 a14 a15 => S.rec (motive := fun _ => Env) (fun b0 b1 b2 b3 b4 b5 b6 b7 b8 b9 b10 b11 b12 b13 b14 b15 => S.mk a0 a1 (S.mk b0 b1 b2 b3 b4 b5 b6 b7 b8 b9 b10 b11 b12 b13 x b15) a3 a4 a5 a6 a7 a8 a9 a10 a11 a12 a13 a14 a15) a2) s
noncomputable def w47 (s : Env) (x : AV) : Env := S.rec (motive := fun _ => Env) (fun a0 a1 a2 a3 a4 a5 a6 a7 a8 a9 a10 a11 a12 a13 a14 a15 => S.rec (motive := fun _ => Env) (fun b0 b1 b2 b3 b4 b5 b6 b7 b8 b9 b10 b11 b12 b13 b14 b15 => S.mk a0 a1 (S.mk b0 b1 b2 b3 b4 b5 b6 b7 b8 b9 b10 b11 b12 b13 b14 x) a3 a4 a5 a6 a7 a8 a9 a10 a11 a12 a13 a14 a15) a2) s
noncomputable def w48 (s : Env) (x : AV) : Env := S.rec (motive := fun _ => Env) (fun a0 a1 a2 a3 a4 a5 a6 a7 a8 a9 a10 a11 a12 a13 a14 a15 => S.rec (motive := fun _ => Env) (fun b0 b1 b2 b3 b4 b5 b6 b7 b8 b9 b10 b11 b12 b13 b14 b15 => S.mk a0 a1 a2 (S.mk x b1 b2 b3 b4 b5 b6 b7 b8 b9 b10 b11 b12 b13 b14 b15) a4 a5 a6 a7 a8 a9 a10 a11 a12 a13 a14 a15) a3) s
noncomputable def w49 (s : Env) (x : AV) : Env := S.rec (motive := fun _ => Env) (fun a0 a1 a2 a3 a4 a5 a6 a7 a8 a9 a10 a11 a12 a13 a14 a15 => S.rec (motive := fun _ => Env) (fun b0 b1 b2 b3 b4 b5 b6 b7 b8 b9 b10 b11 b12 b13 b14 b15 => S.mk a0 a1 a2 (S.mk b0 x b2 b3 b4 b5 b6 b7 b8 b9 b10 b11 b12 b13 b14 b15) a4 a5 a6 a7 a8 a9 a10 a11 a12 a13 a14 a15) a3) s
noncomputable def w50 (s : Env) (x : AV) : Env := S.rec (motive := fun _ => Env) (fun a0 a1 a2 a3 a4 a5 a6 a7 a8 a9 a10 a11 a12 a13 a14 a15 => S.rec (motive := fun _ => Env) (fun b0 b1 b2 b3 b4 b5 b6 b7 b8 b9 b10 b11 b12 b13 b14 b15 => S.mk a0 a1 a2 (S.mk b0 b1 x b3 b4 b5 b6 b7 b8 b9 b10 b11 b12 b13 b14 b15) a4 a5 a6 a7 a8 a9 a10 a11 a12 a13 a14 a15) a3) s
noncomputable def w51 (s : Env) (x : AV) : Env := S.rec (motive := fun _ => Env) (fun a0 a1 a2 a3 a4 a5 a6 a7 a8 a9 a10 a11 a12 a13 a14 a15 => S.rec (motive := fun _ => Env) (fun b0 b1 b2 b3 b4 b5 b6 b7 b8 b9 b10 b11 b12 b13 b14 b15 => S.mk a0 a1 a2 (S.mk b0 b1 b2 x b4 b5 b6 b7 b8 b9 b10 b11 b12 b13 b14 b15) a4 a5 a6 a7 a8 a9 a10 a11 a12 a13 a14 a15) a3) s
noncomputable def w52 (s : Env) (x : AV) : Env := S.rec (motive := fun _ => Env) (fun a0 a1 a2 a3 a4 a5 a6 a7 a8 a9 a10 a11 a12 a13 a14 a15 => S.rec (motive := fun _ => Env) (fun b0 b1 b2 b3 b4 b5 b6 b7 b8 b9 b10 b11 b12 b13 b14 b15 => S.mk a0 a1 a2 (S.mk b0 b1 b2 b3 x b5 b6 b7 b8 b9 b10 b11 b12 b13 b14 b15) a4 a5 a6 a7 a8 a9 a10 a11 a12 a13 a14 a15) a3) s
noncomputable def w53 (s : Env) (x : AV) : Env := S.rec (motive := fun _ => Env) (fun a0 a1 a2 a3 a4 a5 a6 a7 a8 a9 a10 a11 a12 a13 a14 a15 => S.rec (motive := fun _ => Env) (fun b0 b1 b2 b3 b4 b5 b6 b7 b8 b9 b10 b11 b12 b13 b14 b15 => S.mk a0 a1 a2 (S.mk b0 b1 b2 b3 b4 x b6 b7 b8 b9 b10 b11 b12 b13 b14 b15) a4 a5 a6 a7 a8 a9 a10 a11 a12 a13 a14 a15) a3) s
noncomputable def w54 (s : Env) (x : AV) : Env := S.rec (motive := fun _ => Env) (fun a0 a1 a2 a3 a4 a5 a6 a7 a8 a9 a10 a11 a12 a13 a14 a15 => S.rec (motive := fun _ => Env) (fun b0 b1 b2 b3 b4 b5 b6 b7 b8 b9 b10 b11 b12 b13 b14 b15 => S.mk a0 a1 a2 (S.mk b0 b1 b2 b3 b4 b5 x b7 b8 b9 b10 b11 b12 b13 b14 b15) a4 a5 a6 a7 a8 a9 a10 a11 a12 a13 a14 a15) a3) s
noncomputable def w55 (s : Env) (x : AV) : Env := S.rec (motive := fun _ => Env) (fun a0 a1 a2 a3 a4 a5 a6 a7 a8 a9 a10 a11 a12 a13 a14 a15 => S.rec (motive := fun _ => Env) (fun b0 b1 b2 b3 b4 b5 b6 b7 b8 b9 b10 b11 b12 b13 b14 b15 => S.mk a0 a1 a2 (S.mk b0 b1 b2 b3 b4 b5 b6 x b8 b9 b10 b11 b12 b13 b14 b15) a4 a5 a6 a7 a8 a9 a10 a11 a12 a13 a14 a15) a3) s
noncomputable def w56 (s : Env) (x : AV) : Env := S.rec (motive := fun _ => Env) (fun a0 a1 a2 a3 a4 a5 a6 a7 a8 a9 a10 a11 a12 a13 a14 a15 => S.rec (motive := fun _ => Env) (fun b0 b1 b2 b3 b4 b5 b6 b7 b8 b9 b10 b11 b12 b13 b14 b15 => S.mk a0 a1 a2 (S.mk b0 b1 b2 b3 b4 b5 b6 b7 x b9 b10 b11 b12 b13 b14 b15) a4 a5 a6 a7 a8 a9 a10 a11 a12 a13 a14 a15) a3) s
noncomputable def w57 (s : Env) (x : AV) : Env := S.rec (motive := fun _ => Env) (fun a0 a1 a2 a3 a4 a5 a6 a7 a8 a9 a10 a11 a12 a13 a14 a15 => S.rec (motive := fun _ => Env) (fun b0 b1 b2 b3 b4 b5 b6 b7 b8 b9 b10 b11 b12 b13 b14 b15 => S.mk a0 a1 a2 (S.mk b0 b1 b2 b3 b4 b5 b6 b7 b8 x b10 b11 b12 b13 b14 b15) a4 a5 a6 a7 a8 a9 a10 a11 a12 a13 a14 a15) a3) s
noncomputable def w58 (s : Env) (x : AV) : Env := S.rec (motive := fun _ => Env) (fun a0 a1 a2 a3 a4 a5 a6 a7 a8 a9 a10 a11 a12 a13 a14 a15 => S.rec (motive := fun _ => Env) (fun b0 b1 b2 b3 b4 b5 b6 b7 b8 b9 b10 b11 b12 b13 b14 b15 => S.mk a0 a1 a2 (S.mk b0 b1 b2 b3 b4 b5 b6 b7 b8 b9 x b11 b12 b13 b14 b15) a4 a5 a6 a7 a8 a9 a10 a11 a12 a13 a14 a15) a3) s
noncomputable def w59 (s : Env) (x : AV) : Env := S.rec (motive := fun _ => Env) (fun a0 a1 a2 a3 a4 a5 a6 a7 a8 a9 a10 a11 a12 a13 a14 a15 => S.rec (motive := fun _ => Env) (fun b0 b1 b2 b3 b4 b5 b6 b7 b8 b9 b10 b11 b12 b13 b14 b15 => S.mk a0 a1 a2 (S.mk b0 b1 b2 b3 b4 b5 b6 b7 b8 b9 b10 x b12 b13 b14 b15) a4 a5 a6 a7 a8 a9 a10 a11 a12 a13 a14 a15) a3) s
noncomputable def w60 (s : Env) (x : AV) : Env := S.rec (motive := fun _ => Env) (fun a0 a1 a2 a3 a4 a5 a6 a7 a8 a9 a10 a11 a12 a13 a14 a15 => S.rec (motive := fun _ => Env) (fun b0 b1 b2 b3 b4 b5 b6 b7 b8 b9 b10 b11 b12 b13 b14 b15 => S.mk a0 a1 a2 (S.mk b0 b1 b2 b3 b4 b5 b6 b7 b8 b9 b10 b11 x b13 b14 b15) a4 a5 a6 a7 a8 a9 a10 a11 a12 a13 a14 a15) a3) s
noncomputable def w61 (s : Env) (x : AV) : Env := S.rec (motive := fun _ => Env) (fun a0 a1 a2 a3 a4 a5 a6 a7 a8 a9 a10 a11 a12 a13 a14 a15 => S.rec (motive := fun _ => Env) (fun b0 b1 b2 b3 b4 b5 b6 b7 b8 b9 b10 b11 b12 b13 b14 b15 => S.mk a0 a1 a2 (S.mk b0 b1 b2 b3 b4 b5 b6 b7 b8 b9 b10 b11 b12 x b14 b15) a4 a5 a6 a7 a8 a9 a10 a11 a12 a13 a14 a15) a3) s
noncomputable def w62 (s : Env) (x : AV) : Env := S.rec (motive := fun _ => Env) (fun a0 a1 a2 a3 a4 a5 a6 a7 a8 a9 a10 a11 a12 a13 a14 a15 => S.rec (motive := fun _ => Env) (fun b0 b1 b2 b3 b4 b5 b6 b7 b8 b9 b10 b11 b12 b13 b14 b15 => S.mk a0 a1 a2 (S.mk b0 b1 b2 b3 b4 b5 b6 b7 b8 b9 b10 b11 b12 b13 x b15) a4 a5 a6 a7 a8 a9 a10 a11 a12 a13 a14 a15) a3) s
noncomputable def w63 (s : Env) (x : AV) : Env := S.rec (motive := fun _ => Env) (fun a0 a1 a2 a3 a4 a5 a6 a7 a8 a9 a10 a11 a12 a13 a14 a15 => S.rec (motive := fun _ => Env) (fun b0 b1 b2 b3 b4 b5 b6 b7 b8 b9 b10 b11 b12 b13 b14 b15 => S.mk a0 a1 a2 (S.mk b0 b1 b2 b3 b4 b5 b6 b7 b8 b9 b10 b11 b12 b13 b14 x) a4 a5 a6 a7 a8 a9 a10 a11 a12 a13 a14 a15) a3) s
noncomputable def w64 (s : Env) (x : AV) : Env := S.rec (motive := fun _ => Env) (fun a0 a1 a2 a3 a4 a5 a6 a7 a8 a9 a10 a11 a12 a13 a14 a15 => S.rec (motive := fun _ => Env) (fun b0 b1 b2 b3 b4 b5 b6 b7 b8 b9 b10 b11 b12 b13 b14 b15 => S.mk a0 a1 a2 a3 (S.mk x b1 b2 b3 b4 b5 b6 b7 b8 b9 b10 b11 b12 b13 b14 b15) a5 a6 a7 a8 a9 a10 a11 a12 a13 a14 a15) a4) s
noncomputable def w65 (s : Env) (x : AV) : Env := S.rec (motive := fun _ => Env) (fun a0 a1 a2 a3 a4 a5 a6 a7 a8 a9 a10 a11 a12 a13 a14 a15 => S.rec (motive := fun _ => Env) (fun b0 b1 b2 b3 b4 b5 b6 b7 b8 b9 b10 b11 b12 b13 b14 b15 => S.mk a0 a1 a2 a3 (S.mk b0 x b2 b3 b4 b5 b6 b7 b8 b9 b10 b11 b12 b13 b14 b15) a5 a6 a7 a8 a9 a10 a11 a12 a13 a14 a15) a4) s
noncomputable def w66 (s : Env) (x : AV) : Env := S.rec (motive := fun _ => Env) (fun a0 a1 a2 a3 a4 a5 a6 a7 a8 a9 a10 a11 a12 a13 a14 a15 => S.rec (motive := fun _ => Env) (fun b0 b1 b2 b3 b4 b5 b6 b7 b8 b9 b10 b11 b12 b13 b14 b15 => S.mk a0 a1 a2 a3 (S.mk b0 b1 x b3 b4 b5 b6 b7 b8 b9 b10 b11 b12 b13 b14 b15) a5 a6 a7 a8 a9 a10 a11 a12 a13 a14 a15) a4) s
noncomputable def w67 (s : Env) (x : AV) : Env := S.rec (motive := fun _ => Env) (fun a0 a1 a2 a3 a4 a5 a6 a7 a8 a9 a10 a11 a12 a13 a14 a15 => S.rec (motive := fun _ => Env) (fun b0 b1 b2 b3 b4 b5 b6 b7 b8 b9 b10 b11 b12 b13 b14 b15 => S.mk a0 a1 a2 a3 (S.mk b0 b1 b2 x b4 b5 b6 b7 b8 b9 b10 b11 b12 b13 b14 b15) a5 a6 a7 a8 a9 a10 a11 a12 a13 a14 a15) a4) s
noncomputable def w68 (s : Env) (x : AV) : Env := S.rec (motive := fun _ => Env) (fun a0 a1 a2 a3 a4 a5 a6 a7 a8 a9 a10 a11 a12 a13 a14 a15 => S.rec (motive := fun _ => Env) (fun b0 b1 b2 b3 b4 b5 b6 b7 b8 b9 b10 b11 b12 b13 b14 b15 => S.mk a0 a1 a2 a3 (S.mk b0 b1 b2 b3 x b5 b6 b7 b8 b9 b10 b11 b12 b13 b14 b15) a5 a6 a7 a8 a9 a10 a11 a12 a13 a14 a15) a4) s
noncomputable def w69 (s : Env) (x : AV) : Env := S.rec (motive := fun _ => Env) (fun a0 a1 a2 a3 a4 a5 a6 a7 a8 a9 a10 a11 a12 a13 a14 a15 => S.rec (motive := fun _ => Env) (fun b0 b1 b2 b3 b4 b5 b6 b7 b8 b9 b10 b11 b12 b13 b14 b15 => S.mk a0 a1 a2 a3 (S.mk b0 b1 b2 b3 b4 x b6 b7 b8 b9 b10 b11 b12 b13 b14 b15) a5 a6 a7 a8 a9 a10 a11 a12 a13 a14 a15) a4) s
noncomputable def w70 (s : Env) (x : AV) : Env := S.rec (motive := fun _ => Env) (fun a0 a1 a2 a3 a4 a5 a6 a7 a8 a9 a10 a11 a12 a13 a14 a15 => S.rec (motive := fun _ => Env) (fun b0 b1 b2 b3 b4 b5 b6 b7 b8 b9 b10 b11 b12 b13 b14 b15 => S.mk a0 a1 a2 a3 (S.mk b0 b1 b2 b3 b4 b5 x b7 b8 b9 b10 b11 b12 b13 b14 b15) a5 a6 a7 a8 a9 a10 a11 a12 a13 a14 a15) a4) s
noncomputable def w71 (s : Env) (x : AV) : Env := S.rec (motive := fun _ => Env) (fun a0 a1 a2 a3 a4 a5 a6 a7 a8 a9 a10 a11 a12 a13 a14 a15 => S.rec (motive := fun _ => Env) (fun b0 b1 b2 b3 b4 b5 b6 b7 b8 b9 b10 b11 b12 b13 b14 b15 => S.mk a0 a1 a2 a3 (S.mk b0 b1 b2 b3 b4 b5 b6 x b8 b9 b10 b11 b12 b13 b14 b15) a5 a6 a7 a8 a9 a10 a11 a12 a13 a14 a15) a4) s
noncomputable def w72 (s : Env) (x : AV) : Env := S.rec (motive := fun _ => Env) (fun a0 a1 a2 a3 a4 a5 a6 a7 a8 a9 a10 a11 a12 a13 a14 a15 => S.rec (motive := fun _ => Env) (fun b0 b1 b2 b3 b4 b5 b6 b7 b8 b9 b10 b11 b12 b13 b14 b15 => S.mk a0 a1 a2 a3 (S.mk b0 b1 b2 b3 b4 b5 b6 b7 x b9 b10 b11 b12 b13 b14 b15) a5 a6 a7 a8 a9 a10 a11 a12 a13 a14 a15) a4) s
noncomputable def w73 (s : Env) (x : AV) : Env := S.rec (motive := fun _ => Env) (fun a0 a1 a2 a3 a4 a5 a6 a7 a8 a9 a10 a11 a12 a13 a14 a15 => S.rec (motive := fun _ => Env) (fun b0 b1 b2 b3 b4 b5 b6 b7 b8 b9 b10 b11 b12 b13 b14 b15 => S.mk a0 a1 a2 a3 (S.mk b0 b1 b2 b3 b4 b5 b6 b7 b8 x b10 b11 b12 b13 b14 b15) a5 a6 a7 a8 a9 a10 a11 a12 a13 a14 a15) a4) s
noncomputable def w74 (s : Env) (x : AV) : Env := S.rec (motive := fun _ => Env) (fun a0 a1 a2 a3 a4 a5 a6 a7 a8 a9 a10 a11 a12 a13 a14 a15 => S.rec (motive := fun _ => Env) (fun b0 b1 b2 b3 b4 b5 b6 b7 b8 b9 b10 b11 b12 b13 b14 b15 => S.mk a0 a1 a2 a3 (S.mk b0 b1 b2 b3 b4 b5 b6 b7 b8 b9 x b11 b12 b13 b14 b15) a5 a6 a7 a8 a9 a10 a11 a12 a13 a14 a15) a4) s
noncomputable def w75 (s : Env) (x : AV) : Env := S.rec (motive := fun _ => Env) (fun a0 a1 a2 a3 a4 a5 a6 a7 a8 a9 a10 a11 a12 a13 a14 a15 => S.rec (motive := fun _ => Env) (fun b0 b1 b2 b3 b4 b5 b6 b7 b8 b9 b10 b11 b12 b13 b14 b15 => S.mk a0 a1 a2 a3 (S.mk b0 b1 b2 b3 b4 b5 b6 b7 b8 b9 b10 x b12 b13 b14 b15) a5 a6 a7 a8 a9 a10 a11 a12 a13 a14 a15) a4) s
noncomputable def w76 (s : Env) (x : AV) : Env := S.rec (motive := fun _ => Env) (fun a0 a1 a2 a3 a4 a5 a6 a7 a8 a9 a10 a11 a12 a13 a14 a15 => S.rec (motive := fun _ => Env) (fun b0 b1 b2 b3 b4 b5 b6 b7 b8 b9 b10 b11 b12 b13 b14 b15 => S.mk a0 a1 a2 a3 (S.mk b0 b1 b2 b3 b4 b5 b6 b7 b8 b9 b10 b11 x b13 b14 b15) a5 a6 a7 a8 a9 a10 a11 a12 a13 a14 a15) a4) s
noncomputable def w77 (s : Env) (x : AV) : Env := S.rec (motive := fun _ => Env) (fun a0 a1 a2 a3 a4 a5 a6 a7 a8 a9 a10 a11 a12 a13 a14 a15 => S.rec (motive := fun _ => Env) (fun b0 b1 b2 b3 b4 b5 b6 b7 b8 b9 b10 b11 b12 b13 b14 b15 => S.mk a0 a1 a2 a3 (S.mk b0 b1 b2 b3 b4 b5 b6 b7 b8 b9 b10 b11 b12 x b14 b15) a5 a6 a7 a8 a9 a10 a11 a12 a13 a14 a15) a4) s
noncomputable def w78 (s : Env) (x : AV) : Env := S.rec (motive := fun _ => Env) (fun a0 a1 a2 a3 a4 a5 a6 a7 a8 a9 a10 a11 a12 a13 a14 a15 => S.rec (motive := fun _ => Env) (fun b0 b1 b2 b3 b4 b5 b6 b7 b8 b9 b10 b11 b12 b13 b14 b15 => S.mk a0 a1 a2 a3 (S.mk b0 b1 b2 b3 b4 b5 b6 b7 b8 b9 b10 b11 b12 b13 x b15) a5 a6 a7 a8 a9 a10 a11 a12 a13 a14 a15) a4) s
noncomputable def w79 (s : Env) (x : AV) : Env := S.rec (motive := fun _ => Env) (fun a0 a1 a2 a3 a4 a5 a6 a7 a8 a9 a10 a11 a12 a13 a14 a15 => S.rec (motive := fun _ => Env) (fun b0 b1 b2 b3 b4 b5 b6 b7 b8 b9 b10 b11 b12 b13 b14 b15 => S.mk a0 a1 a2 a3 (S.mk b0 b1 b2 b3 b4 b5 b6 b7 b8 b9 b10 b11 b12 b13 b14 x) a5 a6 a7 a8 a9 a10 a11 a12 a13 a14 a15) a4) s
noncomputable def w80 (s : Env) (x : AV) : Env := S.rec (motive := fun _ => Env) (fun a0 a1 a2 a3 a4 a5 a6 a7 a8 a9 a10 a11 a12 a13 a14 a15 => S.rec (motive := fun _ => Env) (fun b0 b1 b2 b3 b4 b5 b6 b7 b8 b9 b10 b11 b12 b13 b14 b15 => S.mk a0 a1 a2 a3 a4 (S.mk x b1 b2 b3 b4 b5 b6 b7 b8 b9 b10 b11 b12 b13 b14 b15) a6 a7 a8 a9 a10 a11 a12 a13 a14 a15) a5) s
noncomputable def w81 (s : Env) (x : AV) : Env := S.rec (motive := fun _ => Env) (fun a0 a1 a2 a3 a4 a5 a6 a7 a8 a9 a10 a11 a12 a13 a14 a15 => S.rec (motive := fun _ => Env) (fun b0 b1 b2 b3 b4 b5 b6 b7 b8 b9 b10 b11 b12 b13 b14 b15 => S.mk a0 a1 a2 a3 a4 (S.mk b0 x b2 b3 b4 b5 b6 b7 b8 b9 b10 b11 b12 b13 b14 b15) a6 a7 a8 a9 a10 a11 a12 a13 a14 a15) a5) s
noncomputable def w82 (s : Env) (x : AV) : Env := S.rec (motive := fun _ => Env) (fun a0 a1 a2 a3 a4 a5 a6 a7 a8 a9 a10 a11 a12 a13 a14 a15 => S.rec (motive := fun _ => Env) (fun b0 b1 b2 b3 b4 b5 b6 b7 b8 b9 b10 b11 b12 b13 b14 b15 => S.mk a0 a1 a2 a3 a4 (S.mk b0 b1 x b3 b4 b5 b6 b7 b8 b9 b10 b11 b12 b13 b14 b15) a6 a7 a8 a9 a10 a11 a12 a13 a14 a15) a5) s
noncomputable def w83 (s : Env) (x : AV) : Env := S.rec (motive := fun _ => Env) (fun a0 a1 a2 a3 a4 a5 a6 a7 a8 a9 a10 a11 a12 a13 a14 a15 => S.rec (motive := fun _ => Env) (fun b0 b1 b2 b3 b4 b5 b6 b7 b8 b9 b10 b11 b12 b13 b14 b15 => S.mk a0 a1 a2 a3 a4 (S.mk b0 b1 b2 x b4 b5 b6 b7 b8 b9 b10 b11 b12 b13 b14 b15) a6 a7 a8 a9 a10 a11 a12 a13 a14 a15) a5) s
noncomputable def w84 (s : Env) (x : AV) : Env := S.rec (motive := fun _ => Env) (fun a0 a1 a2 a3 a4 a5 a6 a7 a8 a9 a10 a11 a12 a13 a14 a15 => S.rec (motive := fun _ => Env) (fun b0 b1 b2 b3 b4 b5 b6 b7 b8 b9 b10 b11 b12 b13 b14 b15 => S.mk a0 a1 a2 a3 a4 (S.mk b0 b1 b2 b3 x b5 b6 b7 b8 b9 b10 b11 b12 b13 b14 b15) a6 a7 a8 a9 a10 a11 a12 a13 a14 a15) a5) s
noncomputable def w85 (s : Env) (x : AV) : Env := S.rec (motive := fun _ => Env) (fun a0 a1 a2 a3 a4 a5 a6 a7 a8 a9 a10 a11 a12 a13 a14 a15 => S.rec (motive := fun _ => Env) (fun b0 b1 b2 b3 b4 b5 b6 b7 b8 b9 b10 b11 b12 b13 b14 b15 => S.mk a0 a1 a2 a3 a4 (S.mk b0 b1 b2 b3 b4 x b6 b7 b8 b9 b10 b11 b12 b13 b14 b15) a6 a7 a8 a9 a10 a11 a12 a13 a14 a15) a5) s
noncomputable def w86 (s : Env) (x : AV) : Env := S.rec (motive := fun _ => Env) (fun a0 a1 a2 a3 a4 a5 a6 a7 a8 a9 a10 a11 a12 a13 a14 a15 => S.rec (motive := fun _ => Env) (fun b0 b1 b2 b3 b4 b5 b6 b7 b8 b9 b10 b11 b12 b13 b14 b15 => S.mk a0 a1 a2 a3 a4 (S.mk b0 b1 b2 b3 b4 b5 x b7 b8 b9 b10 b11 b12 b13 b14 b15) a6 a7 a8 a9 a10 a11 a12 a13 a14 a15) a5) s
noncomputable def w87 (s : Env) (x : AV) : Env := S.rec (motive := fun _ => Env) (fun a0 a1 a2 a3 a4 a5 a6 a7 a8 a9 a10 a11 a12 a13 a14 a15 => S.rec (motive := fun _ => Env) (fun b0 b1 b2 b3 b4 b5 b6 b7 b8 b9 b10 b11 b12 b13 b14 b15 => S.mk a0 a1 a2 a3 a4 (S.mk b0 b1 b2 b3 b4 b5 b6 x b8 b9 b10 b11 b12 b13 b14 b15) a6 a7 a8 a9 a10 a11 a12 a13 a14 a15) a5) s
noncomputable def w88 (s : Env) (x : AV) : Env := S.rec (motive := fun _ => Env) (fun a0 a1 a2 a3 a4 a5 a6 a7 a8 a9 a10 a11 a12 a13 a14 a15 => S.rec (motive := fun _ => Env) (fun b0 b1 b2 b3 b4 b5 b6 b7 b8 b9 b10 b11 b12 b13 b14 b15 => S.mk a0 a1 a2 a3 a4 (S.mk b0 b1 b2 b3 b4 b5 b6 b7 x b9 b10 b11 b12 b13 b14 b15) a6 a7 a8 a9 a10 a11 a12 a13 a14 a15) a5) s
noncomputable def w89 (s : Env) (x : AV) : Env := S.rec (motive := fun _ => Env) (fun a0 a1 a2 a3 a4 a5 a6 a7 a8 a9 a10 a11 a12 a13 a14 a15 => S.rec (motive := fun _ => Env) (fun b0 b1 b2 b3 b4 b5 b6 b7 b8 b9 b10 b11 b12 b13 b14 b15 => S.mk a0 a1 a2 a3 a4 (S.mk b0 b1 b2 b3 b4 b5 b6 b7 b8 x b10 b11 b12 b13 b14 b15) a6 a7 a8 a9 a10 a11 a12 a13 a14 a15) a5) s
noncomputable def w90 (s : Env) (x : AV) : Env := S.rec (motive := fun _ => Env) (fun a0 a1 a2 a3 a4 a5 a6 a7 a8 a9 a10 a11 a12 a13 a14 a15 => S.rec (motive := fun _ => Env) (fun b0 b1 b2 b3 b4 b5 b6 b7 b8 b9 b10 b11 b12 b13 b14 b15 => S.mk a0 a1 a2 a3 a4 (S.mk b0 b1 b2 b3 b4 b5 b6 b7 b8 b9 x b11 b12 b13 b14 b15) a6 a7 a8 a9 a10 a11 a12 a13 a14 a15) a5) s
noncomputable def w91 (s : Env) (x : AV) : Env := S.rec (motive := fun _ => Env) (fun a0 a1 a2 a3 a4 a5 a6 a7 a8 a9 a10 a11 a12 a13 a14 a15 => S.rec (motive := fun _ => Env) (fun b0 b1 b2 b3 b4 b5 b6 b7 b8 b9 b10 b11 b12 b13 b14 b15 => S.mk a0 a1 a2 a3 a4 (S.mk b0 b1 b2 b3 b4 b5 b6 b7 b8 b9 b10 x b12 b13 b14 b15) a6 a7 a8 a9 a10 a11 a12 a13 a14 a15) a5) s
noncomputable def w92 (s : Env) (x : AV) : Env := S.rec (motive := fun _ => Env) (fun a0 a1 a2 a3 a4 a5 a6 a7 a8 a9 a10 a11 a12 a13 a14 a15 => S.rec (motive := fun _ => Env) (fun b0 b1 b2 b3 b4 b5 b6 b7 b8 b9 b10 b11 b12 b13 b14 b15 => S.mk a0 a1 a2 a3 a4 (S.mk b0 b1 b2 b3 b4 b5 b6 b7 b8 b9 b10 b11 x b13 b14 b15) a6 a7 a8 a9 a10 a11 a12 a13 a14 a15) a5) s
noncomputable def w93 (s : Env) (x : AV) : Env := S.rec (motive := fun _ => Env) (fun a0 a1 a2 a3 a4 a5 a6 a7 a8 a9 a10 a11 a12 a13 a14 a15 => S.rec (motive := fun _ => Env) (fun b0 b1 b2 b3 b4 b5 b6 b7 b8 b9 b10 b11 b12 b13 b14 b15 => S.mk a0 a1 a2 a3 a4 (S.mk b0 b1 b2 b3 b4 b5 b6 b7 b8 b9 b10 b11 b12 x b14 b15) a6 a7 a8 a9 a10 a11 a12 a13 a14 a15) a5) s
noncomputable def w94 (s : Env) (x : AV) : Env := S.rec (motive := fun _ => Env) (fun a0 a1 a2 a3 a4 a5 a6 a7 a8 a9 a10 a11 a12 a13 a14 a15 => S.rec (motive := fun _ => Env) (fun b0 b1 b2 b3 b4 b5 b6 b7 b8 b9 b10 b11 b12 b13 b14 b15 => S.mk a0 a1 a2 a3 a4 (S.mk b0 b1 b2 b3 b4 b5 b6 b7 b8 b9 b10 b11 b12 b13 x b15) a6 a7 a8 a9 a10 a11 a12 a13 a14 a15) a5) s
noncomputable def w95 (s : Env) (x : AV) : Env := S.rec (motive := fun _ => Env) (fun a0 a1 a2 a3 a4 a5 a6 a7 a8 a9 a10 a11 a12 a13 a14 a15 => S.rec (motive := fun _ => Env) (fun b0 b1 b2 b3 b4 b5 b6 b7 b8 b9 b10 b11 b12 b13 b14 b15 => S.mk a0 a1 a2 a3 a4 (S.mk b0 b1 b2 b3 b4 b5 b6 b7 b8 b9 b10 b11 b12 b13 b14 x) a6 a7 a8 a9 a10 a11 a12 a13 a14 a15) a5) s
noncomputable def w96 (s : Env) (x : AV) : Env := S.rec (motive := fun _ => Env) (fun a0 a1 a2 a3 a4 a5 a6 a7 a8 a9 a10 a11 a12 a13 a14 a15 => S.rec (motive := fun _ => Env) (fun b0 b1 b2 b3 b4 b5 b6 b7 b8 b9 b10 b11 b12 b13 b14 b15 => S.mk a0 a1 a2 a3 a4 a5 (S.mk x b1 b2 b3 b4 b5 b6 b7 b8 b9 b10 b11 b12 b13 b14 b15) a7 a8 a9 a10 a11 a12 a13 a14 a15) a6) s
noncomputable def w97 (s : Env) (x : AV) : Env := S.rec (motive := fun _ => Env) (fun a0 a1 a2 a3 a4 a5 a6 a7 a8 a9 a10 a11 a12 a13 a14 a15 => S.rec (motive := fun _ => Env) (fun b0 b1 b2 b3 b4 b5 b6 b7 b8 b9 b10 b11 b12 b13 b14 b15 => S.mk a0 a1 a2 a3 a4 a5 (S.mk b0 x b2 b3 b4 b5 b6 b7 b8 b9 b10 b11 b12 b13 b14 b15) a7 a8 a9 a10 a11 a12 a13 a14 a15) a6) s
noncomputable def w98 (s : Env) (x : AV) : Env := S.rec (motive := fun _ => Env) (fun a0 a1 a2 a3 a4 a5 a6 a7 a8 a9 a10 a11 a12 a13 a14 a15 => S.rec (motive := fun _ => Env) (fun b0 b1 b2 b3 b4 b5 b6 b7 b8 b9 b10 b11 b12 b13 b14 b15 => S.mk a0 a1 a2 a3 a4 a5 (S.mk b0 b1 x b3 b4 b5 b6 b7 b8 b9 b10 b11 b12 b13 b14 b15) a7 a8 a9 a10 a11 a12 a13 a14 a15) a6) s
noncomputable def w99 (s : Env) (x : AV) : Env := S.rec (motive := fun _ => Env) (fun a0 a1 a2 a3 a4 a5 a6 a7 a8 a9 a10 a11 a12 a13 a14 a15 => S.rec (motive := fun _ => Env) (fun b0 b1 b2 b3 b4 b5 b6 b7 b8 b9 b10 b11 b12 b13 b14 b15 => S.mk a0 a1 a2 a3 a4 a5 (S.mk b0 b1 b2 x b4 b5 b6 b7 b8 b9 b10 b11 b12 b13 b14 b15) a7 a8 a9 a10 a11 a12 a13 a14 a15) a6) s
noncomputable def w100 (s : Env) (x : AV) : Env := S.rec (motive := fun _ => Env) (fun a0 a1 a2 a3 a4 a5 a6 a7 a8 a9 a10 a11 a12 a13 a14 a15 => S.rec (motive := fun _ => Env) (fun b0 b1 b2 b3 b4 b5 b6 b7 b8 b9 b10 b11 b12 b13 b14 b15 => S.mk a0 a1 a2 a3 a4 a5 (S.mk b0 b1 b2 b3 x b5 b6 b7 b8 b9 b10 b11 b12 b13 b14 b15) a7 a8 a9 a10 a11 a12 a13 a14 a15) a6) s
noncomputable def w101 (s : Env) (x : AV) : Env := S.rec (motive := fun _ => Env) (fun a0 a1 a2 a3 a4 a5 a6 a7 a8 a9 a10 a11 a12 a13 a14 a15 => S.rec (motive := fun _ => Env) (fun b0 b1 b2 b3 b4 b5 b6 b7 b8 b9 b10 b11 b12 b13 b14 b15 => S.mk a0 a1 a2 a3 a4 a5 (S.mk b0 b1 b2 b3 b4 x b6 b7 b8 b9 b10 b11 b12 b13 b14 b15) a7 a8 a9 a10 a11 a12 a13 a14 a15) a6) s
noncomputable def w102 (s : Env) (x : AV) : Env := S.rec (motive := fun _ => Env) (fun a0 a1 a2 a3 a4 a5 a6 a7 a8 a9 a10 a11 a12 a13 a14 a15 => S.rec (motive := fun _ => Env) (fun b0 b1 b2 b3 b4 b5 b6 b7 b8 b9 b10 b11 b12 b13 b14 b15 => S.mk a0 a1 a2 a3 a4 a5 (S.mk b0 b1 b2 b3 b4 b5 x b7 b8 b9 b10 b11 b12 b13 b14 b15) a7 a8 a9 a10 a11 a12 a13 a14 a15) a6) s
noncomputable def w103 (s : Env) (x : AV) : Env := S.rec (motive := fun _ => Env) (fun a0 a1 a2 a3 a4 a5 a6 a7 a8 a9 a10 a11 a12 a13 a14 a15 => S.rec (motive := fun _ => Env) (fun b0 b1 b2 b3 b4 b5 b6 b7 b8 b9 b10 b11 b12 b13 b14 b15 => S.mk a0 a1 a2 a3 a4 a5 (S.mk b0 b1 b2 b3 b4 b5 b6 x b8 b9 b10 b11 b12 b13 b14 b15) a7 a8 a9 a10 a11 a12 a13 a14 a15) a6) s
noncomputable def w104 (s : Env) (x : AV) : Env := S.rec (motive := fun _ => Env) (fun a0 a1 a2 a3 a4 a5 a6 a7 a8 a9 a10 a11 a12 a13 a14 a15 => S.rec (motive := fun _ => Env) (fun b0 b1 b2 b3 b4 b5 b6 b7 b8 b9 b10 b11 b12 b13 b14 b15 => S.mk a0 a1 a2 a3 a4 a5 (S.mk b0 b1 b2 b3 b4 b5 b6 b7 x b9 b10 b11 b12 b13 b14 b15) a7 a8 a9 a10 a11 a12 a13 a14 a15) a6) s
noncomputable def w105 (s : Env) (x : AV) : Env := S.rec (motive := fun _ => Env) (fun a0 a1 a2 a3 a4 a5 a6 a7 a8 a9 a10 a11 a12 a13 a14 a15 => S.rec (motive := fun _ => Env) (fun b0 b1 b2 b3 b4 b5 b6 b7 b8 b9 b10 b11 b12 b13 b14 b15 => S.mk a0 a1 a2 a3 a4 a5 (S.mk b0 b1 b2 b3 b4 b5 b6 b7 b8 x b10 b11 b12 b13 b14 b15) a7 a8 a9 a10 a11 a12 a13 a14 a15) a6) s
noncomputable def w106 (s : Env) (x : AV) : Env := S.rec (motive := fun _ => Env) (fun a0 a1 a2 a3 a4 a5 a6 a7 a8 a9 a10 a11 a12 a13 a14 a15 => S.rec (motive := fun _ => Env) (fun b0 b1 b2 b3 b4 b5 b6 b7 b8 b9 b10 b11 b12 b13 b14 b15 => S.mk a0 a1 a2 a3 a4 a5 (S.mk b0 b1 b2 b3 b4 b5 b6 b7 b8 b9 x b11 b12 b13 b14 b15) a7 a8 a9 a10 a11 a12 a13 a14 a15) a6) s
noncomputable def w107 (s : Env) (x : AV) : Env := S.rec (motive := fun _ => Env) (fun a0 a1 a2 a3 a4 a5 a6 a7 a8 a9 a10 a11 a12 a13 a14 a15 => S.rec (motive := fun _ => Env) (fun b0 b1 b2 b3 b4 b5 b6 b7 b8 b9 b10 b11 b12 b13 b14 b15 => S.mk a0 a1 a2 a3 a4 a5 (S.mk b0 b1 b2 b3 b4 b5 b6 b7 b8 b9 b10 x b12 b13 b14 b15) a7 a8 a9 a10 a11 a12 a13 a14 a15) a6) s
noncomputable def w108 (s : Env) (x : AV) : Env := S.rec (motive := fun _ => Env) (fun a0 a1 a2 a3 a4 a5 a6 a7 a8 a9 a10 a11 a12 a13 a14 a15 => S.rec (motive := fun _ => Env) (fun b0 b1 b2 b3 b4 b5 b6 b7 b8 b9 b10 b11 b12 b13 b14 b15 => S.mk a0 a1 a2 a3 a4 a5 (S.mk b0 b1 b2 b3 b4 b5 b6 b7 b8 b9 b10 b11 x b13 b14 b15) a7 a8 a9 a10 a11 a12 a13 a14 a15) a6) s
noncomputable def w109 (s : Env) (x : AV) : Env := S.rec (motive := fun _ => Env) (fun a0 a1 a2 a3 a4 a5 a6 a7 a8 a9 a10 a11 a12 a13 a14 a15 => S.rec (motive := fun _ => Env) (fun b0 b1 b2 b3 b4 b5 b6 b7 b8 b9 b10 b11 b12 b13 b14 b15 => S.mk a0 a1 a2 a3 a4 a5 (S.mk b0 b1 b2 b3 b4 b5 b6 b7 b8 b9 b10 b11 b12 x b14 b15) a7 a8 a9 a10 a11 a12 a13 a14 a15) a6) s
noncomputable def w110 (s : Env) (x : AV) : Env := S.rec (motive := fun _ => Env) (fun a0 a1 a2 a3 a4 a5 a6 a7 a8 a9 a10 a11 a12 a13 a14 a15 => S.rec (motive := fun _ => Env) (fun b0 b1 b2 b3 b4 b5 b6 b7 b8 b9 b10 b11 b12 b13 b14 b15 => S.mk a0 a1 a2 a3 a4 a5 (S.mk b0 b1 b2 b3 b4 b5 b6 b7 b8 b9 b10 b11 b12 b13 x b15) a7 a8 a9 a10 a11 a12 a13 a14 a15) a6) s
noncomputable def w111 (s : Env) (x : AV) : Env := S.rec (motive := fun _ => Env) (fun a0 a1 a2 a3 a4 a5 a6 a7 a8 a9 a10 a11 a12 a13 a14 a15 => S.rec (motive := fun _ => Env) (fun b0 b1 b2 b3 b4 b5 b6 b7 b8 b9 b10 b11 b12 b13 b14 b15 => S.mk a0 a1 a2 a3 a4 a5 (S.mk b0 b1 b2 b3 b4 b5 b6 b7 b8 b9 b10 b11 b12 b13 b14 x) a7 a8 a9 a10 a11 a12 a13 a14 a15) a6) s
noncomputable def w112 (s : Env) (x : AV) : Env := S.rec (motive := fun _ => Env) (fun a0 a1 a2 a3 a4 a5 a6 a7 a8 a9 a10 a11 a12 a13 a14 a15 => S.rec (motive := fun _ => Env) (fun b0 b1 b2 b3 b4 b5 b6 b7 b8 b9 b10 b11 b12 b13 b14 b15 => S.mk a0 a1 a2 a3 a4 a5 a6 (S.mk x b1 b2 b3 b4 b5 b6 b7 b8 b9 b10 b11 b12 b13 b14 b15) a8 a9 a10 a11 a12 a13 a14 a15) a7) s
noncomputable def w113 (s : Env) (x : AV) : Env := S.rec (motive := fun _ => Env) (fun a0 a1 a2 a3 a4 a5 a6 a7 a8 a9 a10 a11 a12 a13 a14 a15 => S.rec (motive := fun _ => Env) (fun b0 b1 b2 b3 b4 b5 b6 b7 b8 b9 b10 b11 b12 b13 b14 b15 => S.mk a0 a1 a2 a3 a4 a5 a6 (S.mk b0 x b2 b3 b4 b5 b6 b7 b8 b9 b10 b11 b12 b13 b14 b15) a8 a9 a10 a11 a12 a13 a14 a15) a7) s
noncomputable def w114 (s : Env) (x : AV) : Env := S.rec (motive := fun _ => Env) (fun a0 a1 a2 a3 a4 a5 a6 a7 a8 a9 a10 a11 a12 a13 a14 a15 => S.rec (motive := fun _ => Env) (fun b0 b1 b2 b3 b4 b5 b6 b7 b8 b9 b10 b11 b12 b13 b14 b15 => S.mk a0 a1 a2 a3 a4 a5 a6 (S.mk b0 b1 x b3 b4 b5 b6 b7 b8 b9 b10 b11 b12 b13 b14 b15) a8 a9 a10 a11 a12 a13 a14 a15) a7) s
noncomputable def w115 (s : Env) (x : AV) : Env := S.rec (motive := fun _ => Env) (fun a0 a1 a2 a3 a4 a5 a6 a7 a8 a9 a10 a11 a12 a13 a14 a15 => S.rec (motive := fun _ => Env) (fun b0 b1 b2 b3 b4 b5 b6 b7 b8 b9 b10 b11 b12 b13 b14 b15 => S.mk a0 a1 a2 a3 a4 a5 a6 (S.mk b0 b1 b2 x b4 b5 b6 b7 b8 b9 b10 b11 b12 b13 b14 b15) a8 a9 a10 a11 a12 a13 a14 a15) a7) s
noncomputable def w116 (s : Env) (x : AV) : Env := S.rec (motive := fun _ => Env) (fun a0 a1 a2 a3 a4 a5 a6 a7 a8 a9 a10 a11 a12 a13 a14 a15 => S.rec (motive := fun _ => Env) (fun b0 b1 b2 b3 b4 b5 b6 b7 b8 b9 b10 b11 b12 b13 b14 b15 => S.mk a0 a1 a2 a3 a4 a5 a6 (S.mk b0 b1 b2 b3 x b5 b6 b7 b8 b9 b10 b11 b12 b13 b14 b15) a8 a9 a10 a11 a12 a13 a14 a15) a7) s
noncomputable def w117 (s : Env) (x : AV) : Env := S.rec (motive := fun _ => Env) (fun a0 a1 a2 a3 a4 a5 a6 a7 a8 a9 a10 a11 a12 a13 a14 a15 => S.rec (motive := fun _ => Env) (fun b0 b1 b2 b3 b4 b5 b6 b7 b8 b9 b10 b11 b12 b13 b14 b15 => S.mk a0 a1 a2 a3 a4 a5 a6 (S.mk b0 b1 b2 b3 b4 x b6 b7 b8 b9 b10 b11 b12 b13 b14 b15) a8 a9 a10 a11 a12 a13 a14 a15) a7) s
noncomputable def w118 (s : Env) (x : AV) : Env := S.rec (motive := fun _ => Env) (fun a0 a1 a2 a3 a4 a5 a6 a7 a8 a9 a10 a11 a12 a13 a14 a15 => S.rec (motive := fun _ => Env) (fun b0 b1 b2 b3 b4 b5 b6 b7 b8 b9 b10 b11 b12 b13 b14 b15 => S.mk a0 a1 a2 a3 a4 a5 a6 (S.mk b0 b1 b2 b3 b4 b5 x b7 b8 b9 b10 b11 b12 b13 b14 b15) a8 a9 a10 a11 a12 a13 a14 a15) a7) s
noncomputable def w119 (s : Env) (x : AV) : Env := S.rec (motive := fun _ => Env) (fun a0 a1 a2 a3 a4 a5 a6 a7 a8 a9 a10 a11 a12 a13 a14 a15 => S.rec (motive := fun _ => Env) (fun b0 b1 b2 b3 b4 b5 b6 b7 b8 b9 b10 b11 b12 b13 b14 b15 => S.mk a0 a1 a2 a3 a4 a5 a6 (S.mk b0 b1 b2 b3 b4 b5 b6 x b8 b9 b10 b11 b12 b13 b14 b15) a8 a9 a10 a11 a12 a13 a14 a15) a7) s
noncomputable def w120 (s : Env) (x : AV) : Env := S.rec (motive := fun _ => Env) (fun a0 a1 a2 a3 a4 a5 a6 a7 a8 a9 a10 a11 a12 a13 a14 a15 => S.rec (motive := fun _ => Env) (fun b0 b1 b2 b3 b4 b5 b6 b7 b8 b9 b10 b11 b12 b13 b14 b15 => S.mk a0 a1 a2 a3 a4 a5 a6 (S.mk b0 b1 b2 b3 b4 b5 b6 b7 x b9 b10 b11 b12 b13 b14 b15) a8 a9 a10 a11 a12 a13 a14 a15) a7) s
noncomputable def w121 (s : Env) (x : AV) : Env := S.rec (motive := fun _ => Env) (fun a0 a1 a2 a3 a4 a5 a6 a7 a8 a9 a10 a11 a12 a13 a14 a15 => S.rec (motive := fun _ => Env) (fun b0 b1 b2 b3 b4 b5 b6 b7 b8 b9 b10 b11 b12 b13 b14 b15 => S.mk a0 a1 a2 a3 a4 a5 a6 (S.mk b0 b1 b2 b3 b4 b5 b6 b7 b8 x b10 b11 b12 b13 b14 b15) a8 a9 a10 a11 a12 a13 a14 a15) a7) s
noncomputable def w122 (s : Env) (x : AV) : Env := S.rec (motive := fun _ => Env) (fun a0 a1 a2 a3 a4 a5 a6 a7 a8 a9 a10 a11 a12 a13 a14 a15 => S.rec (motive := fun _ => Env) (fun b0 b1 b2 b3 b4 b5 b6 b7 b8 b9 b10 b11 b12 b13 b14 b15 => S.mk a0 a1 a2 a3 a4 a5 a6 (S.mk b0 b1 b2 b3 b4 b5 b6 b7 b8 b9 x b11 b12 b13 b14 b15) a8 a9 a10 a11 a12 a13 a14 a15) a7) s
noncomputable def w123 (s : Env) (x : AV) : Env := S.rec (motive := fun _ => Env) (fun a0 a1 a2 a3 a4 a5 a6 a7 a8 a9 a10 a11 a12 a13 a14 a15 => S.rec (motive := fun _ => Env) (fun b0 b1 b2 b3 b4 b5 b6 b7 b8 b9 b10 b11 b12 b13 b14 b15 => S.mk a0 a1 a2 a3 a4 a5 a6 (S.mk b0 b1 b2 b3 b4 b5 b6 b7 b8 b9 b10 x b12 b13 b14 b15) a8 a9 a10 a11 a12 a13 a14 a15) a7) s
noncomputable def w124 (s : Env) (x : AV) : Env := S.rec (motive := fun _ => Env) (fun a0 a1 a2 a3 a4 a5 a6 a7 a8 a9 a10 a11 a12 a13 a14 a15 => S.rec (motive := fun _ => Env) (fun b0 b1 b2 b3 b4 b5 b6 b7 b8 b9 b10 b11 b12 b13 b14 b15 => S.mk a0 a1 a2 a3 a4 a5 a6 (S.mk b0 b1 b2 b3 b4 b5 b6 b7 b8 b9 b10 b11 x b13 b14 b15) a8 a9 a10 a11 a12 a13 a14 a15) a7) s
noncomputable def w125 (s : Env) (x : AV) : Env := S.rec (motive := fun _ => Env) (fun a0 a1 a2 a3 a4 a5 a6 a7 a8 a9 a10 a11 a12 a13 a14 a15 => S.rec (motive := fun _ => Env) (fun b0 b1 b2 b3 b4 b5 b6 b7 b8 b9 b10 b11 b12 b13 b14 b15 => S.mk a0 a1 a2 a3 a4 a5 a6 (S.mk b0 b1 b2 b3 b4 b5 b6 b7 b8 b9 b10 b11 b12 x b14 b15) a8 a9 a10 a11 a12 a13 a14 a15) a7) s
noncomputable def w126 (s : Env) (x : AV) : Env := S.rec (motive := fun _ => Env) (fun a0 a1 a2 a3 a4 a5 a6 a7 a8 a9 a10 a11 a12 a13 a14 a15 => S.rec (motive := fun _ => Env) (fun b0 b1 b2 b3 b4 b5 b6 b7 b8 b9 b10 b11 b12 b13 b14 b15 => S.mk a0 a1 a2 a3 a4 a5 a6 (S.mk b0 b1 b2 b3 b4 b5 b6 b7 b8 b9 b10 b11 b12 b13 x b15) a8 a9 a10 a11 a12 a13 a14 a15) a7) s
noncomputable def w127 (s : Env) (x : AV) : Env := S.rec (motive := fun _ => Env) (fun a0 a1 a2 a3 a4 a5 a6 a7 a8 a9 a10 a11 a12 a13 a14 a15 => S.rec (motive := fun _ => Env) (fun b0 b1 b2 b3 b4 b5 b6 b7 b8 b9 b10 b11 b12 b13 b14 b15 => S.mk a0 a1 a2 a3 a4 a5 a6 (S.mk b0 b1 b2 b3 b4 b5 b6 b7 b8 b9 b10 b11 b12 b13 b14 x) a8 a9 a10 a11 a12 a13 a14 a15) a7) s
noncomputable def w128 (s : Env) (x : AV) : Env := S.rec (motive := fun _ => Env) (fun a0 a1 a2 a3 a4 a5 a6 a7 a8 a9 a10 a11 a12 a13 a14 a15 => S.rec (motive := fun _ => Env) (fun b0 b1 b2 b3 b4 b5 b6 b7 b8 b9 b10 b11 b12 b13 b14 b15 => S.mk a0 a1 a2 a3 a4 a5 a6 a7 (S.mk x b1 b2 b3 b4 b5 b6 b7 b8 b9 b10 b11 b12 b13 b14 b15) a9 a10 a11 a12 a13 a14 a15) a8) s
noncomputable def w129 (s : Env) (x : AV) : Env := S.rec (motive := fun _ => Env) (fun a0 a1 a2 a3 a4 a5 a6 a7 a8 a9 a10 a11 a12 a13 a14 a15 => S.rec (motive := fun _ => Env) (fun b0 b1 b2 b3 b4 b5 b6 b7 b8 b9 b10 b11 b12 b13 b14 b15 => S.mk a0 a1 a2 a3 a4 a5 a6 a7 (S.mk b0 x b2 b3 b4 b5 b6 b7 b8 b9 b10 b11 b12 b13 b14 b15) a9 a10 a11 a12 a13 a14 a15) a8) s
noncomputable def w130 (s : Env) (x : AV) : Env := S.rec (motive := fun _ => Env) (fun a0 a1 a2 a3 a4 a5 a6 a7 a8 a9 a10 a11 a12 a13 a14 a15 => S.rec (motive := fun _ => Env) (fun b0 b1 b2 b3 b4 b5 b6 b7 b8 b9 b10 b11 b12 b13 b14 b15 => S.mk a0 a1 a2 a3 a4 a5 a6 a7 (S.mk b0 b1 x b3 b4 b5 b6 b7 b8 b9 b10 b11 b12 b13 b14 b15) a9 a10 a11 a12 a13 a14 a15) a8) s
noncomputable def w131 (s : Env) (x : AV) : Env := S.rec (motive := fun _ => Env) (fun a0 a1 a2 a3 a4 a5 a6 a7 a8 a9 a10 a11 a12 a13 a14 a15 => S.rec (motive := fun _ => Env) (fun b0 b1 b2 b3 b4 b5 b6 b7 b8 b9 b10 b11 b12 b13 b14 b15 => S.mk a0 a1 a2 a3 a4 a5 a6 a7 (S.mk b0 b1 b2 x b4 b5 b6 b7 b8 b9 b10 b11 b12 b13 b14 b15) a9 a10 a11 a12 a13 a14 a15) a8) s
noncomputable def w132 (s : Env) (x : AV) : Env := S.rec (motive := fun _ => Env) (fun a0 a1 a2 a3 a4 a5 a6 a7 a8 a9 a10 a11 a12 a13 a14 a15 => S.rec (motive := fun _ => Env) (fun b0 b1 b2 b3 b4 b5 b6 b7 b8 b9 b10 b11 b12 b13 b14 b15 => S.mk a0 a1 a2 a3 a4 a5 a6 a7 (S.mk b0 b1 b2 b3 x b5 b6 b7 b8 b9 b10 b11 b12 b13 b14 b15) a9 a10 a11 a12 a13 a14 a15) a8) s
noncomputable def w133 (s : Env) (x : AV) : Env := S.rec (motive := fun _ => Env) (fun a0 a1 a2 a3 a4 a5 a6 a7 a8 a9 a10 a11 a12 a13 a14 a15 => S.rec (motive := fun _ => Env) (fun b0 b1 b2 b3 b4 b5 b6 b7 b8 b9 b10 b11 b12 b13 b14 b15 => S.mk a0 a1 a2 a3 a4 a5 a6 a7 (S.mk b0 b1 b2 b3 b4 x b6 b7 b8 b9 b10 b11 b12 b13 b14 b15) a9 a10 a11 a12 a13 a14 a15) a8) s
noncomputable def w134 (s : Env) (x : AV) : Env := S.rec (motive := fun _ => Env) (fun a0 a1 a2 a3 a4 a5 a6 a7 a8 a9 a10 a11 a12 a13 a14 a15 => S.rec (motive := fun _ => Env) (fun b0 b1 b2 b3 b4 b5 b6 b7 b8 b9 b10 b11 b12 b13 b14 b15 => S.mk a0 a1 a2 a3 a4 a5 a6 a7 (S.mk b0 b1 b2 b3 b4 b5 x b7 b8 b9 b10 b11 b12 b13 b14 b15) a9 a10 a11 a12 a13 a14 a15) a8) s
noncomputable def w135 (s : Env) (x : AV) : Env := S.rec (motive := fun _ => Env) (fun a0 a1 a2 a3 a4 a5 a6 a7 a8 a9 a10 a11 a12 a13 a14 a15 => S.rec (motive := fun _ => Env) (fun b0 b1 b2 b3 b4 b5 b6 b7 b8 b9 b10 b11 b12 b13 b14 b15 => S.mk a0 a1 a2 a3 a4 a5 a6 a7 (S.mk b0 b1 b2 b3 b4 b5 b6 x b8 b9 b10 b11 b12 b13 b14 b15) a9 a10 a11 a12 a13 a14 a15) a8) s
noncomputable def w136 (s : Env) (x : AV) : Env := S.rec (motive := fun _ => Env) (fun a0 a1 a2 a3 a4 a5 a6 a7 a8 a9 a10 a11 a12 a13 a14 a15 => S.rec (motive := fun _ => Env) (fun b0 b1 b2 b3 b4 b5 b6 b7 b8 b9 b10 b11 b12 b13 b14 b15 => S.mk a0 a1 a2 a3 a4 a5 a6 a7 (S.mk b0 b1 b2 b3 b4 b5 b6 b7 x b9 b10 b11 b12 b13 b14 b15) a9 a10 a11 a12 a13 a14 a15) a8) s
noncomputable def w137 (s : Env) (x : AV) : Env := S.rec (motive := fun _ => Env) (fun a0 a1 a2 a3 a4 a5 a6 a7 a8 a9 a10 a11 a12 a13 a14 a15 => S.rec (motive := fun _ => Env) (fun b0 b1 b2 b3 b4 b5 b6 b7 b8 b9 b10 b11 b12 b13 b14 b15 => S.mk a0 a1 a2 a3 a4 a5 a6 a7 (S.mk b0 b1 b2 b3 b4 b5 b6 b7 b8 x b10 b11 b12 b13 b14 b15) a9 a10 a11 a12 a13 a14 a15) a8) s
noncomputable def w138 (s : Env) (x : AV) : Env := S.rec (motive := fun _ => Env) (fun a0 a1 a2 a3 a4 a5 a6 a7 a8 a9 a10 a11 a12 a13 a14 a15 => S.rec (motive := fun _ => Env) (fun b0 b1 b2 b3 b4 b5 b6 b7 b8 b9 b10 b11 b12 b13 b14 b15 => S.mk a0 a1 a2 a3 a4 a5 a6 a7 (S.mk b0 b1 b2 b3 b4 b5 b6 b7 b8 b9 x b11 b12 b13 b14 b15) a9 a10 a11 a12 a13 a14 a15) a8) s
noncomputable def w139 (s : Env) (x : AV) : Env := S.rec (motive := fun _ => Env) (fun a0 a1 a2 a3 a4 a5 a6 a7 a8 a9 a10 a11 a12 a13 a14 a15 => S.rec (motive := fun _ => Env) (fun b0 b1 b2 b3 b4 b5 b6 b7 b8 b9 b10 b11 b12 b13 b14 b15 => S.mk a0 a1 a2 a3 a4 a5 a6 a7 (S.mk b0 b1 b2 b3 b4 b5 b6 b7 b8 b9 b10 x b12 b13 b14 b15) a9 a10 a11 a12 a13 a14 a15) a8) s
noncomputable def w140 (s : Env) (x : AV) : Env := S.rec (motive := fun _ => Env) (fun a0 a1 a2 a3 a4 a5 a6 a7 a8 a9 a10 a11 a12 a13 a14 a15 => S.rec (motive := fun _ => Env) (fun b0 b1 b2 b3 b4 b5 b6 b7 b8 b9 b10 b11 b12 b13 b14 b15 => S.mk a0 a1 a2 a3 a4 a5 a6 a7 (S.mk b0 b1 b2 b3 b4 b5 b6 b7 b8 b9 b10 b11 x b13 b14 b15) a9 a10 a11 a12 a13 a14 a15) a8) s
noncomputable def w141 (s : Env) (x : AV) : Env := S.rec (motive := fun _ => Env) (fun a0 a1 a2 a3 a4 a5 a6 a7 a8 a9 a10 a11 a12 a13 a14 a15 => S.rec (motive := fun _ => Env) (fun b0 b1 b2 b3 b4 b5 b6 b7 b8 b9 b10 b11 b12 b13 b14 b15 => S.mk a0 a1 a2 a3 a4 a5 a6 a7 (S.mk b0 b1 b2 b3 b4 b5 b6 b7 b8 b9 b10 b11 b12 x b14 b15) a9 a10 a11 a12 a13 a14 a15) a8) s
noncomputable def w142 (s : Env) (x : AV) : Env := S.rec (motive := fun _ => Env) (fun a0 a1 a2 a3 a4 a5 a6 a7 a8 a9 a10 a11 a12 a13 a14 a15 => S.rec (motive := fun _ => Env) (fun b0 b1 b2 b3 b4 b5 b6 b7 b8 b9 b10 b11 b12 b13 b14 b15 => S.mk a0 a1 a2 a3 a4 a5 a6 a7 (S.mk b0 b1 b2 b3 b4 b5 b6 b7 b8 b9 b10 b11 b12 b13 x b15) a9 a10 a11 a12 a13 a14 a15) a8) s
noncomputable def w143 (s : Env) (x : AV) : Env := S.rec (motive := fun _ => Env) (fun a0 a1 a2 a3 a4 a5 a6 a7 a8 a9 a10 a11 a12 a13 a14 a15 => S.rec (motive := fun _ => Env) (fun b0 b1 b2 b3 b4 b5 b6 b7 b8 b9 b10 b11 b12 b13 b14 b15 => S.mk a0 a1 a2 a3 a4 a5 a6 a7 (S.mk b0 b1 b2 b3 b4 b5 b6 b7 b8 b9 b10 b11 b12 b13 b14 x) a9 a10 a11 a12 a13 a14 a15) a8) s
noncomputable def w144 (s : Env) (x : AV) : Env := S.rec (motive := fun _ => Env) (fun a0 a1 a2 a3 a4 a5 a6 a7 a8 a9 a10 a11 a12 a13 a14 a15 => S.rec (motive := fun _ => Env) (fun b0 b1 b2 b3 b4 b5 b6 b7 b8 b9 b10 b11 b12 b13 b14 b15 => S.mk a0 a1 a2 a3 a4 a5 a6 a7 a8 (S.mk x b1 b2 b3 b4 b5 b6 b7 b8 b9 b10 b11 b12 b13 b14 b15) a10 a11 a12 a13 a14 a15) a9) s
noncomputable def w145 (s : Env) (x : AV) : Env := S.rec (motive := fun _ => Env) (fun a0 a1 a2 a3 a4 a5 a6 a7 a8 a9 a10 a11 a12 a13 a14 a15 => S.rec (motive := fun _ => Env) (fun b0 b1 b2 b3 b4 b5 b6 b7 b8 b9 b10 b11 b12 b13 b14 b15 => S.mk a0 a1 a2 a3 a4 a5 a6 a7 a8 (S.mk b0 x b2 b3 b4 b5 b6 b7 b8 b9 b10 b11 b12 b13 b14 b15) a10 a11 a12 a13 a14 a15) a9) s
noncomputable def w146 (s : Env) (x : AV) : Env := S.rec (motive := fun _ => Env) (fun a0 a1 a2 a3 a4 a5 a6 a7 a8 a9 a10 a11 a12 a13 a14 a15 => S.rec (motive := fun _ => Env) (fun b0 b1 b2 b3 b4 b5 b6 b7 b8 b9 b10 b11 b12 b13 b14 b15 => S.mk a0 a1 a2 a3 a4 a5 a6 a7 a8 (S.mk b0 b1 x b3 b4 b5 b6 b7 b8 b9 b10 b11 b12 b13 b14 b15) a10 a11 a12 a13 a14 a15) a9) s
noncomputable def w147 (s : Env) (x : AV) : Env := S.rec (motive := fun _ => Env) (fun a0 a1 a2 a3 a4 a5 a6 a7 a8 a9 a10 a11 a12 a13 a14 a15 => S.rec (motive := fun _ => Env) (fun b0 b1 b2 b3 b4 b5 b6 b7 b8 b9 b10 b11 b12 b13 b14 b15 => S.mk a0 a1 a2 a3 a4 a5 a6 a7 a8 (S.mk b0 b1 b2 x b4 b5 b6 b7 b8 b9 b10 b11 b12 b13 b14 b15) a10 a11 a12 a13 a14 a15) a9) s
noncomputable def w148 (s : Env) (x : AV) : Env := S.rec (motive := fun _ => Env) (fun a0 a1 a2 a3 a4 a5 a6 a7 a8 a9 a10 a11 a12 a13 a14 a15 => S.rec (motive := fun _ => Env) (fun b0 b1 b2 b3 b4 b5 b6 b7 b8 b9 b10 b11 b12 b13 b14 b15 => S.mk a0 a1 a2 a3 a4 a5 a6 a7 a8 (S.mk b0 b1 b2 b3 x b5 b6 b7 b8 b9 b10 b11 b12 b13 b14 b15) a10 a11 a12 a13 a14 a15) a9) s
noncomputable def w149 (s : Env) (x : AV) : Env := S.rec (motive := fun _ => Env) (fun a0 a1 a2 a3 a4 a5 a6 a7 a8 a9 a10 a11 a12 a13 a14 a15 => S.rec (motive := fun _ => Env) (fun b0 b1 b2 b3 b4 b5 b6 b7 b8 b9 b10 b11 b12 b13 b14 b15 => S.mk a0 a1 a2 a3 a4 a5 a6 a7 a8 (S.mk b0 b1 b2 b3 b4 x b6 b7 b8 b9 b10 b11 b12 b13 b14 b15) a10 a11 a12 a13 a14 a15) a9) s
noncomputable def w150 (s : Env) (x : AV) : Env := S.rec (motive := fun _ => Env) (fun a0 a1 a2 a3 a4 a5 a6 a7 a8 a9 a10 a11 a12 a13 a14 a15 => S.rec (motive := fun _ => Env) (fun b0 b1 b2 b3 b4 b5 b6 b7 b8 b9 b10 b11 b12 b13 b14 b15 => S.mk a0 a1 a2 a3 a4 a5 a6 a7 a8 (S.mk b0 b1 b2 b3 b4 b5 x b7 b8 b9 b10 b11 b12 b13 b14 b15) a10 a11 a12 a13 a14 a15) a9) s
noncomputable def w151 (s : Env) (x : AV) : Env := S.rec (motive := fun _ => Env) (fun a0 a1 a2 a3 a4 a5 a6 a7 a8 a9 a10 a11 a12 a13 a14 a15 => S.rec (motive := fun _ => Env) (fun b0 b1 b2 b3 b4 b5 b6 b7 b8 b9 b10 b11 b12 b13 b14 b15 => S.mk a0 a1 a2 a3 a4 a5 a6 a7 a8 (S.mk b0 b1 b2 b3 b4 b5 b6 x b8 b9 b10 b11 b12 b13 b14 b15) a10 a11 a12 a13 a14 a15) a9) s
noncomputable def w152 (s : Env) (x : AV) : Env := S.rec (motive := fun _ => Env) (fun a0 a1 a2 a3 a4 a5 a6 a7 a8 a9 a10 a11 a12 a13 a14 a15 => S.rec (motive := fun _ => Env) (fun b0 b1 b2 b3 b4 b5 b6 b7 b8 b9 b10 b11 b12 b13 b14 b15 => S.mk a0 a1 a2 a3 a4 a5 a6 a7 a8 (S.mk b0 b1 b2 b3 b4 b5 b6 b7 x b9 b10 b11 b12 b13 b14 b15) a10 a11 a12 a13 a14 a15) a9) s
noncomputable def w153 (s : Env) (x : AV) : Env := S.rec (motive := fun _ => Env) (fun a0 a1 a2 a3 a4 a5 a6 a7 a8 a9 a10 a11 a12 a13 a14 a15 => S.rec (motive := fun _ => Env) (fun b0 b1 b2 b3 b4 b5 b6 b7 b8 b9 b10 b11 b12 b13 b14 b15 => S.mk a0 a1 a2 a3 a4 a5 a6 a7 a8 (S.mk b0 b1 b2 b3 b4 b5 b6 b7 b8 x b10 b11 b12 b13 b14 b15) a10 a11 a12 a13 a14 a15) a9) s
noncomputable def w154 (s : Env) (x : AV) : Env := S.rec (motive := fun _ => Env) (fun a0 a1 a2 a3 a4 a5 a6 a7 a8 a9 a10 a11 a12 a13 a14 a15 => S.rec (motive := fun _ => Env) (fun b0 b1 b2 b3 b4 b5 b6 b7 b8 b9 b10 b11 b12 b13 b14 b15 => S.mk a0 a1 a2 a3 a4 a5 a6 a7 a8 (S.mk b0 b1 b2 b3 b4 b5 b6 b7 b8 b9 x b11 b12 b13 b14 b15) a10 a11 a12 a13 a14 a15) a9) s
noncomputable def w155 (s : Env) (x : AV) : Env := S.rec (motive := fun _ => Env) (fun a0 a1 a2 a3 a4 a5 a6 a7 a8 a9 a10 a11 a12 a13 a14 a15 => S.rec (motive := fun _ => Env) (fun b0 b1 b2 b3 b4 b5 b6 b7 b8 b9 b10 b11 b12 b13 b14 b15 => S.mk a0 a1 a2 a3 a4 a5 a6 a7 a8 (S.mk b0 b1 b2 b3 b4 b5 b6 b7 b8 b9 b10 x b12 b13 b14 b15) a10 a11 a12 a13 a14 a15) a9) s
noncomputable def w156 (s : Env) (x : AV) : Env := S.rec (motive := fun _ => Env) (fun a0 a1 a2 a3 a4 a5 a6 a7 a8 a9 a10 a11 a12 a13 a14 a15 => S.rec (motive := fun _ => Env) (fun b0 b1 b2 b3 b4 b5 b6 b7 b8 b9 b10 b11 b12 b13 b14 b15 => S.mk a0 a1 a2 a3 a4 a5 a6 a7 a8 (S.mk b0 b1 b2 b3 b4 b5 b6 b7 b8 b9 b10 b11 x b13 b14 b15) a10 a11 a12 a13 a14 a15) a9) s
noncomputable def w157 (s : Env) (x : AV) : Env := S.rec (motive := fun _ => Env) (fun a0 a1 a2 a3 a4 a5 a6 a7 a8 a9 a10 a11 a12 a13 a14 a15 => S.rec (motive := fun _ => Env) (fun b0 b1 b2 b3 b4 b5 b6 b7 b8 b9 b10 b11 b12 b13 b14 b15 => S.mk a0 a1 a2 a3 a4 a5 a6 a7 a8 (S.mk b0 b1 b2 b3 b4 b5 b6 b7 b8 b9 b10 b11 b12 x b14 b15) a10 a11 a12 a13 a14 a15) a9) s
noncomputable def w158 (s : Env) (x : AV) : Env := S.rec (motive := fun _ => Env) (fun a0 a1 a2 a3 a4 a5 a6 a7 a8 a9 a10 a11 a12 a13 a14 a15 => S.rec (motive := fun _ => Env) (fun b0 b1 b2 b3 b4 b5 b6 b7 b8 b9 b10 b11 b12 b13 b14 b15 => S.mk a0 a1 a2 a3 a4 a5 a6 a7 a8 (S.mk b0 b1 b2 b3 b4 b5 b6 b7 b8 b9 b10 b11 b12 b13 x b15) a10 a11 a12 a13 a14 a15) a9) s
noncomputable def w159 (s : Env) (x : AV) : Env := S.rec (motive := fun _ => Env) (fun a0 a1 a2 a3 a4 a5 a6 a7 a8 a9 a10 a11 a12 a13 a14 a15 => S.rec (motive := fun _ => Env) (fun b0 b1 b2 b3 b4 b5 b6 b7 b8 b9 b10 b11 b12 b13 b14 b15 => S.mk a0 a1 a2 a3 a4 a5 a6 a7 a8 (S.mk b0 b1 b2 b3 b4 b5 b6 b7 b8 b9 b10 b11 b12 b13 b14 x) a10 a11 a12 a13 a14 a15) a9) s
noncomputable def w160 (s : Env) (x : AV) : Env := S.rec (motive := fun _ => Env) (fun a0 a1 a2 a3 a4 a5 a6 a7 a8 a9 a10 a11 a12 a13 a14 a15 => S.rec (motive := fun _ => Env) (fun b0 b1 b2 b3 b4 b5 b6 b7 b8 b9 b10 b11 b12 b13 b14 b15 => S.mk a0 a1 a2 a3 a4 a5 a6 a7 a8 a9 (S.mk x b1 b2 b3 b4 b5 b6 b7 b8 b9 b10 b11 b12 b13 b14 b15) a11 a12 a13 a14 a15) a10) s
noncomputable def w161 (s : Env) (x : AV) : Env := S.rec (motive := fun _ => Env) (fun a0 a1 a2 a3 a4 a5 a6 a7 a8 a9 a10 a11 a12 a13 a14 a15 => S.rec (motive := fun _ => Env) (fun b0 b1 b2 b3 b4 b5 b6 b7 b8 b9 b10 b11 b12 b13 b14 b15 => S.mk a0 a1 a2 a3 a4 a5 a6 a7 a8 a9 (S.mk b0 x b2 b3 b4 b5 b6 b7 b8 b9 b10 b11 b12 b13 b14 b15) a11 a12 a13 a14 a15) a10) s
noncomputable def w162 (s : Env) (x : AV) : Env := S.rec (motive := fun _ => Env) (fun a0 a1 a2 a3 a4 a5 a6 a7 a8 a9 a10 a11 a12 a13 a14 a15 => S.rec (motive := fun _ => Env) (fun b0 b1 b2 b3 b4 b5 b6 b7 b8 b9 b10 b11 b12 b13 b14 b15 => S.mk a0 a1 a2 a3 a4 a5 a6 a7 a8 a9 (S.mk b0 b1 x b3 b4 b5 b6 b7 b8 b9 b10 b11 b12 b13 b14 b15) a11 a12 a13 a14 a15) a10) s
noncomputable def w163 (s : Env) (x : AV) : Env := S.rec (motive := fun _ => Env) (fun a0 a1 a2 a3 a4 a5 a6 a7 a8 a9 a10 a11 a12 a13 a14 a15 => S.rec (motive := fun _ => Env) (fun b0 b1 b2 b3 b4 b5 b6 b7 b8 b9 b10 b11 b12 b13 b14 b15 => S.mk a0 a1 a2 a3 a4 a5 a6 a7 a8 a9 (S.mk b0 b1 b2 x b4 b5 b6 b7 b8 b9 b10 b11 b12 b13 b14 b15) a11 a12 a13 a14 a15) a10) s
noncomputable def w164 (s : Env) (x : AV) : Env := S.rec (motive := fun _ => Env) (fun a0 a1 a2 a3 a4 a5 a6 a7 a8 a9 a10 a11 a12 a13 a14 a15 => S.rec (motive := fun _ => Env) (fun b0 b1 b2 b3 b4 b5 b6 b7 b8 b9 b10 b11 b12 b13 b14 b15 => S.mk a0 a1 a2 a3 a4 a5 a6 a7 a8 a9 (S.mk b0 b1 b2 b3 x b5 b6 b7 b8 b9 b10 b11 b12 b13 b14 b15) a11 a12 a13 a14 a15) a10) s
noncomputable def w165 (s : Env) (x : AV) : Env := S.rec (motive := fun _ => Env) (fun a0 a1 a2 a3 a4 a5 a6 a7 a8 a9 a10 a11 a12 a13 a14 a15 => S.rec (motive := fun _ => Env) (fun b0 b1 b2 b3 b4 b5 b6 b7 b8 b9 b10 b11 b12 b13 b14 b15 => S.mk a0 a1 a2 a3 a4 a5 a6 a7 a8 a9 (S.mk b0 b1 b2 b3 b4 x b6 b7 b8 b9 b10 b11 b12 b13 b14 b15) a11 a12 a13 a14 a15) a10) s
noncomputable def w166 (s : Env) (x : AV) : Env := S.rec (motive := fun _ => Env) (fun a0 a1 a2 a3 a4 a5 a6 a7 a8 a9 a10 a11 a12 a13 a14 a15 => S.rec (motive := fun _ => Env) (fun b0 b1 b2 b3 b4 b5 b6 b7 b8 b9 b10 b11 b12 b13 b14 b15 => S.mk a0 a1 a2 a3 a4 a5 a6 a7 a8 a9 (S.mk b0 b1 b2 b3 b4 b5 x b7 b8 b9 b10 b11 b12 b13 b14 b15) a11 a12 a13 a14 a15) a10) s
noncomputable def w167 (s : Env) (x : AV) : Env := S.rec (motive := fun _ => Env) (fun a0 a1 a2 a3 a4 a5 a6 a7 a8 a9 a10 a11 a12 a13 a14 a15 => S.rec (motive := fun _ => Env) (fun b0 b1 b2 b3 b4 b5 b6 b7 b8 b9 b10 b11 b12 b13 b14 b15 => S.mk a0 a1 a2 a3 a4 a5 a6 a7 a8 a9 (S.mk b0 b1 b2 b3 b4 b5 b6 x b8 b9 b10 b11 b12 b13 b14 b15) a11 a12 a13 a14 a15) a10) s
noncomputable def w168 (s : Env) (x : AV) : Env := S.rec (motive := fun _ => Env) (fun a0 a1 a2 a3 a4 a5 a6 a7 a8 a9 a10 a11 a12 a13 a14 a15 => S.rec (motive := fun _ => Env) (fun b0 b1 b2 b3 b4 b5 b6 b7 b8 b9 b10 b11 b12 b13 b14 b15 => S.mk a0 a1 a2 a3 a4 a5 a6 a7 a8 a9 (S.mk b0 b1 b2 b3 b4 b5 b6 b7 x b9 b10 b11 b12 b13 b14 b15) a11 a12 a13 a14 a15) a10) s
noncomputable def w169 (s : Env) (x : AV) : Env := S.rec (motive := fun _ => Env) (fun a0 a1 a2 a3 a4 a5 a6 a7 a8 a9 a10 a11 a12 a13 a14 a15 => S.rec (motive := fun _ => Env) (fun b0 b1 b2 b3 b4 b5 b6 b7 b8 b9 b10 b11 b12 b13 b14 b15 => S.mk a0 a1 a2 a3 a4 a5 a6 a7 a8 a9 (S.mk b0 b1 b2 b3 b4 b5 b6 b7 b8 x b10 b11 b12 b13 b14 b15) a11 a12 a13 a14 a15) a10) s
noncomputable def w170 (s : Env) (x : AV) : Env := S.rec (motive := fun _ => Env) (fun a0 a1 a2 a3 a4 a5 a6 a7 a8 a9 a10 a11 a12 a13 a14 a15 => S.rec (motive := fun _ => Env) (fun b0 b1 b2 b3 b4 b5 b6 b7 b8 b9 b10 b11 b12 b13 b14 b15 => S.mk a0 a1 a2 a3 a4 a5 a6 a7 a8 a9 (S.mk b0 b1 b2 b3 b4 b5 b6 b7 b8 b9 x b11 b12 b13 b14 b15) a11 a12 a13 a14 a15) a10) s
noncomputable def w171 (s : Env) (x : AV) : Env := S.rec (motive := fun _ => Env) (fun a0 a1 a2 a3 a4 a5 a6 a7 a8 a9 a10 a11 a12 a13 a14 a15 => S.rec (motive := fun _ => Env) (fun b0 b1 b2 b3 b4 b5 b6 b7 b8 b9 b10 b11 b12 b13 b14 b15 => S.mk a0 a1 a2 a3 a4 a5 a6 a7 a8 a9 (S.mk b0 b1 b2 b3 b4 b5 b6 b7 b8 b9 b10 x b12 b13 b14 b15) a11 a12 a13 a14 a15) a10) s
noncomputable def w172 (s : Env) (x : AV) : Env := S.rec (motive := fun _ => Env) (fun a0 a1 a2 a3 a4 a5 a6 a7 a8 a9 a10 a11 a12 a13 a14 a15 => S.rec (motive := fun _ => Env) (fun b0 b1 b2 b3 b4 b5 b6 b7 b8 b9 b10 b11 b12 b13 b14 b15 => S.mk a0 a1 a2 a3 a4 a5 a6 a7 a8 a9 (S.mk b0 b1 b2 b3 b4 b5 b6 b7 b8 b9 b10 b11 x b13 b14 b15) a11 a12 a13 a14 a15) a10) s
noncomputable def w173 (s : Env) (x : AV) : Env := S.rec (motive := fun _ => Env) (fun a0 a1 a2 a3 a4 a5 a6 a7 a8 a9 a10 a11 a12 a13 a14 a15 => S.rec (motive := fun _ => Env) (fun b0 b1 b2 b3 b4 b5 b6 b7 b8 b9 b10 b11 b12 b13 b14 b15 => S.mk a0 a1 a2 a3 a4 a5 a6 a7 a8 a9 (S.mk b0 b1 b2 b3 b4 b5 b6 b7 b8 b9 b10 b11 b12 x b14 b15) a11 a12 a13 a14 a15) a10) s
noncomputable def w174 (s : Env) (x : AV) : Env := S.rec (motive := fun _ => Env) (fun a0 a1 a2 a3 a4 a5 a6 a7 a8 a9 a10 a11 a12 a13 a14 a15 => S.rec (motive := fun _ => Env) (fun b0 b1 b2 b3 b4 b5 b6 b7 b8 b9 b10 b11 b12 b13 b14 b15 => S.mk a0 a1 a2 a3 a4 a5 a6 a7 a8 a9 (S.mk b0 b1 b2 b3 b4 b5 b6 b7 b8 b9 b10 b11 b12 b13 x b15) a11 a12 a13 a14 a15) a10) s
noncomputable def w175 (s : Env) (x : AV) : Env := S.rec (motive := fun _ => Env) (fun a0 a1 a2 a3 a4 a5 a6 a7 a8 a9 a10 a11 a12 a13 a14 a15 => S.rec (motive := fun _ => Env) (fun b0 b1 b2 b3 b4 b5 b6 b7 b8 b9 b10 b11 b12 b13 b14 b15 => S.mk a0 a1 a2 a3 a4 a5 a6 a7 a8 a9 (S.mk b0 b1 b2 b3 b4 b5 b6 b7 b8 b9 b10 b11 b12 b13 b14 x) a11 a12 a13 a14 a15) a10) s
noncomputable def w176 (s : Env) (x : AV) : Env := S.rec (motive := fun _ => Env) (fun a0 a1 a2 a3 a4 a5 a6 a7 a8 a9 a10 a11 a12 a13 a14 a15 => S.rec (motive := fun _ => Env) (fun b0 b1 b2 b3 b4 b5 b6 b7 b8 b9 b10 b11 b12 b13 b14 b15 => S.mk a0 a1 a2 a3 a4 a5 a6 a7 a8 a9 a10 (S.mk x b1 b2 b3 b4 b5 b6 b7 b8 b9 b10 b11 b12 b13 b14 b15) a12 a13 a14 a15) a11) s
noncomputable def w177 (s : Env) (x : AV) : Env := S.rec (motive := fun _ => Env) (fun a0 a1 a2 a3 a4 a5 a6 a7 a8 a9 a10 a11 a12 a13 a14 a15 => S.rec (motive := fun _ => Env) (fun b0 b1 b2 b3 b4 b5 b6 b7 b8 b9 b10 b11 b12 b13 b14 b15 => S.mk a0 a1 a2 a3 a4 a5 a6 a7 a8 a9 a10 (S.mk b0 x b2 b3 b4 b5 b6 b7 b8 b9 b10 b11 b12 b13 b14 b15) a12 a13 a14 a15) a11) s
noncomputable def w178 (s : Env) (x : AV) : Env := S.rec (motive := fun _ => Env) (fun a0 a1 a2 a3 a4 a5 a6 a7 a8 a9 a10 a11 a12 a13 a14 a15 => S.rec (motive := fun _ => Env) (fun b0 b1 b2 b3 b4 b5 b6 b7 b8 b9 b10 b11 b12 b13 b14 b15 => S.mk a0 a1 a2 a3 a4 a5 a6 a7 a8 a9 a10 (S.mk b0 b1 x b3 b4 b5 b6 b7 b8 b9 b10 b11 b12 b13 b14 b15) a12 a13 a14 a15) a11) s
noncomputable def w179 (s : Env) (x : AV) : Env := S.rec (motive := fun _ => Env) (fun a0 a1 a2 a3 a4 a5 a6 a7 a8 a9 a10 a11 a12 a13 a14 a15 => S.rec (motive := fun _ => Env) (fun b0 b1 b2 b3 b4 b5 b6 b7 b8 b9 b10 b11 b12 b13 b14 b15 => S.mk a0 a1 a2 a3 a4 a5 a6 a7 a8 a9 a10 (S.mk b0 b1 b2 x b4 b5 b6 b7 b8 b9 b10 b11 b12 b13 b14 b15) a12 a13 a14 a15) a11) s
noncomputable def w180 (s : Env) (x : AV) : Env := S.rec (motive := fun _ => Env) (fun a0 a1 a2 a3 a4 a5 a6 a7 a8 a9 a10 a11 a12 a13 a14 a15 => S.rec (motive := fun _ => Env) (fun b0 b1 b2 b3 b4 b5 b6 b7 b8 b9 b10 b11 b12 b13 b14 b15 => S.mk a0 a1 a2 a3 a4 a5 a6 a7 a8 a9 a10 (S.mk b0 b1 b2 b3 x b5 b6 b7 b8 b9 b10 b11 b12 b13 b14 b15) a12 a13 a14 a15) a11) s
noncomputable def w181 (s : Env) (x : AV) : Env := S.rec (motive := fun _ => Env) (fun a0 a1 a2 a3 a4 a5 a6 a7 a8 a9 a10 a11 a12 a13 a14 a15 => S.rec (motive := fun _ => Env) (fun b0 b1 b2 b3 b4 b5 b6 b7 b8 b9 b10 b11 b12 b13 b14 b15 => S.mk a0 a1 a2 a3 a4 a5 a6 a7 a8 a9 a10 (S.mk b0 b1 b2 b3 b4 x b6 b7 b8 b9 b10 b11 b12 b13 b14 b15) a12 a13 a14 a15) a11) s
noncomputable def w182 (s : Env) (x : AV) : Env := S.rec (motive := fun _ => Env) (fun a0 a1 a2 a3 a4 a5 a6 a7 a8 a9 a10 a11 a12 a13 a14 a15 => S.rec (motive := fun _ => Env) (fun b0 b1 b2 b3 b4 b5 b6 b7 b8 b9 b10 b11 b12 b13 b14 b15 => S.mk a0 a1 a2 a3 a4 a5 a6 a7 a8 a9 a10 (S.mk b0 b1 b2 b3 b4 b5 x b7 b8 b9 b10 b11 b12 b13 b14 b15) a12 a13 a14 a15) a11) s
noncomputable def w183 (s : Env) (x : AV) : Env := S.rec (motive := fun _ => Env) (fun a0 a1 a2 a3 a4 a5 a6 a7 a8 a9 a10 a11 a12 a13 a14 a15 => S.rec (motive := fun _ => Env) (fun b0 b1 b2 b3 b4 b5 b6 b7 b8 b9 b10 b11 b12 b13 b14 b15 => S.mk a0 a1 a2 a3 a4 a5 a6 a7 a8 a9 a10 (S.mk b0 b1 b2 b3 b4 b5 b6 x b8 b9 b10 b11 b12 b13 b14 b15) a12 a13 a14 a15) a11) s
noncomputable def w184 (s : Env) (x : AV) : Env := S.rec (motive := fun _ => Env) (fun a0 a1 a2 a3 a4 a5 a6 a7 a8 a9 a10 a11 a12 a13 a14 a15 => S.rec (motive := fun _ => Env) (fun b0 b1 b2 b3 b4 b5 b6 b7 b8 b9 b10 b11 b12 b13 b14 b15 => S.mk a0 a1 a2 a3 a4 a5 a6 a7 a8 a9 a10 (S.mk b0 b1 b2 b3 b4 b5 b6 b7 x b9 b10 b11 b12 b13 b14 b15) a12 a13 a14 a15) a11) s
noncomputable def w185 (s : Env) (x : AV) : Env := S.rec (motive := fun _ => Env) (fun a0 a1 a2 a3 a4 a5 a6 a7 a8 a9 a10 a11 a12 a13 a14 a15 => S.rec (motive := fun _ => Env) (fun b0 b1 b2 b3 b4 b5 b6 b7 b8 b9 b10 b11 b12 b13 b14 b15 => S.mk a0 a1 a2 a3 a4 a5 a6 a7 a8 a9 a10 (S.mk b0 b1 b2 b3 b4 b5 b6 b7 b8 x b10 b11 b12 b13 b14 b15) a12 a13 a14 a15) a11) s
noncomputable def w186 (s : Env) (x : AV) : Env := S.rec (motive := fun _ => Env) (fun a0 a1 a2 a3 a4 a5 a6 a7 a8 a9 a10 a11 a12 a13 a14 a15 => S.rec (motive := fun _ => Env) (fun b0 b1 b2 b3 b4 b5 b6 b7 b8 b9 b10 b11 b12 b13 b14 b15 => S.mk a0 a1 a2 a3 a4 a5 a6 a7 a8 a9 a10 (S.mk b0 b1 b2 b3 b4 b5 b6 b7 b8 b9 x b11 b12 b13 b14 b15) a12 a13 a14 a15) a11) s
noncomputable def w187 (s : Env) (x : AV) : Env := S.rec (motive := fun _ => Env) (fun a0 a1 a2 a3 a4 a5 a6 a7 a8 a9 a10 a11 a12 a13 a14 a15 => S.rec (motive := fun _ => Env) (fun b0 b1 b2 b3 b4 b5 b6 b7 b8 b9 b10 b11 b12 b13 b14 b15 => S.mk a0 a1 a2 a3 a4 a5 a6 a7 a8 a9 a10 (S.mk b0 b1 b2 b3 b4 b5 b6 b7 b8 b9 b10 x b12 b13 b14 b15) a12 a13 a14 a15) a11) s
noncomputable def w188 (s : Env) (x : AV) : Env := S.rec (motive := fun _ => Env) (fun a0 a1 a2 a3 a4 a5 a6 a7 a8 a9 a10 a11 a12 a13 a14 a15 => S.rec (motive := fun _ => Env) (fun b0 b1 b2 b3 b4 b5 b6 b7 b8 b9 b10 b11 b12 b13 b14 b15 => S.mk a0 a1 a2 a3 a4 a5 a6 a7 a8 a9 a10 (S.mk b0 b1 b2 b3 b4 b5 b6 b7 b8 b9 b10 b11 x b13 b14 b15) a12 a13 a14 a15) a11) s
noncomputable def w189 (s : Env) (x : AV) : Env := S.rec (motive := fun _ => Env) (fun a0 a1 a2 a3 a4 a5 a6 a7 a8 a9 a10 a11 a12 a13 a14 a15 => S.rec (motive := fun _ => Env) (fun b0 b1 b2 b3 b4 b5 b6 b7 b8 b9 b10 b11 b12 b13 b14 b15 => S.mk a0 a1 a2 a3 a4 a5 a6 a7 a8 a9 a10 (S.mk b0 b1 b2 b3 b4 b5 b6 b7 b8 b9 b10 b11 b12 x b14 b15) a12 a13 a14 a15) a11) s
noncomputable def w190 (s : Env) (x : AV) : Env := S.rec (motive := fun _ => Env) (fun a0 a1 a2 a3 a4 a5 a6 a7 a8 a9 a10 a11 a12 a13 a14 a15 => S.rec (motive := fun _ => Env) (fun b0 b1 b2 b3 b4 b5 b6 b7 b8 b9 b10 b11 b12 b13 b14 b15 => S.mk a0 a1 a2 a3 a4 a5 a6 a7 a8 a9 a10 (S.mk b0 b1 b2 b3 b4 b5 b6 b7 b8 b9 b10 b11 b12 b13 x b15) a12 a13 a14 a15) a11) s
noncomputable def w191 (s : Env) (x : AV) : Env := S.rec (motive := fun _ => Env) (fun a0 a1 a2 a3 a4 a5 a6 a7 a8 a9 a10 a11 a12 a13 a14 a15 => S.rec (motive := fun _ => Env) (fun b0 b1 b2 b3 b4 b5 b6 b7 b8 b9 b10 b11 b12 b13 b14 b15 => S.mk a0 a1 a2 a3 a4 a5 a6 a7 a8 a9 a10 (S.mk b0 b1 b2 b3 b4 b5 b6 b7 b8 b9 b10 b11 b12 b13 b14 x) a12 a13 a14 a15) a11) s
noncomputable def w192 (s : Env) (x : AV) : Env := S.rec (motive := fun _ => Env) (fun a0 a1 a2 a3 a4 a5 a6 a7 a8 a9 a10 a11 a12 a13 a14 a15 => S.rec (motive := fun _ => Env) (fun b0 b1 b2 b3 b4 b5 b6 b7 b8 b9 b10 b11 b12 b13 b14 b15 => S.mk a0 a1 a2 a3 a4 a5 a6 a7 a8 a9 a10 a11 (S.mk x b1 b2 b3 b4 b5 b6 b7 b8 b9 b10 b11 b12 b13 b14 b15) a13 a14 a15) a12) s
noncomputable def w193 (s : Env) (x : AV) : Env := S.rec (motive := fun _ => Env) (fun a0 a1 a2 a3 a4 a5 a6 a7 a8 a9 a10 a11 a12 a13 a14 a15 => S.rec (motive := fun _ => Env) (fun b0 b1 b2 b3 b4 b5 b6 b7 b8 b9 b10 b11 b12 b13 b14 b15 => S.mk a0 a1 a2 a3 a4 a5 a6 a7 a8 a9 a10 a11 (S.mk b0 x b2 b3 b4 b5 b6 b7 b8 b9 b10 b11 b12 b13 b14 b15) a13 a14 a15) a12) s
noncomputable def w194 (s : Env) (x : AV) : Env := S.rec (motive := fun _ => Env) (fun a0 a1 a2 a3 a4 a5 a6 a7 a8 a9 a10 a11 a12 a13 a14 a15 => S.rec (motive := fun _ => Env) (fun b0 b1 b2 b3 b4 b5 b6 b7 b8 b9 b10 b11 b12 b13 b14 b15 => S.mk a0 a1 a2 a3 a4 a5 a6 a7 a8 a9 a10 a11 (S.mk b0 b1 x b3 b4 b5 b6 b7 b8 b9 b10 b11 b12 b13 b14 b15) a13 a14 a15) a12) s
noncomputable def w195 (s : Env) (x : AV) : Env := S.rec (motive := fun _ => Env) (fun a0 a1 a2 a3 a4 a5 a6 a7 a8 a9 a10 a11 a12 a13 a14 a15 => S.rec (motive := fun _ => Env) (fun b0 b1 b2 b3 b4 b5 b6 b7 b8 b9 b10 b11 b12 b13 b14 b15 => S.mk a0 a1 a2 a3 a4 a5 a6 a7 a8 a9 a10 a11 (S.mk b0 b1 b2 x b4 b5 b6 b7 b8 b9 b10 b11 b12 b13 b14 b15) a13 a14 a15) a12) s
noncomputable def w196 (s : Env) (x : AV) : Env := S.rec (motive := fun _ => Env) (fun a0 a1 a2 a3 a4 a5 a6 a7 a8 a9 a10 a11 a12 a13 a14 a15 => S.rec (motive := fun _ => Env) (fun b0 b1 b2 b3 b4 b5 b6 b7 b8 b9 b10 b11 b12 b13 b14 b15 => S.mk a0 a1 a2 a3 a4 a5 a6 a7 a8 a9 a10 a11 (S.mk b0 b1 b2 b3 x b5 b6 b7 b8 b9 b10 b11 b12 b13 b14 b15) a13 a14 a15) a12) s
noncomputable def w197 (s : Env) (x : AV) : Env := S.rec (motive := fun _ => Env) (fun a0 a1 a2 a3 a4 a5 a6 a7 a8 a9 a10 a11 a12 a13 a14 a15 => S.rec (motive := fun _ => Env) (fun b0 b1 b2 b3 b4 b5 b6 b7 b8 b9 b10 b11 b12 b13 b14 b15 => S.mk a0 a1 a2 a3 a4 a5 a6 a7 a8 a9 a10 a11 (S.mk b0 b1 b2 b3 b4 x b6 b7 b8 b9 b10 b11 b12 b13 b14 b15) a13 a14 a15) a12) s
noncomputable def w198 (s : Env) (x : AV) : Env := S.rec (motive := fun _ => Env) (fun a0 a1 a2 a3 a4 a5 a6 a7 a8 a9 a10 a11 a12 a13 a14 a15 => S.rec (motive := fun _ => Env) (fun b0 b1 b2 b3 b4 b5 b6 b7 b8 b9 b10 b11 b12 b13 b14 b15 => S.mk a0 a1 a2 a3 a4 a5 a6 a7 a8 a9 a10 a11 (S.mk b0 b1 b2 b3 b4 b5 x b7 b8 b9 b10 b11 b12 b13 b14 b15) a13 a14 a15) a12) s
noncomputable def w199 (s : Env) (x : AV) : Env := S.rec (motive := fun _ => Env) (fun a0 a1 a2 a3 a4 a5 a6 a7 a8 a9 a10 a11 a12 a13 a14 a15 => S.rec (motive := fun _ => Env) (fun b0 b1 b2 b3 b4 b5 b6 b7 b8 b9 b10 b11 b12 b13 b14 b15 => S.mk a0 a1 a2 a3 a4 a5 a6 a7 a8 a9 a10 a11 (S.mk b0 b1 b2 b3 b4 b5 b6 x b8 b9 b10 b11 b12 b13 b14 b15) a13 a14 a15) a12) s
noncomputable def w200 (s : Env) (x : AV) : Env := S.rec (motive := fun _ => Env) (fun a0 a1 a2 a3 a4 a5 a6 a7 a8 a9 a10 a11 a12 a13 a14 a15 => S.rec (motive := fun _ => Env) (fun b0 b1 b2 b3 b4 b5 b6 b7 b8 b9 b10 b11 b12 b13 b14 b15 => S.mk a0 a1 a2 a3 a4 a5 a6 a7 a8 a9 a10 a11 (S.mk b0 b1 b2 b3 b4 b5 b6 b7 x b9 b10 b11 b12 b13 b14 b15) a13 a14 a15) a12) s
noncomputable def w201 (s : Env) (x : AV) : Env := S.rec (motive := fun _ => Env) (fun a0 a1 a2 a3 a4 a5 a6 a7 a8 a9 a10 a11 a12 a13 a14 a15 => S.rec (motive := fun _ => Env) (fun b0 b1 b2 b3 b4 b5 b6 b7 b8 b9 b10 b11 b12 b13 b14 b15 => S.mk a0 a1 a2 a3 a4 a5 a6 a7 a8 a9 a10 a11 (S.mk b0 b1 b2 b3 b4 b5 b6 b7 b8 x b10 b11 b12 b13 b14 b15) a13 a14 a15) a12) s
noncomputable def w202 (s : Env) (x : AV) : Env := S.rec (motive := fun _ => Env) (fun a0 a1 a2 a3 a4 a5 a6 a7 a8 a9 a10 a11 a12 a13 a14 a15 => S.rec (motive := fun _ => Env) (fun b0 b1 b2 b3 b4 b5 b6 b7 b8 b9 b10 b11 b12 b13 b14 b15 => S.mk a0 a1 a2 a3 a4 a5 a6 a7 a8 a9 a10 a11 (S.mk b0 b1 b2 b3 b4 b5 b6 b7 b8 b9 x b11 b12 b13 b14 b15) a13 a14 a15) a12) s
noncomputable def w203 (s : Env) (x : AV) : Env := S.rec (motive := fun _ => Env) (fun a0 a1 a2 a3 a4 a5 a6 a7 a8 a9 a10 a11 a12 a13 a14 a15 => S.rec (motive := fun _ => Env) (fun b0 b1 b2 b3 b4 b5 b6 b7 b8 b9 b10 b11 b12 b13 b14 b15 => S.mk a0 a1 a2 a3 a4 a5 a6 a7 a8 a9 a10 a11 (S.mk b0 b1 b2 b3 b4 b5 b6 b7 b8 b9 b10 x b12 b13 b14 b15) a13 a14 a15) a12) s
noncomputable def w204 (s : Env) (x : AV) : Env := S.rec (motive := fun _ => Env) (fun a0 a1 a2 a3 a4 a5 a6 a7 a8 a9 a10 a11 a12 a13 a14 a15 => S.rec (motive := fun _ => Env) (fun b0 b1 b2 b3 b4 b5 b6 b7 b8 b9 b10 b11 b12 b13 b14 b15 => S.mk a0 a1 a2 a3 a4 a5 a6 a7 a8 a9 a10 a11 (S.mk b0 b1 b2 b3 b4 b5 b6 b7 b8 b9 b10 b11 x b13 b14 b15) a13 a14 a15) a12) s
noncomputable def w205 (s : Env) (x : AV) : Env := S.rec (motive := fun _ => Env) (fun a0 a1 a2 a3 a4 a5 a6 a7 a8 a9 a10 a11 a12 a13 a14 a15 => S.rec (motive := fun _ => Env) (fun b0 b1 b2 b3 b4 b5 b6 b7 b8 b9 b10 b11 b12 b13 b14 b15 => S.mk a0 a1 a2 a3 a4 a5 a6 a7 a8 a9 a10 a11 (S.mk b0 b1 b2 b3 b4 b5 b6 b7 b8 b9 b10 b11 b12 x b14 b15) a13 a14 a15) a12) s
noncomputable def w206 (s : Env) (x : AV) : Env := S.rec (motive := fun _ => Env) (fun a0 a1 a2 a3 a4 a5 a6 a7 a8 a9 a10 a11 a12 a13 a14 a15 => S.rec (motive := fun _ => Env) (fun b0 b1 b2 b3 b4 b5 b6 b7 b8 b9 b10 b11 b12 b13 b14 b15 => S.mk a0 a1 a2 a3 a4 a5 a6 a7 a8 a9 a10 a11 (S.mk b0 b1 b2 b3 b4 b5 b6 b7 b8 b9 b10 b11 b12 b13 x b15) a13 a14 a15) a12) s
noncomputable def w207 (s : Env) (x : AV) : Env := S.rec (motive := fun _ => Env) (fun a0 a1 a2 a3 a4 a5 a6 a7 a8 a9 a10 a11 a12 a13 a14 a15 => S.rec (motive := fun _ => Env) (fun b0 b1 b2 b3 b4 b5 b6 b7 b8 b9 b10 b11 b12 b13 b14 b15 => S.mk a0 a1 a2 a3 a4 a5 a6 a7 a8 a9 a10 a11 (S.mk b0 b1 b2 b3 b4 b5 b6 b7 b8 b9 b10 b11 b12 b13 b14 x) a13 a14 a15) a12) s
noncomputable def w208 (s : Env) (x : AV) : Env := S.rec (motive := fun _ => Env) (fun a0 a1 a2 a3 a4 a5 a6 a7 a8 a9 a10 a11 a12 a13 a14 a15 => S.rec (motive := fun _ => Env) (fun b0 b1 b2 b3 b4 b5 b6 b7 b8 b9 b10 b11 b12 b13 b14 b15 => S.mk a0 a1 a2 a3 a4 a5 a6 a7 a8 a9 a10 a11 a12 (S.mk x b1 b2 b3 b4 b5 b6 b7 b8 b9 b10 b11 b12 b13 b14 b15) a14 a15) a13) s
noncomputable def w209 (s : Env) (x : AV) : Env := S.rec (motive := fun _ => Env) (fun a0 a1 a2 a3 a4 a5 a6 a7 a8 a9 a10 a11 a12 a13 a14 a15 => S.rec (motive := fun _ => Env) (fun b0 b1 b2 b3 b4 b5 b6 b7 b8 b9 b10 b11 b12 b13 b14 b15 => S.mk a0 a1 a2 a3 a4 a5 a6 a7 a8 a9 a10 a11 a12 (S.mk b0 x b2 b3 b4 b5 b6 b7 b8 b9 b10 b11 b12 b13 b14 b15) a14 a15) a13) s
noncomputable def w210 (s : Env) (x : AV) : Env := S.rec (motive := fun _ => Env) (fun a0 a1 a2 a3 a4 a5 a6 a7 a8 a9 a10 a11 a12 a13 a14 a15 => S.rec (motive := fun _ => Env) (fun b0 b1 b2 b3 b4 b5 b6 b7 b8 b9 b10 b11 b12 b13 b14 b15 => S.mk a0 a1 a2 a3 a4 a5 a6 a7 a8 a9 a10 a11 a12 (S.mk b0 b1 x b3 b4 b5 b6 b7 b8 b9 b10 b11 b12 b13 b14 b15) a14 a15) a13) s
noncomputable def w211 (s : Env) (x : AV) : Env := S.rec (motive := fun _ => Env) (fun a0 a1 a2 a3 a4 a5 a6 a7 a8 a9 a10 a11 a12 a13 a14 a15 => S.rec (motive := fun _ => Env) (fun b0 b1 b2 b3 b4 b5 b6 b7 b8 b9 b10 b11 b12 b13 b14 b15 => S.mk a0 a1 a2 a3 a4 a5 a6 a7 a8 a9 a10 a11 a12 (S.mk b0 b1 b2 x b4 b5 b6 b7 b8 b9 b10 b11 b12 b13 b14 b15) a14 a15) a13) s
noncomputable def w212 (s : Env) (x : AV) : Env := S.rec (motive := fun _ => Env) (fun a0 a1 a2 a3 a4 a5 a6 a7 a8 a9 a10 a11 a12 a13 a14 a15 => S.rec (motive := fun _ => Env) (fun b0 b1 b2 b3 b4 b5 b6 b7 b8 b9 b10 b11 b12 b13 b14 b15 => S.mk a0 a1 a2 a3 a4 a5 a6 a7 a8 a9 a10 a11 a12 (S.mk b0 b1 b2 b3 x b5 b6 b7 b8 b9 b10 b11 b12 b13 b14 b15) a14 a15) a13) s
noncomputable def w213 (s : Env) (x : AV) : Env := S.rec (motive := fun _ => Env) (fun a0 a1 a2 a3 a4 a5 a6 a7 a8 a9 a10 a11 a12 a13 a14 a15 => S.rec (motive := fun _ => Env) (fun b0 b1 b2 b3 b4 b5 b6 b7 b8 b9 b10 b11 b12 b13 b14 b15 => S.mk a0 a1 a2 a3 a4 a5 a6 a7 a8 a9 a10 a11 a12 (S.mk b0 b1 b2 b3 b4 x b6 b7 b8 b9 b10 b11 b12 b13 b14 b15) a14 a15) a13) s
noncomputable def w214 (s : Env) (x : AV) : Env := S.rec (motive := fun _ => Env) (fun a0 a1 a2 a3 a4 a5 a6 a7 a8 a9 a10 a11 a12 a13 a14 a15 => S.rec (motive := fun _ => Env) (fun b0 b1 b2 b3 b4 b5 b6 b7 b8 b9 b10 b11 b12 b13 b14 b15 => S.mk a0 a1 a2 a3 a4 a5 a6 a7 a8 a9 a10 a11 a12 (S.mk b0 b1 b2 b3 b4 b5 x b7 b8 b9 b10 b11 b12 b13 b14 b15) a14 a15) a13) s
noncomputable def w215 (s : Env) (x : AV) : Env := S.rec (motive := fun _ => Env) (fun a0 a1 a2 a3 a4 a5 a6 a7 a8 a9 a10 a11 a12 a13 a14 a15 => S.rec (motive := fun _ => Env) (fun b0 b1 b2 b3 b4 b5 b6 b7 b8 b9 b10 b11 b12 b13 b14 b15 => S.mk a0 a1 a2 a3 a4 a5 a6 a7 a8 a9 a10 a11 a12 (S.mk b0 b1 b2 b3 b4 b5 b6 x b8 b9 b10 b11 b12 b13 b14 b15) a14 a15) a13) s
noncomputable def w216 (s : Env) (x : AV) : Env := S.rec (motive := fun _ => Env) (fun a0 a1 a2 a3 a4 a5 a6 a7 a8 a9 a10 a11 a12 a13 a14 a15 => S.rec (motive := fun _ => Env) (fun b0 b1 b2 b3 b4 b5 b6 b7 b8 b9 b10 b11 b12 b13 b14 b15 => S.mk a0 a1 a2 a3 a4 a5 a6 a7 a8 a9 a10 a11 a12 (S.mk b0 b1 b2 b3 b4 b5 b6 b7 x b9 b10 b11 b12 b13 b14 b15) a14 a15) a13) s
noncomputable def w217 (s : Env) (x : AV) : Env := S.rec (motive := fun _ => Env) (fun a0 a1 a2 a3 a4 a5 a6 a7 a8 a9 a10 a11 a12 a13 a14 a15 => S.rec (motive := fun _ => Env) (fun b0 b1 b2 b3 b4 b5 b6 b7 b8 b9 b10 b11 b12 b13 b14 b15 => S.mk a0 a1 a2 a3 a4 a5 a6 a7 a8 a9 a10 a11 a12 (S.mk b0 b1 b2 b3 b4 b5 b6 b7 b8 x b10 b11 b12 b13 b14 b15) a14 a15) a13) s
noncomputable def w218 (s : Env) (x : AV) : Env := S.rec (motive := fun _ => Env) (fun a0 a1 a2 a3 a4 a5 a6 a7 a8 a9 a10 a11 a12 a13 a14 a15 => S.rec (motive := fun _ => Env) (fun b0 b1 b2 b3 b4 b5 b6 b7 b8 b9 b10 b11 b12 b13 b14 b15 => S.mk a0 a1 a2 a3 a4 a5 a6 a7 a8 a9 a10 a11 a12 (S.mk b0 b1 b2 b3 b4 b5 b6 b7 b8 b9 x b11 b12 b13 b14 b15) a14 a15) a13) s
noncomputable def w219 (s : Env) (x : AV) : Env := S.rec (motive := fun _ => Env) (fun a0 a1 a2 a3 a4 a5 a6 a7 a8 a9 a10 a11 a12 a13 a14 a15 => S.rec (motive := fun _ => Env) (fun b0 b1 b2 b3 b4 b5 b6 b7 b8 b9 b10 b11 b12 b13 b14 b15 => S.mk a0 a1 a2 a3 a4 a5 a6 a7 a8 a9 a10 a11 a12 (S.mk b0 b1 b2 b3 b4 b5 b6 b7 b8 b9 b10 x b12 b13 b14 b15) a14 a15) a13) s
noncomputable def w220 (s : Env) (x : AV) : Env := S.rec (motive := fun _ => Env) (fun a0 a1 a2 a3 a4 a5 a6 a7 a8 a9 a10 a11 a12 a13 a14 a15 => S.rec (motive := fun _ => Env) (fun b0 b1 b2 b3 b4 b5 b6 b7 b8 b9 b10 b11 b12 b13 b14 b15 => S.mk a0 a1 a2 a3 a4 a5 a6 a7 a8 a9 a10 a11 a12 (S.mk b0 b1 b2 b3 b4 b5 b6 b7 b8 b9 b10 b11 x b13 b14 b15) a14 a15) a13) s
noncomputable def w221 (s : Env) (x : AV) : Env := S.rec (motive := fun _ => Env) (fun a0 a1 a2 a3 a4 a5 a6 a7 a8 a9 a10 a11 a12 a13 a14 a15 => S.rec (motive := fun _ => Env) (fun b0 b1 b2 b3 b4 b5 b6 b7 b8 b9 b10 b11 b12 b13 b14 b15 => S.mk a0 a1 a2 a3 a4 a5 a6 a7 a8 a9 a10 a11 a12 (S.mk b0 b1 b2 b3 b4 b5 b6 b7 b8 b9 b10 b11 b12 x b14 b15) a14 a15) a13) s
noncomputable def w222 (s : Env) (x : AV) : Env := S.rec (motive := fun _ => Env) (fun a0 a1 a2 a3 a4 a5 a6 a7 a8 a9 a10 a11 a12 a13 a14 a15 => S.rec (motive := fun _ => Env) (fun b0 b1 b2 b3 b4 b5 b6 b7 b8 b9 b10 b11 b12 b13 b14 b15 => S.mk a0 a1 a2 a3 a4 a5 a6 a7 a8 a9 a10 a11 a12 (S.mk b0 b1 b2 b3 b4 b5 b6 b7 b8 b9 b10 b11 b12 b13 x b15) a14 a15) a13) s
noncomputable def w223 (s : Env) (x : AV) : Env := S.rec (motive := fun _ => Env) (fun a0 a1 a2 a3 a4 a5 a6 a7 a8 a9 a10 a11 a12 a13 a14 a15 => S.rec (motive := fun _ => Env) (fun b0 b1 b2 b3 b4 b5 b6 b7 b8 b9 b10 b11 b12 b13 b14 b15 => S.mk a0 a1 a2 a3 a4 a5 a6 a7 a8 a9 a10 a11 a12 (S.mk b0 b1 b2 b3 b4 b5 b6 b7 b8 b9 b10 b11 b12 b13 b14 x) a14 a15) a13) s
noncomputable def w224 (s : Env) (x : AV) : Env := S.rec (motive := fun _ => Env) (fun a0 a1 a2 a3 a4 a5 a6 a7 a8 a9 a10 a11 a12 a13 a14 a15 => S.rec (motive := fun _ => Env) (fun b0 b1 b2 b3 b4 b5 b6 b7 b8 b9 b10 b11 b12 b13 b14 b15 => S.mk a0 a1 a2 a3 a4 a5 a6 a7 a8 a9 a10 a11 a12 a13 (S.mk x b1 b2 b3 b4 b5 b6 b7 b8 b9 b10 b11 b12 b13 b14 b15) a15) a14) s
noncomputable def w225 (s : Env) (x : AV) : Env := S.rec (motive := fun _ => Env) (fun a0 a1 a2 a3 a4 a5 a6 a7 a8 a9 a10 a11 a12 a13 a14 a15 => S.rec (motive := fun _ => Env) (fun b0 b1 b2 b3 b4 b5 b6 b7 b8 b9 b10 b11 b12 b13 b14 b15 => S.mk a0 a1 a2 a3 a4 a5 a6 a7 a8 a9 a10 a11 a12 a13 (S.mk b0 x b2 b3 b4 b5 b6 b7 b8 b9 b10 b11 b12 b13 b14 b15) a15) a14) s
noncomputable def w226 (s : Env) (x : AV) : Env := S.rec (motive := fun _ => Env) (fun a0 a1 a2 a3 a4 a5 a6 a7 a8 a9 a10 a11 a12 a13 a14 a15 => S.rec (motive := fun _ => Env) (fun b0 b1 b2 b3 b4 b5 b6 b7 b8 b9 b10 b11 b12 b13 b14 b15 => S.mk a0 a1 a2 a3 a4 a5 a6 a7 a8 a9 a10 a11 a12 a13 (S.mk b0 b1 x b3 b4 b5 b6 b7 b8 b9 b10 b11 b12 b13 b14 b15) a15) a14) s
noncomputable def w227 (s : Env) (x : AV) : Env := S.rec (motive := fun _ => Env) (fun a0 a1 a2 a3 a4 a5 a6 a7 a8 a9 a10 a11 a12 a13 a14 a15 => S.rec (motive := fun _ => Env) (fun b0 b1 b2 b3 b4 b5 b6 b7 b8 b9 b10 b11 b12 b13 b14 b15 => S.mk a0 a1 a2 a3 a4 a5 a6 a7 a8 a9 a10 a11 a12 a13 (S.mk b0 b1 b2 x b4 b5 b6 b7 b8 b9 b10 b11 b12 b13 b14 b15) a15) a14) s
noncomputable def w228 (s : Env) (x : AV) : Env := S.rec (motive := fun _ => Env) (fun a0 a1 a2 a3 a4 a5 a6 a7 a8 a9 a10 a11 a12 a13 a14 a15 => S.rec (motive := fun _ => Env) (fun b0 b1 b2 b3 b4 b5 b6 b7 b8 b9 b10 b11 b12 b13 b14 b15 => S.mk a0 a1 a2 a3 a4 a5 a6 a7 a8 a9 a10 a11 a12 a13 (S.mk b0 b1 b2 b3 x b5 b6 b7 b8 b9 b10 b11 b12 b13 b14 b15) a15) a14) s
noncomputable def w229 (s : Env) (x : AV) : Env := S.rec (motive := fun _ => Env) (fun a0 a1 a2 a3 a4 a5 a6 a7 a8 a9 a10 a11 a12 a13 a14 a15 => S.rec (motive := fun _ => Env) (fun b0 b1 b2 b3 b4 b5 b6 b7 b8 b9 b10 b11 b12 b13 b14 b15 => S.mk a0 a1 a2 a3 a4 a5 a6 a7 a8 a9 a10 a11 a12 a13 (S.mk b0 b1 b2 b3 b4 x b6 b7 b8 b9 b10 b11 b12 b13 b14 b15) a15) a14) s
noncomputable def w230 (s : Env) (x : AV) : Env := S.rec (motive := fun _ => Env) (fun a0 a1 a2 a3 a4 a5 a6 a7 a8 a9 a10 a11 a12 a13 a14 a15 => S.rec (motive := fun _ => Env) (fun b0 b1 b2 b3 b4 b5 b6 b7 b8 b9 b10 b11 b12 b13 b14 b15 => S.mk a0 a1 a2 a3 a4 a5 a6 a7 a8 a9 a10 a11 a12 a13 (S.mk b0 b1 b2 b3 b4 b5 x b7 b8 b9 b10 b11 b12 b13 b14 b15) a15) a14) s
noncomputable def w231 (s : Env) (x : AV) : Env := S.rec (motive := fun _ => Env) (fun a0 a1 a2 a3 a4 a5 a6 a7 a8 a9 a10 a11 a12 a13 a14 a15 => S.rec (motive := fun _ => Env) (fun b0 b1 b2 b3 b4 b5 b6 b7 b8 b9 b10 b11 b12 b13 b14 b15 => S.mk a0 a1 a2 a3 a4 a5 a6 a7 a8 a9 a10 a11 a12 a13 (S.mk b0 b1 b2 b3 b4 b5 b6 x b8 b9 b10 b11 b12 b13 b14 b15) a15) a14) s
noncomputable def w232 (s : Env) (x : AV) : Env := S.rec (motive := fun _ => Env) (fun a0 a1 a2 a3 a4 a5 a6 a7 a8 a9 a10 a11 a12 a13 a14 a15 => S.rec (motive := fun _ => Env) (fun b0 b1 b2 b3 b4 b5 b6 b7 b8 b9 b10 b11 b12 b13 b14 b15 => S.mk a0 a1 a2 a3 a4 a5 a6 a7 a8 a9 a10 a11 a12 a13 (S.mk b0 b1 b2 b3 b4 b5 b6 b7 x b9 b10 b11 b12 b13 b14 b15) a15) a14) s
noncomputable def w233 (s : Env) (x : AV) : Env := S.rec (motive := fun _ => Env) (fun a0 a1 a2 a3 a4 a5 a6 a7 a8 a9 a10 a11 a12 a13 a14 a15 => S.rec (motive := fun _ => Env) (fun b0 b1 b2 b3 b4 b5 b6 b7 b8 b9 b10 b11 b12 b13 b14 b15 => S.mk a0 a1 a2 a3 a4 a5 a6 a7 a8 a9 a10 a11 a12 a13 (S.mk b0 b1 b2 b3 b4 b5 b6 b7 b8 x b10 b11 b12 b13 b14 b15) a15) a14) s
noncomputable def w234 (s : Env) (x : AV) : Env := S.rec (motive := fun _ => Env) (fun a0 a1 a2 a3 a4 a5 a6 a7 a8 a9 a10 a11 a12 a13 a14 a15 => S.rec (motive := fun _ => Env) (fun b0 b1 b2 b3 b4 b5 b6 b7 b8 b9 b10 b11 b12 b13 b14 b15 => S.mk a0 a1 a2 a3 a4 a5 a6 a7 a8 a9 a10 a11 a12 a13 (S.mk b0 b1 b2 b3 b4 b5 b6 b7 b8 b9 x b11 b12 b13 b14 b15) a15) a14) s
noncomputable def w235 (s : Env) (x : AV) : Env := S.rec (motive := fun _ => Env) (fun a0 a1 a2 a3 a4 a5 a6 a7 a8 a9 a10 a11 a12 a13 a14 a15 => S.rec (motive := fun _ => Env) (fun b0 b1 b2 b3 b4 b5 b6 b7 b8 b9 b10 b11 b12 b13 b14 b15 => S.mk a0 a1 a2 a3 a4 a5 a6 a7 a8 a9 a10 a11 a12 a13 (S.mk b0 b1 b2 b3 b4 b5 b6 b7 b8 b9 b10 x b12 b13 b14 b15) a15) a14) s
noncomputable def w236 (s : Env) (x : AV) : Env := S.rec (motive := fun _ => Env) (fun a0 a1 a2 a3 a4 a5 a6 a7 a8 a9 a10 a11 a12 a13 a14 a15 => S.rec (motive := fun _ => Env) (fun b0 b1 b2 b3 b4 b5 b6 b7 b8 b9 b10 b11 b12 b13 b14 b15 => S.mk a0 a1 a2 a3 a4 a5 a6 a7 a8 a9 a10 a11 a12 a13 (S.mk b0 b1 b2 b3 b4 b5 b6 b7 b8 b9 b10 b11 x b13 b14 b15) a15) a14) s
noncomputable def w237 (s : Env) (x : AV) : Env := S.rec (motive := fun _ => Env) (fun a0 a1 a2 a3 a4 a5 a6 a7 a8 a9 a10 a11 a12 a13 a14 a15 => S.rec (motive := fun _ => Env) (fun b0 b1 b2 b3 b4 b5 b6 b7 b8 b9 b10 b11 b12 b13 b14 b15 => S.mk a0 a1 a2 a3 a4 a5 a6 a7 a8 a9 a10 a11 a12 a13 (S.mk b0 b1 b2 b3 b4 b5 b6 b7 b8 b9 b10 b11 b12 x b14 b15) a15) a14) s
noncomputable def w238 (s : Env) (x : AV) : Env := S.rec (motive := fun _ => Env) (fun a0 a1 a2 a3 a4 a5 a6 a7 a8 a9 a10 a11 a12 a13 a14 a15 => S.rec (motive := fun _ => Env) (fun b0 b1 b2 b3 b4 b5 b6 b7 b8 b9 b10 b11 b12 b13 b14 b15 => S.mk a0 a1 a2 a3 a4 a5 a6 a7 a8 a9 a10 a11 a12 a13 (S.mk b0 b1 b2 b3 b4 b5 b6 b7 b8 b9 b10 b11 b12 b13 x b15) a15) a14) s
noncomputable def w239 (s : Env) (x : AV) : Env := S.rec (motive := fun _ => Env) (fun a0 a1 a2 a3 a4 a5 a6 a7 a8 a9 a10 a11 a12 a13 a14 a15 => S.rec (motive := fun _ => Env) (fun b0 b1 b2 b3 b4 b5 b6 b7 b8 b9 b10 b11 b12 b13 b14 b15 => S.mk a0 a1 a2 a3 a4 a5 a6 a7 a8 a9 a10 a11 a12 a13 (S.mk b0 b1 b2 b3 b4 b5 b6 b7 b8 b9 b10 b11 b12 b13 b14 x) a15) a14) s
noncomputable def w240 (s : Env) (x : AV) : Env := S.rec (motive := fun _ => Env) (fun a0 a1 a2 a3 a4 a5 a6 a7 a8 a9 a10 a11 a12 a13 a14 a15 => S.rec (motive := fun _ => Env) (fun b0 b1 b2 b3 b4 b5 b6 b7 b8 b9 b10 b11 b12 b13 b14 b15 => S.mk a0 a1 a2 a3 a4 a5 a6 a7 a8 a9 a10 a11 a12 a13 a14 (S.mk x b1 b2 b3 b4 b5 b6 b7 b8 b9 b10 b11 b12 b13 b14 b15)) a15) s
noncomputable def w241 (s : Env) (x : AV) : Env := S.rec (motive := fun _ => Env) (fun a0 a1 a2 a3 a4 a5 a6 a7 a8 a9 a10 a11 a12 a13 a14 a15 => S.rec (motive := fun _ => Env) (fun b0 b1 b2 b3 b4 b5 b6 b7 b8 b9 b10 b11 b12 b13 b14 b15 => S.mk a0 a1 a2 a3 a4 a5 a6 a7 a8 a9 a10 a11 a12 a13 a14 (S.mk b0 x b2 b3 b4 b5 b6 b7 b8 b9 b10 b11 b12 b13 b14 b15)) a15) s
noncomputable def w242 (s : Env) (x : AV) : Env := S.rec (motive := fun _ => Env) (fun a0 a1 a2 a3 a4 a5 a6 a7 a8 a9 a10 a11 a12 a13 a14 a15 => S.rec (motive := fun _ => Env) (fun b0 b1 b2 b3 b4 b5 b6 b7 b8 b9 b10 b11 b12 b13 b14 b15 => S.mk a0 a1 a2 a3 a4 a5 a6 a7 a8 a9 a10 a11 a12 a13 a14 (S.mk b0 b1 x b3 b4 b5 b6 b7 b8 b9 b10 b11 b12 b13 b14 b15)) a15) s
noncomputable def w243 (s : Env) (x : AV) : Env := S.rec (motive := fun _ => Env) (fun a0 a1 a2 a3 a4 a5 a6 a7 a8 a9 a10 a11 a12 a13 a14 a15 => S.rec (motive := fun _ => Env) (fun b0 b1 b2 b3 b4 b5 b6 b7 b8 b9 b10 b11 b12 b13 b14 b15 => S.mk a0 a1 a2 a3 a4 a5 a6 a7 a8 a9 a10 a11 a12 a13 a14 (S.mk b0 b1 b2 x b4 b5 b6 b7 b8 b9 b10 b11 b12 b13 b14 b15)) a15) s
noncomputable def w244 (s : Env) (x : AV) : Env := S.rec (motive := fun _ => Env) (fun a0 a1 a2 a3 a4 a5 a6 a7 a8 a9 a10 a11 a12 a13 a14 a15 => S.rec (motive := fun _ => Env) (fun b0 b1 b2 b3 b4 b5 b6 b7 b8 b9 b10 b11 b12 b13 b14 b15 => S.mk a0 a1 a2 a3 a4 a5 a6 a7 a8 a9 a10 a11 a12 a13 a14 (S.mk b0 b1 b2 b3 x b5 b6 b7 b8 b9 b10 b11 b12 b13 b14 b15)) a15) s
noncomputable def w245 (s : Env) (x : AV) : Env := S.rec (motive := fun _ => Env) (fun a0 a1 a2 a3 a4 a5 a6 a7 a8 a9 a10 a11 a12 a13 a14 a15 => S.rec (motive := fun _ => Env) (fun b0 b1 b2 b3 b4 b5 b6 b7 b8 b9 b10 b11 b12 b13 b14 b15 => S.mk a0 a1 a2 a3 a4 a5 a6 a7 a8 a9 a10 a11 a12 a13 a14 (S.mk b0 b1 b2 b3 b4 x b6 b7 b8 b9 b10 b11 b12 b13 b14 b15)) a15) s
noncomputable def w246 (s : Env) (x : AV) : Env := S.rec (motive := fun _ => Env) (fun a0 a1 a2 a3 a4 a5 a6 a7 a8 a9 a10 a11 a12 a13 a14 a15 => S.rec (motive := fun _ => Env) (fun b0 b1 b2 b3 b4 b5 b6 b7 b8 b9 b10 b11 b12 b13 b14 b15 => S.mk a0 a1 a2 a3 a4 a5 a6 a7 a8 a9 a10 a11 a12 a13 a14 (S.mk b0 b1 b2 b3 b4 b5 x b7 b8 b9 b10 b11 b12 b13 b14 b15)) a15) s
noncomputable def w247 (s : Env) (x : AV) : Env := S.rec (motive := fun _ => Env) (fun a0 a1 a2 a3 a4 a5 a6 a7 a8 a9 a10 a11 a12 a13 a14 a15 => S.rec (motive := fun _ => Env) (fun b0 b1 b2 b3 b4 b5 b6 b7 b8 b9 b10 b11 b12 b13 b14 b15 => S.mk a0 a1 a2 a3 a4 a5 a6 a7 a8 a9 a10 a11 a12 a13 a14 (S.mk b0 b1 b2 b3 b4 b5 b6 x b8 b9 b10 b11 b12 b13 b14 b15)) a15) s
noncomputable def w248 (s : Env) (x : AV) : Env := S.rec (motive := fun _ => Env) (fun a0 a1 a2 a3 a4 a5 a6 a7 a8 a9 a10 a11 a12 a13 a14 a15 => S.rec (motive := fun _ => Env) (fun b0 b1 b2 b3 b4 b5 b6 b7 b8 b9 b10 b11 b12 b13 b14 b15 => S.mk a0 a1 a2 a3 a4 a5 a6 a7 a8 a9 a10 a11 a12 a13 a14 (S.mk b0 b1 b2 b3 b4 b5 b6 b7 x b9 b10 b11 b12 b13 b14 b15)) a15) s
noncomputable def w249 (s : Env) (x : AV) : Env := S.rec (motive := fun _ => Env) (fun a0 a1 a2 a3 a4 a5 a6 a7 a8 a9 a10 a11 a12 a13 a14 a15 => S.rec (motive := fun _ => Env) (fun b0 b1 b2 b3 b4 b5 b6 b7 b8 b9 b10 b11 b12 b13 b14 b15 => S.mk a0 a1 a2 a3 a4 a5 a6 a7 a8 a9 a10 a11 a12 a13 a14 (S.mk b0 b1 b2 b3 b4 b5 b6 b7 b8 x b10 b11 b12 b13 b14 b15)) a15) s
noncomputable def w250 (s : Env) (x : AV) : Env := S.rec (motive := fun _ => Env) (fun a0 a1 a2 a3 a4 a5 a6 a7 a8 a9 a10 a11 a12 a13 a14 a15 => S.rec (motive := fun _ => Env) (fun b0 b1 b2 b3 b4 b5 b6 b7 b8 b9 b10 b11 b12 b13 b14 b15 => S.mk a0 a1 a2 a3 a4 a5 a6 a7 a8 a9 a10 a11 a12 a13 a14 (S.mk b0 b1 b2 b3 b4 b5 b6 b7 b8 b9 x b11 b12 b13 b14 b15)) a15) s
noncomputable def w251 (s : Env) (x : AV) : Env := S.rec (motive := fun _ => Env) (fun a0 a1 a2 a3 a4 a5 a6 a7 a8 a9 a10 a11 a12 a13 a14 a15 => S.rec (motive := fun _ => Env) (fun b0 b1 b2 b3 b4 b5 b6 b7 b8 b9 b10 b11 b12 b13 b14 b15 => S.mk a0 a1 a2 a3 a4 a5 a6 a7 a8 a9 a10 a11 a12 a13 a14 (S.mk b0 b1 b2 b3 b4 b5 b6 b7 b8 b9 b10 x b12 b13 b14 b15)) a15) s
noncomputable def w252 (s : Env) (x : AV) : Env := S.rec (motive := fun _ => Env) (fun a0 a1 a2 a3 a4 a5 a6 a7 a8 a9 a10 a11 a12 a13 a14 a15 => S.rec (motive := fun _ => Env) (fun b0 b1 b2 b3 b4 b5 b6 b7 b8 b9 b10 b11 b12 b13 b14 b15 => S.mk a0 a1 a2 a3 a4 a5 a6 a7 a8 a9 a10 a11 a12 a13 a14 (S.mk b0 b1 b2 b3 b4 b5 b6 b7 b8 b9 b10 b11 x b13 b14 b15)) a15) s
noncomputable def w253 (s : Env) (x : AV) : Env := S.rec (motive := fun _ => Env) (fun a0 a1 a2 a3 a4 a5 a6 a7 a8 a9 a10 a11 a12 a13 a14 a15 => S.rec (motive := fun _ => Env) (fun b0 b1 b2 b3 b4 b5 b6 b7 b8 b9 b10 b11 b12 b13 b14 b15 => S.mk a0 a1 a2 a3 a4 a5 a6 a7 a8 a9 a10 a11 a12 a13 a14 (S.mk b0 b1 b2 b3 b4 b5 b6 b7 b8 b9 b10 b11 b12 x b14 b15)) a15) s
noncomputable def w254 (s : Env) (x : AV) : Env := S.rec (motive := fun _ => Env) (fun a0 a1 a2 a3 a4 a5 a6 a7 a8 a9 a10 a11 a12 a13 a14 a15 => S.rec (motive := fun _ => Env) (fun b0 b1 b2 b3 b4 b5 b6 b7 b8 b9 b10 b11 b12 b13 b14 b15 => S.mk a0 a1 a2 a3 a4 a5 a6 a7 a8 a9 a10 a11 a12 a13 a14 (S.mk b0 b1 b2 b3 b4 b5 b6 b7 b8 b9 b10 b11 b12 b13 x b15)) a15) s

/-- An operand: how it is read. A place: how it is written. -/
inductive G where
  | mk (f : Env → AV)
inductive W where
  | mk (f : Env → AV → Env)
def kst (v : AV) (s : Env) : AV := v
def keep (s : Env) (v : AV) : Env := s
noncomputable def rTab : List G := [.mk r0, .mk r1, .mk r2, .mk r3, .mk r4, .mk r5, .mk r6, .mk r7, .mk r8, .mk r9, .mk r10, .mk r11, .mk r12, .mk r13, .mk r14, .mk r15, .mk r16, .mk r17, .mk r18, .mk r19, .mk r20, .mk r21, .mk r22, .mk r23, .mk r24, .mk r25, .mk r26, .mk r27, .mk r28, .mk r29, .mk r30, .mk r31, .mk r32, .mk r33, .mk r34, .mk r35, .mk r36, .mk r37, .mk r38, .mk r39, .mk r40, .mk r41, .mk r42, .mk r43, .mk r44, .mk r45, .mk r46, .mk r47, .mk r48, .mk r49, .mk r50, .mk r51, .mk r52, .mk r53, .mk r54, .mk r55, .mk r56, .mk r57, .mk r58, .mk r59, .mk r60, .mk r61, .mk r62, .mk r63, .mk r64, .mk r65, .mk r66, .mk r67, .mk r68, .mk r69, .mk r70, .mk r71, .mk r72, .mk r73, .mk r74, .mk r75, .mk r76, .mk r77, .mk r78, .mk r79, .mk r80, .mk r81, .mk r82, .mk r83, .mk r84, .mk r85, .mk r86, .mk r87, .mk r88, .mk r89, .mk r90, .mk r91, .mk r92, .mk r93, .mk r94, .mk r95, .mk r96, .mk r97, .mk r98, .mk r99, .mk r100, .mk r101, .mk r102, .mk r103, .mk r104, .mk r105, .mk r106, .mk r107, .mk r108, .mk r109, .mk r110, .mk r111, .mk r112, .mk r113, .mk r114, .mk r115, .mk r116, .mk r117, .mk r118, .mk r119, .mk r120, .mk r121, .mk r122, .mk r123, .mk r124, .mk r125, .mk r126, .mk r127, .mk r128, .mk r129, .mk r130, .mk r131, .mk r132, .mk r133, .mk r134, .mk r135, .mk r136, .mk r137, .mk r138, .mk r139, .mk r140, .mk r141, .mk r142, .mk r143, .mk r144, .mk r145, .mk r146, .mk r147, .mk r148, .mk r149, .mk r150, .mk r151, .mk r152, .mk r153, .mk r154, .mk r155, .mk r156, .mk r157, .mk r158, .mk r159, .mk r160, .mk r161, .mk r162, .mk r163, .mk r164, .mk r165, .mk r166, .mk r167, .mk r168, .mk r169, .mk r170, .mk r171, .mk r172, .mk r173, .mk r174, .mk r175, .mk r176, .mk r177, .mk r178, .mk r179, .mk r180, .mk r181, .mk r182, .mk r183, .mk r184, .mk r185, .mk r186, .mk r187, .mk r188, .mk r189, .mk r190, .mk r191, .mk r192, .mk r193, .mk r194, .mk r195, .mk r196, .mk r197, .mk r198, .mk r199, .mk r200, .mk r201, .mk r202, .mk r203, .mk r204, .mk r205, .mk r206, .mk r207, .mk r208, .mk r209, .mk r210, .mk r211, .mk r212, .mk r213, .mk r214, .mk r215, .mk r216, .mk r217, .mk r218, .mk r219, .mk r220, .mk r221, .mk r222, .mk r223, .mk r224, .mk r225, .mk r226, .mk r227, .mk r228, .mk r229, .mk r230, .mk r231, .mk r232, .mk r233, .mk r234, .mk r235, .mk r236, .mk r237, .mk r238, .mk r239, .mk r240, .mk r241, .mk r242, .mk r243, .mk r244, .mk r245, .mk r246, .mk r247, .mk r248, .mk r249, .mk r250, .mk r251, .mk r252, .mk r253, .mk r254]
noncomputable def wTab : List W := [.mk w0, .mk w1, .mk w2, .mk w3, .mk w4, .mk w5, .mk w6, .mk w7, .mk w8, .mk w9, .mk w10, .mk w11, .mk w12, .mk w13, .mk w14, .mk w15, .mk w16, .mk w17, .mk w18, .mk w19, .mk w20, .mk w21, .mk w22, .mk w23, .mk w24, .mk w25, .mk w26, .mk w27, .mk w28, .mk w29, .mk w30, .mk w31, .mk w32, .mk w33, .mk w34, .mk w35, .mk w36, .mk w37, .mk w38, .mk w39, .mk w40, .mk w41, .mk w42, .mk w43, .mk w44, .mk w45, .mk w46, .mk w47, .mk w48, .mk w49, .mk w50, .mk w51, .mk w52, .mk w53, .mk w54, .mk w55, .mk w56, .mk w57, .mk w58, .mk w59, .mk w60, .mk w61, .mk w62, .mk w63, .mk w64, .mk w65, .mk w66, .mk w67, .mk w68, .mk w69, .mk w70, .mk w71, .mk w72, .mk w73, .mk w74, .mk w75, .mk w76, .mk w77, .mk w78, .mk w79, .mk w80, .mk w81, .mk w82, .mk w83, .mk w84, .mk w85, .mk w86, .mk w87, .mk w88, .mk w89, .mk w90, .mk w91, .mk w92, .mk w93, .mk w94, .mk w95, .mk w96, .mk w97, .mk w98, .mk w99, .mk w100, .mk w101, .mk w102, .mk w103, .mk w104, .mk w105, .mk w106, .mk w107, .mk w108, .mk w109, .mk w110, .mk w111, .mk w112, .mk w113, .mk w114, .mk w115, .mk w116, .mk w117, .mk w118, .mk w119, .mk w120, .mk w121, .mk w122, .mk w123, .mk w124, .mk w125, .mk w126, .mk w127, .mk w128, .mk w129, .mk w130, .mk w131, .mk w132, .mk w133, .mk w134, .mk w135, .mk w136, .mk w137, .mk w138, .mk w139, .mk w140, .mk w141, .mk w142, .mk w143, .mk w144, .mk w145, .mk w146, .mk w147, .mk w148, .mk w149, .mk w150, .mk w151, .mk w152, .mk w153, .mk w154, .mk w155, .mk w156, .mk w157, .mk w158, .mk w159, .mk w160, .mk w161, .mk w162, .mk w163, .mk w164, .mk w165, .mk w166, .mk w167, .mk w168, .mk w169, .mk w170, .mk w171, .mk w172, .mk w173, .mk w174, .mk w175, .mk w176, .mk w177, .mk w178, .mk w179, .mk w180, .mk w181, .mk w182, .mk w183, .mk w184, .mk w185, .mk w186, .mk w187, .mk w188, .mk w189, .mk w190, .mk w191, .mk w192, .mk w193, .mk w194, .mk w195, .mk w196, .mk w197, .mk w198, .mk w199, .mk w200, .mk w201, .mk w202, .mk w203, .mk w204, .mk w205, .mk w206, .mk w207, .mk w208, .mk w209, .mk w210, .mk w211, .mk w212, .mk w213, .mk w214, .mk w215, .mk w216, .mk w217, .mk w218, .mk w219, .mk w220, .mk w221, .mk w222, .mk w223, .mk w224, .mk w225, .mk w226, .mk w227, .mk w228, .mk w229, .mk w230, .mk w231, .mk w232, .mk w233, .mk w234, .mk w235, .mk w236, .mk w237, .mk w238, .mk w239, .mk w240, .mk w241, .mk w242, .mk w243, .mk w244, .mk w245, .mk w246, .mk w247, .mk w248, .mk w249, .mk w250, .mk w251, .mk w252, .mk w253, .mk w254]
/-- A row's cells: few, more, many. -/
inductive Cells where
  | c1 (s : S AV)
  | c2 (s : S (S AV))
  | c4 (s : S (S (S (S AV))))
noncomputable def Cells.get (c : Cells) (n : Nat) : AV := Cells.rec (motive := fun _ => AV) (fun s => S.get (dig n) s) (fun s => get2 s (p2 n)) (fun s => get4 s (p4 n)) c
noncomputable def Cells.set (c : Cells) (n : Nat) (x : AV) : Cells :=
  Cells.rec (motive := fun _ => Cells) (fun s => S.strict (S.set (dig n) s x) .c1) (fun s => S.strict (set2 s (p2 n) x) .c2) (fun s => S.strict (set4 s (p4 n) x) .c4) c
/-- How many it may have. -/
def Cells.room : Cells → Nat
  | .c1 _ => 16
  | .c2 _ => 256
  | .c4 _ => 65536
noncomputable def Cells.of (n : Nat) (d : AV) : Cells := cond (Nat.ble n (nat_lit 16)) (.c1 (.all d)) (cond (Nat.ble n (nat_lit 256)) (.c2 (.all (.all d))) (.c4 (.all (.all (.all (.all d))))))

inductive AObj where
  /-- 'n' cells are known; 'grown': the row may have more cells behind them, and cells ahead of 'frz' may be frozen. -/
  | cells (n : Nat) (t : Cells) (elem : TypeId) (grown : Bool) (frz : Nat)
  | map (es : List (AV × AV × Nat)) (clock : Nat)
  | iter (m : Option Nat) (since : Nat) (seen : List Nat) (stepped : Nat)
  | siter (s : List Nat) (pos : Nat)
  | loop (state : LoopState) (pending : Option Code) (fn : FuncId) (ts : Env) (params : List Tmp) (assign body : Code)
  deriving Inhabited

abbrev HT := S (S (S (Option AObj)))
noncomputable def HT.get (t : HT) (n : Nat) : Option AObj := cond (Nat.blt n (nat_lit 4096)) (get3 t (p3 n)) none
noncomputable def HT.put (t : HT) (n : Nat) (x : Option AObj) : HT := cond (Nat.blt n (nat_lit 4096)) (S.strict (set3 t (p3 n) x) fun t => t) t

structure Heap where
  t : HT
  next : Nat
def heap0 : Heap := { t := .all (.all (.all none)), next := 0 }

inductive Res where
  | ok (v : AV) (h : Heap)
  | no
  deriving Inhabited

inductive RR where
  | ok (ts : Env) (h : Heap)
  | no

inductive CR where
  | norm (ts : Env) (h : Heap)
  | exit (id : Nat) (ts : Env) (h : Heap)
  | ret (ts : Env) (h : Heap)
  | no

inductive Tgt where
  | func (f : FuncId)
  | yld (b : Nat)

abbrev CallF := Tgt → List AV → Heap → Res

/-! ### Small eliminators (the kernel takes them faster than one great 'match') -/
section
variable {β : Type}
noncomputable def onInt (no : β) (f : IntKind → Int → β) (x : AV) : β := AV.rec (motive_1 := fun _ => β) (motive_2 := fun _ => PUnit) no (fun _ => no) no no (fun _ _ => no) no (fun _ => no) no (fun _ _ _ _ _ => no) (fun _ => no) no (fun _ _ _ => no) (fun _ _ => no) (fun _ _ => no) (fun _ _ _ _ => no) (fun _ => no) (fun _ _ => no) f (fun _ _ => no) PUnit.unit (fun _ _ _ _ => PUnit.unit) x
noncomputable def onStr (no : β) (f : List Nat → β) (x : AV) : β := AV.rec (motive_1 := fun _ => β) (motive_2 := fun _ => PUnit) no (fun _ => no) no no (fun _ _ => no) no (fun _ => no) no (fun _ _ _ _ _ => no) (fun _ => no) no (fun _ _ _ => no) (fun _ _ => no) (fun _ _ => no) (fun _ _ _ _ => no) f (fun _ _ => no) (fun _ _ => no) (fun _ _ => no) PUnit.unit (fun _ _ _ _ => PUnit.unit) x
noncomputable def onPtr (no : β) (f : Nat → Nat → β) (x : AV) : β := AV.rec (motive_1 := fun _ => β) (motive_2 := fun _ => PUnit) no (fun _ => no) no no (fun _ _ => no) no (fun _ => no) no (fun _ _ _ _ _ => no) (fun _ => no) no (fun _ _ _ => no) (fun _ _ => no) (fun _ _ => no) (fun _ _ _ _ => no) (fun _ => no) f (fun _ _ => no) (fun _ _ => no) PUnit.unit (fun _ _ _ _ => PUnit.unit) x
noncomputable def onSl (no : β) (f : Nat → Nat → Nat → Cap → β) (x : AV) : β := AV.rec (motive_1 := fun _ => β) (motive_2 := fun _ => PUnit) no (fun _ => no) no no (fun _ _ => no) no (fun _ => no) no (fun _ _ _ _ _ => no) (fun _ => no) no (fun _ _ _ => no) (fun _ _ => no) (fun _ _ => no) f (fun _ => no) (fun _ _ => no) (fun _ _ => no) (fun _ _ => no) PUnit.unit (fun _ _ _ _ => PUnit.unit) x
noncomputable def onAgg (no : β) (f : List AV → β) (x : AV) : β := AV.rec (motive_1 := fun _ => β) (motive_2 := fun _ => PUnit) no (fun _ => no) no no (fun _ _ => no) no (fun _ => no) no (fun _ _ _ _ _ => no) (fun _ => no) no (fun _ _ _ => no) (fun _ _ => no) (fun x0 _ => f x0) (fun _ _ _ _ => no) (fun _ => no) (fun _ _ => no) (fun _ _ => no) (fun _ _ => no) PUnit.unit (fun _ _ _ _ => PUnit.unit) x
noncomputable def onTup (no : β) (f : List AV → β) (x : AV) : β := AV.rec (motive_1 := fun _ => β) (motive_2 := fun _ => PUnit) no (fun _ => no) no no (fun _ _ => no) no (fun _ => no) no (fun _ _ _ _ _ => no) (fun _ => no) no (fun _ _ _ => no) (fun x0 _ => f x0) (fun _ _ => no) (fun _ _ _ _ => no) (fun _ => no) (fun _ _ => no) (fun _ _ => no) (fun _ _ => no) PUnit.unit (fun _ _ _ _ => PUnit.unit) x
noncomputable def onBool (no : β) (f : Bool → β) (x : AV) : β := AV.rec (motive_1 := fun _ => β) (motive_2 := fun _ => PUnit) no f no no (fun _ _ => no) no (fun _ => no) no (fun _ _ _ _ _ => no) (fun _ => no) no (fun _ _ _ => no) (fun _ _ => no) (fun _ _ => no) (fun _ _ _ _ => no) (fun _ => no) (fun _ _ => no) (fun _ _ => no) (fun _ _ => no) PUnit.unit (fun _ _ _ _ => PUnit.unit) x
noncomputable def onSym (no : β) (f : Nat → Option IntKind → β) (x : AV) : β := AV.rec (motive_1 := fun _ => β) (motive_2 := fun _ => PUnit) no (fun _ => no) no no (fun _ _ => no) no (fun _ => no) no (fun _ _ _ _ _ => no) (fun _ => no) no (fun _ _ _ => no) (fun _ _ => no) (fun _ _ => no) (fun _ _ _ _ => no) (fun _ => no) (fun _ _ => no) (fun _ _ => no) f PUnit.unit (fun _ _ _ _ => PUnit.unit) x
noncomputable def onObj (no : β) (f : Nat → Cells → TypeId → Bool → Nat → β) (x : AObj) : β :=
  AObj.rec (motive := fun _ => β) f (fun _ _ => no) (fun _ _ _ _ => no) (fun _ _ => no) (fun _ _ _ _ _ _ _ => no) x
noncomputable def onCells (no : β) (f : Nat → Cells → TypeId → Bool → Nat → β) (x : Option AObj) : β := Option.rec (motive := fun _ => β) no (fun o => onObj no f o) x
noncomputable def onSome {α : Type} (no : β) (f : α → β) (x : Option α) : β := Option.rec (motive := fun _ => β) no f x
end

/-! ### Cells -/
/-- May a cell hold it? -/
def plainAV : AV → Bool
  | .agg _ | .tup _ | .any => false
  | _ => true

/-- 'k' cells from 'o' on, handed to 'f'. -/
noncomputable def cellsFrom {β : Type} (no : β) (n : Nat) (t : Cells) (k : Nat) : Nat → (List AV → β) → β :=
  Nat.rec (motive := fun _ => Nat → (List AV → β) → β) (fun _ f => f [])
    (fun _ ih o f => cond (Nat.blt o n) (forceN (Nat.succ o) fun o' => ih o' fun l => f (Cells.get t o :: l)) no) k

noncomputable def loadN {β : Type} (no : β) (h : Heap) (b o k : Nat) (f : List AV → β) : β :=
  onCells no (fun n t _ _ _ => cellsFrom no n t k o f) (HT.get h.t b)

noncomputable def load1 {β : Type} (no : β) (h : Heap) (b o : Nat) (f : AV → β) : β :=
  onCells no (fun n t _ _ _ => cond (Nat.blt o n) (f (Cells.get t o)) no) (HT.get h.t b)

noncomputable def setCells (t : Cells) (o : Nat) (l : List AV) : Cells :=
  List.rec (motive := fun _ => Cells → Nat → Cells) (fun t _ => t) (fun v _ ih t o => forceN (Nat.succ o) fun o' => ih (Cells.set t o v) o') l t o

noncomputable def putObj (h : Heap) (b : Nat) (o : AObj) : Heap := { t := HT.put h.t b (some o), next := h.next }
noncomputable def addObj (h : Heap) (o : AObj) : Heap := { t := HT.put h.t h.next (some o), next := Nat.succ h.next }
noncomputable def delObj (h : Heap) (b : Nat) : Heap := { t := HT.put h.t b none, next := h.next }

noncomputable def storeN {β : Type} (no : β) (h : Heap) (b o : Nat) (vs : List AV) (k : Heap → β) : β :=
  onCells no (fun n t e g fz => cond (Nat.ble (Nat.mod fz (nat_lit 1048576)) o) (cond (Nat.ble (Nat.add o vs.length) n) (k (putObj h b (.cells n (setCells t o vs) e g fz))) no) no) (HT.get h.t b)

/-- A row of cells; as many as there is room for. -/
noncomputable def rowObj (elem : TypeId) (cs : List AV) (grown : Bool) (frz : Nat) : AObj :=
  forceN cs.length fun n => .cells n (setCells (Cells.of n .undef) (nat_lit 0) cs) elem grown frz

end Go.Eng
