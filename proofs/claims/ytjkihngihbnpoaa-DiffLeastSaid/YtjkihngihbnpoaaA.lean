/-
  A SMALL EVALUATOR OVER THE MODEL's CODE, ON TYPED DATA: what a Go function answers, as a plain Lean term. This text: types, values, states, the evaluator. No proof.
-/
import Derived.Calls
import Derived.Tactics
import Derived.Below
import Derived.Deep.AppendSrc
import Derived.WalkKit
set_option linter.unusedSimpArgs false
set_option linter.unusedVariables false
namespace Go.Ev

inductive Ty where
  | int (k : IntKind) | bool | str | slice (e : Ty) | arr (n : Nat) (e : Ty) | agg (p : Ty) | unit | cons (a b : Ty) | raw
  deriving DecidableEq, Inhabited

@[reducible] def Ty.den : Ty → Type
  | .int _ => Int
  | .bool => Bool
  | .str => ByteArray
  | .slice e => List e.den
  | .arr _ e => List e.den
  | .agg p => p.den
  | .unit => Unit
  | .cons a b => a.den × b.den
  | .raw => Value

def Ty.zero : (τ : Ty) → τ.den
  | .int _ => (0 : Int)
  | .bool => false
  | .str => (⟨#[]⟩ : ByteArray)
  | .slice _ => []
  | .arr n e => List.replicate n e.zero
  | .agg p => p.zero
  | .unit => ()
  | .cons a b => (a.zero, b.zero)
  | .raw => (Value.pointer none : Value)

/-- cells -/
def Ty.width : Ty → Nat
  | .arr n e => n * e.width
  | .agg p => p.width
  | .unit => 0
  | .cons a b => a.width + b.width
  | _ => 1

def Ty.noRaw : Ty → Bool
  | .raw => false
  | .arr _ e => e.noRaw
  | .agg p => p.noRaw
  | .cons a b => a.noRaw && b.noRaw
  | _ => true

def Ty.isAgg : Ty → Bool
  | .arr _ _ | .agg _ => true
  | _ => false

def Ty.scalar : Ty → Bool
  | .int _ | .bool => true
  | _ => false

inductive Place where
  | slot (k : Nat)
  | leaf (r off : Nat)
  deriving DecidableEq

/-- WHAT A SLOT HOLDS. d: data that never changes · own: a slice whose spare room is this place's alone · nils: the nil slice of whatever type · ptr: into a box, at a cell · pix: an element of an array in a box · pdat: to data that never changes ·
pel, msl: into a slice that is written · agl: a struct by its leaves · tup: several results · fn: a function value · undef: not known. -/
inductive AV where
  | d (τ : Ty) (x : τ.den)
  | own (e : Ty) (xs : List e.den)
  | nils
  | ptr (r off : Nat)
  | pix (r off : Nat) (i : Int)
  | pdat (τ : Ty) (x : τ.den)
  | pel (r : Nat) (i : Int)
  | msl (r : Nat)
  | mrow (r : Nat) (i : Int)
  | mel (r : Nat) (i j : Int)
  | uptr (r : Nat) (n : Int) (off : Nat)
  | agl (ls : List AV)
  | tup (ls : List AV)
  | fn (f : Nat) (caps : List AV)
  | undef
  deriving Inhabited

inductive Blk where
  | box (ls : List AV)
  | arr (e : Ty) (xs : List e.den)
  | mat (e : Ty) (rows : List (Option (List e.den)))
  | vec (e : Ty) (xs : List e.den) (has : Bool) (ls : List AV)
  | gone
  deriving Inhabited

structure St where
  fr : Nat → AV × Option Place
  bl : List Blk

def upd {α : Type} (f : Nat → α) (k : Nat) (v : α) : Nat → α := fun j => if j = k then v else f j

/-- Data of a type, out of a value that is no struct by leaves. -/
def AV.to1 (τ : Ty) : AV → Option τ.den
  | .d τ' x => if h : τ' = τ then some (h ▸ x) else none
  | .own e xs => if h : Ty.slice e = τ then some (h ▸ (show (Ty.slice e).den from xs)) else none
  | .nils => match τ with
    | .slice _ => some []
    | _ => none
  | .fn f [] => match τ with
    | .raw => some (Value.func (.func f) #[] #[])
    | _ => none
  | _ => none

/-- Results of an inlined call. -/
def resAV : List AV → AV
  | [a] => a
  | l => .tup l

/-- Which function is it, with what of its maker's? -/
def fnOf : AV → Option (Nat × List AV)
  | .fn f caps => some (f, caps)
  | .d .raw (.func (.func f) a b) => if a.size = 0 ∧ b.size = 0 then some (f, []) else none
  | _ => none

/-- Is a leaf of this type one leaf? -/
def Ty.one : Ty → Bool
  | .int _ | .bool | .str | .slice _ | .raw => true
  | .arr _ e => e.scalar
  | _ => false

def times {α β : Type} (f : List α → Option (β × List α)) : Nat → List α → Option (List β × List α)
  | 0, l => some ([], l)
  | n + 1, l => match f l with
    | none => none
    | some (x, l) => match times f n l with
      | none => none
      | some (xs, l) => some (x :: xs, l)

/-- Data of a type, out of leaves. -/
def fromLeaves : (τ : Ty) → List AV → Option (τ.den × List AV)
  | .agg p, l => fromLeaves p l
  | .unit, l => some ((), l)
  | .cons a b, l => match fromLeaves a l with
    | none => none
    | some (x, l) => match fromLeaves b l with
      | none => none
      | some (y, l) => some ((x, y), l)
  | .arr n e, l => if e.scalar then (match l with
      | a :: l => match a.to1 (.arr n e) with
        | some x => some (x, l)
        | none => none
      | [] => none) else times (fromLeaves e) n l
  | τ, a :: l => match a.to1 τ with
    | some x => some (x, l)
    | none => none
  | _, [] => none

/-- Data of a type. -/
def AV.to (τ : Ty) (a : AV) : Option τ.den :=
  match a with
  | .agl ls => if τ.isAgg then (match fromLeaves τ ls with
    | some (x, []) => some x
    | _ => none) else none
  | a => a.to1 τ

/-- The leaves of data. -/
def explode : (τ : Ty) → τ.den → List AV
  | .agg p, x => explode p x
  | .unit, _ => []
  | .cons a b, x => explode a x.1 ++ explode b x.2
  | .arr n e, x => if e.scalar then [.d (.arr n e) x] else (List.range n).flatMap fun i => explode e (List.getD x i e.zero)
  | .int k, x => [.d (.int k) x]
  | .bool, x => [.d .bool x]
  | .str, x => [.d .str x]
  | .slice e, x => [.d (.slice e) x]
  | .raw, x => [.d .raw x]

/-- The leaves of a zero value, its slices nil. -/
def zeroLeaves : Ty → List AV
  | .agg p => zeroLeaves p
  | .unit => []
  | .cons a b => zeroLeaves a ++ zeroLeaves b
  | .arr n e => if e.scalar then [.d (.arr n e) (Ty.zero (.arr n e))] else (List.range n).flatMap fun _ => zeroLeaves e
  | .slice _ => [.nils]
  | .int k => [.d (.int k) (0 : Int)]
  | .bool => [.d .bool false]
  | .str => [.d .str (⟨#[]⟩ : ByteArray)]
  | .raw => [.undef]

/-- Leaves as they lie in a box of a type: a nil slice is its own. Data alone. -/
def settle : (τ : Ty) → List AV → Option (List AV × List AV)
  | .agg p, l => settle p l
  | .unit, l => some ([], l)
  | .cons a b, l => match settle a l with
    | none => none
    | some (x, l) => match settle b l with
      | none => none
      | some (y, l) => some (x ++ y, l)
  | .arr n e, l => if e.scalar then (match l with
      | a :: l => match a.to1 (.arr n e) with
        | some x => some ([.d (.arr n e) x], l)
        | none => none
      | [] => none) else (match times (settle e) n l with
        | some (x, l) => some (x.flatten, l)
        | none => none)
  | .slice e, a :: l => match a with
    | .nils => some ([.own e []], l)
    | a => match a.to1 (.slice e) with
      | some x => some ([.d (.slice e) x], l)
      | none => none
  | τ, a :: l => match a.to1 τ with
    | some x => some ([.d τ x], l)
    | none => none
  | _, [] => none

def AV.pw : AV → Nat
  | .d τ _ => τ.width
  | .own e _ => e.width
  | _ => 1

def wide (l : List AV) : Bool := l.all fun a => decide (0 < a.pw)

/-- The leaves of a value, for a box of a type. -/
def AV.leaves (τ : Ty) (a : AV) : Option (List AV) :=
  match a with
  | .agl ls => match settle τ ls with
    | some (x, []) => some x
    | _ => none
  | .nils => match τ with
    | .slice e => some [.own e []]
    | _ => none
  | .fn f caps => match τ with
    | .raw => some [.fn f caps]
    | _ => none
  | .ptr r off => match τ with
    | .raw => some [.ptr r off]
    | _ => none
  | a => (a.to1 τ).map (explode τ)

def AV.w : AV → Nat
  | .d τ _ => τ.width
  | _ => 1

/-- Leaves, cut at a cell. -/
def cut : Nat → List AV → Option (List AV × List AV)
  | 0, l => some ([], l)
  | _ + 1, [] => none
  | n + 1, a :: l => if a.w ≤ n + 1 then (match cut (n + 1 - a.w) l with
    | some (x, y) => some (a :: x, y)
    | none => none) else none

/-- Leaves, so many cells of them struck. -/
def strike (n : Nat) (l : List AV) : Option (List AV) := (cut n l).map (·.2)

/-- A part of a struct: its type, where it lies, how it is read. -/
structure Sub (p : Ty) where
  τ : Ty
  off : Nat
  get : p.den → τ.den

def Ty.sub : (p : Ty) → Nat → Option (Sub p)
  | .cons a _, 0 => some ⟨a, 0, fun x => x.1⟩
  | .cons a b, n + 1 => match b.sub n with
    | some s => some ⟨s.τ, a.width + s.off, fun x => s.get x.2⟩
    | none => none
  | _, _ => none

inductive Ctl where
  | normal | exit (id : Nat) | goto (l : Nat) | ret

def Ctl.elim {α : Type} (c : Ctl) (n : α) (e : Nat → α) (g : Nat → α) (r : α) : α :=
  match c with
  | .normal => n
  | .exit id => e id
  | .goto l => g l
  | .ret => r

/-- What an operation does: the value; of which place it is a copy; a slot whose slice is its own no more; a block that turns (copies of its leaves are copies no more); a new block. -/
structure Eff where
  val : AV := .undef
  alias : Option Place := none
  dem : Option Nat := none
  bupd : Option (Nat × Blk) := none
  bnew : Option Blk := none
  bgone : Option Nat := none
  ball : Option (List Blk) := none

def AV.dem : AV → AV
  | .own e xs => .d (.slice e) xs
  | a => a

def clr1 (p : Place) (x : AV × Option Place) : AV × Option Place := if x.2 = some p then (x.1, none) else x

/-- no copy of a leaf of this block -/
def clrB (r : Nat) (x : AV × Option Place) : AV × Option Place :=
  match x.2 with
  | some (.leaf r' _) => if r' = r then (x.1, none) else x
  | _ => x

def AV.isOwn : AV → Bool
  | .own _ _ => true
  | _ => false

def Eff.on (E : Eff) (dst : Option Nat) (st : St) : St :=
  let st : St := match E.ball with
    | some bl => { fr := fun k => ((st.fr k).1, none), bl := bl }
    | none => st
  let f1 : Nat → AV × Option Place := match E.dem with
    | some k => upd st.fr k ((st.fr k).1.dem, (st.fr k).2)
    | none => st.fr
  let f2 : Nat → AV × Option Place := match E.bupd with
    | some (r, _) => fun j => clrB r (f1 j)
    | none => f1
  let f3 : Nat → AV × Option Place := match dst with
    | some d => (match E.val with
      | .own _ _ => upd (fun j => clr1 (.slot d) (f2 j)) d (E.val, E.alias)
      | _ => upd f2 d (E.val, E.alias))
    | none => f2
  let b0 : List Blk := match E.bupd with
    | some (r, b) => st.bl.set r b
    | none => st.bl
  let b1 : List Blk := match E.bgone with
    | some r => b0.set r .gone
    | none => b0
  { fr := f3, bl := match E.bnew with
    | some b => b1 ++ [b]
    | none => b1 }

/-- What is known of a program: its types; its functions; which slices are written; what a loop keeps. -/
inductive RT where
  | d (τ : Ty)
  | own (e : Ty)

@[reducible] def RT.den : RT → Type
  | .d τ => τ.den
  | .own e => List e.den

@[reducible] def RTs.den : List RT → Type
  | [] => Unit
  | t :: l => t.den × RTs.den l

def RT.av : (t : RT) → t.den → AV
  | .d τ, x => .d τ x
  | .own e, x => .own e x

/-- Several results: none of them its own any more. -/
def RTs.avd : (l : List RT) → RTs.den l → List AV
  | [], _ => []
  | .d τ :: l, x => .d τ x.1 :: RTs.avd l x.2
  | .own e :: l, x => .d (.slice e) x.1 :: RTs.avd l x.2

def RTs.av : (l : List RT) → RTs.den l → AV
  | [], _ => .tup []
  | [t], x => t.av x.1
  | l, x => .tup (RTs.avd l x)

/-! ### Shapes: what is kept of a state at a loop's head, and where ways meet -/

inductive Sh where
  | d (τ : Ty) | own (e : Ty) | ptr (r off : Nat) | msl (r : Nat) | fn (f : Nat) | uptr (r off : Nat) | fnc (f : Nat) (ps : List Nat)

@[reducible] def Sh.den : Sh → Type
  | .d τ => τ.den
  | .own e => List e.den
  | .uptr _ _ => Int
  | _ => Unit

def Sh.av : (s : Sh) → s.den → AV
  | .d τ, x => .d τ x
  | .own e, x => .own e x
  | .ptr r o, _ => .ptr r o
  | .msl r, _ => .msl r
  | .fn f, _ => .fn f []
  | .uptr r off, n => .uptr r n off
  | .fnc f ps, _ => .fn f (ps.map fun r => .ptr r 0)

/-- Are these the pointers to these boxes? -/
def isPtrs (n : Nat) : List Nat → List AV → Bool
  | [], [] => true
  | r :: l, .ptr r' 0 :: aas => r' == r && decide (r < n) && isPtrs n l aas
  | _, _ => false

def Sh.read (n : Nat) : (s : Sh) → AV → Option s.den
  | .d τ, a => a.to τ
  | .own e, a => match a with
    | .own e' xs => if h : e' = e then some (h ▸ xs) else none
    | _ => none
  | .ptr r o, a => match a with
    | .ptr r' o' => if r' = r ∧ o' = o ∧ r < n then some () else none
    | _ => none
  | .msl r, a => match a with
    | .msl r' => if r' = r ∧ r < n then some () else none
    | _ => none
  | .fn f, a => match a with
    | .fn f' [] => if f' = f then some () else none
    | _ => none
  | .uptr r off, a => match a with
    | .uptr r' m off' => if r' = r ∧ off' = off ∧ r < n then some m else none
    | _ => none
  | .fnc f ps, a => match a with
    | .fn f' cs => if f' = f ∧ isPtrs n ps cs = true then some () else none
    | _ => none

@[reducible] def SL.den : List (Nat × Sh) → Type
  | [] => Unit
  | (_, s) :: l => s.den × SL.den l

def SL.mk : (l : List (Nat × Sh)) → SL.den l → Nat → AV × Option Place
  | [], _, _ => (.undef, none)
  | (k, s) :: l, x, j => if j = k then (s.av x.1, none) else SL.mk l x.2 j

def SL.read (n : Nat) : (l : List (Nat × Sh)) → (Nat → AV × Option Place) → Option (SL.den l)
  | [], _ => some ()
  | (k, s) :: l, fr => match s.read n (fr k).1 with
    | none => none
    | some x => match SL.read n l fr with
      | none => none
      | some y => some (x, y)

/-- A box's leaves. -/
@[reducible] def LS.den : List Sh → Type
  | [] => Unit
  | s :: l => s.den × LS.den l

def LS.mk : (l : List Sh) → LS.den l → List AV
  | [], _ => []
  | s :: l, x => s.av x.1 :: LS.mk l x.2

def Sh.leaf (n : Nat) : (s : Sh) → AV → Option s.den
  | .d τ, a => a.to1 τ
  | s, a => s.read n a

def LS.read (n : Nat) : (l : List Sh) → List AV → Option (LS.den l)
  | [], [] => some ()
  | s :: l, a :: aas => match s.leaf n a with
    | none => none
    | some x => match LS.read n l aas with
      | none => none
      | some y => some (x, y)
  | _, _ => none

inductive BSh where
  | box (ls : List Sh) | arr (e : Ty) | mat (e : Ty) | vec (e : Ty) (ls : List Sh) | gone

@[reducible] def BSh.den : BSh → Type
  | .box ls => LS.den ls
  | .arr e => List e.den
  | .mat e => List (Option (List e.den))
  | .vec e ls => List e.den × Bool × LS.den ls
  | .gone => Unit

def BSh.mk : (s : BSh) → s.den → Blk
  | .box ls, x => .box (LS.mk ls x)
  | .arr e, x => .arr e x
  | .mat e, x => .mat e x
  | .vec e ls, x => .vec e x.1 x.2.1 (LS.mk ls x.2.2)
  | .gone, _ => .gone

def BSh.read (n : Nat) : (s : BSh) → Blk → Option s.den
  | .box ls, b => match b with
    | .box l => LS.read n ls l
    | _ => none
  | .arr e, b => match b with
    | .arr e' xs => if h : e' = e then some (h ▸ xs) else none
    | _ => none
  | .mat e, b => match b with
    | .mat e' xs => if h : e' = e then some (h ▸ xs) else none
    | _ => none
  | .vec e ls, b => match b with
    | .vec e' xs has l => if h : e' = e then (match LS.read n ls l with
      | some y => some (h ▸ xs, has, y)
      | none => none) else none
    | _ => none
  | .gone, _ => some ()

@[reducible] def BL.den : List BSh → Type
  | [] => Unit
  | s :: l => s.den × BL.den l

def BL.mk : (l : List BSh) → BL.den l → List Blk
  | [], _ => []
  | s :: l, x => s.mk x.1 :: BL.mk l x.2

def BL.read (n : Nat) : (l : List BSh) → List Blk → Option (BL.den l)
  | [], _ => some ()
  | s :: l, b :: bs => match s.read n b with
    | none => none
    | some x => match BL.read n l bs with
      | none => none
      | some y => some (x, y)
  | _ :: _, [] => none

structure Shape where
  sl : List (Nat × Sh)
  bl : List BSh := []

@[reducible] def Shape.den (S : Shape) : Type := SL.den S.sl × BL.den S.bl

def Shape.mk' (S : Shape) (x : S.den) : St := { fr := SL.mk S.sl x.1, bl := BL.mk S.bl x.2 }

def Shape.read (S : Shape) (st : St) : Option S.den :=
  match SL.read S.bl.length S.sl st.fr with
  | none => none
  | some x => match BL.read S.bl.length S.bl st.bl with
    | none => none
    | some y => some (x, y)

/-- Arguments that stand for blocks of the caller's, and all its blocks. -/
structure ISh where
  args : List Sh
  bl : List BSh := []

@[reducible] def ISh.den (S : ISh) : Type := LS.den S.args × BL.den S.bl

def AL.read (n : Nat) : (l : List Sh) → List AV → Option (LS.den l)
  | [], [] => some ()
  | s :: l, a :: aas => match s.read n a with
    | none => none
    | some x => match AL.read n l aas with
      | none => none
      | some y => some (x, y)
  | _, _ => none

inductive Callee where
  | pure (args : Ty) (res : List RT) (g : args.den → Option (RTs.den res))
  | inl (S O : ISh) (g : S.den → Option O.den)

structure Ctx where
  ty : Nat → Ty
  bytes : Nat → Nat
  fn : Nat → Option Callee
  writes : Nat → Bool
  mats : Nat → Bool
  vecs : Nat → Bool
  fins : Nat → Bool
  loops : Nat → Option (Shape × Shape)
  conds : Nat → Option Shape

def cval : Value → AV
  | .int k n => .d (.int k) n
  | .bool b => .d .bool b
  | .string s => .d .str s
  | .slice none 0 0 => .nils
  | .pointer none => .d .raw (.pointer none)
  | .nilFunc => .d .raw .nilFunc
  | .nilIface => .d .raw .nilIface
  | _ => .undef

def opv (st : St) : Operand → AV
  | .tmp k => (st.fr k).1
  | .const v => cval v
  | .func f => .fn f []
  | .global _ => .undef

/-- Arguments as typed data. -/
def toArgs : (τ : Ty) → List AV → Option τ.den
  | .unit, [] => some ()
  | .cons a b, x :: l => match x.to a with
    | none => none
    | some v => match toArgs b l with
      | none => none
      | some w => some (v, w)
  | _, _ => none

def cmpInt (op : BinOp) (a b : Int) : Option Bool :=
  match op with
  | .eql => some (decide (a = b))
  | .neq => some (decide (a ≠ b))
  | .lss => some (decide (a < b))
  | .leq => some (decide (a ≤ b))
  | .gtr => some (decide (b < a))
  | .geq => some (decide (b ≤ a))
  | _ => none

def cmpStr (op : BinOp) (a b : ByteArray) : Option Bool :=
  match op with
  | .eql => some (decide (a = b))
  | .neq => some (decide (a ≠ b))
  | .lss => some (Op.bytesLess a.toList b.toList)
  | .leq => some (Op.bytesLess a.toList b.toList || decide (a = b))
  | .gtr => some (!(Op.bytesLess a.toList b.toList || decide (a = b)))
  | .geq => some (!Op.bytesLess a.toList b.toList)
  | _ => none

def bits (op : BinOp) (k : IntKind) (x y : Int) : Option Int :=
  let a := BitVec.ofInt k.bits x
  let b := BitVec.ofInt k.bits y
  match op with
  | .and => some (k.wrap (a &&& b).toNat)
  | .or => some (k.wrap (a ||| b).toNat)
  | .xor => some (k.wrap (a ^^^ b).toNat)
  | .andNot => some (k.wrap (a &&& ~~~b).toNat)
  | _ => none

def appendMost : Nat := 2 ^ 40

section
variable {R : Type}

def K1 (K : Eff → Option R) (a : AV) : Option R := K { val := a }

def evBin (τ : Ty) (op : BinOp) (x y : AV) (K : Eff → Option R) : Option R :=
  match x, y with
  | .d (.int k) a, .d (.int k') b =>
    match op with
    | .add => if k = k' then K1 K (.d (.int k) (k.wrap (a + b))) else none
    | .sub => if k = k' then K1 K (.d (.int k) (k.wrap (a - b))) else none
    | .mul => if k = k' then K1 K (.d (.int k) (k.wrap (a * b))) else none
    | .quo => if k = k' then (if b = 0 then none else K1 K (.d (.int k) (k.wrap (a.tdiv b)))) else none
    | .rem => if k = k' then (if b = 0 then none else K1 K (.d (.int k) (a.tmod b))) else none
    | .shl => if b < 0 then none else K1 K (.d (.int k) (k.wrap (a * 2 ^ (min b.toNat k.bits))))
    | .shr => if b < 0 then none else K1 K (.d (.int k) (a.fdiv (2 ^ (min b.toNat k.bits))))
    | op => if k = k' then (match cmpInt op a b with
      | some c => K1 K (.d .bool c)
      | none => match bits op k a b with
        | some c => K1 K (.d (.int k) c)
        | none => none) else none
  | .d .str a, .d .str b =>
    match op with
    | .add => if ((a.size + b.size : Nat) : Int) ≤ IntKind.i64.max then K1 K (.d .str (a ++ b)) else none
    | op => match cmpStr op a b with
      | some c => K1 K (.d .bool c)
      | none => none
  | .d .bool a, .d .bool b =>
    match op with
    | .eql => if τ = .bool then K1 K (.d .bool (a == b)) else none
    | .neq => if τ = .bool then K1 K (.d .bool (!(a == b))) else none
    | _ => none
  | _, _ => none

def evUn (op : UnOp) (x : AV) (K : Eff → Option R) : Option R :=
  match op, x with
  | .not, .d .bool b => K1 K (.d .bool (!b))
  | .neg, .d (.int k) n => K1 K (.d (.int k) (k.wrap (0 - n)))
  | _, _ => none

/-- 'indexAddr' -/
def evIndexAddr (τ : Ty) (bl : List Blk) (x i : AV) (K : Eff → Option R) : Option R :=
  match i with
  | .d (.int _) n => match x with
    | .d (.slice e) xs => if τ = .slice e then (if 0 ≤ n ∧ n < xs.length then K1 K (.pdat e (List.getD xs n.toNat e.zero)) else none) else none
    | .own e xs => if τ = .slice e then (if 0 ≤ n ∧ n < xs.length then K1 K (.pdat e (List.getD xs n.toNat e.zero)) else none) else none
    | .msl r => match bl[r]? with
      | some (.arr e xs) => if τ = .slice e then (if 0 ≤ n ∧ n < xs.length then K1 K (.pel r n) else none) else none
      | some (.mat e rows) => if τ = .slice (.slice e) then (if 0 ≤ n ∧ n < rows.length then K1 K (.pel r n) else none) else none
      | _ => none
    | .mrow r i => match bl[r]? with
      | some (.mat e rows) => if τ = .slice e then ((List.getD rows i.toNat none).bind fun xs => if 0 ≤ n ∧ n < xs.length then K1 K (.mel r i n) else none) else none
      | _ => none
    | .ptr r off => match τ with
      | .arr m e => if 0 ≤ n ∧ n < m then (if e.scalar then K1 K (.pix r off n) else K1 K (.ptr r (off + n.toNat * e.width))) else none
      | _ => none
    | .pdat (.arr m e) xs => if 0 ≤ n ∧ n < m then (if τ = .arr m e then K1 K (.pdat e (List.getD xs n.toNat e.zero)) else none) else none
    | _ => none
  | _ => none

def evIndex (τ : Ty) (x i : AV) (K : Eff → Option R) : Option R :=
  match i with
  | .d (.int _) n => match x with
    | .d .str s => if τ = .str then (if 0 ≤ n ∧ n < s.size then K1 K (.d (.int .u8) ((s.data.getD n.toNat 0).toNat : Int)) else none) else none
    | .d (.arr m e) xs => if τ = .arr m e then (if 0 ≤ n ∧ n < m then K1 K (.d e (List.getD xs n.toNat e.zero)) else none) else none
    | _ => none
  | _ => none

def evLoad (τ : Ty) (bl : List Blk) (x : AV) (K : Eff → Option R) : Option R :=
  match x with
  | .pdat τ' v => if τ' = τ then K1 K (.d τ' v) else none
  | .ptr r off => match bl[r]? with
    | some (.box ls) => match cut off ls with
      | some (_, rest) => match rest with
        | .own e xs :: _ => if τ = .slice e then K { val := .d (.slice e) xs, alias := some (.leaf r off) } else none
        | .ptr r' o' :: _ => if τ = .raw then K1 K (.ptr r' o') else none
        | .fn f c :: _ => if τ = .raw then K1 K (.fn f c) else none
        | rest => match fromLeaves τ rest with
          | some (v, _) => K1 K (.d τ v)
          | none => none
      | none => none
    | _ => none
  | .pix r off i => match bl[r]? with
    | some (.box ls) => match cut off ls with
      | some (_, .d (.arr n e) xs :: _) => if e = τ ∧ e.scalar = true then (if i < n then K1 K (.d e (List.getD xs i.toNat e.zero)) else none) else none
      | _ => none
    | _ => none
  | .pel r i => match bl[r]? with
    | some (.arr e xs) => if e = τ then K1 K (.d e (List.getD xs i.toNat e.zero)) else none
    | some (.mat e rows) => if τ = .slice e then ((List.getD rows i.toNat none).bind fun _ => K1 K (.mrow r i)) else none
    | _ => none
  | .mel r i j => match bl[r]? with
    | some (.mat e rows) => if e = τ then ((List.getD rows i.toNat none).bind fun xs => K1 K (.d e (List.getD xs j.toNat e.zero))) else none
    | _ => none
  | .uptr r n off => match bl[r]? with
    | some (.vec e xs has ls) => if has = true ∧ n = xs.length then (match cut off ls with
      | some (_, rest) => match rest with
        | .own e xs :: _ => if τ = .slice e then K { val := .d (.slice e) xs, alias := some (.leaf r off) } else none
        | rest => match fromLeaves τ rest with
          | some (v, _) => K1 K (.d τ v)
          | none => none
      | none => none) else none
    | _ => none
  | _ => none

/-- 'store' of what stands in operand y. -/
def evStore (τ : Ty) (bl : List Blk) (x : AV) (y : AV) (o : Operand) (K : Eff → Option R) : Option R :=
  match x with
  | .ptr r off => match bl[r]? with
    | some (.box ls) => match cut off ls with
      | some (pre, rest) => match strike τ.width rest with
        | some post => match y with
          | .own e xs => match o with
            | .tmp k => if τ = .slice e then K { bupd := some (r, .box (pre ++ .own e xs :: post)), dem := some k } else none
            | _ => none
          | y => match y.leaves τ with
            | some new => if wide new then K { bupd := some (r, .box (pre ++ new ++ post)) } else none
            | none => none
        | none => none
      | none => none
    | _ => none
  | .pix r off i => match bl[r]? with
    | some (.box ls) => match cut off ls with
      | some (pre, .d (.arr n e) xs :: post) => if e = τ ∧ e.scalar = true then (if i < n then (match y.to1 e with
        | some v => K { bupd := some (r, .box (pre ++ .d (.arr n e) (List.set xs i.toNat v) :: post)) }
        | none => none) else none) else none
      | _ => none
    | _ => none
  | .pel r i => match bl[r]? with
    | some (.arr e xs) => if e = τ then (match y.to e with
      | some v => K { bupd := some (r, .arr e (List.set xs i.toNat v)) }
      | none => none) else none
    | some (.mat e rows) => if τ = .slice e then (match y with
      | .msl r2 => match bl[r2]? with
        | some (.arr e' xs) => if h : e' = e then (if (List.getD rows i.toNat none).isSome = true then none else K { bupd := some (r, .mat e (List.set rows i.toNat (some (h ▸ xs)))), bgone := some r2 }) else none
        | _ => none
      | _ => none) else none
    | _ => none
  | .mel r i j => match bl[r]? with
    | some (.mat e rows) => if e = τ then (match y.to e with
      | some v => (List.getD rows i.toNat none).bind fun xs => K { bupd := some (r, .mat e (List.set rows i.toNat (some (List.set xs j.toNat v)))) }
      | none => none) else none
    | _ => none
  | .uptr r n off => match bl[r]? with
    | some (.vec e xs has ls) => match cut off ls with
      | some (pre, .d τ' _ :: post) => match y with
        | .own e' ys => match o with
          | .tmp k => if τ = .slice e' ∧ τ' = τ then (if has = true ∧ n = xs.length then K { bupd := some (r, .vec e xs has (pre ++ .own e' ys :: post)), dem := some k } else none) else none
          | _ => none
        | _ => none
      | _ => none
    | _ => none
  | _ => none

def loOf : Option AV → Option Int
  | none => some 0
  | some (.d (.int _) n) => some n
  | _ => none
def hiOf : Option AV → Option (Option Int)
  | none => some none
  | some (.d (.int _) n) => some (some n)
  | _ => none

def evSlice (τ : Ty) (x : AV) (lo hi : Option AV) (K : Eff → Option R) : Option R :=
  match loOf lo, hiOf hi with
  | some l, some h => match x with
    | .d .str s => match h with
      | some h => if τ = .str then (if 0 ≤ l ∧ l ≤ h ∧ h ≤ s.size then K1 K (.d .str (s.extract l.toNat h.toNat)) else none) else none
      | none => if τ = .str then (if 0 ≤ l ∧ l ≤ s.size then K1 K (.d .str (s.extract l.toNat s.size)) else none) else none
    | .d (.slice e) xs => match h with
      | some h => if τ = .slice e then (if 0 ≤ l ∧ l ≤ h ∧ h ≤ xs.length then K1 K (.d (.slice e) ((xs.take h.toNat).drop l.toNat)) else none) else none
      | none => if τ = .slice e then (if 0 ≤ l ∧ l ≤ xs.length then K1 K (.d (.slice e) (xs.drop l.toNat)) else none) else none
    | _ => none
  | _, _ => none

/-- 'append(x, y...)': x own in its slot, or a copy of what is own at a place. -/
def evAppend (τ : Ty) (bytes : Nat) (st : St) (x y : Operand) (K : Eff → Option R) : Option R :=
  match x with
  | .tmp k => match st.fr k with
    | (.own e xs, _) => if τ = .slice e then (match (opv st y).to1 (.slice e) with
      | some ys => if (xs.length + ys.length) * (bytes + 1) ≤ appendMost then K { val := .own e (xs ++ ys), dem := some k } else none
      | none => none) else none
    | (_, some (.slot j)) => match (st.fr j).1 with
      | .own e xs => if τ = .slice e then (match (opv st y).to1 (.slice e) with
        | some ys => if (xs.length + ys.length) * (bytes + 1) ≤ appendMost then K { val := .own e (xs ++ ys), dem := some j } else none
        | none => none) else none
      | _ => none
    | (_, some (.leaf r off)) => match st.bl[r]? with
      | some (.box ls) => match cut off ls with
        | some (pre, .own e xs :: post) => if τ = .slice e then (match (opv st y).to1 (.slice e) with
          | some ys => if (xs.length + ys.length) * (bytes + 1) ≤ appendMost then K { val := .own e (xs ++ ys), bupd := some (r, .box (pre ++ .d (.slice e) xs :: post)) } else none
          | none => none) else none
        | _ => none
      | some (.vec e' xs' has ls) => match cut off ls with
        | some (pre, .own e xs :: post) => if τ = .slice e then (match (opv st y).to1 (.slice e) with
          | some ys => if has = true ∧ (xs.length + ys.length) * (bytes + 1) ≤ appendMost then K { val := .own e (xs ++ ys), bupd := some (r, .vec e' xs' has (pre ++ .d (.slice e) xs :: post)) } else none
          | none => none) else none
        | _ => none
      | _ => none
    | _ => none
  | _ => none

def evLen (τ : Ty) (bl : List Blk) (x : AV) (K : Eff → Option R) : Option R :=
  match τ with
  | .str => match x with
    | .d .str s => K1 K (.d (.int .i64) (s.size : Int))
    | _ => none
  | .slice _ => match x with
    | .d (.slice _) xs => K1 K (.d (.int .i64) (xs.length : Int))
    | .own _ xs => K1 K (.d (.int .i64) (xs.length : Int))
    | .nils => K1 K (.d (.int .i64) (0 : Int))
    | .msl r => match bl[r]? with
      | some (.arr _ xs) => K1 K (.d (.int .i64) (xs.length : Int))
      | some (.mat _ rows) => K1 K (.d (.int .i64) (rows.length : Int))
      | _ => none
    | .mrow r i => match bl[r]? with
      | some (.mat _ rows) => (List.getD rows i.toNat none).bind fun xs => K1 K (.d (.int .i64) (xs.length : Int))
      | _ => none
    | _ => none
  | _ => none

/-- The parts of a literal slice, in order. -/
def parts (e : Ty) (st : St) : Nat → List (Nat × Operand) → Option (List e.den)
  | _, [] => some []
  | n, (i, o) :: l => if i = n then (match (opv st o).to e with
    | some x => match parts e st (n + 1) l with
      | some xs => some (x :: xs)
      | none => none
    | none => none) else none

/-- A part's leaves. -/
def newLeaves (τ' : Ty) (a : AV) : Option (List AV) :=
  match a with
  | .nils => match τ' with
    | .slice _ => some [.nils]
    | _ => none
  | .agl ms => match settle τ' ms with
    | some (_, []) => some ms
    | _ => none
  | .fn f c => if τ' = .raw then some [.fn f c] else none
  | .ptr r o => if τ' = .raw then some [.ptr r o] else none
  | a => (a.to1 τ').map (explode τ')

def partOf (τ : Ty) (i : Nat) : Option (Ty × Nat) :=
  match τ with
  | .agg p => match p.sub i with
    | some s => some (s.τ, s.off)
    | none => none
  | .arr _ e => some (e, i * e.width)
  | _ => none

/-- A struct's leaves with parts laid in. -/
def fillParts (τ : Ty) (st : St) : List (Nat × Operand) → List AV → Option (List AV)
  | [], ls => some ls
  | (i, o) :: l, ls => match partOf τ i with
    | none => none
    | some (τ', off) => match cut off ls with
      | some (pre, rest) => match strike τ'.width rest with
        | some post => match newLeaves τ' (opv st o) with
          | some new => fillParts τ st l (pre ++ new ++ post)
          | none => none
        | none => none
      | none => none

def evOp (C : Ctx) (o : Oper) (st : St) (K : Eff → Option R) : Option R :=
  match o.op with
  | .move x => match x with
    | .tmp k => match (st.fr k).1 with
      | .own e xs => K { val := .d (.slice e) xs, alias := some (.slot k) }
      | a => K { val := a, alias := (st.fr k).2 }
    | x => K1 K (opv st x)
  | .assign x => match x with
    | .tmp k => match (st.fr k).1 with
      | .own e xs => K { val := .own e xs, dem := some k }
      | a => K1 K a
    | x => match opv st x with
      | .nils => match C.ty o.type with
        | .slice e => K1 K (.own e [])
        | _ => none
      | a => K1 K a
  | .pick c a b => match opv st c with
    | .d .bool c => match c with
      | true => K1 K (opv st a).dem
      | false => K1 K (opv st b).dem
    | _ => none
  | .alloc t => if C.ty t = .unit then none else if C.vecs (o.dst.getD 0) = true then (match C.ty t with
      | .slice e => match settle e (zeroLeaves e) with
        | some (ls, []) => if 0 < e.width then K { val := .ptr st.bl.length 0, bnew := some (.vec e [] false ls) } else none
        | _ => none
      | _ => none) else (match settle (C.ty t) (zeroLeaves (C.ty t)) with
    | some (ls, []) => if wide ls = true then K { val := .ptr st.bl.length 0, bnew := some (.box ls) } else none
    | _ => none)
  | .box t x => match opv st x with
    | .own e xs => match x with
      | .tmp k => if C.ty t = .slice e then K { val := .ptr st.bl.length 0, bnew := some (.box [.own e xs]), dem := some k } else none
      | _ => none
    | a => match a.leaves (C.ty t) with
      | some ls => if wide ls = true then K { val := .ptr st.bl.length 0, bnew := some (.box ls) } else none
      | none => none
  | .build t ps => if (C.ty t).isAgg = true then (match fillParts (C.ty t) st ps.toList (zeroLeaves (C.ty t)) with
    | some ls => K1 K (.agl ls)
    | none => none) else none
  | .buildSlice t n ps => match C.ty t with
    | .slice e => if ps.size = n ∧ n * e.width ≤ 16777216 then (match parts e st 0 ps.toList with
      | some xs => if C.writes (o.dst.getD 0) = true then K { val := .msl st.bl.length, bnew := some (.arr e xs) } else K1 K (.own e xs)
      | none => none) else none
    | _ => none
  | .load t a => if C.ty t = .unit then none else if C.fins (o.dst.getD 0) = true then (match opv st a with
      | .ptr r 0 => match st.bl[r]? with
        | some (.vec e xs has ls) => match fromLeaves e ls with
          | some (v, []) => if C.ty t = .slice e then K { val := .d (.slice e) (if has = true then xs ++ [v] else xs), bgone := some r } else none
          | _ => none
        | _ => none
      | _ => none) else evLoad (C.ty t) st.bl (opv st a) K
  | .store t a v => if C.ty t = .unit then none else evStore (C.ty t) st.bl (opv st a) (opv st v) v K
  | .nilCheck x => match opv st x with
    | .ptr r off => K1 K (.ptr r off)
    | .pix r off i => K1 K (.pix r off i)
    | .pel r i => K1 K (.pel r i)
    | .pdat τ x => K1 K (.pdat τ x)
    | .fn f c => K1 K (.fn f c)
    | .uptr r n off => K1 K (.uptr r n off)
    | _ => none
  | .binOp op t x y _ => evBin (C.ty t) op (opv st x) (opv st y) K
  | .unOp op _ x => evUn op (opv st x) K
  | .convert s t x => match C.ty s, C.ty t, opv st x with
    | .int _, .int k, .d (.int _) n => K1 K (.d (.int k) (k.wrap n))
    | .str, .str, .d .str s => K1 K (.d .str s)
    | _, _, _ => none
  | .makeSlice t l c => match C.ty t with
    | .slice e => match opv st l, opv st c with
      | .d (.int _) n, .d (.int _) m => if e.noRaw = true then (if 0 ≤ n ∧ n ≤ m ∧ m * (C.bytes t + 1) ≤ (appendMost : Nat) then
          (if C.writes (o.dst.getD 0) = true then (if n = m then K { val := .msl st.bl.length, bnew := some (.arr e (List.replicate n.toNat e.zero)) } else none)
           else if C.mats (o.dst.getD 0) = true then (match e with
             | .slice e2 => if n = m ∧ 0 < e2.width then K { val := .msl st.bl.length, bnew := some (.mat e2 (List.replicate n.toNat none)) } else none
             | _ => none)
           else K1 K (.own e (List.replicate n.toNat e.zero))) else none) else none
      | _, _ => none
    | _ => none
  | .slice t x lo hi none => if C.ty t = .unit then none else evSlice (C.ty t) (opv st x).dem (lo.map (opv st)) (hi.map (opv st)) K
  | .fieldAddr t x i => match C.ty t with
    | .agg p => match p.sub i with
      | some s => match opv st x with
        | .ptr r off => K1 K (.ptr r (off + s.off))
        | .uptr r n off => K1 K (.uptr r n (off + s.off))
        | .pdat τ v => if h : τ = .agg p then K1 K (.pdat s.τ (s.get (show (Ty.agg p).den from h ▸ v))) else none
        | _ => none
      | none => none
    | _ => none
  | .field t x i => match C.ty t with
    | .agg p => match p.sub i with
      | some s => match (opv st x).to (.agg p) with
        | some v => K1 K (.d s.τ (s.get v))
        | none => none
      | none => none
    | _ => none
  | .indexAddr t x i => evIndexAddr (C.ty t) st.bl (opv st x) (opv st i) K
  | .index t x i => evIndex (C.ty t) (opv st x) (opv st i) K
  | .extract x i => match opv st x with
    | .tup l => match l[i]? with
      | some a => K1 K a
      | none => none
    | _ => none
  | .makeFunc (.func f) first caps => if first.size = 0 then K1 K (.fn f (caps.toList.map fun x => (opv st x).dem)) else none
  | .call c => match c.callee with
    | .builtin b => match b, c.args.toList with
      | .len, [x] => if c.argTypes.size = 1 then evLen (C.ty (c.argTypes.getD 0 0)) st.bl (opv st x) K else none
      | .append, [x, y] => if C.ty (c.argTypes.getD 0 0) = C.ty (c.argTypes.getD 1 0) ∧ c.argTypes.size = 2 then evAppend (C.ty (c.argTypes.getD 0 0)) (C.bytes (c.argTypes.getD 0 0)) st x y K else none
      | .min, [x, y] => match opv st x, opv st y with
        | .d (.int k) a, .d (.int k') b => if k = k' then K1 K (.d (.int k) (if b < a then b else a)) else none
        | _, _ => none
      | .max, [x, y] => match opv st x, opv st y with
        | .d (.int k) a, .d (.int k') b => if k = k' then K1 K (.d (.int k) (if a < b then b else a)) else none
        | _, _ => none
      | _, _ => none
    | .value f => match fnOf (opv st f) with
      | some (fid, caps) => match C.fn fid with
        | some (.pure τ rs g) => match caps with
          | [] => match toArgs τ (c.args.toList.map (opv st)) with
            | some x => (g x).bind fun r => K1 K (RTs.av rs r)
            | none => none
          | _ => none
        | some (.inl S O g) => if S.bl.length = st.bl.length then (match AL.read st.bl.length S.args (c.args.toList.map (fun x => (opv st x).dem) ++ caps) with
          | some x => match BL.read st.bl.length S.bl st.bl with
            | some y => (g (x, y)).bind fun o => K { val := resAV (LS.mk O.args o.1), ball := some (BL.mk O.bl o.2) }
            | none => none
          | none => none) else none
        | _ => none
      | none => none
    | _ => none
  | _ => none

/-- A guard: is the operation carried out? -/
def guardOf (ops : Array Oper) (o : Oper) : Option (Nat × Bool) :=
  match o.guard with
  | none => none
  | some (j, want) => match (ops[j]?).bind (·.dst) with
    | some k => some (k, want)
    | none => none

def Eff.calm (E : Eff) : Option (AV × Option Place) :=
  match E.dem, E.bupd, E.bnew, E.bgone, E.ball with
  | none, none, none, none, none => some (E.val.dem, E.alias)
  | _, _, _, _, _ => none

def St.put (st : St) (dst : Option Nat) (x : AV × Option Place) : St :=
  match dst with
  | some d => { st with fr := upd st.fr d x }
  | none => st

def onCalm (K : AV × Option Place → Option R) (E : Eff) : Option R :=
  match E.calm with
  | some x => K x
  | none => none

/-- An operation that others may overtake: it yields a value, and does no more. -/
def evStepQ (C : Ctx) (ops : Array Oper) (o : Oper) (st : St) (K : St → Option R) : Option R :=
  match o.guard with
  | none => evOp C o st (onCalm fun x => K (st.put o.dst x))
  | some (j, want) => match (ops[j]?).bind (·.dst) with
    | none => none
    | some k => match st.fr k with
      | (.d .bool b, al) => if b = want then evOp C o st (onCalm fun x => K (St.put { st with fr := upd st.fr k (.d .bool want, al) } o.dst x))
          else K (St.put { st with fr := upd st.fr k (.d .bool (!want), al) } o.dst (.tup [], none))
      | (.tup [], _) => K (St.put st o.dst (.tup [], none))
      | _ => none

/-- One operation, in a region's order. -/
def evStep (C : Ctx) (ops : Array Oper) (o : Oper) (st : St) (K : St → Option R) : Option R :=
  match o.guard with
  | none => evOp C o st fun E => K (E.on o.dst st)
  | some (j, want) => match (ops[j]?).bind (·.dst) with
    | none => none
    | some k => match st.fr k with
      | (.d .bool b, al) => if b = want then evOp C o { st with fr := upd st.fr k (.d .bool want, al) } fun E => K (E.on o.dst { st with fr := upd st.fr k (.d .bool want, al) })
          else K (St.put { st with fr := upd st.fr k (.d .bool (!want), al) } o.dst (.tup [], none))
      | (.tup [], _) => K (St.put st o.dst (.tup [], none))
      | _ => none

/-- A copy of a slot that is no copy of a place: it may be made ahead of what follows, or later. -/
def resS (o : Oper) (st : St) : Option (AV × Option Place) :=
  match o.guard, o.op with
  | none, .move (.tmp k) => some ((st.fr k).1.dem, none)
  | _, _ => none

def evStepS (o : Oper) (st : St) (K : St → Option R) : Option R :=
  match resS o st with
  | some x => K (st.put o.dst x)
  | none => none

/-- Bits: which operations are made in any order; 4096 further on: which are mere copies. -/
def still (m i : Nat) : Bool := m.testBit (i + 4096)

def evOps (C : Ctx) (ops : Array Oper) (m : Nat) : Nat → List Oper → St → (St → Option R) → Option R
  | _, [], st, K => K st
  | i, o :: l, st, K => if still m i = true then evStepS o st fun st => evOps C ops m (i + 1) l st K else if m.testBit i = true then evStepQ C ops o st fun st => evOps C ops m (i + 1) l st K else evStep C ops o st fun st => evOps C ops m (i + 1) l st K

end

/-- Which operations come ahead of each, as bits. -/
def ancs (ops : Array Oper) : List Nat :=
  ops.toList.foldl (fun acc o => acc ++ [o.after.toList.foldl (fun m e => if Region.binds .any e then m ||| (1 <<< e.on) ||| acc.getD e.on 0 else m) 0]) []

def unord (A : List Nat) (i j : Nat) : Bool := !(A.getD j 0).testBit i && !(A.getD i 0).testBit j && i != j

def isAppend (o : Oper) : Bool :=
  match o.guard, o.op with
  | none, .call c => (match c.callee with
    | .builtin .append => true
    | _ => false)
  | _, _ => false

def isCopy (o : Oper) : Bool :=
  match o.guard, o.op with
  | none, .move (.tmp _) => true
  | _, _ => false

/-- An append that only copies ahead of it may follow. -/
def held (ops : Array Oper) (A : List Nat) (j : Nat) : Bool :=
  (match ops[j]? with
    | some o => isAppend o
    | none => false) && (List.range ops.size).all fun i => !unord A i j || (decide (i < j) && (match ops[i]? with
    | some o => isCopy o
    | none => false))

def looseMask (ops : Array Oper) : Nat :=
  let A := ancs ops
  (List.range ops.size).foldl (fun m i => if (List.range ops.size).any (unord A i) then (if held ops A i then m else if (List.range ops.size).any (fun j => unord A i j && held ops A j) then m ||| (1 <<< (i + 4096)) else m ||| (1 <<< i)) else m) 0

def firstReg : Code → Nat
  | .region id _ _ => id
  | .seq a _ => firstReg a
  | .block _ b => firstReg b
  | .scope b => firstReg b
  | .loop b => firstReg b
  | _ => 1000000

def outK (O : Shape) (c : Ctl) (st : St) : Option (Ctl × O.den) :=
  match O.read st with
  | some o => some (c, o)
  | none => none

/-- A loop, as a function of what its head holds. -/
def loopD (S O : Shape) (step : St → (Ctl → St → Option (Ctl × O.den)) → Option (Ctl × O.den)) : Nat → S.den → Option (Ctl × O.den)
  | 0, _ => none
  | n + 1, s => step (S.mk' s) fun c st => c.elim (match S.read st with
      | some s => loopD S O step n s
      | none => none) (fun id => outK O (.exit id) st) (fun l => outK O (.goto l) st) (outK O .ret st)

def condKey : Operand → Nat
  | .tmp k => k
  | _ => 1000000

/-- The body of the loop whose first region is this. -/
def loopAt (id : Nat) : Code → Option Code
  | .loop c => if firstReg c = id then some c else loopAt id c
  | .seq a b => match loopAt id a with
    | some c => some c
    | none => loopAt id b
  | .block _ c => loopAt id c
  | .scope c => loopAt id c
  | .cond _ a b => match loopAt id a with
    | some c => some c
    | none => loopAt id b
  | .rangeFunc _ _ a b => match loopAt id a with
    | some c => some c
    | none => loopAt id b
  | _ => none

/-- Is it a test of guarded parts that come to one bool? Then what it leaves is that bool alone. -/
def joins (C : Ctx) (ops : Array Oper) : Option Nat :=
  if ops.toList.any (fun o => o.guard.isSome) then (match ops.toList.getLast? with
    | some o => match o.dst, C.ty o.type with
      | some d, .bool => some d
      | _, _ => none
    | none => none) else none

def maskOf (C : Ctx) (ops : Array Oper) (draw : Bool) : Nat :=
  match joins C ops with
  | some _ => 2 ^ ops.size - 1
  | none => if draw then looseMask ops else 0

def boolOf (st : St) (d : Nat) : Option Bool :=
  match (st.fr d).1 with
  | .d .bool b => some b
  | _ => none

/-- What a test leaves: its answer. -/
def joined (ops : Array Oper) (d : Nat) (st : St) (b : Bool) : St :=
  { st with fr := upd (fun j => if ops.toList.any (fun o => o.dst == some j) then (.undef, none) else st.fr j) d (.d .bool b, none) }

def ev (C : Ctx) (N : Nat) : Code → St → (R : Type) → (Ctl → St → Option R) → Option R
  | .skip, st, _, K => K .normal st
  | .region _ ops draw, st, _, K => match joins C ops with
    | none => evOps C ops (maskOf C ops draw) 0 ops.toList st fun st => K .normal st
    | some d => (evOps C ops (maskOf C ops draw) 0 ops.toList st fun st => boolOf st d).bind fun b => K .normal (joined ops d st b)
  | .seq a b, st, R, K => ev C N a st R fun c st => c.elim (ev C N b st R K) (fun id => K (.exit id) st) (fun l => K (.goto l) st) (K .ret st)
  | .cond c a b, st, R, K => match opv st c with
    | .d .bool t => match C.conds (condKey c) with
      | none => if t = true then ev C N a st R K else ev C N b st R K
      | some O => (if t = true then ev C N a st (Ctl × O.den) (outK O) else ev C N b st (Ctl × O.den) (outK O)).bind fun r => K r.1 (O.mk' r.2)
    | _ => none
  | .block id b, st, R, K => ev C N b st R fun c st => c.elim (K .normal st) (fun id' => if id' = id then K .normal st else K (.exit id') st) (fun l => K (.goto l) st) (K .ret st)
  | .loop b, st, R, K => match C.loops (firstReg b) with
    | some (S, O) => match S.read st with
      | some s => (loopD S O (fun st K => ev C N b st (Ctl × O.den) K) N s).bind fun r => r.1.elim none (fun id => K (.exit id) (O.mk' r.2)) (fun l => K (.goto l) (O.mk' r.2)) (K .ret (O.mk' r.2))
      | none => none
    | none => none
  | .exit id, st, _, K => K (.exit id) st
  | .label _, st, _, K => K .normal st
  | .goto l, st, _, K => K (.goto l) st
  | .scope b, st, R, K => ev C N b st R fun c st => c.elim (K .normal st) (fun id => K (.exit id) st) (fun _ => none) (K .ret st)
  | .ret, st, _, K => K .ret st
  | _, _, _, _ => none

/-- The rows of a table, if all of them are made. -/
def allRows {α : Type} : List (Option α) → Option (List α)
  | [] => some []
  | none :: _ => none
  | some x :: l => (allRows l).map (x :: ·)

/-- The results. -/
def collect (C : Ctx) : (rs : List RT) → List ResultVar → St → Option (RTs.den rs)
  | [], [], _ => some ()
  | .d τ :: rs, .tmp t :: l, st => Option.bind (match (st.fr t).1 with
      | .msl r => match st.bl[r]? with
        | some (.arr e xs) => (AV.d (.slice e) xs).to1 τ
        | some (.mat e rows) => (allRows rows).bind fun xs => (AV.d (.slice (.slice e)) xs).to1 τ
        | _ => none
      | a => a.to τ : Option τ.den) fun x => (collect C rs l st).bind fun y => some (x, y)
  | .d τ :: rs, .cell t u :: l, st => if C.ty u = τ ∧ τ ≠ .unit then (match (st.fr t).1 with
    | .ptr r off => match st.bl[r]? with
      | some (.box ls) => match cut off ls with
        | some (_, rest) => match fromLeaves τ rest with
          | some (x, _) => match collect C rs l st with
            | some y => some (x, y)
            | none => none
          | none => none
        | none => none
      | _ => none
    | _ => none) else none
  | .own e :: rs, .tmp t :: l, st => match (match (st.fr t).1 with
      | .own e' xs => if h : e' = e then some (h ▸ xs) else none
      | _ => none : Option (List e.den)) with
    | some x => match collect C rs l st with
      | some y => some (x, y)
      | none => none
    | none => none
  | _, _, _ => none

def argAVs : (τ : Ty) → τ.den → List AV
  | .cons a b, x => .d a x.1 :: argAVs b x.2
  | _, _ => []

def enterFr (l : List AV) : Nat → AV × Option Place := fun k => (l.getD k .undef, none)

/-- A function on typed data: what it answers. -/
def run (C : Ctx) (N : Nat) (fn : Func) (τ : Ty) (rs : List RT) (x : τ.den) : Option (RTs.den rs) :=
  match fn.body with
  | none => none
  | some c => ev C N c { fr := enterFr (argAVs τ x), bl := [] } (RTs.den rs) fun ctl st => ctl.elim (collect C rs fn.results.toList st) (fun _ => none) (fun _ => none) (collect C rs fn.results.toList st)

/-- A loop of a function's. -/
def loopFn (C : Ctx) (N : Nat) (b : Code) (S O : Shape) : Nat → S.den → Option (Ctl × O.den) := loopD S O (fun st K => ev C N b st (Ctl × O.den) K)

def loopCode (f : Func) (id : Nat) : Code := ((f.body).bind (loopAt id)).getD .skip

end Go.Ev

/-
  WHAT THE EVALUATOR's VALUES SAY OF THE MODEL's WORLD: the reading of typed data, whom a block belongs to, the invariant; and that it lasts.
-/
namespace Go.Ev
open Go.RowKit (Below)

inductive Parts {α : Type} (R : List Value → α → Prop) : List Value → List α → Prop
  | nil : Parts R [] []
  | cons {c cs : List Value} {x : α} {xs : List α} : R c x → Parts R cs xs → Parts R (c ++ cs) (x :: xs)

abbrev Com := Nat → Nat → Prop

def At (com : Com) (w : World) (a : Addr) (cs : List Value) : Prop :=
  ∀ j v, cs[j]? = some v → com a.block (a.off + j) ∧ w.cell? ⟨a.block, a.off + j, none⟩ = some v

def Lies (com : Com) (w : World) (base : Option Addr) (cs : List Value) : Prop := cs = [] ∨ ∃ a, base = some a ∧ a.spot = none ∧ At com w a cs

def Cells (com : Com) (w : World) : (τ : Ty) → List Value → τ.den → Prop
  | .int k, cs, n => cs = [.int k n]
  | .bool, cs, b => cs = [.bool b]
  | .str, cs, s => cs = [.string s]
  | .slice e, cs, xs => ∃ base len cap ds, cs = [.slice base len cap] ∧ len = xs.length ∧ len ≤ cap ∧ Parts (Cells com w e) ds xs ∧ Lies com w base ds
  | .arr n e, cs, xs => xs.length = n ∧ Parts (Cells com w e) cs xs
  | .agg p, cs, x => Cells com w p cs x
  | .unit, cs, _ => cs = []
  | .cons a b, cs, x => ∃ c1 c2, cs = c1 ++ c2 ∧ Cells com w a c1 x.1 ∧ Cells com w b c2 x.2
  | .raw, cs, v => cs = [v] ∧ v.oneCell' = true

def isAggV : Value → Bool
  | .agg _ => true
  | _ => false

def Val (com : Com) (w : World) (τ : Ty) (v : Value) (x : τ.den) : Prop := Cells com w τ v.cells.toList x ∧ isAggV v = τ.isAgg

theorem cells_of_not_agg {v : Value} (h : isAggV v = false) : v.cells = #[v] := by cases v <;> simp_all [isAggV, Value.cells]
theorem agg_of_isAgg {v : Value} (h : isAggV v = true) : v = .agg v.cells := by cases v <;> simp_all [isAggV, Value.cells]

section
variable {α : Type} {R R' : List Value → α → Prop}

theorem Parts.len {n : Nat} (hR : ∀ c x, R c x → c.length = n) {cs : List Value} {xs : List α} (h : Parts R cs xs) : cs.length = xs.length * n := by
  induction h with
  | nil => simp
  | cons hx _ ih => simp [hR _ _ hx, ih, Nat.add_mul, Nat.add_comm]

theorem Parts.mono (hR : ∀ c x, R c x → R' c x) {cs : List Value} {xs : List α} (h : Parts R cs xs) : Parts R' cs xs := by
  induction h with
  | nil => exact .nil
  | cons hx _ ih => exact .cons (hR _ _ hx) ih

theorem Parts.append {cs cs' : List Value} {xs xs' : List α} (h : Parts R cs xs) (h' : Parts R cs' xs') : Parts R (cs ++ cs') (xs ++ xs') := by
  induction h with
  | nil => simpa using h'
  | cons hx _ ih => rw [List.append_assoc]; exact .cons hx ih

theorem Parts.all {p : Value → Prop} (hR : ∀ c x, R c x → ∀ v ∈ c, p v) {cs : List Value} {xs : List α} (h : Parts R cs xs) : ∀ v ∈ cs, p v := by
  induction h with
  | nil => intro v hv; cases hv
  | cons hx _ ih =>
    intro v hv
    rcases List.mem_append.1 hv with h | h
    · exact hR _ _ hx v h
    · exact ih v h

theorem Parts.drop {n : Nat} (hR : ∀ c x, R c x → c.length = n) : ∀ (k : Nat) {cs : List Value} {xs : List α}, Parts R cs xs → Parts R (cs.drop (k * n)) (xs.drop k)
  | 0, _, _, h => by simpa using h
  | k + 1, _, _, .nil => by simpa using Parts.nil
  | k + 1, _, _, .cons (c := c) (cs := cs) hx h => by
    have hl := hR _ _ hx
    have : (c ++ cs).drop ((k + 1) * n) = cs.drop (k * n) := by
      rw [Nat.add_mul, Nat.one_mul, List.drop_append, hl]
      simp [(show c.drop (k * n + n) = [] from List.drop_eq_nil_of_le (by omega))]
    rw [this]
    simpa using Parts.drop hR k h

theorem Parts.take {n : Nat} (hR : ∀ c x, R c x → c.length = n) : ∀ (k : Nat) {cs : List Value} {xs : List α}, Parts R cs xs → Parts R (cs.take (k * n)) (xs.take k)
  | 0, _, _, _ => by simpa using Parts.nil
  | k + 1, _, _, .nil => by simpa using Parts.nil
  | k + 1, _, _, .cons (c := c) (cs := cs) hx h => by
    have hl := hR _ _ hx
    have : (c ++ cs).take ((k + 1) * n) = c ++ cs.take (k * n) := by
      rw [Nat.add_mul, Nat.one_mul, List.take_append, hl]
      simp [List.take_of_length_le (l := c) (i := k * n + n) (by omega)]
    rw [this]
    simpa using Parts.cons hx (Parts.take hR k h)

theorem Parts.head {n : Nat} (hR : ∀ c x, R c x → c.length = n) {cs : List Value} {x : α} {xs : List α} (h : Parts R cs (x :: xs)) : R (cs.take n) x := by
  cases h with
  | cons hx _ => rw [List.take_left' (hR _ _ hx)]; exact hx

theorem Parts.get {n : Nat} (hR : ∀ c x, R c x → c.length = n) {cs : List Value} {xs : List α} (h : Parts R cs xs) (i : Nat) (hi : i < xs.length) : R ((cs.drop (i * n)).take n) xs[i] := by
  have h1 := h.drop hR i
  have h2 : xs.drop i = xs[i] :: xs.drop (i + 1) := List.drop_eq_getElem_cons hi
  rw [h2] at h1
  exact h1.head hR

theorem Parts.set {n : Nat} (hR : ∀ c x, R c x → c.length = n) {cs : List Value} {xs : List α} (h : Parts R cs xs) (i : Nat) (hi : i < xs.length) {c : List Value} {x : α} (hx : R c x) :
    Parts R (cs.take (i * n) ++ c ++ cs.drop (i * n + n)) (xs.set i x) := by
  have h1 := h.take hR i
  have h2 := h.drop hR (i + 1)
  have h3 : xs.set i x = xs.take i ++ [x] ++ xs.drop (i + 1) := by
    rw [List.set_eq_take_append_cons_drop, if_pos hi]; simp
  rw [h3]
  have h4 : (i + 1) * n = i * n + n := by rw [Nat.add_mul, Nat.one_mul]
  rw [← h4]
  refine (h1.append ?_).append h2
  simpa using Parts.cons hx .nil

theorem Parts.replicate {c : List Value} {x : α} (hx : R c x) : ∀ n : Nat, Parts R (List.replicate n c).flatten (List.replicate n x)
  | 0 => by simpa using Parts.nil
  | n + 1 => by simpa [List.replicate_succ] using Parts.cons hx (Parts.replicate hx n)
end

theorem Cells.len {com : Com} {w : World} : ∀ {τ : Ty} {cs : List Value} {x : τ.den}, Cells com w τ cs x → cs.length = τ.width
  | .int _, _, _, h => by simp only [Cells] at h; subst h; rfl
  | .bool, _, _, h => by simp only [Cells] at h; subst h; rfl
  | .str, _, _, h => by simp only [Cells] at h; subst h; rfl
  | .slice _, _, _, h => by
    simp only [Cells] at h
    obtain ⟨_, _, _, _, rfl, _⟩ := h
    rfl
  | .arr n e, _, x, h => by
    simp only [Cells] at h
    have := h.2.len (fun _ _ => Cells.len)
    rw [this, h.1]
    rfl
  | .agg p, _, _, h => by simp only [Cells] at h; exact h.len
  | .unit, _, _, h => by simp only [Cells] at h; subst h; rfl
  | .cons a b, _, _, h => by
    simp only [Cells] at h
    obtain ⟨c1, c2, rfl, h1, h2⟩ := h
    simp [h1.len, h2.len, Ty.width]
  | .raw, _, _, h => by simp only [Cells] at h; rw [h.1]; rfl

/-- every cell is the value of one cell -/
theorem Cells.one {com : Com} {w : World} : ∀ {τ : Ty} {cs : List Value} {x : τ.den}, Cells com w τ cs x → ∀ v ∈ cs, v.oneCell' = true
  | .int _, _, _, h => by simp only [Cells] at h; subst h; intro v hv; simp at hv; subst hv; rfl
  | .bool, _, _, h => by simp only [Cells] at h; subst h; intro v hv; simp at hv; subst hv; rfl
  | .str, _, _, h => by simp only [Cells] at h; subst h; intro v hv; simp at hv; subst hv; rfl
  | .slice _, _, _, h => by
    simp only [Cells] at h
    obtain ⟨_, _, _, _, rfl, _⟩ := h
    intro v hv; simp at hv; subst hv; rfl
  | .arr n e, _, x, h => by
    simp only [Cells] at h
    exact h.2.all (fun _ _ hx => Cells.one hx)
  | .agg p, _, _, h => by simp only [Cells] at h; exact h.one
  | .unit, _, _, h => by simp only [Cells] at h; subst h; intro v hv; cases hv
  | .cons a b, _, _, h => by
    simp only [Cells] at h
    obtain ⟨c1, c2, rfl, h1, h2⟩ := h
    intro v hv
    rcases List.mem_append.1 hv with h | h
    · exact h1.one v h
    · exact h2.one v h
  | .raw, _, _, h => by simp only [Cells] at h; rw [h.1]; intro v hv; simp at hv; subst hv; exact h.2

theorem At.mono {com com' : Com} {w w' : World} (hc : ∀ b o, com b o → com' b o) (hw : ∀ b o, com b o → w'.cell? ⟨b, o, none⟩ = w.cell? ⟨b, o, none⟩) {a : Addr} {cs : List Value} (h : At com w a cs) : At com' w' a cs :=
  fun j v hj => ⟨hc _ _ (h j v hj).1, (hw _ _ (h j v hj).1).trans (h j v hj).2⟩

theorem Lies.mono {com com' : Com} {w w' : World} (hc : ∀ b o, com b o → com' b o) (hw : ∀ b o, com b o → w'.cell? ⟨b, o, none⟩ = w.cell? ⟨b, o, none⟩) {a : Option Addr} {cs : List Value} (h : Lies com w a cs) : Lies com' w' a cs := by
  rcases h with h | ⟨a, h1, h2, h3⟩
  · exact .inl h
  · exact .inr ⟨a, h1, h2, h3.mono hc hw⟩

theorem Cells.mono {com com' : Com} {w w' : World} (hc : ∀ b o, com b o → com' b o) (hw : ∀ b o, com b o → w'.cell? ⟨b, o, none⟩ = w.cell? ⟨b, o, none⟩) :
    ∀ {τ : Ty} {cs : List Value} {x : τ.den}, Cells com w τ cs x → Cells com' w' τ cs x
  | .int _, _, _, h => by simpa only [Cells] using h
  | .bool, _, _, h => by simpa only [Cells] using h
  | .str, _, _, h => by simpa only [Cells] using h
  | .slice _, _, _, h => by
    simp only [Cells] at h ⊢
    obtain ⟨base, len, cap, ds, h1, h2, h3, h4, h5⟩ := h
    exact ⟨base, len, cap, ds, h1, h2, h3, h4.mono (fun _ _ hx => Cells.mono hc hw hx), h5.mono hc hw⟩
  | .arr n e, _, x, h => by
    simp only [Cells] at h ⊢
    exact ⟨h.1, h.2.mono (fun _ _ hx => Cells.mono hc hw hx)⟩
  | .agg p, _, _, h => by simp only [Cells] at h ⊢; exact Cells.mono hc hw h
  | .unit, _, _, h => by simpa only [Cells] using h
  | .cons a b, _, _, h => by
    simp only [Cells] at h ⊢
    obtain ⟨c1, c2, h1, h2, h3⟩ := h
    exact ⟨c1, c2, h1, Cells.mono hc hw h2, Cells.mono hc hw h3⟩
  | .raw, _, _, h => by simpa only [Cells] using h

theorem Val.mono {com com' : Com} {w w' : World} (hc : ∀ b o, com b o → com' b o) (hw : ∀ b o, com b o → w'.cell? ⟨b, o, none⟩ = w.cell? ⟨b, o, none⟩) {τ : Ty} {v : Value} {x : τ.den} (h : Val com w τ v x) : Val com' w' τ v x :=
  ⟨h.1.mono hc hw, h.2⟩

/-! ### Whom a block belongs to -/

inductive GP where
  | slot (f k : Nat)
  | leaf (r off : Nat)
  deriving DecidableEq

inductive Wr where
  | none
  | spare (p : GP)
  | blk (r : Nat)
  deriving DecidableEq

/-- com: the cells that never change · wr: who may write a block · loc: where a block of the evaluator's lies · nb: how many there are · len, wd: how many elements a slice's block has, of how many cells. -/
structure Gh where
  com : Com
  wr : Nat → Wr
  loc : Nat → Nat
  nb : Nat
  len : Nat → Nat
  wd : Nat → Nat
  row : Nat → Nat → Option Nat := fun _ _ => none
  rlen : Nat → Nat → Nat := fun _ _ => 0
  rwd : Nat → Nat := fun _ => 0

def OwnV (G : Gh) (w : World) (p : GP) (e : Ty) (xs : List e.den) (v : Value) : Prop :=
  ∃ ds, Parts (Cells G.com w e) ds xs ∧ 0 < e.width ∧ ((v = .slice none 0 0 ∧ xs = []) ∨
    ∃ g cap cur t, v = .slice (some ⟨g, 0, none⟩) xs.length cap ∧ G.wr g = .spare p ∧ w.heap[g]? = some (.cells cur t (0, 0)) ∧ xs.length ≤ cap ∧ cap ≤ maxLen ∧ cur.size = cap * e.width ∧
      cur.toList.take ds.length = ds ∧ ∀ o, G.com g o ↔ o < ds.length)

mutual
def VA (G : Gh) (w : World) (p : GP) : AV → Value → Prop
  | .d τ x, v => Val G.com w τ v x
  | .own e xs, v => OwnV G w p e xs v
  | .nils, v => v = .slice none 0 0
  | .ptr r off, v => r < G.nb ∧ v = .pointer (some ⟨G.loc r, off, none⟩)
  | .pix r off i, v => r < G.nb ∧ 0 ≤ i ∧ v = .pointer (some ⟨G.loc r, off + i.toNat, none⟩)
  | .pdat τ x, v => ∃ a cs, v = .pointer (some a) ∧ a.spot = none ∧ Cells G.com w τ cs x ∧ At G.com w a cs
  | .pel r i, v => r < G.nb ∧ 0 ≤ i ∧ i < G.len r ∧ v = .pointer (some ⟨G.loc r, i.toNat * G.wd r, none⟩)
  | .msl r, v => r < G.nb ∧ v = .slice (some ⟨G.loc r, 0, none⟩) (G.len r) (G.len r)
  | .mrow r i, v => r < G.nb ∧ 0 ≤ i ∧ ∃ g, G.row r i.toNat = some g ∧ v = .slice (some ⟨g, 0, none⟩) (G.rlen r i.toNat) (G.rlen r i.toNat)
  | .mel r i j, v => r < G.nb ∧ 0 ≤ i ∧ 0 ≤ j ∧ j < G.rlen r i.toNat ∧ ∃ g, G.row r i.toNat = some g ∧ v = .pointer (some ⟨g, j.toNat * G.rwd r, none⟩)
  | .uptr r n off, v => r < G.nb ∧ 0 ≤ n ∧ ∃ g, G.row r n.toNat = some g ∧ v = .pointer (some ⟨g, n.toNat * G.rwd r + off, none⟩)
  | .agl ls, v => isAggV v = true ∧ LA G w p ls v.cells.toList
  | .tup ls, v => ∃ vs : List Value, v = .tuple vs.toArray ∧ TA G w p ls vs
  | .fn f caps, v => ∃ vs : List Value, v = .func (.func f) #[] vs.toArray ∧ TA G w p caps vs
  | .undef, _ => True
def TA (G : Gh) (w : World) (p : GP) : List AV → List Value → Prop
  | [], vs => vs = []
  | a :: l, vs => ∃ v vs', vs = v :: vs' ∧ a.isOwn = false ∧ VA G w p a v ∧ TA G w p l vs'
def LA (G : Gh) (w : World) (p : GP) : List AV → List Value → Prop
  | [], cs => cs = []
  | .d τ x :: l, cs => ∃ c cs', cs = c ++ cs' ∧ Cells G.com w τ c x ∧ LA G w p l cs'
  | a :: l, cs => ∃ c cs', cs = c :: cs' ∧ a.isOwn = false ∧ VA G w p a c ∧ c.oneCell' = true ∧ LA G w p l cs'
end

/-- A leaf of a box, at its cells. -/
def LeafV (G : Gh) (w : World) (p : GP) (a : AV) (c : List Value) : Prop :=
  match a with
  | .d τ x => Cells G.com w τ c x
  | a => ∃ v, c = [v] ∧ VA G w p a v ∧ v.oneCell' = true

def Lay (G : Gh) (w : World) (r : Nat) : Nat → List AV → List Value → Prop
  | _, [], cs => cs = []
  | off, a :: ls, cs => ∃ c cs', cs = c ++ cs' ∧ c.length = a.w ∧ 0 < a.w ∧ LeafV G w (.leaf r off) a c ∧ Lay G w r (off + a.w) ls cs'

/-- A row of a table: not made yet, or in a block of its own. -/
def RowOK (G : Gh) (w : World) (r : Nat) (e : Ty) (i : Nat) : Option (List e.den) → Value → Prop
  | none, v => v = .slice none 0 0 ∧ G.row r i = none
  | some xs, v => ∃ g c t, v = .slice (some ⟨g, 0, none⟩) xs.length xs.length ∧ G.row r i = some g ∧ G.rlen r i = xs.length ∧ w.heap[g]? = some (.cells c t (0, 0)) ∧ G.wr g = .blk r ∧ (∀ o, ¬ G.com g o) ∧ Parts (Cells G.com w e) c.toList xs ∧ xs.length ≤ maxLen

/-- A slice that grows; its last element's cells may still change. -/
def VecOK (G : Gh) (w : World) (r : Nat) (e : Ty) (xs : List e.den) (has : Bool) (ls : List AV) (v : Value) : Prop :=
  (has = false ∧ xs = [] ∧ v = .slice none 0 0 ∧ ∀ i, G.row r i = none) ∨
  (has = true ∧ ∃ g cap cur tg ds c rest, v = .slice (some ⟨g, 0, none⟩) (xs.length + 1) cap ∧ G.row r xs.length = some g ∧ g ≠ G.loc r ∧ w.heap[g]? = some (.cells cur tg (0, 0)) ∧ G.wr g = .blk r ∧ xs.length + 1 ≤ cap ∧ cap ≤ maxLen ∧
    cur.size = cap * e.width ∧ cur.toList = ds ++ c ++ rest ∧ Parts (Cells G.com w e) ds xs ∧ c.length = e.width ∧ Lay G w r 0 ls c ∧ (∀ o, G.com g o ↔ o < ds.length) ∧ ∀ i, xs.length < i → G.row r i = none)

/-- The leaves that a block has. -/
def Blk.lv : Blk → List AV
  | .box ls => ls
  | .vec _ _ _ ls => ls
  | _ => []

def BlkOK (G : Gh) (w : World) (r : Nat) : Blk → Prop
  | .box ls => ∃ cur t, w.heap[G.loc r]? = some (.cells cur t (0, 0)) ∧ G.wr (G.loc r) = .blk r ∧ (∀ o, ¬ G.com (G.loc r) o) ∧ Lay G w r 0 ls cur.toList
  | .arr e xs => ∃ cur t, w.heap[G.loc r]? = some (.cells cur t (0, 0)) ∧ G.wr (G.loc r) = .blk r ∧ (∀ o, ¬ G.com (G.loc r) o) ∧ xs.length = G.len r ∧ e.width = G.wd r ∧ 0 < e.width ∧ xs.length ≤ maxLen ∧ Parts (Cells G.com w e) cur.toList xs
  | .mat e rows => ∃ cur t, w.heap[G.loc r]? = some (.cells cur t (0, 0)) ∧ G.wr (G.loc r) = .blk r ∧ (∀ o, ¬ G.com (G.loc r) o) ∧ rows.length = G.len r ∧ G.wd r = 1 ∧ e.width = G.rwd r ∧ 0 < e.width ∧ rows.length ≤ maxLen ∧ cur.size = rows.length ∧
      (∀ i x v, rows[i]? = some x → cur[i]? = some v → RowOK G w r e i x v) ∧ (∀ i i' g, G.row r i = some g → G.row r i' = some g → i = i') ∧ (∀ i, G.row r i ≠ some (G.loc r)) ∧ ∀ i, rows.length ≤ i → G.row r i = none
  | .vec e xs has ls => ∃ v t, w.heap[G.loc r]? = some (.cells #[v] t (0, 0)) ∧ G.wr (G.loc r) = .blk r ∧ (∀ o, ¬ G.com (G.loc r) o) ∧ 0 < e.width ∧ e.width = G.rwd r ∧ VecOK G w r e xs has ls v
  | .gone => True

/-- The slice of its own at a leaf is this value. -/
def LeafCell (G : Gh) (w : World) (r off : Nat) : Blk → Value → Prop
  | .box ls, v => ∀ pre e xs post, cut off ls = some (pre, .own e xs :: post) → w.cell? ⟨G.loc r, off, none⟩ = some v
  | .vec e' xs' has ls, v => has = true → ∀ pre e xs post, cut off ls = some (pre, .own e xs :: post) → ∃ g, G.row r xs'.length = some g ∧ w.cell? ⟨g, xs'.length * e'.width + off, none⟩ = some v
  | _, _ => True

/-- What is told of a copy: while the place holds a slice of its own, the copy is that slice. -/
def AliasOK (G : Gh) (w : World) (st : St) (tm : Array Value) (k : Nat) : Place → Prop
  | .slot j => (∃ e xs, (st.fr j).1 = .own e xs) → tm.getD k undef = tm.getD j undef
  | .leaf r off => r < st.bl.length ∧ ∀ b, st.bl[r]? = some b → LeafCell G w r off b (tm.getD k undef)

/-- From one state of memory to another: what is kept. -/
structure Ext (T : Wr → Prop) (G : Gh) (w : World) (G' : Gh) (w' : World) : Prop where
  com : ∀ b o, G.com b o → G'.com b o
  cell : ∀ b o, G.com b o → w'.cell? ⟨b, o, none⟩ = w.cell? ⟨b, o, none⟩
  nb : G.nb ≤ G'.nb
  loc : ∀ r, r < G.nb → G'.loc r = G.loc r ∧ G'.len r = G.len r ∧ G'.wd r = G.wd r
  row : ∀ r, r < G.nb → G'.rwd r = G.rwd r ∧ (∀ i g, G.row r i = some g → G'.row r i = some g ∧ G'.rlen r i = G.rlen r i) ∧ (T (.blk r) → ∀ i, G'.row r i = G.row r i)
  own : ∀ g, T (G.wr g) → G.wr g ≠ .none → G'.wr g = G.wr g ∧ w'.heap[g]? = w.heap[g]? ∧ ∀ o, G'.com g o → G.com g o

theorem Ext.less {T T' : Wr → Prop} {G G' : Gh} {w w' : World} (h : Ext T G w G' w') (ht : ∀ t, T' t → T t) : Ext T' G w G' w' := ⟨h.com, h.cell, h.nb, h.loc, fun r hr => ⟨(h.row r hr).1, (h.row r hr).2.1, fun t => (h.row r hr).2.2 (ht _ t)⟩, fun g hg => h.own g (ht _ hg)⟩

/-- A place of a frame that waits. -/
def Foreign (id : Nat) (t : Wr) : Prop := ∃ f k, f < id ∧ t = .spare (.slot f k)

/-- A frame: its number; and what is kept of memory that is not its own. -/
structure Frm where
  id : Nat
  nb0 : Nat
  X : Gh → World → Prop
  st : ∀ {G w G' w'}, Ext (Foreign id) G w G' w' → X G w → X G' w'
  shrink : ∀ {G w n}, nb0 ≤ n → X G w → X { G with nb := n } w

instance : Coe Frm Nat := ⟨Frm.id⟩

def Frm.none : Frm := ⟨0, 0, fun _ _ => True, fun _ _ => trivial, fun _ _ => trivial⟩

/-- A place of this frame's, or in a block. -/
def Loc (f : Nat) : GP → Prop
  | .slot f' _ => f' = f
  | .leaf _ _ => True

structure Inv (w0 : World) (com0 : Com) (f : Frm) (nt : Nat) (G : Gh) (st : St) (a : Act) (w : World) : Prop where
  below : Below w0.heap.size w0 w
  foreign : f.X G w
  defers : a.defers = []
  size : a.tmps.size = nt
  nb : G.nb = st.bl.length
  wrhi : ∀ g, G.wr g ≠ .none → w0.heap.size ≤ g ∧ g < w.heap.size
  comlo : ∀ b o, b < w0.heap.size → (G.com b o ↔ com0 b o)
  comlt : ∀ b o, G.com b o → b < w.heap.size
  slots : ∀ k, VA G w (.slot f k) (st.fr k).1 (a.tmps.getD k undef)
  alias : ∀ k p, (st.fr k).2 = some p → AliasOK G w st a.tmps k p
  blocks : ∀ r b, st.bl[r]? = some b → BlkOK G w r b

section
variable {T : Wr → Prop} {G G' : Gh} {w w' : World}

theorem OwnV.ext (h : Ext T G w G' w') {p : GP} (hp : T (.spare p)) {e : Ty} {xs : List e.den} {v : Value} (hv : OwnV G w p e xs v) : OwnV G' w' p e xs v := by
  obtain ⟨ds, h1, hw, h2⟩ := hv
  refine ⟨ds, h1.mono (fun _ _ hx => hx.mono h.com h.cell), hw, ?_⟩
  rcases h2 with h2 | ⟨g, cap, cur, t, h2, h3, h4, h5, h6, h7, h8, h9⟩
  · exact .inl h2
  · obtain ⟨k1, k2, k3⟩ := h.own g (by rw [h3]; exact hp) (by rw [h3]; simp)
    exact .inr ⟨g, cap, cur, t, h2, k1.trans h3, k2.trans h4, h5, h6, h7, h8, fun o => ⟨fun ho => (h9 o).1 (k3 o ho), fun ho => h.com _ _ ((h9 o).2 ho)⟩⟩

mutual
theorem VA.ext (h : Ext T G w G' w') {p : GP} : ∀ {a : AV} {v : Value}, (a.isOwn = true → T (.spare p)) → VA G w p a v → VA G' w' p a v
  | .d τ x, v, _, hv => by simp only [VA] at hv ⊢; exact hv.mono h.com h.cell
  | .own e xs, v, hp, hv => by simp only [VA] at hv ⊢; exact hv.ext h (hp rfl)
  | .nils, v, _, hv => by simpa only [VA] using hv
  | .ptr r off, v, _, hv => by
    simp only [VA] at hv ⊢
    obtain ⟨h1, rfl⟩ := hv
    exact ⟨Nat.lt_of_lt_of_le h1 h.nb, by rw [(h.loc r h1).1]⟩
  | .pix r off i, v, _, hv => by
    simp only [VA] at hv ⊢
    obtain ⟨h1, h2, rfl⟩ := hv
    exact ⟨Nat.lt_of_lt_of_le h1 h.nb, h2, by rw [(h.loc r h1).1]⟩
  | .pdat τ x, v, _, hv => by
    simp only [VA] at hv ⊢
    obtain ⟨a, cs, h1, h2, h3, h4⟩ := hv
    exact ⟨a, cs, h1, h2, h3.mono h.com h.cell, h4.mono h.com h.cell⟩
  | .pel r i, v, _, hv => by
    simp only [VA] at hv ⊢
    obtain ⟨h1, h2, h3, rfl⟩ := hv
    obtain ⟨k1, k2, k3⟩ := h.loc r h1
    exact ⟨Nat.lt_of_lt_of_le h1 h.nb, h2, by rw [k2]; exact h3, by rw [k1, k3]⟩
  | .msl r, v, _, hv => by
    simp only [VA] at hv ⊢
    obtain ⟨h1, rfl⟩ := hv
    obtain ⟨k1, k2, k3⟩ := h.loc r h1
    exact ⟨Nat.lt_of_lt_of_le h1 h.nb, by rw [k1, k2]⟩
  | .mrow r i, v, _, hv => by
    simp only [VA] at hv ⊢
    obtain ⟨h1, h2, g, h3, rfl⟩ := hv
    obtain ⟨k1, k2⟩ := (h.row r h1).2.1 _ _ h3
    exact ⟨Nat.lt_of_lt_of_le h1 h.nb, h2, g, k1, by rw [k2]⟩
  | .mel r i j, v, _, hv => by
    simp only [VA] at hv ⊢
    obtain ⟨h1, h2, h3, h4, g, h5, rfl⟩ := hv
    obtain ⟨k1, k2⟩ := (h.row r h1).2.1 _ _ h5
    exact ⟨Nat.lt_of_lt_of_le h1 h.nb, h2, h3, by rw [k2]; exact h4, g, k1, by rw [(h.row r h1).1]⟩
  | .uptr r n off, v, _, hv => by
    simp only [VA] at hv ⊢
    obtain ⟨h1, h2, g, h5, rfl⟩ := hv
    obtain ⟨k1, k2⟩ := (h.row r h1).2.1 _ _ h5
    exact ⟨Nat.lt_of_lt_of_le h1 h.nb, h2, g, k1, by rw [(h.row r h1).1]⟩
  | .agl ls, v, _, hv => by simp only [VA] at hv ⊢; exact ⟨hv.1, LA.ext h hv.2⟩
  | .tup ls, v, _, hv => by
    simp only [VA] at hv ⊢
    obtain ⟨vs, h1, h2⟩ := hv
    exact ⟨vs, h1, TA.ext h h2⟩
  | .fn f caps, v, _, hv => by
    simp only [VA] at hv ⊢
    obtain ⟨vs, h1, h2⟩ := hv
    exact ⟨vs, h1, TA.ext h h2⟩
  | .undef, v, _, hv => by simp only [VA]
theorem TA.ext (h : Ext T G w G' w') {p : GP} : ∀ {l : List AV} {vs : List Value}, TA G w p l vs → TA G' w' p l vs
  | [], _, hv => by simpa only [TA] using hv
  | a :: l, _, hv => by
    simp only [TA] at hv ⊢
    obtain ⟨v, vs', h1, h0, h2, h3⟩ := hv
    exact ⟨v, vs', h1, h0, VA.ext h (fun k => by rw [h0] at k; cases k) h2, TA.ext h h3⟩
theorem LA.ext (h : Ext T G w G' w') {p : GP} : ∀ {l : List AV} {cs : List Value}, LA G w p l cs → LA G' w' p l cs
  | [], _, hv => by simpa only [LA] using hv
  | a :: l, _, hv => by
    cases a <;> simp only [LA] at hv ⊢ <;> obtain ⟨c, cs', h1, h2⟩ := hv
    case d τ x => exact ⟨c, cs', h1, h2.1.mono h.com h.cell, LA.ext h h2.2⟩
    all_goals exact ⟨c, cs', h1, h2.1, VA.ext h (fun k => by rw [h2.1] at k; cases k) h2.2.1, h2.2.2.1, LA.ext h h2.2.2.2⟩
end

mutual
theorem VA.place {p : GP} (q : GP) : ∀ {a : AV} {v : Value}, a.isOwn = false → VA G w p a v → VA G w q a v
  | .d τ x, v, _, hv => by simpa only [VA] using hv
  | .own e xs, v, h, hv => by cases h
  | .nils, v, _, hv => by simpa only [VA] using hv
  | .ptr r off, v, _, hv => by simpa only [VA] using hv
  | .pix r off i, v, _, hv => by simpa only [VA] using hv
  | .pdat τ x, v, _, hv => by simpa only [VA] using hv
  | .pel r i, v, _, hv => by simpa only [VA] using hv
  | .msl r, v, _, hv => by simpa only [VA] using hv
  | .mrow r i, v, _, hv => by simpa only [VA] using hv
  | .mel r i j, v, _, hv => by simpa only [VA] using hv
  | .uptr r n off, v, _, hv => by simpa only [VA] using hv
  | .agl ls, v, _, hv => by simp only [VA] at hv ⊢; exact ⟨hv.1, LA.place q hv.2⟩
  | .tup ls, v, _, hv => by
    simp only [VA] at hv ⊢
    obtain ⟨vs, h1, h2⟩ := hv
    exact ⟨vs, h1, TA.place q h2⟩
  | .fn f caps, v, _, hv => by
    simp only [VA] at hv ⊢
    obtain ⟨vs, h1, h2⟩ := hv
    exact ⟨vs, h1, TA.place q h2⟩
  | .undef, v, _, hv => by simp only [VA]
theorem TA.place {p : GP} (q : GP) : ∀ {l : List AV} {vs : List Value}, TA G w p l vs → TA G w q l vs
  | [], _, hv => by simpa only [TA] using hv
  | a :: l, _, hv => by
    simp only [TA] at hv ⊢
    obtain ⟨v, vs', h1, h0, h2, h3⟩ := hv
    exact ⟨v, vs', h1, h0, VA.place q h0 h2, TA.place q h3⟩
theorem LA.place {p : GP} (q : GP) : ∀ {l : List AV} {cs : List Value}, LA G w p l cs → LA G w q l cs
  | [], _, hv => by simpa only [LA] using hv
  | a :: l, _, hv => by
    cases a <;> simp only [LA] at hv ⊢ <;> obtain ⟨c, cs', h1, h2⟩ := hv
    case d τ x => exact ⟨c, cs', h1, h2.1, LA.place q h2.2⟩
    all_goals exact ⟨c, cs', h1, h2.1, VA.place q h2.1 h2.2.1, h2.2.2.1, LA.place q h2.2.2.2⟩
end

theorem LeafV.ext (h : Ext T G w G' w') {p : GP} {a : AV} (hp : a.isOwn = true → T (.spare p)) {c : List Value} (hv : LeafV G w p a c) : LeafV G' w' p a c := by
  cases a <;> simp only [LeafV] at hv ⊢
  case d τ x => exact hv.mono h.com h.cell
  all_goals
    obtain ⟨v, h1, h2, h3⟩ := hv
    exact ⟨v, h1, h2.ext h hp, h3⟩

/-- Is the leaf at this cell a slice of its own? -/
def OwnLeaf (ls : List AV) (off : Nat) : Prop := ∃ pre e xs post, cut off ls = some (pre, .own e xs :: post)

theorem cut_tail {a : AV} {ls : List AV} {o : Nat} (ha : 0 < a.w) : cut (a.w + o) (a :: ls) = (cut o ls).map fun x => (a :: x.1, x.2) := by
  obtain ⟨m, hm⟩ : ∃ m, a.w + o = m + 1 := ⟨a.w + o - 1, by omega⟩
  rw [hm, cut, if_pos (by omega)]
  have : m + 1 - a.w = o := by omega
  rw [this]
  cases cut o ls with
  | none => rfl
  | some x => rfl

theorem Lay.ext (h : Ext T G w G' w') {r : Nat} : ∀ {off : Nat} {ls : List AV} {cs : List Value}, (∀ o, OwnLeaf ls o → T (.spare (.leaf r (off + o)))) → Lay G w r off ls cs → Lay G' w' r off ls cs
  | _, [], _, _, hv => by simpa only [Lay] using hv
  | off, a :: ls, _, hp, hv => by
    simp only [Lay] at hv ⊢
    obtain ⟨c, cs', h1, h2, h0, h3, h4⟩ := hv
    refine ⟨c, cs', h1, h2, h0, h3.ext h (fun ho => ?_), h4.ext h (fun o ho => ?_)⟩
    · cases a <;> simp only [AV.isOwn] at ho <;> try cases ho
      rename_i e xs
      exact hp 0 ⟨[], e, xs, ls, rfl⟩
    · obtain ⟨pre, e, xs, post, hc⟩ := ho
      rw [Nat.add_assoc]
      exact hp (a.w + o) ⟨a :: pre, e, xs, post, by rw [cut_tail h0, hc]; rfl⟩

theorem VecOK.ext (h : Ext T G w G' w') {r : Nat} (hr : r < G.nb) (hb : T (.blk r)) {e : Ty} {xs : List e.den} {has : Bool} {ls : List AV} {v : Value} (hp : ∀ off, OwnLeaf ls off → T (.spare (.leaf r off))) (hv : VecOK G w r e xs has ls v) : VecOK G' w' r e xs has ls v := by
  obtain ⟨m1, m2, m3⟩ := h.row r hr
  have m3 := m3 hb
  rcases hv with ⟨h1, h2, h3, h4⟩ | ⟨h1, g, cap, cur, tg, ds, c, rest, h2, h3, h4, h5, h6, h7, h8, h9, h10, h11, h12, h13, h14, h15⟩
  · exact .inl ⟨h1, h2, h3, fun i => by rw [m3]; exact h4 i⟩
  · obtain ⟨k1, k2, k3⟩ := h.own g (by rw [h6]; exact hb) (by rw [h6]; simp)
    exact .inr ⟨h1, g, cap, cur, tg, ds, c, rest, h2, by rw [m3]; exact h3, by rw [(h.loc r hr).1]; exact h4, k2.trans h5, k1.trans h6, h7, h8, h9, h10, h11.mono (fun _ _ hx => hx.mono h.com h.cell), h12,
      h13.ext h (fun o ho => by rw [Nat.zero_add]; exact hp o ho), fun o => ⟨fun ho => (h14 o).1 (k3 o ho), fun ho => h.com _ _ ((h14 o).2 ho)⟩, fun i hi => by rw [m3]; exact h15 i hi⟩

theorem BlkOK.ext (h : Ext T G w G' w') {r : Nat} (hr : r < G.nb) (hb : T (.blk r)) {b : Blk} (hp : ∀ off, OwnLeaf b.lv off → T (.spare (.leaf r off))) (hv : BlkOK G w r b) : BlkOK G' w' r b := by
  obtain ⟨l1, l2, l3⟩ := h.loc r hr
  cases b with
  | gone => trivial
  | box ls =>
    simp only [BlkOK] at hv ⊢
    obtain ⟨cur, t, h1, h2, h3, h4⟩ := hv
    obtain ⟨k1, k2, k3⟩ := h.own (G.loc r) (by rw [h2]; exact hb) (by rw [h2]; simp)
    rw [l1]
    exact ⟨cur, t, k2.trans h1, k1.trans h2, fun o ho => h3 o (k3 o ho), h4.ext h (fun o ho => by rw [Nat.zero_add]; exact hp o ho)⟩
  | vec e xs has ls =>
    simp only [BlkOK] at hv ⊢
    obtain ⟨v, t, h1, h2, h3, h4, h5, h6⟩ := hv
    obtain ⟨k1, k2, k3⟩ := h.own (G.loc r) (by rw [h2]; exact hb) (by rw [h2]; simp)
    rw [l1, (h.row r hr).1]
    exact ⟨v, t, k2.trans h1, k1.trans h2, fun o ho => h3 o (k3 o ho), h4, h5, h6.ext h hr hb hp⟩
  | mat e rows =>
    simp only [BlkOK] at hv ⊢
    obtain ⟨cur, t, h1, h2, h3, h4, h5, h5', h6, h7, h8, h9, h10, h11, h12⟩ := hv
    obtain ⟨k1, k2, k3⟩ := h.own (G.loc r) (by rw [h2]; exact hb) (by rw [h2]; simp)
    obtain ⟨m1, m2, m3⟩ := h.row r hr
    have m3 := m3 hb
    rw [l1, l2, l3, m1]
    refine ⟨cur, t, k2.trans h1, k1.trans h2, fun o ho => h3 o (k3 o ho), h4, h5, h5', h6, h7, h8, fun i x v hx hv => ?_, fun i i' g => by rw [m3, m3]; exact h10 i i' g, fun i => by rw [m3]; exact h11 i, fun i hi => by rw [m3]; exact h12 i hi⟩
    have := h9 i x v hx hv
    cases x with
    | none => exact ⟨this.1, by rw [m3]; exact this.2⟩
    | some xs =>
      obtain ⟨g, c, t', q1, q2, q3, q4, q5, q6, q7, q8⟩ := this
      obtain ⟨n1, n2, n3⟩ := h.own g (by rw [q5]; exact hb) (by rw [q5]; simp)
      exact ⟨g, c, t', q1, (m2 i g q2).1, (m2 i g q2).2.trans q3, n2.trans q4, n1.trans q5, fun o ho => q6 o (n3 o ho), q7.mono (fun _ _ hx => hx.mono h.com h.cell), q8⟩
  | arr e xs =>
    simp only [BlkOK] at hv ⊢
    obtain ⟨cur, t, h1, h2, h3, h4, h5, h6, h7, h8⟩ := hv
    obtain ⟨k1, k2, k3⟩ := h.own (G.loc r) (by rw [h2]; exact hb) (by rw [h2]; simp)
    rw [l1, l2, l3]
    exact ⟨cur, t, k2.trans h1, k1.trans h2, fun o ho => h3 o (k3 o ho), h4, h5, h6, h7, h8.mono (fun _ _ hx => hx.mono h.com h.cell)⟩

/-- A block that nobody else writes keeps what lies at its leaves. -/
theorem LeafCell.ext (h : Ext T G w G' w') {r off : Nat} (hr : r < G.nb) (hb : T (.blk r)) {b : Blk} (hv : BlkOK G w r b) {v : Value} (hl : LeafCell G w r off b v) : LeafCell G' w' r off b v := by
  cases b with
  | box ls =>
    simp only [LeafCell] at hl ⊢
    intro pre e xs post hc
    obtain ⟨cur, t, h1, h2, h3, h4⟩ := hv
    obtain ⟨k1, k2, k3⟩ := h.own (G.loc r) (by rw [h2]; exact hb) (by rw [h2]; simp)
    rw [(h.loc r hr).1, ← hl pre e xs post hc]
    exact World.cell?_of_block (w := w) k2
  | vec e' xs' has ls =>
    simp only [LeafCell] at hl ⊢
    intro hh pre e xs post hc
    obtain ⟨g, hg, hcell⟩ := hl hh pre e xs post hc
    obtain ⟨v', t, h1, h2, h3, h4, h5, h6⟩ := hv
    rcases h6 with ⟨h6, _⟩ | ⟨_, g', cap, cur, tg, ds, c, rest, q2, q3, q4, q5, q6, _⟩
    · rw [hh] at h6; cases h6
    · rw [hg] at q3
      injection q3 with q3
      subst q3
      obtain ⟨k1, k2, k3⟩ := h.own g (by rw [q6]; exact hb) (by rw [q6]; simp)
      refine ⟨g, ((h.row r hr).2.1 _ _ hg).1, ?_⟩
      rw [← hcell]
      exact World.cell?_of_block (w := w) k2
  | _ => trivial
end

end Go.Ev

/-
  THE INVARIANT, STEP BY STEP: the world grows; a slot is laid; a slice changes its place; a block is written; a block is made.
-/
namespace Go.Ev
open Go.RowKit (Below)

theorem OwnV.val {G : Gh} {w : World} {p : GP} {e : Ty} {xs : List e.den} {v : Value} (h : OwnV G w p e xs v) : Val G.com w (.slice e) v xs := by
  obtain ⟨ds, h1, hw, h2⟩ := h
  rcases h2 with ⟨rfl, rfl⟩ | ⟨g, cap, cur, t, rfl, h3, h4, h5, h6, h7, h8, h9⟩
  · refine ⟨?_, rfl⟩
    simp only [Value.cells, Cells]
    exact ⟨none, 0, 0, ds, rfl, rfl, Nat.le_refl _, h1, .inl (by have := h1.len (fun _ _ hx => hx.len); simpa using this)⟩
  · refine ⟨?_, rfl⟩
    simp only [Value.cells, Cells]
    refine ⟨_, _, cap, ds, rfl, rfl, h5, h1, .inr ⟨_, rfl, rfl, fun j u hj => ?_⟩⟩
    have hlt : j < ds.length := by
      rcases Nat.lt_or_ge j ds.length with h | h
      · exact h
      · rw [List.getElem?_eq_none h] at hj; cases hj
    refine ⟨(h9 _).2 (by simpa using hlt), ?_⟩
    rw [cell_of_row w g _ cur t (0, 0) h4]
    rw [← h8, List.getElem?_take, if_pos hlt] at hj
    simpa using hj

theorem VA.dem {G : Gh} {w : World} {p : GP} {a : AV} {v : Value} (h : VA G w p a v) : VA G w p a.dem v := by
  cases a <;> simp only [AV.dem] <;> try exact h
  simp only [VA] at h ⊢
  exact h.val

theorem AV.dem_isOwn (a : AV) : a.dem.isOwn = false := by cases a <;> rfl

theorem AV.not_own {a : AV} (h : a.isOwn = false) : ¬ ∃ e xs, a = .own e xs := by
  rintro ⟨e, xs, rfl⟩
  cases h

theorem Below.cell_same {B : Nat} {w w' : World} (h : Below B w w') {b o : Nat} (hb : b < B) : w'.cell? ⟨b, o, none⟩ = w.cell? ⟨b, o, none⟩ := h.cell hb

section
variable {w0 : World} {com0 : Com} {f : Frm} {nt : Nat} {G G' : Gh} {st : St} {a : Act} {w w' : World}

theorem Inv.lt (hI : Inv w0 com0 f nt G st a w) {r : Nat} {b : Blk} (h : st.bl[r]? = some b) : r < G.nb := by
  rw [hI.nb]
  rcases Nat.lt_or_ge r st.bl.length with h' | h'
  · exact h'
  · rw [List.getElem?_eq_none h'] at h; cases h

theorem Inv.box (hI : Inv w0 com0 f nt G st a w) {r : Nat} {ls : List AV} (h : st.bl[r]? = some (.box ls)) :
    ∃ cur t, w.heap[G.loc r]? = some (.cells cur t (0, 0)) ∧ G.wr (G.loc r) = .blk r ∧ (∀ o, ¬ G.com (G.loc r) o) ∧ Lay G w r 0 ls cur.toList := hI.blocks r _ h

theorem Inv.ext (hI : Inv w0 com0 f nt G st a w) (h : Ext (fun _ => True) G w G' w') (hb : Below w0.heap.size w w') (hnb : G'.nb = G.nb)
    (hwr : ∀ g, G'.wr g ≠ .none → w0.heap.size ≤ g ∧ g < w'.heap.size) (hlo : ∀ b o, b < w0.heap.size → (G'.com b o ↔ G.com b o)) (hlt : ∀ b o, G'.com b o → b < w'.heap.size) :
    Inv w0 com0 f nt G' st a w' := by
  refine ⟨hI.below.trans hb, f.st (h.less fun _ _ => trivial) hI.foreign, hI.defers, hI.size, hnb.trans hI.nb, hwr, fun b o hbo => (hlo b o hbo).trans (hI.comlo b o hbo), hlt, fun k => (hI.slots k).ext h (fun _ => trivial), fun k p hp => ?_, fun r b hr => (hI.blocks r b hr).ext h (hI.lt hr) trivial (fun _ _ => trivial)⟩
  have ha := hI.alias k p hp
  cases p with
  | slot j => exact ha
  | leaf r off => exact ⟨ha.1, fun b hr => (ha.2 b hr).ext h (hI.lt hr) trivial (hI.blocks r b hr)⟩

theorem getD_set {tm : Array Value} {d k : Nat} {v : Value} : (tm.setIfInBounds d v).getD k undef = if k = d ∧ d < tm.size then v else tm.getD k undef := by
  simp only [Array.getD_eq_getD_getElem?, Array.getElem?_setIfInBounds]
  by_cases h : d = k
  · subst h
    by_cases h2 : d < tm.size
    · simp [h2]
    · simp [h2]
  · simp [h, Ne.symm h]

theorem AliasOK.put {st' : St} {tm : Array Value} {d k : Nat} {v : Value} {p : Place} (hb : st'.bl = st.bl) (hk : k ≠ d) (hf : ∀ j, j ≠ d → (∃ e xs, (st'.fr j).1 = .own e xs) → ∃ e xs, (st.fr j).1 = .own e xs)
    (hd : p = .slot d → ¬ ∃ e xs, (st'.fr d).1 = .own e xs) (h : AliasOK G w st tm k p) : AliasOK G w st' (tm.setIfInBounds d v) k p := by
  cases p with
  | slot j =>
    simp only [AliasOK] at h ⊢
    intro ho
    by_cases hj : j = d
    · subst hj; exact absurd ho (hd rfl)
    · rw [getD_set, getD_set, if_neg (by simp [hk]), if_neg (by simp [hj])]
      exact h (hf j hj ho)
  | leaf r off =>
    simp only [AliasOK] at h ⊢
    rw [hb, getD_set, if_neg (by simp [hk])]
    exact h

/-- A slot gets a value that is no slice of its own. -/
theorem Inv.put (hI : Inv w0 com0 f nt G st a w) {d : Nat} (hd : d < nt) {av : AV} {al : Option Place} {cv : Value} (hno : av.isOwn = false) (hv : VA G w (.slot f d) av cv)
    (hal : ∀ p, al = some p → AliasOK G w { st with fr := upd st.fr d (av, al) } (a.tmps.setIfInBounds d cv) d p) :
    Inv w0 com0 f nt G { st with fr := upd st.fr d (av, al) } (a.put (some d) cv) w := by
  refine ⟨hI.below, hI.foreign, hI.defers, by simpa [Act.put] using hI.size, hI.nb, hI.wrhi, hI.comlo, hI.comlt, fun k => ?_, fun k p hp => ?_, hI.blocks⟩
  · show VA G w (.slot f k) (upd st.fr d (av, al) k).1 ((a.tmps.setIfInBounds d cv).getD k undef)
    rw [getD_set, hI.size]
    by_cases h : k = d
    · subst h; simp only [upd, if_true, hd, and_self]; exact hv
    · simp only [upd, h, if_false, false_and]; exact hI.slots k
  · by_cases h : k = d
    · subst h
      simp [upd] at hp
      exact hal p hp
    · simp [upd, h] at hp
      refine AliasOK.put (st := st) rfl h (fun j hj ho => by simpa [upd, hj] using ho) (fun _ ho => ?_) (hI.alias k p hp)
      simp [upd] at ho
      exact AV.not_own hno ho

/-- A slot's slice is its own no more. -/
theorem Inv.dem (hI : Inv w0 com0 f nt G st a w) (k : Nat) : Inv w0 com0 f nt G { st with fr := upd st.fr k ((st.fr k).1.dem, (st.fr k).2) } a w := by
  refine ⟨hI.below, hI.foreign, hI.defers, hI.size, hI.nb, hI.wrhi, hI.comlo, hI.comlt, fun j => ?_, fun j p hp => ?_, hI.blocks⟩
  · by_cases h : j = k
    · subst h; simp only [upd, if_true]; exact (hI.slots j).dem
    · simp only [upd, h, if_false]; exact hI.slots j
  · have ha : (st.fr j).2 = some p := by
      by_cases h : j = k
      · subst h; simpa [upd] using hp
      · simpa [upd, h] using hp
    have := hI.alias j p ha
    cases p with
    | leaf r off => exact this
    | slot i =>
      simp only [AliasOK] at this ⊢
      intro ho
      by_cases hi : i = k
      · subst hi
        simp [upd] at ho
        exact absurd ho (AV.not_own (AV.dem_isOwn _))
      · simp [upd, hi] at ho
        exact this ho

/-- Copies of a slot forgotten. -/
theorem Inv.clr (hI : Inv w0 com0 f nt G st a w) (p : Place) : Inv w0 com0 f nt G { st with fr := fun j => clr1 p (st.fr j) } a w := by
  have h1 : ∀ j, (clr1 p (st.fr j)).1 = (st.fr j).1 := fun j => by unfold clr1; split <;> rfl
  refine ⟨hI.below, hI.foreign, hI.defers, hI.size, hI.nb, hI.wrhi, hI.comlo, hI.comlt, fun j => ?_, fun j q hq => ?_, hI.blocks⟩
  · show VA G w _ (clr1 p (st.fr j)).1 _
    rw [h1]; exact hI.slots j
  · have hq' : (st.fr j).2 = some q := by
      simp only [clr1] at hq
      split at hq
      · cases hq
      · exact hq
    have := hI.alias j q hq'
    cases q with
    | leaf r off => exact this
    | slot i =>
      simp only [AliasOK] at this ⊢
      rw [h1]; exact this

theorem Inv.clrB (hI : Inv w0 com0 f nt G st a w) (r : Nat) : Inv w0 com0 f nt G { st with fr := fun j => clrB r (st.fr j) } a w := by
  have h1 : ∀ j, (Ev.clrB r (st.fr j)).1 = (st.fr j).1 := fun j => by unfold Ev.clrB; split <;> (try split) <;> rfl
  refine ⟨hI.below, hI.foreign, hI.defers, hI.size, hI.nb, hI.wrhi, hI.comlo, hI.comlt, fun j => ?_, fun j q hq => ?_, hI.blocks⟩
  · show VA G w _ (Ev.clrB r (st.fr j)).1 _
    rw [h1]; exact hI.slots j
  · have hq' : (st.fr j).2 = some q := by
      simp only [Ev.clrB] at hq
      split at hq
      · split at hq
        · cases hq
        · exact hq
      · exact hq
    have := hI.alias j q hq'
    cases q with
    | leaf r off => exact this
    | slot i =>
      simp only [AliasOK] at this ⊢
      rw [h1]; exact this

/-! ### A slice changes its place -/

def Gh.rel (G : Gh) (q q' : GP) : Gh := { G with wr := fun g => if G.wr g = .spare q then .spare q' else if G.wr g = .spare q' then .none else G.wr g }

theorem OwnV.rel {p q : GP} {e : Ty} {xs : List e.den} {v : Value} (h : OwnV G w p e xs v) : OwnV (G.rel p q) w q e xs v := by
  obtain ⟨ds, h1, hw, h2⟩ := h
  refine ⟨ds, h1, hw, ?_⟩
  rcases h2 with h2 | ⟨g, cap, cur, t, h2, h3, h4⟩
  · exact .inl h2
  · exact .inr ⟨g, cap, cur, t, h2, by simp [Gh.rel, h3], h4⟩

theorem Gh.rel_ext (q q' : GP) : Ext (fun t => t ≠ .spare q ∧ t ≠ .spare q') G w (G.rel q q') w :=
  ⟨fun _ _ h => h, fun _ _ _ => rfl, Nat.le_refl _, fun _ _ => ⟨rfl, rfl, rfl⟩, fun _ _ => ⟨rfl, fun _ _ h => ⟨h, rfl⟩, fun _ _ => rfl⟩, fun g hg _ => ⟨by simp [Gh.rel, hg.1, hg.2], rfl, fun _ h => h⟩⟩

/-- Is a place that of a slice of its own? -/
def Used (st : St) (f : Nat) : GP → Prop
  | .slot f' k => f' = f ∧ (st.fr k).1.isOwn = true
  | .leaf r off => ∃ b, st.bl[r]? = some b ∧ OwnLeaf b.lv off

theorem foreign_ne {id : Nat} {q : GP} (l : Loc id q) : ∀ t, Foreign id t → t ≠ .spare q := by
  rintro t ⟨f', k, h1, rfl⟩ h
  injection h with h
  subst h
  exact absurd h1 (by have : f' = id := l; omega)

theorem Inv.rel (hI : Inv w0 com0 f nt G st a w) {q q' : GP} (lq : Loc f q) (lq' : Loc f q') (hq : ¬ Used st f q) (hq' : ¬ Used st f q') : Inv w0 com0 f nt (G.rel q q') st a w := by
  have hx := Gh.rel_ext (G := G) (w := w) q q'
  have key : ∀ p : GP, Used st f p → (Wr.spare p ≠ .spare q ∧ Wr.spare p ≠ .spare q') := fun p hp =>
    ⟨fun h => by injection h with h; subst h; exact hq hp, fun h => by injection h with h; subst h; exact hq' hp⟩
  refine ⟨hI.below, f.st (hx.less fun t ht => ⟨foreign_ne lq t ht, foreign_ne lq' t ht⟩) hI.foreign, hI.defers, hI.size, hI.nb, fun g hg => hI.wrhi g (fun h => ?_), hI.comlo, hI.comlt, fun k => (hI.slots k).ext hx (fun ho => key _ ⟨rfl, ho⟩), hI.alias, fun r b hr => ?_⟩
  · simp [Gh.rel, h] at hg
  · refine (hI.blocks r b hr).ext hx (hI.lt hr) ⟨by simp, by simp⟩ (fun off ho => key _ ⟨b, hr, ho⟩)

/-- A slot gets a slice of its own, which was another place's. -/
theorem Inv.putOwn (hI : Inv w0 com0 f nt G st a w) {d : Nat} (hd : d < nt) {q : GP} {e : Ty} {xs : List e.den} {cv : Value} (hown : OwnV G w q e xs cv) (lq : Loc f q) (hq : ¬ Used st f q) :
    Inv w0 com0 f nt (G.rel q (.slot f d)) { st with fr := upd (fun j => clr1 (.slot d) (st.fr j)) d (.own e xs, none) } (a.put (some d) cv) w := by
  have hI1 := hI.dem d
  have hnd : ∀ p, ¬ Used st f p → ¬ Used { st with fr := upd st.fr d ((st.fr d).1.dem, (st.fr d).2) } f p := by
    intro p hp hu
    cases p with
    | leaf r off => exact hp hu
    | slot f' k =>
      obtain ⟨h1, h2⟩ := hu
      by_cases hk : k = d
      · subst hk
        simp [upd, AV.dem_isOwn] at h2
      · simp [upd, hk] at h2
        exact hp ⟨h1, h2⟩
  have hI2 := hI1.rel lq (q' := .slot f d) rfl (hnd q hq) (fun hu => by
    obtain ⟨_, h2⟩ := hu
    simp [upd, AV.dem_isOwn] at h2)
  have hI3 := hI2.clr (.slot d)
  refine ⟨hI3.below, hI3.foreign, hI3.defers, by simpa [Act.put] using hI3.size, hI3.nb, hI3.wrhi, hI3.comlo, hI3.comlt, fun k => ?_, fun k p hp => ?_, hI3.blocks⟩
  · show VA _ w (.slot f k) (upd (fun j => clr1 (.slot d) (st.fr j)) d (.own e xs, none) k).1 ((a.tmps.setIfInBounds d cv).getD k undef)
    rw [getD_set, hI.size]
    by_cases h : k = d
    · subst h; simp only [upd, if_true, hd, and_self]; simp only [VA]; exact hown.rel
    · have := hI3.slots k
      simp only [upd, h, if_false, false_and] at this ⊢
      exact this
  · by_cases h : k = d
    · subst h; simp [upd] at hp
    · simp only [upd, h, if_false] at hp
      have h3 := hI3.alias k p (by simp only [upd, h, if_false]; exact hp)
      refine AliasOK.put (st := { st with fr := fun j => clr1 (.slot d) (upd st.fr d ((st.fr d).1.dem, (st.fr d).2) j) }) rfl h (fun j hj ho => ?_) (fun hpd => ?_) h3
      · simp only [upd, hj, if_false] at ho ⊢
        exact ho
      · subst hpd
        simp only [clr1] at hp
        split at hp
        · cases hp
        · rename_i h5; exact absurd hp h5

/-! ### The leaves of a box -/

theorem AV.w_pos_of_cut {a : AV} {ls : List AV} {n : Nat} {x y : List AV} (h : cut (n + 1) (a :: ls) = some (x, y)) : a.w ≤ n + 1 ∧ ∃ x', x = a :: x' ∧ cut (n + 1 - a.w) ls = some (x', y) := by
  rw [cut] at h
  split at h
  · rename_i hle
    refine ⟨hle, ?_⟩
    cases hc : cut (n + 1 - a.w) ls with
    | none => rw [hc] at h; cases h
    | some z =>
      rw [hc] at h
      obtain ⟨z1, z2⟩ := z
      simp only [Option.some.injEq, Prod.mk.injEq] at h
      exact ⟨z1, h.1.symm, by rw [h.2]⟩
  · cases h

theorem Lay.cut {r : Nat} : ∀ {o : Nat} {off : Nat} {ls : List AV} {cs : List Value} {x y : List AV}, Lay G w r off ls cs → Ev.cut o ls = some (x, y) →
    ls = x ++ y ∧ ∃ c1 c2, cs = c1 ++ c2 ∧ c1.length = o ∧ Lay G w r off x c1 ∧ Lay G w r (off + o) y c2
  | 0, off, ls, cs, x, y, h, hc => by
    simp [Ev.cut] at hc
    obtain ⟨rfl, rfl⟩ := hc
    exact ⟨rfl, [], cs, rfl, rfl, by simp [Lay], h⟩
  | n + 1, off, [], cs, x, y, h, hc => by cases hc
  | n + 1, off, a :: ls, cs, x, y, h, hc => by
    obtain ⟨hle, x', rfl, hc'⟩ := AV.w_pos_of_cut hc
    simp only [Lay] at h
    obtain ⟨c, cs', rfl, h1, h0, h2, h3⟩ := h
    obtain ⟨e0, c1, c2, rfl, k1, k2, k3⟩ := Lay.cut h3 hc'
    refine ⟨by rw [e0]; rfl, c ++ c1, c2, by simp, by simp [h1, k1]; omega, ?_, ?_⟩
    · simp only [Lay]
      exact ⟨c, c1, rfl, h1, h0, h2, k2⟩
    · have : off + a.w + (n + 1 - a.w) = off + (n + 1) := by omega
      rw [this] at k3
      exact k3
  termination_by _ _ ls => ls.length

theorem Lay.append {r : Nat} : ∀ {off : Nat} {x y : List AV} {c1 c2 : List Value}, Lay G w r off x c1 → Lay G w r (off + c1.length) y c2 → Lay G w r off (x ++ y) (c1 ++ c2)
  | off, [], y, c1, c2, h1, h2 => by
    simp only [Lay] at h1
    subst h1
    simpa using h2
  | off, a :: x, y, c1, c2, h1, h2 => by
    simp only [Lay] at h1
    obtain ⟨c, cs', rfl, k1, k0, k2, k3⟩ := h1
    simp only [List.cons_append, Lay]
    refine ⟨c, cs' ++ c2, by simp, k1, k0, k2, Lay.append k3 ?_⟩
    rw [Nat.add_assoc, ← k1, ← List.length_append]
    exact h2

theorem cut_append : ∀ (x y : List AV) (off : Nat) {r o : Nat} {cs : List Value}, Lay G w r o x cs → cs.length = off → Ev.cut off (x ++ y) = some (x, y)
  | [], y, off, r, o, cs, h, hl => by
    simp only [Lay] at h
    subst h
    simp at hl
    subst hl
    simp [Ev.cut]
  | a :: x, y, off, r, o, cs, h, hl => by
    simp only [Lay] at h
    obtain ⟨c, cs', rfl, k1, k0, k2, k3⟩ := h
    have : off = a.w + cs'.length := by rw [← hl, List.length_append, k1]
    rw [this, List.cons_append, cut_tail k0, cut_append x y cs'.length k3 rfl]
    rfl

/-! ### A block is written -/

theorem setRow_ext {r : Nat} (hwr : G.wr (G.loc r) = .blk r) (hno : ∀ o, ¬ G.com (G.loc r) o) (cur' : Array Value) : Ext (fun t => t ≠ .blk r) G w G (w.setRow (G.loc r) cur') :=
  ⟨fun _ _ h => h, fun b o h => World.cell?_of_block (w := w) (setRow_other w (G.loc r) b cur' (fun e => by subst e; exact hno o h)), Nat.le_refl _, fun _ _ => ⟨rfl, rfl, rfl⟩, fun _ _ => ⟨rfl, fun _ _ h => ⟨h, rfl⟩, fun _ _ => rfl⟩,
    fun g hg _ => ⟨rfl, setRow_other w (G.loc r) g cur' (fun e => by subst e; exact hg hwr), fun _ h => h⟩⟩

theorem setRow_extG {g r : Nat} (hwr : G.wr g = .blk r) {cur' : Array Value} (hno : ∀ o, G.com g o → (w.setRow g cur').cell? ⟨g, o, none⟩ = w.cell? ⟨g, o, none⟩) : Ext (fun t => t ≠ .blk r) G w G (w.setRow g cur') :=
  ⟨fun _ _ h => h, fun b o h => by
    by_cases e : b = g
    · subst e; exact hno o h
    · exact World.cell?_of_block (w := w) (setRow_other w g b cur' e), Nat.le_refl _, fun _ _ => ⟨rfl, rfl, rfl⟩, fun _ _ => ⟨rfl, fun _ _ h => ⟨h, rfl⟩, fun _ _ => rfl⟩,
    fun g' hg _ => ⟨rfl, setRow_other w g g' cur' (fun e => by subst e; exact hg hwr), fun _ h => h⟩⟩

theorem setRow_size (w : World) (g : Nat) (c : Array Value) : (w.setRow g c).heap.size = w.heap.size := by simp [World.setRow]

theorem Inv.write (hI : Inv w0 com0 f nt G st a w) {r : Nat} {b b' : Blk} (hr : st.bl[r]? = some b) {cur' : Array Value} (hwr : G.wr (G.loc r) = .blk r) (hno : ∀ o, ¬ G.com (G.loc r) o)
    (hb' : BlkOK G (w.setRow (G.loc r) cur') r b') : Inv w0 com0 f nt G { fr := fun j => Ev.clrB r (st.fr j), bl := st.bl.set r b' } a (w.setRow (G.loc r) cur') := by
  have hx := setRow_ext (w := w) hwr hno cur'
  have hi := hI.clrB r
  have hlt := hI.lt hr
  have hw0 := (hI.wrhi (G.loc r) (by rw [hwr]; simp)).1
  refine ⟨hi.below.trans ⟨rfl, rfl, rfl, by rw [setRow_size]; exact Nat.le_refl _, fun k hk => setRow_other w _ k _ (by omega)⟩, f.st (hx.less fun t ht => by obtain ⟨_, _, _, rfl⟩ := ht; simp) hi.foreign, hi.defers, hi.size, by simpa using hI.nb, fun g hg => by rw [setRow_size]; exact hI.wrhi g hg, hI.comlo,
    fun b o h => by rw [setRow_size]; exact hI.comlt b o h, fun k => (hi.slots k).ext hx (fun _ => by simp), fun k p hp => ?_, fun r' b'' hr' => ?_⟩
  · have h1 := hi.alias k p hp
    cases p with
    | slot j => exact h1
    | leaf r' off =>
      have hne : r' ≠ r := by
        intro e
        subst e
        simp only [Ev.clrB] at hp
        split at hp
        · rename_i h2
          split at hp
          · cases hp
          · rename_i h3; rw [hp] at h2; injection h2 with h2; injection h2 with h2 _; exact h3 h2.symm
        · rename_i h2; exact h2 _ _ hp
      simp only [AliasOK] at h1 ⊢
      refine ⟨by simpa using h1.1, fun b hr' => ?_⟩
      simp only [List.getElem?_set_ne (Ne.symm hne)] at hr'
      exact (h1.2 b hr').ext hx (hI.lt hr') (by simpa using hne) (hI.blocks r' b hr')
  · by_cases e : r' = r
    · subst e
      rw [List.getElem?_set_self (by rw [← hI.nb]; exact hlt)] at hr'
      cases hr'
      exact hb'
    · rw [List.getElem?_set_ne (Ne.symm e)] at hr'
      exact (hI.blocks r' b'' hr').ext hx (hI.lt hr') (by simpa using e) (fun _ _ => by simp)

/-- The same, of one of the blocks that belong to r. -/
theorem Inv.writeG (hI : Inv w0 com0 f nt G st a w) {r g : Nat} {b b' : Blk} (hr : st.bl[r]? = some b) {cur' : Array Value} (hwr : G.wr g = .blk r) (hno : ∀ o, G.com g o → (w.setRow g cur').cell? ⟨g, o, none⟩ = w.cell? ⟨g, o, none⟩)
    (hb' : BlkOK G (w.setRow g cur') r b') : Inv w0 com0 f nt G { fr := fun j => Ev.clrB r (st.fr j), bl := st.bl.set r b' } a (w.setRow g cur') := by
  have hx := setRow_extG (w := w) hwr hno
  have hi := hI.clrB r
  have hlt := hI.lt hr
  have hw0 := (hI.wrhi g (by rw [hwr]; simp)).1
  refine ⟨hi.below.trans ⟨rfl, rfl, rfl, by rw [setRow_size]; exact Nat.le_refl _, fun k hk => setRow_other w _ k _ (by omega)⟩, f.st (hx.less fun t ht => by obtain ⟨_, _, _, rfl⟩ := ht; simp) hi.foreign, hi.defers, hi.size, by simpa using hI.nb, fun g hg => by rw [setRow_size]; exact hI.wrhi g hg, hI.comlo,
    fun b o h => by rw [setRow_size]; exact hI.comlt b o h, fun k => (hi.slots k).ext hx (fun _ => by simp), fun k p hp => ?_, fun r' b'' hr' => ?_⟩
  · have h1 := hi.alias k p hp
    cases p with
    | slot j => exact h1
    | leaf r' off =>
      have hne : r' ≠ r := by
        intro e
        subst e
        simp only [Ev.clrB] at hp
        split at hp
        · rename_i h2
          split at hp
          · cases hp
          · rename_i h3; rw [hp] at h2; injection h2 with h2; injection h2 with h2 _; exact h3 h2.symm
        · rename_i h2; exact h2 _ _ hp
      simp only [AliasOK] at h1 ⊢
      refine ⟨by simpa using h1.1, fun b hr' => ?_⟩
      simp only [List.getElem?_set_ne (Ne.symm hne)] at hr'
      exact (h1.2 b hr').ext hx (hI.lt hr') (by simpa using hne) (hI.blocks r' b hr')
  · by_cases e : r' = r
    · subst e
      rw [List.getElem?_set_self (by rw [← hI.nb]; exact hlt)] at hr'
      cases hr'
      exact hb'
    · rw [List.getElem?_set_ne (Ne.symm e)] at hr'
      exact (hI.blocks r' b'' hr').ext hx (hI.lt hr') (by simpa using e) (fun _ _ => by simp)

/-- A block seen otherwise: nothing is written. -/
theorem Inv.reblk (hI : Inv w0 com0 f nt G st a w) {r : Nat} {b b' : Blk} (hr : st.bl[r]? = some b) (hb' : BlkOK G w r b') : Inv w0 com0 f nt G { fr := fun j => Ev.clrB r (st.fr j), bl := st.bl.set r b' } a w := by
  have hi := hI.clrB r
  have hlt := hI.lt hr
  refine ⟨hi.below, hi.foreign, hi.defers, hi.size, by simpa using hI.nb, hi.wrhi, hi.comlo, hi.comlt, hi.slots, fun k p hp => ?_, fun r' b'' hr' => ?_⟩
  · have h1 := hi.alias k p hp
    cases p with
    | slot j => exact h1
    | leaf r' off =>
      have hne : r' ≠ r := by
        intro e
        subst e
        simp only [Ev.clrB] at hp
        split at hp
        · rename_i h2
          split at hp
          · cases hp
          · rename_i h3; rw [hp] at h2; injection h2 with h2; injection h2 with h2 _; exact h3 h2.symm
        · rename_i h2; exact h2 _ _ hp
      simp only [AliasOK] at h1 ⊢
      refine ⟨by simpa using h1.1, fun b hr' => ?_⟩
      simp only [List.getElem?_set_ne (Ne.symm hne)] at hr'
      exact h1.2 b hr'
  · by_cases e : r' = r
    · subst e
      rw [List.getElem?_set_self (by rw [← hI.nb]; exact hlt)] at hr'
      cases hr'
      exact hb'
    · rw [List.getElem?_set_ne (Ne.symm e)] at hr'
      exact hI.blocks r' b'' hr'

/-- A block of r's own becomes a row of r'. -/
def Gh.giv (G : Gh) (r r2 i n : Nat) : Gh := { G with wr := upd G.wr (G.loc r2) (.blk r), row := upd G.row r (upd (G.row r) i (some (G.loc r2))), rlen := upd G.rlen r (upd (G.rlen r) i n) }

theorem Inv.giv (hI : Inv w0 com0 f nt G st a w) {r r2 i n : Nat} {b b2 b' : Blk} (hr : st.bl[r]? = some b) (hr2 : st.bl[r2]? = some b2) (hne : r2 ≠ r) {cur' : Array Value} (hwr : G.wr (G.loc r) = .blk r) (hno : ∀ o, ¬ G.com (G.loc r) o)
    (hwr2 : G.wr (G.loc r2) = .blk r2) (hnone : G.row r i = none)
    (hb' : Ext (fun t => t ≠ .blk r ∧ t ≠ .blk r2) G w (G.giv r r2 i n) (w.setRow (G.loc r) cur') → BlkOK (G.giv r r2 i n) (w.setRow (G.loc r) cur') r b') :
    Inv w0 com0 f nt (G.giv r r2 i n) { fr := fun j => Ev.clrB r (st.fr j), bl := (st.bl.set r b').set r2 .gone } a (w.setRow (G.loc r) cur') := by
  have hx : Ext (fun t => t ≠ .blk r ∧ t ≠ .blk r2) G w (G.giv r r2 i n) (w.setRow (G.loc r) cur') := by
    refine ⟨fun _ _ h => h, fun b o h => World.cell?_of_block (w := w) (setRow_other w (G.loc r) b cur' (fun e => by subst e; exact hno o h)), Nat.le_refl _, fun _ _ => ⟨rfl, rfl, rfl⟩, fun r' _ => ⟨rfl, fun i' g h => ?_, fun t i' => ?_⟩, fun g hg _ => ?_⟩
    · have hne' : ¬ (r' = r ∧ i' = i) := by rintro ⟨rfl, rfl⟩; rw [hnone] at h; cases h
      by_cases e : r' = r
      · subst e
        have : i' ≠ i := fun e => hne' ⟨rfl, e⟩
        simp [Gh.giv, upd, this, h]
      · simp [Gh.giv, upd, e, h]
    · have : r' ≠ r := fun e => t.1 (by rw [e])
      simp [Gh.giv, upd, this]
    · have h1 : g ≠ G.loc r2 := fun e => by subst e; exact hg.2 hwr2
      have h2 : g ≠ G.loc r := fun e => by subst e; exact hg.1 hwr
      exact ⟨by simp [Gh.giv, upd, h1], setRow_other w _ g cur' h2, fun _ h => h⟩
  have hb' := hb' hx
  have hi := hI.clrB r
  have hlt := hI.lt hr
  have hlt2 := hI.lt hr2
  have hw0 := (hI.wrhi (G.loc r) (by rw [hwr]; simp)).1
  have hw2 := hI.wrhi (G.loc r2) (by rw [hwr2]; simp)
  refine ⟨hi.below.trans ⟨rfl, rfl, rfl, by rw [setRow_size]; exact Nat.le_refl _, fun k hk => setRow_other w _ k _ (by omega)⟩, f.st (hx.less fun t ht => by obtain ⟨_, _, _, rfl⟩ := ht; simp) hi.foreign, hi.defers, hi.size, by simpa [Gh.giv] using hI.nb, fun g hg => ?_, hI.comlo,
    fun b o h => by rw [setRow_size]; exact hI.comlt b o h, fun k => (hi.slots k).ext hx (fun _ => by simp), fun k p hp => ?_, fun r' b'' hr' => ?_⟩
  · rw [setRow_size]
    by_cases e : g = G.loc r2
    · subst e; exact hw2
    · simp only [Gh.giv, upd, e, if_false] at hg; exact hI.wrhi g hg
  · have h1 := hi.alias k p hp
    cases p with
    | slot j => exact h1
    | leaf r' off =>
      have hne' : r' ≠ r := by
        intro e
        subst e
        simp only [Ev.clrB] at hp
        split at hp
        · rename_i h2
          split at hp
          · cases hp
          · rename_i h3; rw [hp] at h2; injection h2 with h2; injection h2 with h2 _; exact h3 h2.symm
        · rename_i h2; exact h2 _ _ hp
      simp only [AliasOK] at h1 ⊢
      refine ⟨by simpa using h1.1, fun b hr' => ?_⟩
      by_cases e2 : r' = r2
      · subst e2
        rw [List.getElem?_set_self (by simpa using h1.1)] at hr'
        cases hr'
        trivial
      · rw [List.getElem?_set_ne (Ne.symm e2), List.getElem?_set_ne (Ne.symm hne')] at hr'
        exact (h1.2 b hr').ext hx (hI.lt hr') ⟨by simpa using hne', by simpa using e2⟩ (hI.blocks r' b hr')
  · by_cases e2 : r' = r2
    · subst e2
      rw [List.getElem?_set_self (by simp; rw [← hI.nb]; exact hlt2)] at hr'
      cases hr'
      trivial
    · rw [List.getElem?_set_ne (Ne.symm e2)] at hr'
      by_cases e : r' = r
      · subst e
        rw [List.getElem?_set_self (by rw [← hI.nb]; exact hlt)] at hr'
        cases hr'
        exact hb'
      · rw [List.getElem?_set_ne (Ne.symm e)] at hr'
        exact (hI.blocks r' b'' hr').ext hx (hI.lt hr') ⟨by simpa using e, by simpa using e2⟩ (fun _ _ => by simp)

/-! ### A block is made -/

def Gh.grow (G : Gh) (B len wd : Nat) (rw : Nat := 0) : Gh := { G with nb := G.nb + 1, loc := upd G.loc G.nb B, wr := upd G.wr B (.blk G.nb), len := upd G.len G.nb len, wd := upd G.wd G.nb wd, row := upd G.row G.nb fun _ => none, rwd := upd G.rwd G.nb rw }

theorem Inv.grow_ext (hI : Inv w0 com0 f nt G st a w) (o : Obj) (len wd : Nat) (rw : Nat := 0) : Ext (fun _ => True) G w (G.grow w.heap.size len wd rw) (w.alloc o) := by
  refine ⟨fun _ _ h => h, fun b o' h => World.cell?_alloc_lt w o _ (hI.comlt b o' h), Nat.le_succ _, fun r hr => ?_, fun r hr => ?_, fun g _ hg => ?_⟩
  · have : r ≠ G.nb := Nat.ne_of_lt hr
    simp [Gh.grow, upd, this]
  · have : r ≠ G.nb := Nat.ne_of_lt hr
    simp [Gh.grow, upd, this]
  · have hl := (hI.wrhi g hg).2
    have : g ≠ w.heap.size := Nat.ne_of_lt hl
    exact ⟨by simp [Gh.grow, upd, this], Below.heap_alloc w o g hl, fun _ h => h⟩

theorem Inv.alloc (hI : Inv w0 com0 f nt G st a w) {cur : Array Value} {t : TypeId} {b : Blk} {len wd rw : Nat} (hb : BlkOK (G.grow w.heap.size len wd rw) (w.alloc (.cells cur t)) G.nb b) :
    Inv w0 com0 f nt (G.grow w.heap.size len wd rw) { st with bl := st.bl ++ [b] } a (w.alloc (.cells cur t)) := by
  have hx := hI.grow_ext (.cells cur t) len wd rw
  refine ⟨hI.below.alloc hI.below.size _, f.st (hx.less fun _ _ => trivial) hI.foreign, hI.defers, hI.size, by simp [Gh.grow, hI.nb], fun g hg => ?_, hI.comlo, fun b o h => ?_, fun k => (hI.slots k).ext hx (fun _ => trivial), fun k p hp => ?_, fun r b' hr => ?_⟩
  · rw [World.size_alloc]
    by_cases e : g = w.heap.size
    · subst e; exact ⟨hI.below.size, Nat.lt_succ_self _⟩
    · simp [Gh.grow, upd, e] at hg
      have := hI.wrhi g hg
      exact ⟨this.1, by omega⟩
  · have := hI.comlt b o h
    simp; omega
  · have h1 := hI.alias k p hp
    cases p with
    | slot j => exact h1
    | leaf r off =>
      simp only [AliasOK] at h1 ⊢
      refine ⟨by simp; omega, fun b hr => ?_⟩
      rw [List.getElem?_append_left h1.1] at hr
      exact (h1.2 b hr).ext hx (hI.lt hr) trivial (hI.blocks r b hr)
  · rcases Nat.lt_trichotomy r st.bl.length with h | h | h
    · rw [List.getElem?_append_left h] at hr
      exact (hI.blocks r b' hr).ext hx (hI.lt hr) trivial (fun _ _ => trivial)
    · subst h
      simp at hr
      subst hr
      rw [← hI.nb]
      exact hb
    · rw [List.getElem?_eq_none (by simp; omega)] at hr
      cases hr

end

end Go.Ev

/-
  LEAVES AND DATA: what is read out of leaves, what data is as leaves, zero values; the types of a program.
-/
namespace Go.Ev
open Go.RowKit (Below)

section
variable {G : Gh} {w : World}

/-- Leaves over cells, wherever they lie. -/
def LL (G : Gh) (w : World) : List AV → List Value → Prop
  | [], cs => cs = []
  | a :: l, cs => ∃ c cs' p, cs = c ++ cs' ∧ LeafV G w p a c ∧ LL G w l cs'

theorem Lay.ll {r : Nat} : ∀ {off : Nat} {ls : List AV} {cs : List Value}, Lay G w r off ls cs → LL G w ls cs
  | _, [], _, h => by simpa only [Lay, LL] using h
  | _, a :: l, _, h => by
    simp only [Lay] at h
    obtain ⟨c, cs', h1, _, _, h2, h3⟩ := h
    exact ⟨c, cs', _, h1, h2, h3.ll⟩

theorem LA.ll {p : GP} : ∀ {ls : List AV} {cs : List Value}, LA G w p ls cs → LL G w ls cs
  | [], _, h => by simpa only [LA, LL] using h
  | a :: l, _, h => by
    cases a <;> simp only [LA] at h <;> obtain ⟨c, cs', h1, h2⟩ := h
    case d τ x => exact ⟨c, cs', p, h1, h2.1, h2.2.ll⟩
    all_goals exact ⟨[c], cs', p, h1, ⟨c, rfl, h2.2.1, h2.2.2.1⟩, h2.2.2.2.ll⟩

theorem LL.la (p : GP) : ∀ {ls : List AV} {cs : List Value}, LL G w ls cs → (∀ a ∈ ls, a.isOwn = false) → LA G w p ls cs
  | [], _, h, _ => by simpa only [LA, LL] using h
  | a :: l, _, h, ho => by
    obtain ⟨c, cs', q, h1, h2, h3⟩ := h
    have k := h3.la p (fun a ha => ho a (by simp [ha]))
    have k0 := ho a (by simp)
    cases a <;> simp only [LA] <;> simp only [LeafV] at h2
    case d τ x => exact ⟨c, cs', h1, h2, k⟩
    all_goals
      obtain ⟨v, rfl, k1, k2⟩ := h2
      exact ⟨v, cs', h1, k0, k1.place p k0, k2, k⟩

theorem LA.noOwn {p : GP} : ∀ {ls : List AV} {cs : List Value}, LA G w p ls cs → ∀ a ∈ ls, a.isOwn = false
  | [], _, _, _, ha => by cases ha
  | b :: l, _, h, a, ha => by
    rcases List.mem_cons.1 ha with rfl | ha'
    · cases a <;> simp only [LA] at h <;> obtain ⟨c, cs', h1, h2⟩ := h
      case d τ x => rfl
      all_goals exact h2.1
    · clear ha
      cases b <;> simp only [LA] at h <;> obtain ⟨c, cs', h1, h2⟩ := h
      case d τ x => exact h2.2.noOwn a ha'
      all_goals exact h2.2.2.2.noOwn a ha'

theorem LL.append : ∀ {x y : List AV} {c1 c2 : List Value}, LL G w x c1 → LL G w y c2 → LL G w (x ++ y) (c1 ++ c2)
  | [], _, _, _, h1, h2 => by simp only [LL] at h1; subst h1; simpa using h2
  | a :: x, _, _, _, h1, h2 => by
    obtain ⟨c, cs', p, rfl, h3, h4⟩ := h1
    exact ⟨c, cs' ++ _, p, by simp, h3, h4.append h2⟩

theorem LeafV.len {p : GP} {a : AV} {c : List Value} (h : LeafV G w p a c) : c.length = a.w := by
  cases a <;> simp only [LeafV] at h
  case d τ x => exact h.len
  all_goals
    obtain ⟨v, rfl, _⟩ := h
    rfl

theorem LL.cut : ∀ {o : Nat} {ls : List AV} {cs : List Value} {x y : List AV}, LL G w ls cs → Ev.cut o ls = some (x, y) →
    ls = x ++ y ∧ ∃ c1 c2, cs = c1 ++ c2 ∧ c1.length = o ∧ LL G w x c1 ∧ LL G w y c2
  | 0, ls, cs, x, y, h, hc => by
    simp [Ev.cut] at hc
    obtain ⟨rfl, rfl⟩ := hc
    exact ⟨rfl, [], cs, rfl, rfl, by simp [LL], h⟩
  | n + 1, [], cs, x, y, h, hc => by cases hc
  | n + 1, a :: ls, cs, x, y, h, hc => by
    obtain ⟨hle, x', rfl, hc'⟩ := AV.w_pos_of_cut hc
    obtain ⟨c, cs', p, rfl, h2, h3⟩ := h
    obtain ⟨e0, c1, c2, rfl, k1, k2, k3⟩ := LL.cut h3 hc'
    have := h2.len
    exact ⟨by rw [e0]; rfl, c ++ c1, c2, by simp, by simp [k1]; omega, ⟨c, c1, p, rfl, h2, k2⟩, k3⟩
  termination_by _ ls => ls.length

theorem to1_sound {p : GP} {a : AV} {c : List Value} {τ : Ty} {x : τ.den} (h : LeafV G w p a c) (hx : a.to1 τ = some x) : Cells G.com w τ c x := by
  cases a <;> simp only [AV.to1] at hx <;> (try cases hx) <;> simp only [LeafV] at h
  case d τ' y =>
    split at hx
    · rename_i e; subst e; cases hx; exact h
    · cases hx
  case own e xs =>
    split at hx
    · rename_i e; subst e; cases hx
      obtain ⟨v, rfl, h1, h2⟩ := h
      simp only [VA] at h1
      have := h1.val
      have h3 := this.1
      rw [cells_of_not_agg (by simpa [Ty.isAgg] using this.2)] at h3
      exact h3
    · cases hx
  case nils =>
    obtain ⟨v, rfl, h1, h2⟩ := h
    simp only [VA] at h1
    subst h1
    split at hx
    · cases hx
      exact ⟨none, 0, 0, [], rfl, rfl, Nat.le_refl _, .nil, .inl rfl⟩
    · cases hx
  case fn f caps =>
    obtain ⟨v, rfl, h1, h2⟩ := h
    cases caps with
    | cons _ _ => cases hx
    | nil =>
      simp only [VA, TA] at h1
      obtain ⟨vs, rfl, rfl⟩ := h1
      cases τ <;> simp only at hx <;> try (cases hx; done)
      cases hx
      exact ⟨rfl, h2⟩

theorem times_sound {α β : Type} {f : List α → Option (β × List α)} {Q : List α → List Value → Prop} {R : List Value → β → Prop} {n0 : Nat}
    (hf : ∀ l x l' cs, f l = some (x, l') → Q l cs → ∃ c cs', cs = c ++ cs' ∧ R c x ∧ Q l' cs') :
    ∀ (n : Nat) {l : List α} {xs : List β} {l' : List α} {cs : List Value}, times f n l = some (xs, l') → Q l cs → xs.length = n ∧ ∃ c cs', cs = c ++ cs' ∧ Parts R c xs ∧ Q l' cs'
  | 0, l, xs, l', cs, h, hq => by
    simp [times] at h
    obtain ⟨rfl, rfl⟩ := h
    exact ⟨rfl, [], cs, rfl, .nil, hq⟩
  | n + 1, l, xs, l', cs, h, hq => by
    simp only [times] at h
    split at h
    · cases h
    · rename_i x l1 h1
      split at h
      · cases h
      · rename_i ys l2 h2
        simp only [Option.some.injEq, Prod.mk.injEq] at h
        obtain ⟨rfl, rfl⟩ := h
        obtain ⟨c, cs', rfl, k1, k2⟩ := hf _ _ _ _ h1 hq
        obtain ⟨k0, c2, cs2, rfl, k3, k4⟩ := times_sound (n0 := n0) hf n h2 k2
        exact ⟨by simp [k0], c ++ c2, cs2, by simp, .cons k1 k3, k4⟩

theorem fromLeaves_sound : ∀ {τ : Ty} {ls : List AV} {x : τ.den} {rest : List AV} {cs : List Value}, fromLeaves τ ls = some (x, rest) → LL G w ls cs → ∃ c1 c2, cs = c1 ++ c2 ∧ Cells G.com w τ c1 x ∧ LL G w rest c2 := by
  intro τ
  induction τ with
  | agg p ih =>
    intro ls x rest cs h hl
    simp only [fromLeaves] at h
    obtain ⟨c1, c2, h1, h2, h3⟩ := ih h hl
    exact ⟨c1, c2, h1, h2, h3⟩
  | unit =>
    intro ls x rest cs h hl
    simp only [fromLeaves, Option.some.injEq, Prod.mk.injEq] at h
    obtain ⟨_, rfl⟩ := h
    exact ⟨[], cs, rfl, rfl, hl⟩
  | cons a b iha ihb =>
    intro ls x rest cs h hl
    simp only [fromLeaves] at h
    split at h
    · cases h
    · rename_i y l1 h1
      split at h
      · cases h
      · rename_i z l2 h2
        simp only [Option.some.injEq, Prod.mk.injEq] at h
        obtain ⟨rfl, rfl⟩ := h
        obtain ⟨c1, c2, rfl, k1, k2⟩ := iha h1 hl
        obtain ⟨c3, c4, rfl, k3, k4⟩ := ihb h2 k2
        exact ⟨c1 ++ c3, c4, by simp, ⟨c1, c3, rfl, k1, k3⟩, k4⟩
  | arr n e ih =>
    intro ls x rest cs h hl
    simp only [fromLeaves] at h
    split at h
    · split at h
      · rename_i a l
        split at h
        · rename_i y h1
          simp only [Option.some.injEq, Prod.mk.injEq] at h
          obtain ⟨rfl, rfl⟩ := h
          obtain ⟨c, cs', p, rfl, k1, k2⟩ := hl
          exact ⟨c, cs', rfl, to1_sound k1 h1, k2⟩
        · cases h
      · cases h
    · obtain ⟨k0, c, cs', rfl, k1, k2⟩ := times_sound (n0 := 0) (Q := LL G w) (R := Cells G.com w e) (fun l x l' cs hx hq => ih hx hq) n h hl
      exact ⟨c, cs', rfl, ⟨k0, k1⟩, k2⟩
  | _ =>
    intro ls x rest cs h hl
    cases ls with
    | nil => simp [fromLeaves] at h
    | cons a l =>
      simp only [fromLeaves] at h
      split at h
      · rename_i y h1
        simp only [Option.some.injEq, Prod.mk.injEq] at h
        obtain ⟨rfl, rfl⟩ := h
        obtain ⟨c, cs', p, rfl, k1, k2⟩ := hl
        exact ⟨c, cs', rfl, to1_sound k1 h1, k2⟩
      · cases h

theorem to1_agg {τ : Ty} {a : AV} {x : τ.den} {p : GP} {v : Value} (h : VA G w p a v) (hx : a.to1 τ = some x) : Val G.com w τ v x := by
  cases a <;> simp only [AV.to1] at hx <;> (try cases hx) <;> simp only [VA] at h
  case d τ' y =>
    split at hx
    · rename_i e; subst e; cases hx; exact h
    · cases hx
  case own e xs =>
    split at hx
    · rename_i e; subst e; cases hx; exact h.val
    · cases hx
  case nils =>
    subst h
    split at hx
    · cases hx
      exact ⟨⟨none, 0, 0, [], rfl, rfl, Nat.le_refl _, .nil, .inl rfl⟩, rfl⟩
    · cases hx
  case fn f caps =>
    cases caps with
    | cons _ _ => cases hx
    | nil =>
      simp only [TA] at h
      obtain ⟨vs, rfl, rfl⟩ := h
      cases τ <;> simp only at hx <;> try (cases hx; done)
      cases hx
      exact ⟨⟨rfl, rfl⟩, rfl⟩

theorem to_sound {τ : Ty} {a : AV} {x : τ.den} {p : GP} {v : Value} (h : VA G w p a v) (hx : a.to τ = some x) : Val G.com w τ v x := by
  cases a <;> simp only [AV.to] at hx
  case agl ls =>
    split at hx
    · rename_i hagg
      simp only [VA] at h
      split at hx
      · rename_i y h1
        cases hx
        obtain ⟨c1, c2, h2, h3, h4⟩ := fromLeaves_sound h1 h.2.ll
        simp only [LL] at h4
        subst h4
        rw [List.append_nil] at h2
        exact ⟨by rw [h2]; exact h3, by rw [h.1, hagg]⟩
      · cases hx
    · cases hx
  all_goals exact to1_agg h hx

/-! ### Leaves laid in a box -/

theorem Lay.single {r off : Nat} {a : AV} {c : List Value} (h : LeafV G w (.leaf r off) a c) (hw : 0 < a.w) : Lay G w r off [a] c := by
  simp only [Lay]
  exact ⟨c, [], by simp, h.len, hw, h, rfl⟩

theorem wide_append {x y : List AV} : wide (x ++ y) = (wide x && wide y) := by simp [wide, List.all_append]

theorem AV.w_of_pw {a : AV} (h : 0 < a.pw) : 0 < a.w := by cases a <;> first | exact h | exact Nat.one_pos

theorem wide_cons {a : AV} {l : List AV} (h : wide (a :: l) = true) : 0 < a.w ∧ wide l = true ∧ ∀ e xs, a = .own e xs → 0 < e.width := by
  simp only [wide, List.all_cons, Bool.and_eq_true, decide_eq_true_eq] at h
  exact ⟨AV.w_of_pw h.1, h.2, fun e xs he => by subst he; exact h.1⟩

theorem explode_ll : ∀ {τ : Ty} {cs : List Value} {x : τ.den}, Cells G.com w τ cs x → LL G w (explode τ x) cs ∧ ∀ a ∈ explode τ x, a.isOwn = false
  | .int k, cs, x, h => ⟨⟨cs, [], .slot 0 0, by simp, h, rfl⟩, by simp [explode, AV.isOwn]⟩
  | .bool, cs, x, h => ⟨⟨cs, [], .slot 0 0, by simp, h, rfl⟩, by simp [explode, AV.isOwn]⟩
  | .str, cs, x, h => ⟨⟨cs, [], .slot 0 0, by simp, h, rfl⟩, by simp [explode, AV.isOwn]⟩
  | .slice e, cs, x, h => ⟨⟨cs, [], .slot 0 0, by simp, h, rfl⟩, by simp [explode, AV.isOwn]⟩
  | .raw, cs, x, h => ⟨⟨cs, [], .slot 0 0, by simp, h, rfl⟩, by simp [explode, AV.isOwn]⟩
  | .unit, cs, x, h => by simp only [Cells] at h; subst h; exact ⟨rfl, by simp [explode]⟩
  | .agg p, cs, x, h => by simp only [Cells] at h; exact explode_ll (τ := p) h
  | .cons a b, cs, x, h => by
    simp only [Cells] at h
    obtain ⟨c1, c2, rfl, h1, h2⟩ := h
    have k1 := explode_ll h1
    have k2 := explode_ll h2
    refine ⟨k1.1.append k2.1, fun a ha => ?_⟩
    simp only [explode] at ha
    rcases List.mem_append.1 ha with h | h
    · exact k1.2 a h
    · exact k2.2 a h
  | .arr n e, cs, x, h => by
    simp only [explode]
    split
    · exact ⟨⟨cs, [], .slot 0 0, by simp, h, rfl⟩, by simp [AV.isOwn]⟩
    · simp only [Cells] at h
      obtain ⟨hn, h⟩ := h
      have : ∀ (xs : List e.den) (cs : List Value), Parts (Cells G.com w e) cs xs → ((List.range xs.length).flatMap fun i => explode e (List.getD xs i e.zero)) = xs.flatMap (explode e) ∧ LL G w (xs.flatMap (explode e)) cs ∧ ∀ a ∈ xs.flatMap (explode e), a.isOwn = false := by
        intro xs cs hp
        induction hp with
        | nil => exact ⟨rfl, rfl, by simp⟩
        | cons hx _ ih =>
          have k := explode_ll hx
          refine ⟨?_, ?_, ?_⟩
          · rw [List.length_cons, List.range_succ_eq_map, List.flatMap_cons, List.flatMap_cons, ← ih.1, List.flatMap_map]
            rfl
          · rw [List.flatMap_cons]; exact k.1.append ih.2.1
          · intro a ha
            rw [List.flatMap_cons] at ha
            rcases List.mem_append.1 ha with h | h
            · exact k.2 a h
            · exact ih.2.2 a h
      have k := this x cs h
      rw [hn] at k
      rw [k.1]
      exact k.2

/-- Leaves that are no slices of their own, laid wherever. -/
theorem LL.lay {r : Nat} : ∀ {off : Nat} {ls : List AV} {cs : List Value}, LL G w ls cs → (∀ a ∈ ls, a.isOwn = false) → wide ls = true → Lay G w r off ls cs
  | _, [], _, h, _, _ => by simpa only [Lay, LL] using h
  | off, a :: l, _, h, ho, hw => by
    obtain ⟨c, cs', p, rfl, h2, h3⟩ := h
    have k := h3.lay (r := r) (off := off + a.w) (fun b hb => ho b (by simp [hb])) (wide_cons hw).2.1
    have hao := ho a (by simp)
    simp only [Lay]
    refine ⟨c, cs', rfl, h2.len, (wide_cons hw).1, ?_, k⟩
    cases a <;> simp only [LeafV] at h2 ⊢
    case d τ x => exact h2
    all_goals
      obtain ⟨v, h4, h5, h6⟩ := h2
      exact ⟨v, h4, h5.place _ hao, h6⟩

theorem Lay.len {r : Nat} : ∀ {off : Nat} {ls : List AV} {cs : List Value}, Lay G w r off ls cs → cs.length = (ls.map AV.w).sum
  | _, [], _, h => by simp only [Lay] at h; subst h; rfl
  | _, a :: l, _, h => by
    simp only [Lay] at h
    obtain ⟨c, cs', rfl, h1, _, _, h3⟩ := h
    simp [h1, h3.len]

theorem settle_sound {r : Nat} : ∀ {τ : Ty} {ls : List AV} {x : List AV} {rest : List AV} {cs : List Value}, settle τ ls = some (x, rest) → LL G w ls cs →
    ∃ c1 c2, cs = c1 ++ c2 ∧ c1.length = τ.width ∧ (wide x = true → ∀ off, Lay G w r off x c1) ∧ LL G w rest c2 := by
  have one : ∀ {τ : Ty} {a : AV} {l : List AV} {y : τ.den} {cs : List Value}, a.to1 τ = some y → LL G w (a :: l) cs →
      ∃ c1 c2, cs = c1 ++ c2 ∧ c1.length = τ.width ∧ (wide [AV.d τ y] = true → ∀ off, Lay G w r off [.d τ y] c1) ∧ LL G w l c2 := by
    intro τ a l y cs h hl
    obtain ⟨c, cs', p, rfl, k1, k2⟩ := hl
    have k3 := to1_sound k1 h
    exact ⟨c, cs', rfl, k3.len, fun hw off => Lay.single k3 (wide_cons hw).1, k2⟩
  intro τ
  induction τ with
  | agg p ih =>
    intro ls x rest cs h hl
    simp only [settle] at h
    exact ih h hl
  | unit =>
    intro ls x rest cs h hl
    simp only [settle, Option.some.injEq, Prod.mk.injEq] at h
    obtain ⟨rfl, rfl⟩ := h
    exact ⟨[], cs, rfl, rfl, fun _ _ => rfl, hl⟩
  | cons a b iha ihb =>
    intro ls x rest cs h hl
    simp only [settle] at h
    split at h
    · cases h
    · rename_i y l1 h1
      split at h
      · cases h
      · rename_i z l2 h2
        simp only [Option.some.injEq, Prod.mk.injEq] at h
        obtain ⟨rfl, rfl⟩ := h
        obtain ⟨c1, c2, rfl, k0, k1, k2⟩ := iha h1 hl
        obtain ⟨c3, c4, rfl, k5, k3, k4⟩ := ihb h2 k2
        refine ⟨c1 ++ c3, c4, by simp, by simp [k0, k5, Ty.width], fun hw off => ?_, k4⟩
        rw [wide_append, Bool.and_eq_true] at hw
        exact (k1 hw.1 off).append (k3 hw.2 _)
  | arr n e ih =>
    intro ls x rest cs h hl
    simp only [settle] at h
    split at h
    · split at h
      · rename_i a l
        split at h
        · rename_i y h1
          simp only [Option.some.injEq, Prod.mk.injEq] at h
          obtain ⟨rfl, rfl⟩ := h
          exact one h1 hl
        · cases h
      · cases h
    · split at h
      · rename_i y l1 h1
        simp only [Option.some.injEq, Prod.mk.injEq] at h
        obtain ⟨rfl, rfl⟩ := h
        obtain ⟨k0, c, cs', rfl, k1, k2⟩ := times_sound (n0 := 0) (Q := LL G w) (R := fun c x => c.length = e.width ∧ (wide x = true → ∀ off, Lay G w r off x c))
          (fun l x l' cs hx hq => let ⟨c1, c2, q1, q2, q3, q4⟩ := ih hx hq; ⟨c1, c2, q1, ⟨q2, q3⟩, q4⟩) n h1 hl
        refine ⟨c, cs', rfl, ?_, ?_, k2⟩
        · rw [k1.len (fun _ _ hx => hx.1), k0]; rfl
        · clear h1 k0 hl
          induction k1 with
          | nil => intro _ _; simp [Lay]
          | cons hx _ ihp =>
            intro hw off
            rw [List.flatten_cons, wide_append, Bool.and_eq_true] at hw
            rw [List.flatten_cons]
            exact (hx.2 hw.1 off).append (ihp hw.2 _)
      · cases h
  | slice e =>
    intro ls x rest cs h hl
    cases ls with
    | nil => simp [settle] at h
    | cons a l =>
      simp only [settle] at h
      split at h
      · simp only [Option.some.injEq, Prod.mk.injEq] at h
        obtain ⟨rfl, rfl⟩ := h
        obtain ⟨c, cs', p, rfl, ⟨v, rfl, k1, _⟩, k2⟩ := hl
        simp only [VA] at k1
        subst k1
        exact ⟨[_], cs', rfl, rfl, fun hw off => Lay.single ⟨_, rfl, ⟨[], .nil, (wide_cons hw).2.2 e [] rfl, .inl ⟨rfl, rfl⟩⟩, rfl⟩ (wide_cons hw).1, k2⟩
      · split at h
        · rename_i y h1
          simp only [Option.some.injEq, Prod.mk.injEq] at h
          obtain ⟨rfl, rfl⟩ := h
          exact one h1 hl
        · cases h
  | _ =>
    intro ls x rest cs h hl
    cases ls with
    | nil => simp [settle] at h
    | cons a l =>
      simp only [settle] at h
      split at h
      · rename_i y h1
        simp only [Option.some.injEq, Prod.mk.injEq] at h
        obtain ⟨rfl, rfl⟩ := h
        exact one h1 hl
      · cases h

/-- A value's leaves, laid in a box. -/
theorem leaves_sound {r : Nat} {τ : Ty} {a : AV} {ls : List AV} {p : GP} {v : Value} (h : VA G w p a v) (hx : a.leaves τ = some ls) (hw : wide ls = true) :
    v.cells.toList.length = τ.width ∧ ∀ off, Lay G w r off ls v.cells.toList := by
  have data : ∀ (b : AV), VA G w p b v → (b.to1 τ).map (explode τ) = some ls → v.cells.toList.length = τ.width ∧ ∀ off, Lay G w r off ls v.cells.toList := by
    intro b hb hm
    cases hy : b.to1 τ with
    | none => rw [hy] at hm; cases hm
    | some y =>
      rw [hy] at hm
      cases hm
      have h1 := (to1_agg hb hy).1
      exact ⟨h1.len, fun off => (explode_ll h1).1.lay (explode_ll h1).2 hw⟩
  cases a <;> simp only [AV.leaves] at hx
  case agl m =>
    split at hx
    · rename_i y h1
      cases hx
      simp only [VA] at h
      obtain ⟨c1, c2, h2, h3, h4, h5⟩ := settle_sound (r := r) h1 h.2.ll
      simp only [LL] at h5
      subst h5
      rw [List.append_nil] at h2
      rw [h2]
      exact ⟨h3, h4 hw⟩
    · cases hx
  case nils =>
    split at hx
    · rename_i e
      cases hx
      simp only [VA] at h
      subst h
      exact ⟨rfl, fun off => Lay.single ⟨_, rfl, ⟨[], .nil, (wide_cons hw).2.2 e [] rfl, .inl ⟨rfl, rfl⟩⟩, rfl⟩ (wide_cons hw).1⟩
    · cases hx
  case fn g caps =>
    split at hx
    · cases hx
      have h0 := h
      simp only [VA] at h0
      obtain ⟨vs, rfl, _⟩ := h0
      exact ⟨rfl, fun off => Lay.single ⟨_, rfl, h.place _ rfl, rfl⟩ Nat.one_pos⟩
    · cases hx
  case ptr r' o =>
    split at hx
    · cases hx
      have h0 := h
      simp only [VA] at h0
      obtain ⟨_, rfl⟩ := h0
      exact ⟨rfl, fun off => Lay.single ⟨_, rfl, h.place _ rfl, rfl⟩ Nat.one_pos⟩
    · cases hx
  all_goals exact data _ h hx
end

end Go.Ev

/-
  THE TYPES OF A PROGRAM, and what an operation's operands are.
-/
namespace Go.Ev
open Go.RowKit (Below)

def rep {α : Type} (f : α → Option α) : Nat → α → Option α
  | 0, l => some l
  | n + 1, l => match f l with
    | none => none
    | some l => rep f n l

/-- The zero cells of a type are struck. -/
def zc : Ty → List Value → Option (List Value)
  | .int k, l => match l with
    | .int k' n :: l => if k' = k ∧ n = 0 then some l else none
    | _ => none
  | .bool, l => match l with
    | .bool b :: l => if b = false then some l else none
    | _ => none
  | .str, l => match l with
    | .string s :: l => if s.data.toList = [] then some l else none
    | _ => none
  | .slice _, l => match l with
    | .slice none n c :: l => if n = 0 ∧ c = 0 then some l else none
    | _ => none
  | .arr n e, l => rep (zc e) n l
  | .agg p, l => zc p l
  | .unit, l => some l
  | .cons a b, l => match zc a l with
    | none => none
    | some l => zc b l
  | .raw, l => match l with
    | v :: l => if v.oneCell' then some l else none
    | _ => none

theorem rep_sound {f : List Value → Option (List Value)} {Q : List Value → Prop} (hf : ∀ l l', f l = some l' → ∃ c, l = c ++ l' ∧ Q c) :
    ∀ (n : Nat) {l l' : List Value}, rep f n l = some l' → ∃ cs : List (List Value), cs.length = n ∧ l = cs.flatten ++ l' ∧ ∀ c ∈ cs, Q c
  | 0, l, l', h => by
    simp only [rep, Option.some.injEq] at h
    exact ⟨[], rfl, by simpa using h, by simp⟩
  | n + 1, l, l', h => by
    simp only [rep] at h
    split at h
    · cases h
    · rename_i l1 h1
      obtain ⟨c, rfl, hq⟩ := hf _ _ h1
      obtain ⟨cs, h2, rfl, h3⟩ := rep_sound hf n h
      exact ⟨c :: cs, by simp [h2], by simp, by simpa using ⟨hq, h3⟩⟩

theorem parts_of_flatten {α : Type} {R : List Value → α → Prop} {x : α} : ∀ {cs : List (List Value)}, (∀ c ∈ cs, R c x) → Parts R cs.flatten (List.replicate cs.length x)
  | [], _ => .nil
  | c :: cs, h => by
    rw [List.flatten_cons, List.length_cons, List.replicate_succ]
    exact .cons (h c (by simp)) (parts_of_flatten fun c hc => h c (by simp [hc]))

section
variable {G : Gh} {w : World}

theorem zc_cells {com : Com} : ∀ {τ : Ty} {cs rest : List Value}, τ.noRaw = true → zc τ cs = some rest → ∃ c, cs = c ++ rest ∧ Cells com w τ c τ.zero := by
  intro τ
  induction τ with
  | int k =>
    intro cs rest _ h
    simp only [zc] at h
    split at h <;> (try cases h)
    rename_i k' n l
    split at h
    · rename_i hk; obtain ⟨rfl, rfl⟩ := hk; cases h; exact ⟨_, rfl, rfl⟩
    · cases h
  | bool =>
    intro cs rest _ h
    simp only [zc] at h
    split at h <;> (try cases h)
    split at h
    · rename_i hk; subst hk; cases h; exact ⟨_, rfl, rfl⟩
    · cases h
  | str =>
    intro cs rest _ h
    simp only [zc] at h
    split at h <;> (try cases h)
    rename_i s l
    split at h
    · rename_i hk
      cases h
      have : s = ⟨#[]⟩ := by
        obtain ⟨⟨d⟩⟩ := s
        simp at hk
        subst hk
        rfl
      subst this
      exact ⟨_, rfl, rfl⟩
    · cases h
  | slice e _ =>
    intro cs rest _ h
    simp only [zc] at h
    split at h <;> (try cases h)
    split at h
    · rename_i hk; obtain ⟨rfl, rfl⟩ := hk; cases h; exact ⟨_, rfl, none, 0, 0, [], rfl, rfl, Nat.le_refl _, .nil, .inl rfl⟩
    · cases h
  | arr n e ih =>
    intro cs rest hr h
    simp only [zc] at h
    obtain ⟨ds, h1, rfl, h2⟩ := rep_sound (Q := fun c => Cells com w e c e.zero) (fun l l' hl => ih hr hl) n h
    exact ⟨ds.flatten, rfl, by simp [Ty.zero], by have := parts_of_flatten h2; rw [h1] at this; exact this⟩
  | agg p ih =>
    intro cs rest hr h
    exact ih hr h
  | unit =>
    intro cs rest _ h
    simp only [zc, Option.some.injEq] at h
    exact ⟨[], by simpa using h, rfl⟩
  | cons a b iha ihb =>
    intro cs rest hr h
    simp only [Ty.noRaw, Bool.and_eq_true] at hr
    simp only [zc] at h
    split at h
    · cases h
    · rename_i l1 h1
      obtain ⟨c1, rfl, k1⟩ := iha hr.1 h1
      obtain ⟨c2, rfl, k2⟩ := ihb hr.2 h
      exact ⟨c1 ++ c2, by simp, c1, c2, rfl, k1, k2⟩
  | raw => intro cs rest hr; cases hr

theorem rep_len {f : List Value → Option (List Value)} {m : Nat} (hf : ∀ l l', f l = some l' → l.length = m + l'.length) : ∀ (n : Nat) {l l' : List Value}, rep f n l = some l' → l.length = n * m + l'.length
  | 0, l, l', h => by simp only [rep, Option.some.injEq] at h; subst h; simp
  | n + 1, l, l', h => by
    simp only [rep] at h
    split at h
    · cases h
    · rename_i l1 h1
      have k1 := hf _ _ h1
      have k2 := rep_len hf n h
      rw [Nat.add_mul, Nat.one_mul]
      omega

theorem zc_len : ∀ {τ : Ty} {cs rest : List Value}, zc τ cs = some rest → cs.length = τ.width + rest.length := by
  intro τ
  induction τ with
  | arr n e ih => intro cs rest h; exact rep_len (fun l l' hl => ih hl) n h
  | agg p ih => intro cs rest h; exact ih h
  | unit => intro cs rest h; simp only [zc, Option.some.injEq] at h; subst h; simp [Ty.width]
  | cons a b iha ihb =>
    intro cs rest h
    simp only [zc] at h
    split at h
    · cases h
    · rename_i l1 h1
      have k1 := iha h1
      have k2 := ihb h
      simp only [Ty.width]
      omega
  | _ =>
    intro cs rest h
    simp only [zc] at h
    split at h
    · split at h
      · simp only [Option.some.injEq] at h
        subst h
        simp only [List.length_cons, Ty.width]
        omega
      · cases h
    · cases h

theorem ll_flatten {f : List AV} : ∀ {cs : List (List Value)}, (∀ c ∈ cs, LL G w f c) → LL G w ((List.range cs.length).flatMap fun _ => f) cs.flatten
  | [], _ => rfl
  | c :: cs, h => by
    rw [List.length_cons, List.range_succ_eq_map, List.flatMap_cons, List.flatMap_map, List.flatten_cons]
    exact (h c (by simp)).append (ll_flatten fun c hc => h c (by simp [hc]))

theorem zc_leaves : ∀ {τ : Ty} {cs rest : List Value}, zc τ cs = some rest → ∃ c, cs = c ++ rest ∧ LL G w (zeroLeaves τ) c ∧ ∀ a ∈ zeroLeaves τ, a.isOwn = false := by
  have one : ∀ {τ : Ty} {cs rest : List Value}, τ.noRaw = true → zc τ cs = some rest → ∃ c, cs = c ++ rest ∧ LL G w [.d τ τ.zero] c ∧ ∀ a ∈ [AV.d τ τ.zero], a.isOwn = false := by
    intro τ cs rest hr h
    obtain ⟨c, h1, h2⟩ := zc_cells (com := G.com) (w := w) hr h
    exact ⟨c, h1, ⟨c, [], .slot 0 0, by simp, h2, rfl⟩, by simp [AV.isOwn]⟩
  intro τ
  induction τ with
  | int k => intro cs rest h; exact one rfl h
  | bool => intro cs rest h; exact one rfl h
  | str => intro cs rest h; exact one rfl h
  | slice e _ =>
    intro cs rest h
    simp only [zc] at h
    split at h <;> (try cases h)
    split at h
    · rename_i hk; obtain ⟨rfl, rfl⟩ := hk; cases h
      exact ⟨_, rfl, ⟨[_], [], .slot 0 0, rfl, ⟨_, rfl, rfl, rfl⟩, rfl⟩, by simp [zeroLeaves, AV.isOwn]⟩
    · cases h
  | arr n e ih =>
    intro cs rest h
    simp only [zeroLeaves]
    split
    · rename_i hs
      exact one (by cases e <;> simp_all [Ty.scalar, Ty.noRaw]) h
    · simp only [zc] at h
      obtain ⟨ds, h1, rfl, h2⟩ := rep_sound (Q := fun c => LL G w (zeroLeaves e) c ∧ ∀ a ∈ zeroLeaves e, a.isOwn = false) (fun l l' hl => ih hl) n h
      refine ⟨ds.flatten, rfl, ?_, ?_⟩
      · rw [← h1]; exact ll_flatten fun c hc => (h2 c hc).1
      · intro a ha
        simp only [List.mem_flatMap] at ha
        obtain ⟨i, hi, ha⟩ := ha
        rw [← h1] at hi
        cases ds with
        | nil => simp at hi
        | cons c ds => exact (h2 c (by simp)).2 a ha
  | agg p ih => intro cs rest h; exact ih h
  | unit =>
    intro cs rest h
    simp only [zc, Option.some.injEq] at h
    exact ⟨[], by simpa using h, rfl, by simp [zeroLeaves]⟩
  | cons a b iha ihb =>
    intro cs rest h
    simp only [zc] at h
    split at h
    · cases h
    · rename_i l1 h1
      obtain ⟨c1, rfl, k1, k3⟩ := iha h1
      obtain ⟨c2, rfl, k2, k4⟩ := ihb h
      refine ⟨c1 ++ c2, by simp, k1.append k2, fun x hx => ?_⟩
      simp only [zeroLeaves] at hx
      rcases List.mem_append.1 hx with h | h
      · exact k3 x h
      · exact k4 x h
  | raw =>
    intro cs rest h
    simp only [zc] at h
    split at h <;> (try cases h)
    rename_i v l
    split at h
    · rename_i hk
      cases h
      exact ⟨[v], rfl, ⟨[v], [], .slot 0 0, rfl, ⟨v, rfl, trivial, hk⟩, rfl⟩, by simp [zeroLeaves, AV.isOwn]⟩
    · cases h
end

def okHead (P : Program) (τ : Ty) (t : TypeId) : Bool :=
  match P.info? t with
  | some i => i.size == τ.width && (match i.zero with
    | some z => isAggV z == τ.isAgg && (match zc τ z.cells.toList with
      | some [] => true
      | _ => false)
    | none => false)
  | none => false

mutual
def okTy (P : Program) : Ty → TypeId → Bool
  | .int k, t => okHead P (.int k) t && (match P.underlying t with
    | some (.int k') => k' == k
    | _ => false)
  | .bool, t => okHead P .bool t && (match P.underlying t with
    | some .bool => true
    | _ => false)
  | .str, t => okHead P .str t && (match P.underlying t with
    | some .string => true
    | _ => false)
  | .slice e, t => okHead P (.slice e) t && (match P.underlying t with
    | some (.slice u) => okTy P e u && decide (0 < e.width)
    | _ => false)
  | .arr n e, t => okHead P (.arr n e) t && (match P.underlying t with
    | some (.array m u) => m == n && okTy P e u
    | _ => false)
  | .agg p, t => okHead P (.agg p) t && (match P.underlying t with
    | some (.struct fs) => okFs P p fs.toList 0
    | _ => false)
  | .raw, t => okHead P .raw t && (match P.underlying t with
    | some (.struct _) => false
    | some (.array _ _) => false
    | some _ => true
    | none => false)
  | .unit, _ => false
  | .cons _ _, _ => false
def okFs (P : Program) : Ty → List Field → Nat → Bool
  | .unit, [], _ => true
  | .cons a b, f :: fs, off => f.offset == off && decide (0 < a.width) && okTy P a f.type && okFs P b fs (off + a.width)
  | _, _, _ => false
end

theorem okTy_head {P : Program} {τ : Ty} {t : TypeId} (h : okTy P τ t = true) : okHead P τ t = true := by
  cases τ <;> simp only [okTy, Bool.and_eq_true] at h <;> first | exact h.1 | cases h

theorem okTy_info {P : Program} {τ : Ty} {t : TypeId} (h : okTy P τ t = true) : ∃ i z, P.info? t = some i ∧ i.size = τ.width ∧ i.zero = some z ∧ isAggV z = τ.isAgg ∧ zc τ z.cells.toList = some [] := by
  have h := okTy_head h
  unfold okHead at h
  split at h
  · rename_i i hi
    simp only [Bool.and_eq_true, beq_iff_eq] at h
    obtain ⟨h1, h2⟩ := h
    split at h2
    · rename_i z hz
      simp only [Bool.and_eq_true, beq_iff_eq] at h2
      obtain ⟨h3, h4⟩ := h2
      split at h4
      · rename_i h5
        exact ⟨i, z, hi, h1, hz, h3, h5⟩
      · cases h4
    · cases h2
  · cases h

theorem okTy_agg {P : Program} {τ : Ty} {t : TypeId} (h : okTy P τ t = true) (w : World) : (isAgg t).run P w = .ok τ.isAgg w := by
  cases τ <;> simp only [okTy, Bool.and_eq_true] at h
  case unit => cases h
  case cons => cases h
  case raw =>
    obtain ⟨_, h⟩ := h
    split at h
    · cases h
    · cases h
    · rename_i u h1 h2 hu
      simp only [isAgg, Sem.run_bind, run_underlying hu, Result.andThen_ok, Ty.isAgg]
      cases u <;> simp_all
    · cases h
  all_goals
    obtain ⟨_, h⟩ := h
    split at h <;> first
      | (rename_i hu; simp [isAgg, run_underlying hu, Ty.isAgg]; done)
      | cases h

structure CtxOK (P : Program) (C : Ctx) : Prop where
  ty : ∀ t, C.ty t ≠ .unit → okTy P (C.ty t) t = true
  bytes : ∀ t e, C.ty t = .slice e → ∃ u i, P.underlying t = some (.slice u) ∧ P.info? u = some i ∧ i.bytes = C.bytes t
  draws : P.follows .mixedOrders = true

section
variable {P : Program} {C : Ctx} {w0 : World} {com0 : Com} {f : Frm} {nt : Nat} {G G' : Gh} {st : St} {a : Act} {w w' : World}

theorem opv_sound (hI : Inv w0 com0 f nt G st a w) (x : Operand) : ∃ p, VA G w p (opv st x) (a.eval x) := by
  cases x with
  | tmp k => exact ⟨_, hI.slots k⟩
  | const v =>
    refine ⟨.slot 0 0, ?_⟩
    simp only [opv, Act.eval]
    unfold cval
    split <;> simp only [VA]
    · exact ⟨rfl, rfl⟩
    · exact ⟨rfl, rfl⟩
    · exact ⟨rfl, rfl⟩
    · exact ⟨⟨rfl, rfl⟩, rfl⟩
    · exact ⟨⟨rfl, rfl⟩, rfl⟩
    · exact ⟨⟨rfl, rfl⟩, rfl⟩
  | global g => exact ⟨.slot 0 0, by simp only [opv, VA]⟩
  | func g => exact ⟨.slot 0 0, by simp only [opv, Act.eval, VA, TA]; exact ⟨[], rfl, rfl⟩⟩

theorem opv_d (hI : Inv w0 com0 f nt G st a w) {x : Operand} {τ : Ty} {y : τ.den} (h : opv st x = .d τ y) : Val G.com w τ (a.eval x) y := by
  obtain ⟨p, hp⟩ := opv_sound hI x
  rw [h] at hp
  simpa only [VA] using hp

theorem val_int {com : Com} {k : IntKind} {v : Value} {n : Int} (h : Val com w (.int k) v n) : v = .int k n := by
  have h1 := h.1
  rw [cells_of_not_agg h.2] at h1
  simpa [Cells] using h1
theorem val_bool {com : Com} {v : Value} {n : Bool} (h : Val com w .bool v n) : v = .bool n := by
  have h1 := h.1
  rw [cells_of_not_agg h.2] at h1
  simpa [Cells] using h1
theorem val_str {com : Com} {v : Value} {n : ByteArray} (h : Val com w .str v n) : v = .string n := by
  have h1 := h.1
  rw [cells_of_not_agg h.2] at h1
  simpa [Cells] using h1
theorem val_slice {com : Com} {e : Ty} {v : Value} {xs : List e.den} (h : Val com w (.slice e) v xs) :
    ∃ base cap ds, v = .slice base xs.length cap ∧ xs.length ≤ cap ∧ Parts (Cells com w e) ds xs ∧ Lies com w base ds := by
  have h1 := h.1
  rw [cells_of_not_agg h.2] at h1
  simp only [Cells] at h1
  obtain ⟨base, len, cap, ds, h2, rfl, h3, h4, h5⟩ := h1
  simp at h2
  exact ⟨base, cap, ds, h2, h3, h4, h5⟩

theorem Val.int {com : Com} {k : IntKind} {n : Int} : Val com w (.int k) (.int k n) n := ⟨rfl, rfl⟩
theorem Val.bool {com : Com} {n : Bool} : Val com w .bool (.bool n) n := ⟨rfl, rfl⟩
theorem Val.str {com : Com} {n : ByteArray} : Val com w .str (.string n) n := ⟨rfl, rfl⟩
theorem Val.slice {com : Com} {e : Ty} {xs : List e.den} {base : Option Addr} {cap : Nat} {ds : List Value} (h1 : xs.length ≤ cap) (h2 : Parts (Cells com w e) ds xs) (h3 : Lies com w base ds) :
    Val com w (.slice e) (.slice base xs.length cap) xs := ⟨⟨base, _, cap, ds, rfl, rfl, h1, h2, h3⟩, rfl⟩

/-! ### An operation that yields a value and leaves the world alone -/

/-- The operation's wp, whatever follows. -/
def Does (P : Program) (w0 : World) (com0 : Com) (f : Frm) (nt : Nat) (o : Oper) (a : Act) (w : World) (st' : St) : Prop :=
  ∀ (next : Act → World → Prop) (Q : Exit → Act → World → Prop), (∀ G' a' w', Inv w0 com0 f nt G' st' a' w' → next a' w') → o.wp P a w next Q

theorem on_val {av : AV} {al : Option Place} (h : av.isOwn = false) (dst : Option Nat) (st : St) :
    ({ val := av, alias := al } : Eff).on dst st = match dst with
      | some d => { st with fr := upd st.fr d (av, al) }
      | none => st := by
  cases av <;> cases dst <;> first | rfl | cases h

theorem on_own {e : Ty} {xs : List e.den} (dst : Option Nat) (st : St) :
    ({ val := .own e xs } : Eff).on dst st = match dst with
      | some d => { st with fr := upd (fun j => clr1 (.slot d) (st.fr j)) d (.own e xs, none) }
      | none => st := by
  cases dst <;> rfl

theorem does_val (hI : Inv w0 com0 f nt G st a w) {o : Oper} (hd : ∀ d, o.dst = some d → d < nt) {av : AV} {al : Option Place} {cv : Value} (hrun : (execOp a.eval o).run P w = .ok (.value cv) w)
    (hno : av.isOwn = false) {p : GP} (hv : VA G w p av cv) (hal : ∀ d q, o.dst = some d → al = some q → AliasOK G w { st with fr := upd st.fr d (av, al) } (a.tmps.setIfInBounds d cv) d q) :
    Does P w0 com0 f nt o a w (({ val := av, alias := al } : Eff).on o.dst st) := by
  intro next Q hn
  unfold Oper.wp
  rw [hrun, Oper.upon_value, ]
  rw [on_val hno] at hn
  cases ho : o.dst with
  | none => rw [ho] at hn; exact hn _ _ _ hI
  | some d =>
    rw [ho] at hn
    exact hn _ _ _ (hI.put (hd d ho) hno (hv.place _ hno) (fun q hq => hal d q ho hq))

theorem does_val1 (hI : Inv w0 com0 f nt G st a w) {o : Oper} (hd : ∀ d, o.dst = some d → d < nt) {av : AV} {cv : Value} (hrun : (execOp a.eval o).run P w = .ok (.value cv) w)
    (hno : av.isOwn = false) {p : GP} (hv : VA G w p av cv) : Does P w0 com0 f nt o a w (({ val := av } : Eff).on o.dst st) :=
  does_val hI hd hrun hno hv (fun _ _ _ h => by cases h)

/-- The same, in a world that has grown. -/
theorem does_more {o : Oper} (hd : ∀ d, o.dst = some d → d < nt) {av : AV} {cv : Value} (hrun : (execOp a.eval o).run P w = .ok (.value cv) w') (hI' : Inv w0 com0 f nt G' st a w')
    (hno : av.isOwn = false) {p : GP} (hv : VA G' w' p av cv) : Does P w0 com0 f nt o a w (({ val := av } : Eff).on o.dst st) := by
  intro next Q hn
  unfold Oper.wp
  rw [hrun, Oper.upon_value]
  rw [on_val hno] at hn
  cases ho : o.dst with
  | none => rw [ho] at hn; exact hn _ _ _ hI'
  | some d =>
    rw [ho] at hn
    exact hn _ _ _ (hI'.put (hd d ho) hno (hv.place _ hno) (fun q hq => by cases hq))

/-- A slice of its own, which was another place's. -/
theorem does_own (hI' : Inv w0 com0 f nt G' st a w') {o : Oper} (hd : ∀ d, o.dst = some d → d < nt) {e : Ty} {xs : List e.den} {cv : Value} (hrun : (execOp a.eval o).run P w = .ok (.value cv) w')
    {q : GP} (hown : OwnV G' w' q e xs cv) (lq : Loc f q) (hq : ¬ Used st f q) : Does P w0 com0 f nt o a w (({ val := .own e xs } : Eff).on o.dst st) := by
  intro next Q hn
  unfold Oper.wp
  rw [hrun, Oper.upon_value]
  rw [on_own] at hn
  cases ho : o.dst with
  | none => rw [ho] at hn; exact hn _ _ _ hI'
  | some d =>
    rw [ho] at hn
    exact hn _ _ _ (hI'.putOwn (hd d ho) hown lq hq)

end
end Go.Ev

/-
  OPERATIONS THAT READ: each yields what the evaluator says.
-/
namespace Go.Ev
open Go.RowKit (Below)

theorem toNat_lt {n : Int} {m : Nat} (h0 : 0 ≤ n) (h1 : n < m) : n.toNat < m := by omega

theorem addr_add {a : Addr} (h : a.spot = none) (n : Nat) : a.add n = ⟨a.block, a.off + n, none⟩ := by
  unfold Addr.add
  split
  · rename_i h0; subst h0; cases a; simp_all
  · cases a; simp_all

section
variable {P : Program} {R : Type} {K : Eff → Option R} {r : R} {G : Gh} {w : World}

def Yields (P : Program) (G : Gh) (w : World) (s : Sem Value) (K : Eff → Option R) (r : R) : Prop :=
  ∃ av cv, K { val := av } = some r ∧ av.isOwn = false ∧ s.run P w = .ok cv w ∧ ∃ p, VA G w p av cv

theorem Yields.mk {av : AV} {cv : Value} {s : Sem Value} (h : K1 K av = some r) (ho : av.isOwn = false) (hs : s.run P w = .ok cv w) {p : GP} (hv : VA G w p av cv) : Yields P G w s K r :=
  ⟨av, cv, h, ho, hs, p, hv⟩

theorem Yields.d {τ : Ty} {x : τ.den} {cv : Value} {s : Sem Value} (h : K1 K (.d τ x) = some r) (hs : s.run P w = .ok cv w) (hv : Val G.com w τ cv x) : Yields P G w s K r :=
  ⟨.d τ x, cv, h, rfl, hs, .slot 0 0, by simpa only [VA] using hv⟩

theorem okTy_slice {e : Ty} {t : TypeId} (h : okTy P (.slice e) t = true) : ∃ u, P.underlying t = some (.slice u) ∧ okTy P e u = true ∧ 0 < e.width := by
  simp only [okTy, Bool.and_eq_true] at h
  obtain ⟨_, h⟩ := h
  split at h
  · rename_i u hu
    simp only [Bool.and_eq_true, decide_eq_true_eq] at h
    exact ⟨u, hu, h.1, h.2⟩
  · cases h

theorem okTy_arr {n : Nat} {e : Ty} {t : TypeId} (h : okTy P (.arr n e) t = true) : ∃ u, P.underlying t = some (.array n u) ∧ okTy P e u = true := by
  simp only [okTy, Bool.and_eq_true] at h
  obtain ⟨_, h⟩ := h
  split at h
  · rename_i m u hu
    simp only [Bool.and_eq_true, beq_iff_eq] at h
    obtain ⟨rfl, h⟩ := h
    exact ⟨u, hu, h⟩
  · cases h

theorem okTy_agg' {p : Ty} {t : TypeId} (h : okTy P (.agg p) t = true) : ∃ fs, P.underlying t = some (.struct fs) ∧ okFs P p fs.toList 0 = true := by
  simp only [okTy, Bool.and_eq_true] at h
  obtain ⟨_, h⟩ := h
  split at h
  · rename_i fs hu
    exact ⟨fs, hu, h⟩
  · cases h

theorem okTy_bool {t : TypeId} (h : okTy P .bool t = true) : P.underlying t = some .bool := by
  simp only [okTy, Bool.and_eq_true] at h
  obtain ⟨_, h⟩ := h
  split at h
  · assumption
  · cases h
/-- A row of a table that is made. -/
theorem mat_row {rr : Nat} {e : Ty} {rows : List (Option (List e.den))} (hb : BlkOK G w rr (.mat e rows)) {i : Nat} {xs : List e.den} (hxs : List.getD rows i none = some xs) :
    ∃ g c t cur t', G.row rr i = some g ∧ G.rlen rr i = xs.length ∧ w.heap[g]? = some (.cells c t (0, 0)) ∧ G.wr g = .blk rr ∧ (∀ o, ¬ G.com g o) ∧ Parts (Cells G.com w e) c.toList xs ∧ xs.length ≤ maxLen ∧ i < rows.length ∧
      w.heap[G.loc rr]? = some (.cells cur t' (0, 0)) ∧ cur[i]? = some (.slice (some ⟨g, 0, none⟩) xs.length xs.length) ∧ 0 < e.width ∧ e.width = G.rwd rr ∧ G.wd rr = 1 ∧ rows.length = G.len rr := by
  obtain ⟨cur, t, h1, h2, h3, h4, h5, h5', h6, h7, h8, h9, h10, h11, h12⟩ := hb
  have hi : rows[i]? = some (some xs) := by
    rw [List.getD_eq_getElem?_getD] at hxs
    cases hr : rows[i]? with
    | none => rw [hr] at hxs; cases hxs
    | some y => rw [hr] at hxs; simp only [Option.getD_some] at hxs; rw [hxs]
  have hlt : i < rows.length := by
    rcases Nat.lt_or_ge i rows.length with h | h
    · exact h
    · rw [List.getElem?_eq_none h] at hi; cases hi
  have hc : cur[i]? = some cur[i] := Array.getElem?_eq_getElem (by omega)
  obtain ⟨g, c, t', q1, q2, q3, q4, q5, q6, q7, q8⟩ := h9 i _ _ hi hc
  exact ⟨g, c, t', cur, t, q2, q3, q4, q5, q6, q7, q8, hlt, h1, by rw [hc, q1], h6, h5', h5, h4⟩

theorem okTy_int {k : IntKind} {t : TypeId} (h : okTy P (.int k) t = true) : P.underlying t = some (.int k) := by
  simp only [okTy, Bool.and_eq_true] at h
  obtain ⟨_, h⟩ := h
  split at h
  · rename_i k' hu
    simp only [beq_iff_eq] at h
    rw [← h]; exact hu
  · cases h
theorem okTy_str {t : TypeId} (h : okTy P .str t = true) : P.underlying t = some .string := by
  simp only [okTy, Bool.and_eq_true] at h
  obtain ⟨_, h⟩ := h
  split at h
  · assumption
  · cases h

theorem okTy_size {τ : Ty} {t : TypeId} (h : okTy P τ t = true) (w : World) : (sizeOf t).run P w = .ok τ.width w := by
  obtain ⟨i, z, h1, h2, _⟩ := okTy_info h
  simp [sizeOf, typeInfo, h1, h2]

theorem run_eqGuard_int (op : BinOp) (t : TypeId) (x y : Operand) (k k' : IntKind) (a b : Int) : (eqGuard op t x y (.int k a) (.int k' b)).run P w = .ok () w := by
  cases op <;> rfl
theorem run_eqGuard_string (op : BinOp) (t : TypeId) (x y : Operand) (a b : ByteArray) : (eqGuard op t x y (.string a) (.string b)).run P w = .ok () w := by
  cases op <;> rfl
theorem run_eqGuard_bool (op : BinOp) (t : TypeId) (x y : Operand) (a b : Bool) : (eqGuard op t x y (.bool a) (.bool b)).run P w = .ok () w := by
  cases op <;> rfl

theorem beq_int (a b : Int) : (a == b) = decide (a = b) := by
  by_cases h : a = b <;> simp [h]
theorem bne_int (a b : Int) : (a != b) = !decide (a = b) := by
  by_cases h : a = b <;> simp [h]

theorem bytes_inj {a b : ByteArray} (h : a.toList = b.toList) : a = b := by
  rw [ByteArray.toList_eq, ByteArray.toList_eq] at h
  obtain ⟨⟨a⟩⟩ := a
  obtain ⟨⟨b⟩⟩ := b
  simp only at h
  rw [h]

theorem dec_eq_bytes (a b : ByteArray) : decide (a = b) = (a.toList == b.toList) := by
  by_cases h : a = b
  · subst h; simp
  · have : a.toList ≠ b.toList := fun e => h (bytes_inj e)
    simp [h, this]

theorem evBin_sound {τ : Ty} {t : TypeId} (ht : τ ≠ .unit → okTy P τ t = true) {op : BinOp} {x y : AV} {v1 v2 : Value} {p q : GP} (hx : VA G w p x v1) (hy : VA G w q y v2) (h : evBin τ op x y K = some r) (o1 o2 : Operand) :
    Yields P G w (do eqGuard op t o1 o2 v1 v2; binOp op t v1 v2) K r := by
  unfold evBin at h
  split at h
  · rename_i k a k' b
    simp only [VA] at hx hy
    rw [val_int hx, val_int hy]
    cases op <;> simp only at h
    case shl =>
      split at h
      · cases h
      · rename_i hb
        exact .d h (by simp [run_eqGuard_int, binOp, Op.shift, hb]) Val.int
    case shr =>
      split at h
      · cases h
      · rename_i hb
        exact .d h (by simp [run_eqGuard_int, binOp, Op.shift, hb]) Val.int
    case quo =>
      split at h
      · rename_i hk; subst hk
        split at h
        · cases h
        · rename_i hb
          exact .d h (by simp [run_eqGuard_int, binOp, Op.intDiv, hb]) Val.int
      · cases h
    case rem =>
      split at h
      · rename_i hk; subst hk
        split at h
        · cases h
        · rename_i hb
          exact .d h (by simp [run_eqGuard_int, binOp, Op.intDiv, hb]) Val.int
      · cases h
    case add =>
      split at h
      · rename_i hk; subst hk; exact .d h (by simp [run_eqGuard_int, binOp, Op.intArith]) Val.int
      · cases h
    case sub =>
      split at h
      · rename_i hk; subst hk; exact .d h (by simp [run_eqGuard_int, binOp, Op.intArith]) Val.int
      · cases h
    case mul =>
      split at h
      · rename_i hk; subst hk; exact .d h (by simp [run_eqGuard_int, binOp, Op.intArith]) Val.int
      · cases h
    all_goals
      split at h
      · rename_i hk; subst hk
        simp only [cmpInt, bits] at h
        first
          | (refine .d h (cv := .int _ _) ?_ Val.int
             simp [run_eqGuard_int, binOp, Op.intBits]
             done)
          | (refine .d h (cv := .bool _) ?_ Val.bool
             simp [run_eqGuard_int, binOp, Op.intCmp]
             done)
          | (refine .d h (cv := .bool _) ?_ Val.bool
             simp [run_eqGuard_int, binOp, Op.intCmp]
             first
               | exact beq_int a b
               | exact bne_int a b)
      · cases h
  · rename_i a b
    simp only [VA] at hx hy
    rw [val_str hx, val_str hy]
    cases op <;> simp only [cmpStr] at h <;> (try (cases h; done))
    case add =>
      split at h
      · rename_i hs
        rw [show IntKind.i64.max = 9223372036854775807 from rfl] at hs
        exact .d h (by simp [run_eqGuard_string, binOp, Op.stringOp]; omega) Val.str
      · cases h
    all_goals
      refine .d h (cv := .bool _) ?_ Val.bool
      simp [run_eqGuard_string, binOp, Op.stringOp, dec_eq_bytes]
  · rename_i a b
    simp only [VA] at hx hy
    rw [val_bool hx, val_bool hy]
    cases op <;> simp only at h <;> (try (cases h; done))
    all_goals
      split at h
      · rename_i hb
        subst hb
        have hu := okTy_bool (ht (by simp))
        refine .d h (cv := .bool _) ?_ Val.bool
        rw [Sem.run_bind, run_eqGuard_bool, Result.andThen_ok]
        first
          | exact run_eql_bool _ _ _ _ hu
          | exact run_neq_bool _ _ _ _ hu
      · cases h
  · cases h

theorem evUn_sound {op : UnOp} {x : AV} {v : Value} {p : GP} (hx : VA G w p x v) (h : evUn op x K = some r) : Yields P G w (Op.unary op v) K r := by
  unfold evUn at h
  split at h
  · simp only [VA] at hx
    rw [val_bool hx]
    exact .d h (by simp [Op.unary]) Val.bool
  · simp only [VA] at hx
    rw [val_int hx]
    exact .d h (by simp [Op.unary, Op.intArith]) Val.int
  · cases h

theorem evLen_sound {τ : Ty} {t ty : TypeId} (ht : τ ≠ .unit → okTy P τ t = true) {bl : List Blk} {x : AV} {v : Value} {p : GP} (hx : VA G w p x v) (hbl : ∀ r b, bl[r]? = some b → BlkOK G w r b) (h : evLen τ bl x K = some r) : Yields P G w (Builtin.len_ #[t] ty #[v]) K r := by
  unfold evLen at h
  split at h
  · have hu := okTy_str (ht (by simp))
    split at h
    · simp only [VA] at hx
      have hv := val_str hx
      subst hv
      exact .d h (by simp [Builtin.len_, run_underlying hu, goInt]) Val.int
    · cases h
  · obtain ⟨u, hu, _, _⟩ := okTy_slice (ht (by simp))
    split at h
    · simp only [VA] at hx
      obtain ⟨base, cap, ds, rfl, _⟩ := val_slice hx
      exact .d h (by simp [Builtin.len_, run_underlying hu, goInt]) Val.int
    · simp only [VA] at hx
      obtain ⟨base, cap, ds, rfl, _⟩ := val_slice hx.val
      exact .d h (by simp [Builtin.len_, run_underlying hu, goInt]) Val.int
    · simp only [VA] at hx
      subst hx
      exact .d h (by simp [Builtin.len_, run_underlying hu, goInt]) Val.int
    · rename_i rr
      simp only [VA] at hx
      obtain ⟨hr, rfl⟩ := hx
      split at h
      · rename_i e xs hb
        obtain ⟨cur, t', h1, h2, h3, h4, _⟩ := hbl rr _ hb
        rw [h4] at h
        exact .d h (by simp [Builtin.len_, run_underlying hu, goInt]) Val.int
      · rename_i e rows hb
        obtain ⟨cur, t', h1, h2, h3, h4, _⟩ := hbl rr _ hb
        rw [h4] at h
        exact .d h (by simp [Builtin.len_, run_underlying hu, goInt]) Val.int
      · cases h
    · rename_i rr i
      simp only [VA] at hx
      obtain ⟨hr, h0, g, hg, rfl⟩ := hx
      split at h
      · rename_i e rows hb
        obtain ⟨xs, hxs, h⟩ := Option.bind_eq_some_iff.1 h
        obtain ⟨g', c, t, cur, t', q1, q2, _⟩ := mat_row (hbl rr _ hb) hxs
        rw [← q2] at h
        exact .d h (by simp [Builtin.len_, run_underlying hu, goInt]) Val.int
      · cases h
    · cases h
  · cases h

theorem lies_at {com : Com} {w : World} {base : Option Addr} {ds : List Value} (h : Lies com w base ds) (hne : ds ≠ []) : ∃ a, base = some a ∧ a.spot = none ∧ At com w a ds := h.resolve_left hne

theorem At.sub {com : Com} {w : World} {a : Addr} {ds : List Value} (h : At com w a ds) (o n : Nat) : At com w ⟨a.block, a.off + o, none⟩ ((ds.drop o).take n) := by
  intro j v hj
  rw [List.getElem?_take] at hj
  split at hj
  · rw [List.getElem?_drop] at hj
    have := h (o + j) v hj
    rwa [← Nat.add_assoc] at this
  · cases hj

/-- An element of a slice that is read. -/
theorem elem_at {e : Ty} {base : Option Addr} {xs : List e.den} {ds : List Value} (hw : 0 < e.width) (hp : Parts (Cells G.com w e) ds xs) (hl : Lies G.com w base ds) {n : Int} (h0 : 0 ≤ n) (h1 : n < xs.length) :
    ∃ a, base = some a ∧ a.spot = none ∧ ∀ p, VA G w p (.pdat e (List.getD xs n.toNat e.zero)) (.pointer (some (a.add (n.toNat * e.width)))) := by
  have hn : n.toNat < xs.length := by omega
  have hlen := hp.len (fun _ _ hx => hx.len)
  have hne : ds ≠ [] := by
    intro e0
    subst e0
    have : 0 < xs.length * e.width := Nat.mul_pos (by omega) hw
    simp at hlen
    omega
  obtain ⟨a, rfl, hs, hat⟩ := lies_at hl hne
  refine ⟨a, rfl, hs, fun p => ?_⟩
  simp only [VA]
  rw [addr_add hs]
  refine ⟨_, _, rfl, rfl, ?_, hat.sub (n.toNat * e.width) e.width⟩
  have := hp.get (fun _ _ hx => hx.len) n.toNat hn
  have h2 : List.getD xs n.toNat e.zero = xs[n.toNat] := by simp [List.getD, List.getElem?_eq_getElem hn]
  rw [h2]
  exact this

theorem run_indexAt_slice {t u : TypeId} {e : Ty} (hu : P.underlying t = some (.slice u)) (he : okTy P e u = true) {a : Addr} {len cap : Nat} {k : IntKind} {n : Int} (h0 : 0 ≤ n) (h1 : n < len) (w : World) :
    (Instr.indexAt t (.slice (some a) len cap) (.int k n)).run P w = .ok (.pointer (some (a.add (n.toNat * e.width)))) w := by
  simp [Instr.indexAt, asIntOf, run_underlying hu, h0, h1, okTy_size he]

theorem evIndexAddr_sound {τ : Ty} {t : TypeId} (ht : τ ≠ .unit → okTy P τ t = true) {bl : List Blk} {x i : AV} {v1 v2 : Value} {p q : GP} (hx : VA G w p x v1) (hi : VA G w q i v2)
    (hbl : ∀ r b, bl[r]? = some b → BlkOK G w r b) (h : evIndexAddr τ bl x i K = some r) : Yields P G w (Instr.indexAt t v1 v2) K r := by
  unfold evIndexAddr at h
  split at h
  · rename_i k n
    simp only [VA] at hi
    have hv2 := val_int hi
    subst hv2
    split at h
    · rename_i e xs
      split at h
      · rename_i hsl
        split at h
        · rename_i hn
          subst hsl
          obtain ⟨u, hu, he, hw⟩ := okTy_slice (ht (by simp))
          simp only [VA] at hx
          obtain ⟨base, cap, ds, rfl, hle, hp, hl⟩ := val_slice hx
          obtain ⟨a, rfl, hs, hpd⟩ := elem_at hw hp hl hn.1 hn.2
          exact .mk h rfl (run_indexAt_slice hu he hn.1 hn.2 w) (hpd p)
        · cases h
      · cases h
    · rename_i e xs
      split at h
      · rename_i hsl
        split at h
        · rename_i hn
          subst hsl
          obtain ⟨u, hu, he, hw⟩ := okTy_slice (ht (by simp))
          simp only [VA] at hx
          obtain ⟨base, cap, ds, rfl, hle, hp, hl⟩ := val_slice hx.val
          obtain ⟨a, rfl, hs, hpd⟩ := elem_at hw hp hl hn.1 hn.2
          exact .mk h rfl (run_indexAt_slice hu he hn.1 hn.2 w) (hpd p)
        · cases h
      · cases h
    · rename_i rr
      split at h
      · rename_i e xs hb
        split at h
        · rename_i hsl
          split at h
          · rename_i hn
            subst hsl
            obtain ⟨u, hu, he, hw⟩ := okTy_slice (ht (by simp))
            simp only [VA] at hx
            obtain ⟨hr, rfl⟩ := hx
            obtain ⟨cur, t', h1, h2, h3, h4, h5, h6, h7, h8⟩ := hbl rr _ hb
            have hn2 : n < G.len rr := by rw [← h4]; exact hn.2
            refine .mk h rfl (run_indexAt_slice hu he hn.1 hn2 w) (p := p) ?_
            simp only [VA]
            refine ⟨hr, hn.1, hn2, ?_⟩
            rw [addr_add rfl, h5, Nat.zero_add]
          · cases h
        · cases h
      · rename_i e rows hb
        split at h
        · rename_i hsl
          split at h
          · rename_i hn
            subst hsl
            obtain ⟨u, hu, he, hw⟩ := okTy_slice (ht (by simp))
            simp only [VA] at hx
            obtain ⟨hr, rfl⟩ := hx
            obtain ⟨cur, t', h1, h2, h3, h4, h5, h5', h6, h7, h8, h9, h10, h11, h12⟩ := hbl rr _ hb
            have hn2 : n < G.len rr := by rw [← h4]; exact hn.2
            refine .mk h rfl (run_indexAt_slice hu he hn.1 hn2 w) (p := p) ?_
            simp only [VA]
            refine ⟨hr, hn.1, hn2, ?_⟩
            rw [addr_add rfl, h5, Nat.zero_add]
            rfl
          · cases h
        · cases h
      · cases h
    · rename_i rr i'
      simp only [VA] at hx
      obtain ⟨hr, h0, g, hg, rfl⟩ := hx
      split at h
      · rename_i e rows hb
        split at h
        · rename_i hsl
          subst hsl
          obtain ⟨u, hu, he, hw⟩ := okTy_slice (ht (by simp))
          obtain ⟨xs, hxs, h⟩ := Option.bind_eq_some_iff.1 h
          obtain ⟨g', c, t2, cur, t', q1, q2, q3, q4, q5, q6, q7, q8, q9, q10, q11, q12, _⟩ := mat_row (hbl rr _ hb) hxs
          have hgg : g' = g := by rw [hg] at q1; injection q1 with q1; exact q1.symm
          subst hgg
          split at h
          · rename_i hn
            have hn2 : n < G.rlen rr i'.toNat := by rw [q2]; exact hn.2
            refine .mk h rfl (run_indexAt_slice hu he hn.1 hn2 w) (p := p) ?_
            simp only [VA]
            refine ⟨hr, h0, hn.1, hn2, g', hg, ?_⟩
            rw [addr_add rfl, q12, Nat.zero_add]
          · cases h
        · cases h
      · cases h
    · rename_i rr off
      split at h
      · rename_i m e
        split at h
        · rename_i hn
          obtain ⟨u, hu, he⟩ := okTy_arr (ht (by simp))
          simp only [VA] at hx
          obtain ⟨hr, rfl⟩ := hx
          have hrun : (Instr.indexAt t (.pointer (some ⟨G.loc rr, off, none⟩)) (.int k n)).run P w = .ok (.pointer (some ⟨G.loc rr, off + n.toNat * e.width, none⟩)) w := by
            simp [Instr.indexAt, asIntOf, run_underlying hu, Instr.sureAddr, hn.1, hn.2, okTy_size he, addr_add]
          split at h
          · rename_i hsc
            refine .mk h rfl hrun (p := p) ?_
            simp only [VA]
            have : e.width = 1 := by cases e <;> simp_all [Ty.scalar, Ty.width]
            exact ⟨hr, hn.1, by rw [this, Nat.mul_one]⟩
          · refine .mk h rfl hrun (p := p) ?_
            simp only [VA]
            exact ⟨hr, trivial⟩
        · cases h
      · cases h
    · rename_i m e xs
      split at h
      · rename_i hn
        split at h
        · rename_i hsl
          subst hsl
          obtain ⟨u, hu, he⟩ := okTy_arr (ht (by simp))
          simp only [VA] at hx
          obtain ⟨a, cs, rfl, hs, hc, hat⟩ := hx
          simp only [Cells] at hc
          obtain ⟨hxl, hp⟩ := hc
          have hrun : (Instr.indexAt t (.pointer (some a)) (.int k n)).run P w = .ok (.pointer (some (a.add (n.toNat * e.width)))) w := by
            simp [Instr.indexAt, asIntOf, run_underlying hu, Instr.sureAddr, hn.1, hn.2, okTy_size he]
          refine .mk h rfl hrun (p := p) ?_
          simp only [VA]
          rw [addr_add hs]
          have hxl' : List.length xs = m := hxl
          have hn2 : Int.toNat n < List.length xs := by rw [hxl']; exact toNat_lt hn.1 hn.2
          refine ⟨_, _, rfl, rfl, ?_, hat.sub (n.toNat * e.width) e.width⟩
          have := hp.get (fun _ _ hx => hx.len) n.toNat hn2
          have h2 : List.getD xs n.toNat e.zero = xs[n.toNat] := by simp [List.getD, List.getElem?_eq_getElem hn2]
          rw [h2]
          exact this
        · cases h
      · cases h
    · cases h
  · cases h

theorem evIndex_sound {τ : Ty} {t : TypeId} (ht : τ ≠ .unit → okTy P τ t = true) {x i : AV} {v1 v2 : Value} {p q : GP} (hx : VA G w p x v1) (hi : VA G w q i v2) (h : evIndex τ x i K = some r) : Yields P G w (Instr.index t v1 v2) K r := by
  unfold evIndex at h
  split at h
  · rename_i k n
    simp only [VA] at hi
    have hv2 := val_int hi
    subst hv2
    split at h
    · rename_i s
      split at h
      · rename_i hs
        split at h
        · rename_i hn
          subst hs
          simp only [VA] at hx
          have hv := val_str hx
          subst hv
          have hu := okTy_str (ht (by simp))
          have hlt : Int.toNat n < ByteArray.size s := toNat_lt hn.1 hn.2
          refine .d h ?_ Val.int
          have : s[n.toNat]? = some (s.data.getD n.toNat 0) := by
            rw [getElem?_pos s n.toNat hlt]
            have h2 : n.toNat < s.data.size := hlt
            simp [Array.getD_eq_getD_getElem?, Array.getElem?_eq_getElem h2]
            rfl
          simp [Instr.index, asIntOf, run_underlying hu, hn.1, this]
        · cases h
      · cases h
    · rename_i m e xs
      split at h
      · rename_i hs
        split at h
        · rename_i hn
          subst hs
          simp only [VA] at hx
          have hok := ht (by simp)
          obtain ⟨u, hu, he⟩ := okTy_arr hok
          obtain ⟨hc, hag⟩ := hx
          rw [agg_of_isAgg (v := v1) (by rw [hag]; rfl)]
          simp only [Cells] at hc
          obtain ⟨hxl, hp⟩ := hc
          have hxl' : List.length xs = m := hxl
          have hn2 : Int.toNat n < List.length xs := by rw [hxl']; exact toNat_lt hn.1 hn.2
          have h2 : List.getD xs n.toNat e.zero = xs[n.toNat] := by simp [List.getD, List.getElem?_eq_getElem hn2]
          have hg := hp.get (fun _ _ hx => hx.len) n.toNat hn2
          have hl := hp.len (fun _ _ hx => hx.len)
          rw [h2] at h
          have hrun : ∃ cv, (Instr.index t (.agg v1.cells) (.int k n)).run P w = .ok cv w ∧ Val G.com w e cv xs[n.toNat] := by
            cases hagg : e.isAgg with
            | true =>
              refine ⟨.agg (v1.cells.extract (n.toNat * e.width) (n.toNat * e.width + e.width)), ?_, ?_, by rw [hagg]; rfl⟩
              · simp [Instr.index, asIntOf, run_underlying hu, hn.1, hn.2, okTy_size he, part, okTy_agg he, hagg]
              · show Cells _ _ _ (v1.cells.extract _ _).toList _
                rw [Array.toList_extract, List.extract_eq_take_drop]
                simpa using hg
            | false =>
              have hw1 : e.width = 1 := by
                have := hg.len
                cases e <;> simp_all [Ty.isAgg, Ty.width, okTy]
              rw [hw1, Nat.mul_one] at hg
              have hlt : n.toNat < v1.cells.size := by
                have : v1.cells.toList.length = v1.cells.size := Array.length_toList
                rw [hw1] at hl
                omega
              have h1 : (v1.cells.toList.drop n.toNat).take 1 = [v1.cells[n.toNat]] := by
                rw [List.drop_eq_getElem_cons (by simpa using hlt)]
                simp
              rw [h1] at hg
              have hone := hg.one v1.cells[n.toNat] (by simp)
              have hna : isAggV v1.cells[n.toNat] = false := by
                cases hv : v1.cells[n.toNat] <;> simp_all [isAggV, Value.oneCell']
              refine ⟨v1.cells[n.toNat], ?_, ?_, by rw [hagg]; exact hna⟩
              · simp [Instr.index, asIntOf, run_underlying hu, hn.1, hn.2, okTy_size he, part, okTy_agg he, hagg, hw1, hlt]
              · rw [cells_of_not_agg hna]; exact hg
          obtain ⟨cv, hr1, hr2⟩ := hrun
          exact .d h hr1 hr2
        · cases h
      · cases h
    · cases h
  · cases h

theorem okFs_sub : ∀ {p : Ty} {fs : List Field} {off i : Nat} {s : Sub p}, okFs P p fs off = true → p.sub i = some s → ∃ f, fs[i]? = some f ∧ f.offset = off + s.off ∧ 0 < s.τ.width ∧ okTy P s.τ f.type = true
  | .cons a b, fs, off, 0, s, h, hs => by
    cases fs with
    | nil => simp [okFs] at h
    | cons f fs =>
      simp only [okFs, Bool.and_eq_true, beq_iff_eq, decide_eq_true_eq] at h
      simp only [Ty.sub, Option.some.injEq] at hs
      subst hs
      exact ⟨f, rfl, h.1.1.1, h.1.1.2, h.1.2⟩
  | .cons a b, fs, off, i + 1, s, h, hs => by
    cases fs with
    | nil => simp [okFs] at h
    | cons f fs =>
      simp only [okFs, Bool.and_eq_true, beq_iff_eq, decide_eq_true_eq] at h
      simp only [Ty.sub] at hs
      split at hs
      · rename_i s' hs'
        simp only [Option.some.injEq] at hs
        subst hs
        obtain ⟨f', h1, h2, h3, h4⟩ := okFs_sub h.2 hs'
        exact ⟨f', h1, h2.trans (Nat.add_assoc _ _ _), h3, h4⟩
      · cases hs

theorem sub_cells : ∀ {p : Ty} {i : Nat} {s : Sub p} {com : Com} {cs : List Value} {x : p.den}, p.sub i = some s → Cells com w p cs x → Cells com w s.τ ((cs.drop s.off).take s.τ.width) (s.get x) ∧ s.off + s.τ.width ≤ cs.length
  | .cons a b, 0, s, com, cs, x, hs, hc => by
    simp only [Ty.sub, Option.some.injEq] at hs
    subst hs
    simp only [Cells] at hc
    obtain ⟨c1, c2, rfl, h1, h2⟩ := hc
    simp only [List.drop_zero]
    rw [List.take_left' h1.len]
    exact ⟨h1, by simp [h1.len]⟩
  | .cons a b, i + 1, s, com, cs, x, hs, hc => by
    simp only [Ty.sub] at hs
    split at hs
    · rename_i s' hs'
      simp only [Option.some.injEq] at hs
      subst hs
      simp only [Cells] at hc
      obtain ⟨c1, c2, rfl, h1, h2⟩ := hc
      obtain ⟨h3, h4⟩ := sub_cells hs' h2
      simp only
      rw [List.drop_append, ← h1.len, Nat.add_sub_cancel_left, List.drop_eq_nil_of_le (by omega), List.nil_append]
      exact ⟨h3, by simp; omega⟩
    · cases hs

theorem run_fieldAt {p : Ty} {t : TypeId} (hok : okTy P (.agg p) t = true) {i : Nat} {s : Sub p} (hs : p.sub i = some s) {a : Addr} (ha : a.spot = none) (w : World) :
    (Instr.fieldAt t (.pointer (some a)) i).run P w = .ok (.pointer (some ⟨a.block, a.off + s.off, none⟩)) w := by
  obtain ⟨fs, hu, hf⟩ := okTy_agg' hok
  obtain ⟨f, h1, h2, h3, h4⟩ := okFs_sub hf hs
  have h1' : fs[i]? = some f := by simpa using h1
  have h3' : s.τ.width ≠ 0 := by omega
  rw [Nat.zero_add] at h2
  simp [Instr.fieldAt, run_underlying hu, h1', Instr.sureAddr, fieldPlace, okTy_size h4, h3', h2, addr_add ha]

/-- A part of a struct's or an array's cells, as a value. -/
theorem run_part {τ : Ty} {t : TypeId} (hok : okTy P τ t = true) {cs : Array Value} {off : Nat} {x : τ.den} (hw : 0 < τ.width) (hlt : off + τ.width ≤ cs.size) {com : Com} (hc : Cells com w τ ((cs.toList.drop off).take τ.width) x) :
    ∃ cv, (part t cs off).run P w = .ok cv w ∧ Val com w τ cv x := by
  cases hagg : τ.isAgg with
  | true =>
    refine ⟨.agg (cs.extract off (off + τ.width)), ?_, ?_, by rw [hagg]; rfl⟩
    · simp [part, okTy_agg hok, hagg, okTy_size hok]
    · simp only [Value.cells, Array.toList_extract]
      rw [List.extract_eq_take_drop]
      simpa using hc
  | false =>
    have hw1 : τ.width = 1 := by cases τ <;> simp_all [Ty.isAgg, Ty.width, okTy]
    rw [hw1] at hc hlt
    have h1 : (cs.toList.drop off).take 1 = [cs[off]] := by
      rw [List.drop_eq_getElem_cons (by simp; omega)]
      simp
    rw [h1] at hc
    have hone := hc.one cs[off] (by simp)
    have hna : isAggV cs[off] = false := by
      cases hv : cs[off] <;> simp_all [isAggV, Value.oneCell']
    have hlt' : off < cs.size := by omega
    refine ⟨cs[off], ?_, ?_, by rw [hagg]; exact hna⟩
    · simp [part, okTy_agg hok, hagg, hlt']
    · rw [cells_of_not_agg hna]; exact hc

/-- Reading a variable out of cells. -/
theorem run_loadVar {τ : Ty} {t : TypeId} (hok : okTy P τ t = true) {a : Addr} (ha : a.spot = none) {cs : List Value} {x : τ.den} {com : Com} (hc : Cells com w τ cs x)
    (hat : ∀ j v, cs[j]? = some v → w.cell? ⟨a.block, a.off + j, none⟩ = some v) : ∃ cv, (Instr.loadAt t (.pointer (some a))).run P w = .ok cv w ∧ Val com w τ cv x := by
  cases hagg : τ.isAgg with
  | true =>
    refine ⟨.agg cs.toArray, ?_, hc, by rw [hagg]; rfl⟩
    have hl := run_loadCells_list (P := P) w a cs (fun j v hj => by rw [addr_add ha]; exact hat j v hj)
    rw [hc.len] at hl
    simp [Instr.loadAt, Instr.sureAddr, loadVar, okTy_agg hok, hagg, okTy_size hok, hl]
  | false =>
    have hw1 : τ.width = 1 := by cases τ <;> simp_all [Ty.isAgg, Ty.width, okTy]
    have hl := hc.len
    rw [hw1] at hl
    obtain ⟨v, rfl⟩ := List.length_eq_one_iff.1 hl
    have h1 := hat 0 v rfl
    have ha' : (⟨a.block, a.off + 0, none⟩ : Addr) = a := by cases a; simp_all
    rw [ha'] at h1
    have hone := hc.one v (by simp)
    have hna : isAggV v = false := by cases v <;> simp_all [isAggV, Value.oneCell']
    refine ⟨v, ?_, ?_, by rw [hagg]; exact hna⟩
    · simp [Instr.loadAt, Instr.sureAddr, loadVar, okTy_agg hok, hagg, h1]
    · rw [cells_of_not_agg hna]; exact hc

end
end Go.Ev

/-
  OPERATIONS ON MEMORY OF THE CALL's OWN: loads and stores in boxes, new boxes, literals.
-/
namespace Go.Ev
open Go.RowKit (Below)

section
variable {P : Program} {R : Type} {K : Eff → Option R} {r : R} {G : Gh} {w : World}

theorem foldl_set (off : Nat) : ∀ (vs : List Value) (k : Nat) (cells : Array Value), off + k + vs.length ≤ cells.size →
    ((vs.zipIdx k).foldl (fun cs (x : Value × Nat) => cs.setIfInBounds (off + x.2) x.1) cells).toList = cells.toList.take (off + k) ++ vs ++ cells.toList.drop (off + k + vs.length)
  | [], k, cells, _ => by simp
  | v :: vs, k, cells, h => by
    simp only [List.length_cons] at h
    rw [List.zipIdx_cons, List.foldl_cons, foldl_set off vs (k + 1) _ (by simp; omega)]
    have e := list_seg_step cells.toList (off + k) v vs (by simp; omega)
    simpa [Array.toList_setIfInBounds, Nat.add_assoc] using e

theorem cells_of_box {rr : Nat} {ls : List AV} (hbl : BlkOK G w rr (.box ls)) {off : Nat} {x y : List AV} (hc : cut off ls = some (x, y)) :
    ∃ cur t c1 c2, w.heap[G.loc rr]? = some (.cells cur t (0, 0)) ∧ G.wr (G.loc rr) = .blk rr ∧ (∀ o, ¬ G.com (G.loc rr) o) ∧ ls = x ++ y ∧ cur.toList = c1 ++ c2 ∧ c1.length = off ∧ Lay G w rr 0 x c1 ∧ Lay G w rr off y c2 ∧
      ∀ j v, c2[j]? = some v → w.cell? ⟨G.loc rr, off + j, none⟩ = some v := by
  obtain ⟨cur, t, h1, h2, h3, h4⟩ := hbl
  obtain ⟨e, c1, c2, h5, h6, h7, h8⟩ := h4.cut hc
  rw [Nat.zero_add] at h8
  refine ⟨cur, t, c1, c2, h1, h2, h3, e, h5, h6, h7, h8, fun j v hj => ?_⟩
  rw [cell_of_row w _ _ cur t (0, 0) h1]
  have : cur.toList[off + j]? = some v := by
    rw [h5, List.getElem?_append_right (by omega), h6, Nat.add_sub_cancel_left]
    exact hj
  simpa using this

theorem cells_of_vec {rr : Nat} {e : Ty} {xs : List e.den} {ls : List AV} (hbl : BlkOK G w rr (.vec e xs true ls)) {off : Nat} {x y : List AV} (hc : cut off ls = some (x, y)) :
    ∃ g cur t ds c1 c2 rs, G.row rr xs.length = some g ∧ w.heap[g]? = some (.cells cur t (0, 0)) ∧ G.wr g = .blk rr ∧ (∀ o, G.com g o ↔ o < ds.length) ∧ ls = x ++ y ∧ cur.toList = ds ++ (c1 ++ c2) ++ rs ∧ ds.length = xs.length * e.width ∧ c1.length = off ∧
      Lay G w rr 0 x c1 ∧ Lay G w rr off y c2 ∧ (∀ j v, c2[j]? = some v → w.cell? ⟨g, xs.length * e.width + off + j, none⟩ = some v) ∧ e.width = G.rwd rr ∧ c1.length + c2.length = e.width ∧ g ≠ G.loc rr := by
  obtain ⟨v, t, h1, h2, h3, h4, h5, h6⟩ := hbl
  rcases h6 with ⟨h6, _⟩ | ⟨_, g, cap, cur, tg, ds, c, rest, q2, q3, q4, q5, q6, q7, q8, q9, q10, q11, q12, q13, q14, q15⟩
  · cases h6
  · obtain ⟨e0, c1, c2, rfl, k2, k3, k4⟩ := q13.cut hc
    rw [Nat.zero_add] at k4
    have hd := q11.len (fun _ _ hx => hx.len)
    refine ⟨g, cur, tg, ds, c1, c2, rest, q3, q5, q6, q14, e0, q10, hd, k2, k3, k4, fun j v hj => ?_, h5, by rw [← q12, List.length_append], q4⟩
    rw [cell_of_row w _ _ cur tg (0, 0) q5]
    have : cur.toList[xs.length * e.width + off + j]? = some v := by
      rw [q10, ← hd, ← k2, List.append_assoc, Nat.add_assoc, List.getElem?_append_right (by omega), Nat.add_sub_cancel_left, List.append_assoc, List.getElem?_append_right (by omega), Nat.add_sub_cancel_left]
      have hlt : j < c2.length := by
        rcases Nat.lt_or_ge j c2.length with h' | h'
        · exact h'
        · rw [List.getElem?_eq_none h'] at hj; cases hj
      rw [List.getElem?_append_left hlt]
      exact hj
    simpa using this

theorem vec_relay {rr : Nat} {e : Ty} {xs : List e.den} {ls : List AV} (hbl : BlkOK G w rr (.vec e xs true ls)) {off : Nat} {x y y' : List AV} (hc : cut off ls = some (x, y)) (hy : ∀ c, Lay G w rr off y c → Lay G w rr off y' c) :
    BlkOK G w rr (.vec e xs true (x ++ y')) := by
  obtain ⟨v, t, h1, h2, h3, h4, h5, h6⟩ := hbl
  rcases h6 with ⟨h6, _⟩ | ⟨_, g, cap, cur, tg, ds, c, rest, q2, q3, q4, q5, q6, q7, q8, q9, q10, q11, q12, q13, q14, q15⟩
  · cases h6
  · obtain ⟨e0, c1, c2, rfl, k2, k3, k4⟩ := q13.cut hc
    rw [Nat.zero_add] at k4
    exact ⟨v, t, h1, h2, h3, h4, h5, .inr ⟨rfl, g, cap, cur, tg, ds, c1 ++ c2, rest, q2, q3, q4, q5, q6, q7, q8, q9, q10, q11, q12, k3.append (by rw [Nat.zero_add, k2]; exact hy _ k4), q14, q15⟩⟩

theorem getElem?_lt {l : List Value} {j : Nat} {v : Value} (h : l[j]? = some v) : j < l.length := by
  rcases Nat.lt_or_ge j l.length with h' | h'
  · exact h'
  · rw [List.getElem?_eq_none h'] at h; cases h

theorem scalar_width {e : Ty} (h : e.scalar = true) : e.width = 1 := by cases e <;> simp_all [Ty.scalar, Ty.width]

theorem okTy_raw {t : TypeId} (h : okTy P .raw t = true) (w : World) : (isAgg t).run P w = .ok false w := okTy_agg h w

/-- What a load yields. -/
theorem evLoad_sound {τ : Ty} {t : TypeId} (hok : okTy P τ t = true) {bl : List Blk} {x : AV} {v1 : Value} {p : GP} (hx : VA G w p x v1)
    (hbl : ∀ r b, bl[r]? = some b → BlkOK G w r b) (hlt : ∀ r b, bl[r]? = some b → r < G.nb) (h : evLoad τ bl x K = some r) :
    ∃ av al cv, K { val := av, alias := al } = some r ∧ av.isOwn = false ∧ (Instr.loadAt t v1).run P w = .ok cv w ∧ (∃ p, VA G w p av cv) ∧
      (al = none ∨ ∃ rr off, al = some (.leaf rr off) ∧ rr < G.nb ∧ ∀ b, bl[rr]? = some b → LeafCell G w rr off b cv) := by
  have fin : ∀ {av : AV} {cv : Value}, K1 K av = some r → av.isOwn = false → (Instr.loadAt t v1).run P w = .ok cv w → (∃ p, VA G w p av cv) → ∃ av al cv, K { val := av, alias := al } = some r ∧ av.isOwn = false ∧ (Instr.loadAt t v1).run P w = .ok cv w ∧ (∃ p, VA G w p av cv) ∧
      (al = none ∨ ∃ rr off, al = some (.leaf rr off) ∧ rr < G.nb ∧ ∀ b, bl[rr]? = some b → LeafCell G w rr off b cv) := fun h1 h2 h3 h4 => ⟨_, none, _, h1, h2, h3, h4, .inl rfl⟩
  unfold evLoad at h
  split at h
  · rename_i τ' y
    split at h
    · rename_i e
      subst e
      simp only [VA] at hx
      obtain ⟨a, cs, rfl, hs, hc, hat⟩ := hx
      obtain ⟨cv, h1, h2⟩ := run_loadVar hok hs hc (fun j v hj => (hat j v hj).2)
      exact fin h rfl h1 ⟨p, by simpa only [VA] using h2⟩
    · cases h
  · rename_i rr off
    simp only [VA] at hx
    obtain ⟨hr, rfl⟩ := hx
    split at h
    · rename_i ls hb
      split at h
      · rename_i pre rest hcut
        obtain ⟨cur, t', c1, c2, k1, k2, k3, k4, k5, k6, k7, k8, k9⟩ := cells_of_box (hbl rr _ hb) hcut
        have loadOne : ∀ (v : Value) (c' : List Value), c2 = v :: c' → τ.isAgg = false → (Instr.loadAt t (.pointer (some ⟨G.loc rr, off, none⟩))).run P w = .ok v w := by
          intro v c' hc' hag
          have := k9 0 v (by rw [hc']; rfl)
          rw [Nat.add_zero] at this
          simp [Instr.loadAt, Instr.sureAddr, loadVar, okTy_agg hok, hag, this]
        split at h
        · rename_i e xs post
          split at h
          · rename_i e1
            subst e1
            simp only [Lay] at k8
            obtain ⟨c, cs', rfl, _, _, ⟨v, rfl, l1, l2⟩, _⟩ := k8
            have hv := k9 0 v rfl
            rw [Nat.add_zero] at hv
            simp only [VA] at l1
            exact ⟨.d (.slice e) xs, some (.leaf rr off), v, h, rfl, loadOne v cs' rfl rfl, ⟨p, by simp only [VA]; exact l1.val⟩, .inr ⟨rr, off, rfl, hlt rr _ hb, fun b hb' => by rw [hb] at hb'; cases hb'; exact fun _ _ _ _ _ => hv⟩⟩
          · cases h
        · rename_i r2 o2 post
          split at h
          · rename_i e1
            subst e1
            simp only [Lay] at k8
            obtain ⟨c, cs', rfl, _, _, ⟨v, rfl, l1, l2⟩, _⟩ := k8
            exact fin h rfl (loadOne v cs' rfl rfl) ⟨_, l1⟩
          · cases h
        · rename_i g2 c2' post
          split at h
          · rename_i e1
            subst e1
            simp only [Lay] at k8
            obtain ⟨c, cs', rfl, _, _, ⟨v, rfl, l1, l2⟩, _⟩ := k8
            exact fin h rfl (loadOne v cs' rfl rfl) ⟨_, l1⟩
          · cases h
        · split at h
          · rename_i v rest' hfl
            obtain ⟨c3, c4, rfl, l1, l2⟩ := fromLeaves_sound hfl k8.ll
            obtain ⟨cv, h1, h2⟩ := run_loadVar (P := P) (a := ⟨G.loc rr, off, none⟩) hok rfl l1 (fun j v hj => k9 j v (by rw [List.getElem?_append_left (getElem?_lt hj)]; exact hj))
            exact fin h rfl h1 ⟨p, by simpa only [VA] using h2⟩
          · cases h
      · cases h
    · cases h
  · rename_i rr off i
    simp only [VA] at hx
    obtain ⟨hr, h0, rfl⟩ := hx
    split at h
    · rename_i ls hb
      split at h
      · rename_i pre n e xs post hcut
        split at h
        · rename_i e1
          obtain ⟨e1, hsc⟩ := e1
          subst e1
          split at h
          · rename_i hi
            obtain ⟨cur, t', c1, c2, k1, k2, k3, k4, k5, k6, k7, k8, k9⟩ := cells_of_box (hbl rr _ hb) hcut
            simp only [Lay] at k8
            obtain ⟨c, cs', rfl, _, _, l1, _⟩ := k8
            simp only [LeafV, Cells] at l1
            obtain ⟨l1, l2⟩ := l1
            have l1' : List.length xs = n := l1
            have hn2 : Int.toNat i < List.length xs := by rw [l1']; exact toNat_lt h0 hi
            have hg := l2.get (fun _ _ hx => hx.len) (Int.toNat i) hn2
            have h2 : List.getD xs (Int.toNat i) e.zero = xs[Int.toNat i] := by simp [List.getD, List.getElem?_eq_getElem hn2]
            rw [h2] at h
            obtain ⟨cv, q1, q2⟩ := run_loadVar (P := P) (a := ⟨G.loc rr, off + Int.toNat i, none⟩) hok rfl hg (fun j v hj => by
              rw [List.getElem?_take] at hj
              split at hj
              · rw [List.getElem?_drop, scalar_width hsc, Nat.mul_one] at hj
                have := k9 (Int.toNat i + j) v (by rw [List.getElem?_append_left (getElem?_lt hj)]; exact hj)
                rwa [← Nat.add_assoc] at this
              · cases hj)
            exact fin h rfl q1 ⟨p, by simpa only [VA] using q2⟩
          · cases h
        · cases h
      · cases h
    · cases h
  · rename_i rr i
    simp only [VA] at hx
    obtain ⟨hr, h0, h1, rfl⟩ := hx
    split at h
    · rename_i e xs hb
      split at h
      · rename_i e1
        subst e1
        obtain ⟨cur, t', k1, k2, k3, k4, k5, k6, k7, k8⟩ := hbl rr _ hb
        have hn2 : i.toNat < xs.length := by rw [k4]; exact toNat_lt h0 h1
        have hg := k8.get (fun _ _ hx => hx.len) i.toNat hn2
        have h2 : List.getD xs i.toNat e.zero = xs[i.toNat] := by simp [List.getD, List.getElem?_eq_getElem hn2]
        rw [h2] at h
        obtain ⟨cv, q1, q2⟩ := run_loadVar (P := P) (a := ⟨G.loc rr, i.toNat * G.wd rr, none⟩) hok rfl hg (fun j v hj => by
          rw [cell_of_row w _ _ cur t' (0, 0) k1]
          rw [List.getElem?_take] at hj
          split at hj
          · rw [List.getElem?_drop, k5] at hj
            simpa using hj
          · cases hj)
        exact fin h rfl q1 ⟨p, by simpa only [VA] using q2⟩
      · cases h
    · rename_i e rows hb
      split at h
      · rename_i e1
        subst e1
        obtain ⟨xs, hxs, h⟩ := Option.bind_eq_some_iff.1 h
        obtain ⟨g, c, t2, cur, t', q1, q2, q3, q4, q5, q6, q7, q8, q9, q10, q11, q12, q13, q14⟩ := mat_row (hbl rr _ hb) hxs
        have hcell : w.cell? ⟨G.loc rr, i.toNat * G.wd rr, none⟩ = some (.slice (some ⟨g, 0, none⟩) xs.length xs.length) := by
          rw [q13, Nat.mul_one, cell_of_row w _ _ cur t' (0, 0) q9]
          exact q10
        refine fin h rfl (cv := .slice (some ⟨g, 0, none⟩) xs.length xs.length) ?_ ⟨p, ?_⟩
        · simp [Instr.loadAt, Instr.sureAddr, loadVar, okTy_agg hok, Ty.isAgg, hcell]
        · simp only [VA]
          exact ⟨hr, h0, g, q1, by rw [q2]⟩
      · cases h
    · cases h
  · rename_i rr i j
    simp only [VA] at hx
    obtain ⟨hr, h0, hj0, hj1, g, hg, rfl⟩ := hx
    split at h
    · rename_i e rows hb
      split at h
      · rename_i e1
        subst e1
        obtain ⟨xs, hxs, h⟩ := Option.bind_eq_some_iff.1 h
        obtain ⟨g', c, t2, cur, t', q1, q2, q3, q4, q5, q6, q7, q8, q9, q10, q11, q12, q13, q14⟩ := mat_row (hbl rr _ hb) hxs
        have hgg : g' = g := by rw [hg] at q1; injection q1 with q1; exact q1.symm
        subst hgg
        have hn2 : j.toNat < xs.length := by rw [q2] at hj1; exact toNat_lt hj0 hj1
        have hgt := q6.get (fun _ _ hx => hx.len) j.toNat hn2
        have h2 : List.getD xs j.toNat e.zero = xs[j.toNat] := by simp [List.getD, List.getElem?_eq_getElem hn2]
        rw [h2] at h
        obtain ⟨cv, r1, r2⟩ := run_loadVar (P := P) (a := ⟨g', j.toNat * G.rwd rr, none⟩) hok rfl hgt (fun k v hk => by
          rw [cell_of_row w _ _ c t2 (0, 0) q3]
          rw [List.getElem?_take] at hk
          split at hk
          · rw [List.getElem?_drop, q12] at hk
            simpa using hk
          · cases hk)
        exact fin h rfl r1 ⟨p, by simpa only [VA] using r2⟩
      · cases h
    · cases h
  · rename_i rr n off
    simp only [VA] at hx
    obtain ⟨hr, h0, g, hg, rfl⟩ := hx
    split at h
    · rename_i e xs has ls hb
      split at h
      · rename_i hh
        obtain ⟨rfl, rfl⟩ := hh
        split at h
        · rename_i pre rest hcut
          obtain ⟨g', cur, t', ds, c1, c2, rs, q1, q2, q3, q4, q5, q6, q7, q8, q9, q10, q11, q12, q13, q14⟩ := cells_of_vec (hbl rr _ hb) hcut
          rw [Int.toNat_natCast] at hg
          have ew : (xs.length : Int).toNat * G.rwd rr = xs.length * e.width := by rw [Int.toNat_natCast, q12]
          rw [ew] at fin ⊢
          have hgg : g' = g := by rw [hg] at q1; injection q1 with q1; exact q1.symm
          subst hgg
          have loadOne : ∀ (v : Value) (c' : List Value), c2 = v :: c' → τ.isAgg = false → (Instr.loadAt t (.pointer (some ⟨g', xs.length * e.width + off, none⟩))).run P w = .ok v w := by
            intro v c' hc' hag
            have := q11 0 v (by rw [hc']; rfl)
            rw [Nat.add_zero] at this
            simp [Instr.loadAt, Instr.sureAddr, loadVar, okTy_agg hok, hag, this]
          split at h
          · rename_i e2 ys post
            split at h
            · rename_i e1
              subst e1
              simp only [Lay] at q10
              obtain ⟨c, cs', rfl, _, _, ⟨v, rfl, l1, l2⟩, _⟩ := q10
              have hv := q11 0 v rfl
              rw [Nat.add_zero] at hv
              simp only [VA] at l1
              exact ⟨.d (.slice e2) ys, some (.leaf rr off), v, h, rfl, loadOne v cs' rfl rfl, ⟨p, by simp only [VA]; exact l1.val⟩, .inr ⟨rr, off, rfl, hlt rr _ hb, fun b hb' => by
                rw [hb] at hb'; cases hb'; exact fun _ _ _ _ _ _ => ⟨g', hg, hv⟩⟩⟩
            · cases h
          · split at h
            · rename_i v rest' hfl
              obtain ⟨c3, c4, rfl, l1, l2⟩ := fromLeaves_sound hfl q10.ll
              obtain ⟨cv, h1, h2⟩ := run_loadVar (P := P) (a := ⟨g', xs.length * e.width + off, none⟩) hok rfl l1 (fun j v hj => q11 j v (by rw [List.getElem?_append_left (getElem?_lt hj)]; exact hj))
              exact fin h rfl h1 ⟨p, by simpa only [VA] using h2⟩
            · cases h
        · cases h
      · cases h
    · cases h
  · cases h

end

/-! ### Stores -/

section
variable {P : Program} {w0 : World} {com0 : Com} {f : Frm} {nt : Nat} {G G' : Gh} {st : St} {a : Act} {w w' : World} {R : Type} {K : Eff → Option R} {r : R}

theorem run_storeVar {t : TypeId} {n : Nat} (hs : ∀ w, (sizeOf t).run P w = .ok n w) {g off : Nat} {cur : Array Value} {t' : TypeId} (hg : w.heap[g]? = some (.cells cur t' (0, 0))) {v : Value} (hn : v.cells.toList.length = n)
    (hlt : off + n ≤ cur.size) (h1 : ∀ u ∈ v.cells.toList, u.oneCell' = true) :
    (Instr.storeAt t (.pointer (some ⟨g, off, none⟩)) v).run P w = .ok () (w.setRow g (cur.toList.take off ++ v.cells.toList ++ cur.toList.drop (off + n)).toArray) := by
  have h := run_storeCells_at P g off t' v.cells.toList 0 cur w hg (by simpa [hn] using hlt) h1
  simp only [Nat.add_zero, hn] at h
  have hn' : v.cells.size = n := by rw [← hn]; exact Array.length_toList.symm
  simp [Instr.storeAt, Instr.sureAddr, storeVar, hs, hn', h]

theorem clrB_clrB (r : Nat) (x : AV × Option Place) : Ev.clrB r (Ev.clrB r x) = Ev.clrB r x := by
  obtain ⟨a, p⟩ := x
  cases p with
  | none => rfl
  | some p => cases p with
    | slot j => rfl
    | leaf r' o => by_cases h : r' = r <;> simp [Ev.clrB, h]

theorem Lay.one {rr : Nat} : ∀ {off : Nat} {ls : List AV} {cs : List Value}, Lay G w rr off ls cs → ∀ v ∈ cs, v.oneCell' = true
  | _, [], _, h => by simp only [Lay] at h; subst h; intro v hv; cases hv
  | _, b :: l, _, h => by
    simp only [Lay] at h
    obtain ⟨c, cs', rfl, _, _, h2, h3⟩ := h
    intro v hv
    rcases List.mem_append.1 hv with h | h
    · cases b <;> simp only [LeafV] at h2
      case d τ x => exact h2.one v h
      all_goals
        obtain ⟨u, rfl, _, h4⟩ := h2
        simp at h
        subst h
        exact h4
    · exact h3.one v h

/-- Leaves are written over a box's cells. -/
theorem Inv.storeLeaves (hI : Inv w0 com0 f nt G st a w) {rr : Nat} {ls pre rest post new : List AV} {off n : Nat} {vs : List Value} (hb : st.bl[rr]? = some (.box ls)) (hc : cut off ls = some (pre, rest)) (hs : strike n rest = some post)
    (hn : vs.length = n) (hnew : ∀ w', Ext (fun t => t ≠ .blk rr) G w G w' → Lay G w' rr off new vs) :
    ∃ cur t', w.heap[G.loc rr]? = some (.cells cur t' (0, 0)) ∧ off + n ≤ cur.size ∧
      Inv w0 com0 f nt G { fr := fun j => Ev.clrB rr (st.fr j), bl := st.bl.set rr (.box (pre ++ new ++ post)) } a (w.setRow (G.loc rr) (cur.toList.take off ++ vs ++ cur.toList.drop (off + n)).toArray) := by
  obtain ⟨cur, t', c1, c2, k1, k2, k3, k4, k5, k6, k7, k8, k9⟩ := cells_of_box (hI.blocks rr _ hb) hc
  unfold strike at hs
  cases hs' : cut n rest with
  | none => rw [hs'] at hs; cases hs
  | some y =>
    rw [hs'] at hs
    obtain ⟨mid, post'⟩ := y
    simp only [Option.map_some, Option.some.injEq] at hs
    subst hs
    obtain ⟨e2, d1, d2, rfl, l1, l2, l3⟩ := k8.cut hs'
    have hsz : cur.size = off + (n + d2.length) := by
      have : cur.toList.length = cur.size := Array.length_toList
      rw [← this, k5]; simp [k6, l1]
    refine ⟨cur, t', k1, by omega, ?_⟩
    have e1 : cur.toList.take off = c1 := by rw [k5, List.take_left' k6]
    have e3 : cur.toList.drop (off + n) = d2 := by
      rw [k5, List.drop_append, k6, List.drop_eq_nil_of_le (by omega), List.nil_append, Nat.add_sub_cancel_left, List.drop_left' l1]
    rw [e1, e3]
    have hx := setRow_ext (w := w) k2 k3 (c1 ++ vs ++ d2).toArray
    refine hI.write hb k2 k3 ⟨_, t', setRow_heap w _ cur _ t' (0, 0) k1, k2, k3, ?_⟩
    show Lay G _ rr 0 _ (c1 ++ vs ++ d2)
    refine (Lay.append (c1 := c1) (c2 := vs) (k7.ext hx (fun _ _ => by simp)) ?_).append ?_
    · rw [Nat.zero_add, k6]; exact hnew _ hx
    · rw [Nat.zero_add, List.length_append, k6, hn]
      exact l3.ext hx (fun _ _ => by simp)

/-- A row is laid in a table. -/
theorem storeRow (hI : Inv w0 com0 f nt G st a w) {t : TypeId} {e : Ty} (hsz : ∀ w, (sizeOf t).run P w = .ok (Ty.slice e).width w) {rr r2 : Nat} {rows : List (Option (List e.den))} {xs : List e.den} (hb : st.bl[rr]? = some (.mat e rows)) (hb2 : st.bl[r2]? = some (.arr e xs))
    (hr : rr < G.nb) {i : Int} (h0 : 0 ≤ i) (h1 : i < G.len rr) (hns : ¬ (List.getD rows i.toNat none).isSome = true) :
    ∃ w', (Instr.storeAt t (.pointer (some ⟨G.loc rr, i.toNat * G.wd rr, none⟩)) (.slice (some ⟨G.loc r2, 0, none⟩) (G.len r2) (G.len r2))).run P w = .ok () w' ∧
      Inv w0 com0 f nt (G.giv rr r2 i.toNat xs.length) { fr := fun j => Ev.clrB rr (st.fr j), bl := (st.bl.set rr (.mat e (List.set rows i.toNat (some xs)))).set r2 .gone } a w' := by
  have hne : r2 ≠ rr := fun e0 => by subst e0; rw [hb] at hb2; cases hb2
  obtain ⟨cur, t', k1, k2, k3, k4, k5, k5', k6, k7, k8, k9, k10, k11, k12⟩ := hI.blocks rr _ hb
  obtain ⟨cur2, t2, m1, m2, m3, m4, m5, m6, m7, m8⟩ := hI.blocks r2 _ hb2
  have hi : i.toNat < rows.length := by rw [k4]; exact toNat_lt h0 h1
  have hrow : rows[i.toNat]? = some none := by
    rw [List.getD_eq_getElem?_getD, List.getElem?_eq_getElem hi] at hns
    rw [List.getElem?_eq_getElem hi]
    simp only [Option.getD_some] at hns
    cases hx : rows[i.toNat] with
    | none => rfl
    | some y => rw [hx] at hns; exact absurd rfl hns
  have hnone : G.row rr i.toNat = none := (k9 i.toNat none cur[i.toNat] hrow (Array.getElem?_eq_getElem (by omega))).2
  have hgood : ∀ i' g, G.row rr i' = some g → ∃ ys v, rows[i']? = some (some ys) ∧ cur[i']? = some v ∧ RowOK G w rr e i' (some ys) v := fun i' g hg => by
    have hlt : i' < rows.length := by
      rcases Nat.lt_or_ge i' rows.length with h | h
      · exact h
      · rw [k12 i' h] at hg; cases hg
    cases hx : rows[i'] with
    | none =>
      have := k9 i' none cur[i'] (by rw [List.getElem?_eq_getElem hlt, hx]) (Array.getElem?_eq_getElem (by omega))
      rw [this.2] at hg
      cases hg
    | some ys => exact ⟨ys, cur[i'], by rw [List.getElem?_eq_getElem hlt, hx], Array.getElem?_eq_getElem (by omega), k9 i' _ cur[i'] (by rw [List.getElem?_eq_getElem hlt, hx]) (Array.getElem?_eq_getElem (by omega))⟩
  have hloc : G.loc r2 ≠ G.loc rr := fun e0 => by rw [e0, k2] at m2; injection m2 with m2; exact hne m2.symm
  have hrun := run_storeVar (P := P) (t := t) hsz (off := i.toNat * G.wd rr) (v := .slice (some ⟨G.loc r2, 0, none⟩) (G.len r2) (G.len r2)) k1 rfl (by rw [k5]; simp only [Ty.width]; omega) (fun u hu => by
    simp [Value.cells] at hu; subst hu; rfl)
  refine ⟨_, hrun, ?_⟩
  have hcl : (cur.toList.take (i.toNat * G.wd rr) ++ (Value.slice (some ⟨G.loc r2, 0, none⟩) (G.len r2) (G.len r2)).cells.toList ++ cur.toList.drop (i.toNat * G.wd rr + (Ty.slice e).width)).toArray = cur.setIfInBounds i.toNat (.slice (some ⟨G.loc r2, 0, none⟩) (G.len r2) (G.len r2)) := by
    apply Array.ext'
    rw [k5, Array.toList_setIfInBounds, List.set_eq_take_append_cons_drop, if_pos (by simp; omega)]
    simp [Value.cells, Ty.width]
  rw [hcl]
  refine hI.giv hb hb2 hne k2 k3 m2 hnone (fun hx => ?_)
  refine ⟨_, t', setRow_heap w _ cur _ t' (0, 0) k1, ?_, k3, by rw [List.length_set]; exact k4, k5, k5', k6, by rw [List.length_set]; exact k7, by rw [List.length_set]; simpa using k8, fun i' x v hx' hv' => ?_, fun i1 i2 g hg1 hg2 => ?_, fun i' => ?_, fun i' hi' => ?_⟩
  · simp only [Gh.giv, upd]
    rw [if_neg (Ne.symm hloc)]
    exact k2
  · by_cases hii : i' = i.toNat
    · subst hii
      rw [List.getElem?_set_self hi] at hx'
      cases hx'
      rw [Array.getElem?_setIfInBounds_self_of_lt (by omega)] at hv'
      cases hv'
      refine ⟨G.loc r2, cur2, t2, by rw [m4], by simp [Gh.giv, upd], by simp [Gh.giv, upd], ?_, by simp [Gh.giv, upd], m3, m8.mono (fun _ _ h => h.mono hx.com hx.cell), m7⟩
      exact (setRow_other w (G.loc rr) (G.loc r2) _ hloc).trans m1
    · rw [List.getElem?_set_ne (Ne.symm hii)] at hx'
      rw [Array.getElem?_setIfInBounds_ne (Ne.symm hii)] at hv'
      have := k9 i' x v hx' hv'
      cases x with
      | none => exact ⟨this.1, by simp [Gh.giv, upd, hii]; exact this.2⟩
      | some ys =>
        obtain ⟨g, c, t3, q1, q2, q3, q4, q5, q6, q7, q8⟩ := this
        refine ⟨g, c, t3, q1, by simp [Gh.giv, upd, hii]; exact q2, by simp [Gh.giv, upd, hii]; exact q3, ?_, ?_, q6, q7.mono (fun _ _ h => h.mono hx.com hx.cell), q8⟩
        · exact (setRow_other w (G.loc rr) g _ (fun e0 => k11 i' (by rw [q2, e0]))).trans q4
        · simp only [Gh.giv, upd]
          split
          · rfl
          · exact q5
  · have key : ∀ i', i' ≠ i.toNat → G.row rr i' ≠ some (G.loc r2) := fun i' _ h => by
      obtain ⟨ys, v, _, _, g, c, t3, q1, q2, q3, q4, q5, _⟩ := hgood i' _ h
      rw [h] at q2
      injection q2 with q2
      subst q2
      rw [m2] at q5
      injection q5 with q5
      exact hne q5
    simp only [Gh.giv, upd, if_true] at hg1 hg2
    by_cases e1 : i1 = i.toNat <;> by_cases e2 : i2 = i.toNat
    · rw [e1, e2]
    · rw [if_pos e1] at hg1
      rw [if_neg e2, ← hg1] at hg2
      exact absurd hg2 (key i2 e2)
    · rw [if_pos e2] at hg2
      rw [if_neg e1, ← hg2] at hg1
      exact absurd hg1 (key i1 e1)
    · rw [if_neg e1] at hg1
      rw [if_neg e2] at hg2
      exact k10 i1 i2 g hg1 hg2
  · simp only [Gh.giv, upd, if_true]
    by_cases e1 : i' = i.toNat
    · rw [if_pos e1]
      intro h
      injection h with h
      exact hloc h
    · rw [if_neg e1]
      exact k11 i'
  · rw [List.length_set] at hi'
    simp only [Gh.giv, upd, if_true]
    rw [if_neg (by omega)]
    exact k12 i' hi'

/-- An element of a table is written. -/
theorem storeMel (hI : Inv w0 com0 f nt G st a w) {t : TypeId} {e : Ty} (hsz : ∀ w, (sizeOf t).run P w = .ok e.width w) {rr : Nat} {rows : List (Option (List e.den))} {xs : List e.den} (hb : st.bl[rr]? = some (.mat e rows))
    {i j : Int} (hxs : List.getD rows i.toNat none = some xs) {g : Nat} (hg : G.row rr i.toNat = some g) (hj0 : 0 ≤ j) (hj1 : j < G.rlen rr i.toNat) {v : Value} {y : e.den} (hval : Val G.com w e v y) :
    ∃ w', (Instr.storeAt t (.pointer (some ⟨g, j.toNat * G.rwd rr, none⟩)) v).run P w = .ok () w' ∧
      Inv w0 com0 f nt G { fr := fun j => Ev.clrB rr (st.fr j), bl := st.bl.set rr (.mat e (List.set rows i.toNat (some (List.set xs j.toNat y)))) } a w' := by
  obtain ⟨g', c, t2, cur, t', q1, q2, q3, q4, q5, q6, q7, q8, q9, q10, q11, q12, q13, q14⟩ := mat_row (hI.blocks rr _ hb) hxs
  have hgg : g' = g := by rw [hg] at q1; injection q1 with q1; exact q1.symm
  subst hgg
  obtain ⟨cur0, t0, k1, k2, k3, k4, k5, k5', k6, k7, k8, k9, k10, k11, k12⟩ := hI.blocks rr _ hb
  have hcur : cur0 = cur := by rw [k1] at q9; injection q9 with q9; injection q9 with q9
  subst hcur
  have hn2 : j.toNat < xs.length := by rw [q2] at hj1; exact toNat_lt hj0 hj1
  have hset := q6.set (fun _ _ hx => hx.len) j.toNat hn2 hval.1
  rw [show j.toNat * e.width = j.toNat * G.rwd rr by rw [q12]] at hset
  have hl := q6.len (fun _ _ hx => hx.len)
  rw [Array.length_toList] at hl
  have hle : j.toNat * e.width + e.width ≤ c.size := by
    rw [hl, ← Nat.succ_mul]
    exact Nat.mul_le_mul_right _ hn2
  have hrun := run_storeVar (P := P) (t := t) hsz (off := j.toNat * G.rwd rr) q3 hval.1.len (by rw [← q12]; exact hle) hval.1.one
  refine ⟨_, hrun, ?_⟩
  have hx := setRow_extG (w := w) (cur' := (c.toList.take (j.toNat * G.rwd rr) ++ v.cells.toList ++ c.toList.drop (j.toNat * G.rwd rr + e.width)).toArray) q4 (fun o h => absurd h (q5 o))
  have hgl : g' ≠ G.loc rr := fun e0 => k11 i.toNat (by rw [hg, e0])
  refine hI.writeG (b' := .mat e (List.set rows i.toNat (some (List.set xs j.toNat y)))) hb q4 (fun o h => absurd h (q5 o)) ?_
  refine ⟨cur0, t0, (setRow_other w g' (G.loc rr) _ (Ne.symm hgl)).trans k1, k2, k3, by rw [List.length_set]; exact k4, k5, k5', k6, by rw [List.length_set]; exact k7, by rw [List.length_set]; exact k8, fun i' x u hx' hu => ?_, k10, k11, by rw [List.length_set]; exact k12⟩
  by_cases hii : i' = i.toNat
  · subst hii
    rw [List.getElem?_set_self q8] at hx'
    cases hx'
    rw [q10] at hu
    cases hu
    refine ⟨g', _, t2, by rw [List.length_set], hg, by rw [List.length_set]; exact q2, setRow_heap w g' c _ t2 (0, 0) q3, q4, q5, ?_, by rw [List.length_set]; exact q7⟩
    show Parts _ (c.toList.take (j.toNat * G.rwd rr) ++ v.cells.toList ++ c.toList.drop (j.toNat * G.rwd rr + e.width)) _
    exact hset.mono (fun _ _ h => h.mono hx.com hx.cell)
  · rw [List.getElem?_set_ne (Ne.symm hii)] at hx'
    have := k9 i' x u hx' hu
    cases x with
    | none => exact this
    | some ys =>
      obtain ⟨g2, c2, t3, p1, p2, p3, p4, p5, p6, p7, p8⟩ := this
      have hne : g2 ≠ g' := fun e0 => hii (k10 i' i.toNat g2 p2 (by rw [hg, e0]))
      exact ⟨g2, c2, t3, p1, p2, p3, (setRow_other w g' g2 _ hne).trans p4, p5, p6, p7.mono (fun _ _ h => h.mono hx.com hx.cell), p8⟩

/-- A slice of its own is laid in the open element of a slice that grows. -/
theorem storeVec (hI : Inv w0 com0 f nt G st a w) {t : TypeId} {e' : Ty} (hsz : ∀ w, (sizeOf t).run P w = .ok (Ty.slice e').width w) {rr : Nat} {e : Ty} {xs : List e.den} {ls pre post : List AV} {off : Nat} {y0 : (Ty.slice e').den}
    (hb : st.bl[rr]? = some (.vec e xs true ls)) (hcut : cut off ls = some (pre, .d (.slice e') y0 :: post)) {g : Nat} (hg : G.row rr xs.length = some g) {k : Nat} {ys : List e'.den} (hk : (st.fr k).1 = .own e' ys) :
    ∃ w', (Instr.storeAt t (.pointer (some ⟨g, xs.length * G.rwd rr + off, none⟩)) (a.tmps.getD k undef)).run P w = .ok () w' ∧
      Inv w0 com0 f nt (G.rel (.slot f k) (.leaf rr off)) { fr := fun j => Ev.clrB rr (upd st.fr k ((st.fr k).1.dem, (st.fr k).2) j), bl := st.bl.set rr (.vec e xs true (pre ++ .own e' ys :: post)) } a w' := by
  have hown := hI.slots k
  rw [hk] at hown
  simp only [VA] at hown
  have hval := hown.val
  have hna : isAggV (a.tmps.getD k undef) = false := hval.2
  have hone : ∀ u ∈ (a.tmps.getD k undef).cells.toList, u.oneCell' = true := hval.1.one
  have hcell : (a.tmps.getD k undef).cells.toList = [a.tmps.getD k undef] := by rw [cells_of_not_agg hna]
  have hI1 := hI.dem k
  have hI2 := hI1.rel (q := .slot f k) (q' := .leaf rr off) rfl trivial (by
    rintro ⟨_, hu⟩
    simp [upd, AV.dem_isOwn] at hu) (by
    rintro ⟨b, h1, pre', e2, xs', post', h2⟩
    have h1' : st.bl[rr]? = some b := h1
    rw [hb] at h1'
    cases h1'
    simp only [Blk.lv] at h2
    rw [hcut] at h2
    cases h2)
  have hb2 : ({ st with fr := upd st.fr k ((st.fr k).1.dem, (st.fr k).2) } : St).bl[rr]? = some (.vec e xs true ls) := hb
  have hblk := hI2.blocks rr _ hb2
  obtain ⟨v0, t0, b1, b2, b3, b4, b5, b6⟩ := hblk
  obtain ⟨g', cur, tg, ds, c1, c2, rs, q1, q2, q3, q4, q5, q6, q7, q8, q9, q10, q11, q12, q13, q14⟩ := cells_of_vec (hI2.blocks rr _ hb2) hcut
  have hgg : g' = g := by
    have q1' : G.row rr xs.length = some g' := q1
    rw [hg] at q1'; injection q1' with q1'; exact q1'.symm
  subst hgg
  have hrw : (G.rel (.slot f k) (.leaf rr off)).rwd rr = G.rwd rr := rfl
  rw [hrw] at q12
  simp only [Lay] at q10
  obtain ⟨c, cs', rfl, l1, l2, l3, l4⟩ := q10
  have hcl : c.length = 1 := l1
  have hw1 : (Ty.slice e').width = 1 := rfl
  have hlen : cur.size = ds.length + (c1.length + (c.length + cs'.length)) + rs.length := by
    rw [← Array.length_toList, q6]; simp; omega
  have hrun := run_storeVar (P := P) (t := t) hsz (off := xs.length * G.rwd rr + off) q2 (v := a.tmps.getD k undef) hval.1.len (by rw [← q12, hw1]; omega) hone
  refine ⟨_, hrun, ?_⟩
  have hnew : cur.toList.take (xs.length * G.rwd rr + off) ++ (a.tmps.getD k undef).cells.toList ++ cur.toList.drop (xs.length * G.rwd rr + off + (Ty.slice e').width) = ds ++ (c1 ++ ([a.tmps.getD k undef] ++ cs')) ++ rs := by
    rw [← q12, ← q7, ← q8, hw1, hcell, q6]
    have e1 : (ds ++ (c1 ++ (c ++ cs')) ++ rs) = (ds ++ c1) ++ (c ++ (cs' ++ rs)) := by simp
    rw [e1, List.take_left' (by simp), ← List.length_append]
    have e2 : ds ++ c1 ++ (c ++ (cs' ++ rs)) = (ds ++ c1 ++ c) ++ (cs' ++ rs) := by simp
    rw [e2, List.drop_left' (by simp [hcl]; omega)]
    simp
  rw [hnew]
  have hsame : ∀ o, (G.rel (.slot f k) (.leaf rr off)).com g' o → (w.setRow g' (ds ++ (c1 ++ ([a.tmps.getD k undef] ++ cs')) ++ rs).toArray).cell? ⟨g', o, none⟩ = w.cell? ⟨g', o, none⟩ := by
    intro o ho
    have ho' := (q4 o).1 ho
    rw [cell_of_row _ _ _ _ tg (0, 0) (setRow_heap w g' cur _ tg (0, 0) q2), cell_of_row w _ _ cur tg (0, 0) q2]
    have h1 : (ds ++ (c1 ++ ([a.tmps.getD k undef] ++ cs')) ++ rs)[o]? = ds[o]? := by rw [List.append_assoc, List.getElem?_append_left ho']
    have h2 : cur.toList[o]? = ds[o]? := by rw [q6, List.append_assoc, List.getElem?_append_left ho']
    rw [List.getElem?_toArray, h1, ← h2]
    simp
  have hx := setRow_extG (w := w) (cur' := (ds ++ (c1 ++ ([a.tmps.getD k undef] ++ cs')) ++ rs).toArray) q3 hsame
  refine hI2.writeG (b' := .vec e xs true (pre ++ .own e' ys :: post)) hb2 q3 hsame ?_
  refine ⟨v0, t0, (setRow_other w g' _ _ (Ne.symm q14)).trans b1, b2, b3, b4, b5, .inr ⟨rfl, ?_⟩⟩
  rcases b6 with ⟨b6, _⟩ | ⟨_, g2, cap, cur2, tg2, ds2, cc, rest2, p2, p3, p4, p5, p6, p7, p8, p9, p10, p11, p12, p13, p14, p15⟩
  · cases b6
  · have hg2 : g2 = g' := by rw [q1] at p3; injection p3 with p3; exact p3.symm
    subst hg2
    have hc2 : cur2 = cur := by rw [q2] at p5; injection p5 with p5; injection p5 with p5; exact p5.symm
    subst hc2
    have hd2 : ds2.length = ds.length := by rw [q7]; exact p11.len (fun _ _ hx => hx.len)
    have hds : ds2 = ds := by
      have h1 : cur2.toList.take ds.length = ds := by rw [q6, List.append_assoc, List.take_left' rfl]
      have h2 : cur2.toList.take ds.length = ds2 := by rw [p10, List.append_assoc, List.take_left' hd2]
      rw [← h1, h2]
    subst hds
    refine ⟨g2, cap, _, tg, ds2, c1 ++ ([a.tmps.getD k undef] ++ cs'), rs, p2, p3, p4, setRow_heap w g2 cur2 _ tg (0, 0) q2, p6, p7, p8, ?_, rfl, p11.mono (fun _ _ h => h.mono hx.com hx.cell), ?_, ?_, p14, p15⟩
    · rw [← p9, hlen]; simp [hcl]; omega
    · rw [← q13]; simp [hcl]; omega
    · refine Lay.append (q9.ext hx (fun _ _ => by simp)) ?_
      rw [Nat.zero_add, q8]
      simp only [Lay]
      refine ⟨[a.tmps.getD k undef], cs', rfl, rfl, Nat.one_pos, ⟨_, rfl, ?_, by
        have := hone (a.tmps.getD k undef) (by rw [cells_of_not_agg hna]; simp)
        exact this⟩, ?_⟩
      · simp only [VA]
        exact (hown.rel (q := .leaf rr off)).ext hx (by simp)
      · have e4 : (AV.own e' ys).w = (AV.d (.slice e') y0).w := rfl
        rw [e4]
        exact l4.ext hx (fun _ _ => by simp)

theorem evStore_sound (hI : Inv w0 com0 f nt G st a w) {τ : Ty} {t : TypeId} (hok : okTy P τ t = true) {x : AV} {v1 : Value} {p : GP} (hx : VA G w p x v1) {oy : Operand} (h : evStore τ st.bl x (opv st oy) oy K = some r) :
    ∃ E G' w', K E = some r ∧ E.val = .undef ∧ E.alias = none ∧ (Instr.storeAt t v1 (a.eval oy)).run P w = .ok () w' ∧ Inv w0 com0 f nt G' (E.on none st) a w' := by
  obtain ⟨q, hy⟩ := opv_sound hI oy
  have hsz := okTy_size hok
  unfold evStore at h
  split at h
  · rename_i rr off
    simp only [VA] at hx
    obtain ⟨hr, rfl⟩ := hx
    split at h
    · rename_i ls hb
      split at h
      · rename_i pre rest hcut
        split at h
        · rename_i post hst
          split at h
          · rename_i e xs hoy
            split at h
            · rename_i k
              split at h
              · rename_i e1
                subst e1
                simp only [opv] at hoy
                have hown := hI.slots k
                rw [hoy] at hown
                simp only [VA] at hown
                have hval := hown.val
                have hna : isAggV (a.tmps.getD k undef) = false := hval.2
                have hI1 := hI.dem k
                obtain ⟨cur, t', k1, k2, k3⟩ := hI1.storeLeaves (new := [.d (.slice e) xs]) (vs := (a.tmps.getD k undef).cells.toList) hb hcut hst hval.1.len
                  (fun w' hx' => Lay.single (hval.1.mono hx'.com hx'.cell) Nat.one_pos)
                have hone : ∀ u ∈ (a.tmps.getD k undef).cells.toList, u.oneCell' = true := hval.1.one
                have hrun := run_storeVar (P := P) (t := t) hsz k1 hval.1.len k2 hone
                have hnu1 : ∀ (bl : List Blk) (fr : Nat → AV × Option Place), (∀ j, (fr j).1 = (Ev.clrB rr (upd st.fr k ((st.fr k).1.dem, (st.fr k).2) j)).1) → ¬ Used { fr := fr, bl := bl } f (.slot f k) := by
                  rintro bl fr hfr ⟨_, hu⟩
                  have : (fr k).1 = (st.fr k).1.dem := by
                    rw [hfr k]
                    unfold Ev.clrB
                    split <;> (try split) <;> simp [upd]
                  rw [this, AV.dem_isOwn] at hu
                  cases hu
                have hsub : st.bl.length = st.bl.length := rfl
                have hrlt : rr < st.bl.length := by rw [← hI.nb]; exact hr
                obtain ⟨_, _, c1, c2, q1, q2, q3, q4, q5, q6, q7, q8, q9⟩ := cells_of_box (hI.blocks rr _ hb) hcut
                have hcutn : cut off (pre ++ [AV.d (.slice e) xs] ++ post) = some (pre, AV.d (.slice e) xs :: post) := by
                  rw [List.append_assoc]
                  exact cut_append pre _ off q7 q6
                have hI2 := k3.rel (q := .slot f k) (q' := .leaf rr off) rfl trivial (hnu1 _ _ (fun j => rfl)) (by
                  rintro ⟨ls', h1, pre', e', xs', post', h2⟩
                  simp only [List.getElem?_set_self hrlt] at h1
                  cases h1
                  simp only [Blk.lv] at h2
                  rw [hcutn] at h2
                  cases h2)
                have k1' : w.heap[G.loc rr]? = some (.cells cur t' (0, 0)) := k1
                have hx' := setRow_ext (w := w) q2 q3 (cur.toList.take off ++ (a.tmps.getD k undef).cells.toList ++ cur.toList.drop (off + (Ty.slice e).width)).toArray
                have hown' := (hown.ext hx' (by simp)).rel (q := .leaf rr off)
                have hb2 : ({ fr := fun j => Ev.clrB rr (upd st.fr k ((st.fr k).1.dem, (st.fr k).2) j), bl := st.bl.set rr (.box (pre ++ [AV.d (.slice e) xs] ++ post)) } : St).bl[rr]? = some (.box (pre ++ [AV.d (.slice e) xs] ++ post)) := List.getElem?_set_self hrlt
                have q2' : (G.rel (.slot f k) (.leaf rr off)).wr ((G.rel (.slot f k) (.leaf rr off)).loc rr) = .blk rr := by simp [Gh.rel, q2]
                obtain ⟨cur2, t2, r1, r2, r3⟩ := hI2.storeLeaves (new := [.own e xs]) (n := 1) (vs := [a.tmps.getD k undef]) (post := post) hb2 hcutn (by simp [strike, cut, AV.w, Ty.width]) rfl
                  (fun w' hx2 => Lay.single ⟨_, rfl, hown'.ext hx2 (by simp), by
                    have := hone (a.tmps.getD k undef) (by rw [cells_of_not_agg hna]; simp)
                    exact this⟩ Nat.one_pos)
                have hcur2 : cur2 = (cur.toList.take off ++ (a.tmps.getD k undef).cells.toList ++ cur.toList.drop (off + (Ty.slice e).width)).toArray := by
                  have := setRow_heap w (G.loc rr) cur (cur.toList.take off ++ (a.tmps.getD k undef).cells.toList ++ cur.toList.drop (off + (Ty.slice e).width)).toArray t' (0, 0) k1'
                  rw [show (G.rel (.slot f k) (.leaf rr off)).loc rr = G.loc rr from rfl] at r1
                  rw [this] at r1
                  injection r1 with r1
                  injection r1 with r1
                  exact r1.symm
                have htl : (cur.toList.take off).length = off := by rw [List.length_take, Array.length_toList]; omega
                have hcell : (a.tmps.getD k undef).cells.toList = [a.tmps.getD k undef] := by rw [cells_of_not_agg hna]
                have hl2 : cur2.toList = cur.toList.take off ++ ([a.tmps.getD k undef] ++ cur.toList.drop (off + 1)) := by
                  rw [hcur2, hcell, ← List.append_assoc]
                  rfl
                have hsame : (cur2.toList.take off ++ [a.tmps.getD k undef] ++ cur2.toList.drop (off + 1)) = cur2.toList := by
                  rw [hl2, List.take_left' htl, List.drop_append, htl]
                  simp [(show (cur.toList.take off).drop (off + 1) = [] from List.drop_eq_nil_of_le (by omega))]
                rw [hsame, show (G.rel (.slot f k) (.leaf rr off)).loc rr = G.loc rr from rfl] at r3
                rw [show cur2.toList.toArray = cur2 from rfl] at r3
                have r1' : (w.setRow (G.loc rr) (cur.toList.take off ++ (a.tmps.getD k undef).cells.toList ++ cur.toList.drop (off + (Ty.slice e).width)).toArray).heap[G.loc rr]? = some (.cells cur2 t2 (0, 0)) := r1
                rw [setRow_self _ (G.loc rr) cur2 t2 (0, 0) r1'] at r3
                refine ⟨_, G.rel (.slot f k) (.leaf rr off), _, h, rfl, rfl, hrun, ?_⟩
                have e4 : ∀ (x : List Blk) (y z : Blk), (x.set rr y).set rr z = x.set rr z := fun x y z => List.set_set ..
                simp only [e4] at r3
                have e5 : (fun j => Ev.clrB rr (Ev.clrB rr (upd st.fr k ((st.fr k).1.dem, (st.fr k).2) j))) = fun j => Ev.clrB rr (upd st.fr k ((st.fr k).1.dem, (st.fr k).2) j) := funext fun j => clrB_clrB _ _
                rw [e5] at r3
                simpa [Eff.on] using r3
              · cases h
            · cases h
          · rename_i y hno
            split at h
            · rename_i new hnew
              split at h
              · rename_i hwide
                have hlv := leaves_sound (r := rr) hy hnew hwide
                obtain ⟨cur, t', k1, k2, k3⟩ := hI.storeLeaves (new := new) (vs := (a.eval oy).cells.toList) hb hcut hst hlv.1 (fun w' hx' => (hlv.2 off).ext hx' (fun _ _ => by simp))
                exact ⟨_, _, _, h, rfl, rfl, run_storeVar hsz k1 hlv.1 k2 (hlv.2 off).one, k3⟩
              · cases h
            · cases h
        · cases h
      · cases h
    · cases h
  · rename_i rr off i
    simp only [VA] at hx
    obtain ⟨hr, h0, rfl⟩ := hx
    split at h
    · rename_i ls hb
      split at h
      · rename_i pre n e xs post hcut
        split at h
        · rename_i e1
          obtain ⟨e1, hsc⟩ := e1
          subst e1
          split at h
          · rename_i hi
            split at h
            · rename_i v hv
              have hval := to1_agg hy hv
              have hw1 := scalar_width hsc
              obtain ⟨cur0, t0, c1, c2, k1, k2, k3, k4, k5, k6, k7, k8, k9⟩ := cells_of_box (hI.blocks rr _ hb) hcut
              have k8' := k8
              simp only [Lay] at k8'
              obtain ⟨c, cs', hc2, hcl, hcw, l1, l4⟩ := k8'
              simp only [LeafV, Cells] at l1
              obtain ⟨l1, l2⟩ := l1
              have l1' : List.length xs = n := l1
              have hcn : c.length = n := by rw [hcl]; simp [AV.w, Ty.width, hw1]
              have hi2 : Int.toNat i < n := toNat_lt h0 hi
              have hn2 : Int.toNat i < List.length xs := by rw [l1']; exact hi2
              have hvl : (a.eval oy).cells.toList.length = 1 := by rw [hval.1.len, hw1]
              have hset := l2.set (fun _ _ hx => hx.len) (Int.toNat i) hn2 hval.1
              rw [hw1, Nat.mul_one] at hset
              have hst : strike n (AV.d (.arr n e) xs :: post) = some post := by
                unfold strike
                have hwd : (AV.d (.arr n e) xs).w = n := by simp [AV.w, Ty.width, hw1]
                have := cut_tail (a := AV.d (.arr n e) xs) (ls := post) (o := 0) hcw
                rw [hwd, Nat.add_zero] at this
                rw [this]
                simp [cut]
              obtain ⟨cur, t', q1, q2, q3⟩ := hI.storeLeaves (new := [.d (.arr n e) (List.set xs (Int.toNat i) v)]) (vs := c.take (Int.toNat i) ++ (a.eval oy).cells.toList ++ c.drop (Int.toNat i + 1)) hb hcut hst
                (by simp [hvl, hcn]; omega) (fun w' hx' => Lay.single (show Cells G.com w' (.arr n e) _ _ from ⟨by rw [List.length_set]; exact l1', hset.mono (fun _ _ hx => hx.mono hx'.com hx'.cell)⟩) hcw)
              have hcur : cur = cur0 := by rw [k1] at q1; injection q1 with q1; injection q1 with q1; exact q1.symm
              subst hcur
              have hrun := run_storeVar (P := P) (t := t) hsz (off := off + Int.toNat i) q1 (by rw [hvl, hw1]) (by rw [hw1]; omega) hval.1.one
              refine ⟨_, G, _, h, rfl, rfl, hrun, ?_⟩
              have e6 : (cur.toList.take (off + Int.toNat i) ++ (a.eval oy).cells.toList ++ cur.toList.drop (off + Int.toNat i + e.width)) = cur.toList.take off ++ (c.take (Int.toNat i) ++ (a.eval oy).cells.toList ++ c.drop (Int.toNat i + 1)) ++ cur.toList.drop (off + n) := by
                rw [k5, hc2, hw1]
                rw [List.take_left' k6, List.take_append, k6, List.take_of_length_le (by omega), Nat.add_sub_cancel_left, List.take_append_of_le_length (by omega)]
                rw [List.drop_append, k6, List.drop_eq_nil_of_le (by omega), List.nil_append, show off + Int.toNat i + 1 - off = Int.toNat i + 1 by omega, List.drop_append_of_le_length (by omega)]
                rw [List.drop_append, k6, @List.drop_eq_nil_of_le _ c1 _ (by omega), List.nil_append, Nat.add_sub_cancel_left, List.drop_left' hcn]
                simp
              rw [e6]
              simpa [Eff.on] using q3
            · cases h
          · cases h
        · cases h
      · cases h
    · cases h
  · rename_i rr i
    simp only [VA] at hx
    obtain ⟨hr, h0, h1, rfl⟩ := hx
    split at h
    · rename_i e xs hb
      split at h
      · rename_i e1
        subst e1
        split at h
        · rename_i v hv
          have hval := to_sound hy hv
          obtain ⟨cur, t', k1, k2, k3, k4, k5, k6, k7, k8⟩ := hI.blocks rr _ hb
          have hn2 : i.toNat < xs.length := by rw [k4]; exact toNat_lt h0 h1
          have hset := k8.set (fun _ _ hx => hx.len) i.toNat hn2 hval.1
          rw [show i.toNat * e.width = i.toNat * G.wd rr by rw [k5]] at hset
          have hl := k8.len (fun _ _ hx => hx.len)
          rw [Array.length_toList] at hl
          have hle : i.toNat * e.width + e.width ≤ cur.size := by
            rw [hl, ← Nat.succ_mul]
            exact Nat.mul_le_mul_right _ hn2
          have hrun := run_storeVar (P := P) (t := t) hsz (off := i.toNat * G.wd rr) k1 hval.1.len (by rw [← k5]; exact hle) hval.1.one
          have hx' := setRow_ext (w := w) k2 k3 (cur.toList.take (i.toNat * G.wd rr) ++ (a.eval oy).cells.toList ++ cur.toList.drop (i.toNat * G.wd rr + e.width)).toArray
          refine ⟨_, G, _, h, rfl, rfl, hrun, ?_⟩
          have := hI.write (b' := .arr e (xs.set i.toNat v)) hb k2 k3 (cur' := (cur.toList.take (i.toNat * G.wd rr) ++ (a.eval oy).cells.toList ++ cur.toList.drop (i.toNat * G.wd rr + e.width)).toArray)
            ⟨_, t', setRow_heap w _ cur _ t' (0, 0) k1, k2, k3, by rw [List.length_set]; exact k4, k5, k6, by rw [List.length_set]; exact k7, by
              show Parts _ (cur.toList.take (i.toNat * G.wd rr) ++ (a.eval oy).cells.toList ++ cur.toList.drop (i.toNat * G.wd rr + e.width)) _
              exact hset.mono (fun _ _ hx => hx.mono hx'.com hx'.cell)⟩
          simpa [Eff.on] using this
        · cases h
      · cases h
    · rename_i e rows hb
      split at h
      · rename_i e1
        subst e1
        split at h
        · rename_i r2 hoy
          split at h
          · rename_i e' xs hb2
            split at h
            · rename_i e2
              subst e2
              split at h
              · cases h
              · rename_i hns
                obtain ⟨E, hE⟩ : ∃ E : Eff, E = { bupd := some (rr, .mat e' (List.set rows i.toNat (some xs))), bgone := some r2 } := ⟨_, rfl⟩
                rw [hoy] at hy
                simp only [VA] at hy
                obtain ⟨hr2, hv⟩ := hy
                obtain ⟨w', hrun, hinv⟩ := storeRow hI hsz hb hb2 hr h0 h1 hns
                rw [hv]
                exact ⟨_, _, w', h, rfl, rfl, hrun, by simpa [Eff.on] using hinv⟩
            · cases h
          · cases h
        · cases h
      · cases h
    · cases h
  · rename_i rr i j
    simp only [VA] at hx
    obtain ⟨hr, h0, hj0, hj1, g, hg, rfl⟩ := hx
    split at h
    · rename_i e rows hb
      split at h
      · rename_i e1
        subst e1
        split at h
        · rename_i v hv
          obtain ⟨xs, hxs, h⟩ := Option.bind_eq_some_iff.1 h
          have hval := to_sound hy hv
          obtain ⟨w', hrun, hinv⟩ := storeMel hI hsz hb hxs hg hj0 hj1 hval
          exact ⟨_, _, w', h, rfl, rfl, hrun, by simpa [Eff.on] using hinv⟩
        · cases h
      · cases h
    · cases h
  · rename_i rr n off
    simp only [VA] at hx
    obtain ⟨hr, h0, g, hg, rfl⟩ := hx
    split at h
    · rename_i e xs has ls hb
      split at h
      · rename_i pre τ' y0 post hcut
        split at h
        · rename_i e' ys hoy
          split at h
          · rename_i k
            split at h
            · rename_i e1
              obtain ⟨rfl, rfl⟩ := e1
              split at h
              · rename_i hh
                obtain ⟨rfl, rfl⟩ := hh
                simp only [opv] at hoy
                obtain ⟨w', hrun, hinv⟩ := storeVec hI hsz hb hcut (by simpa using hg) hoy
                rw [Int.toNat_natCast]
                exact ⟨_, _, w', h, rfl, rfl, hrun, by simpa [Eff.on] using hinv⟩
              · cases h
            · cases h
          · cases h
        · cases h
      · cases h
    · cases h
  · cases h

end
end Go.Ev
