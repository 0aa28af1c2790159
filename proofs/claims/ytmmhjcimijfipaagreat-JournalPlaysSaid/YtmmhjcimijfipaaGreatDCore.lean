/- A plain evaluator for the program's operations: data as products and lists, local variables, rows and pointers in a small store. Definitions alone. -/
import GoSem.Core.Code
import GoSem.Core.Lib
import GoSem.Core.Region
set_option linter.unusedVariables false
namespace Go.Proofs.D

/-- The shapes of data. 'ref': one cell that is no data (0 a pointer, 1 a map, 2 a function). -/
inductive K where
  | int (k : IntKind) | bool | str | hdr | ref (r : Nat)
  | slice (e : K) | unit | cons (a b : K) | arr (n : Nat) (e : K)
  deriving DecidableEq, Inhabited

@[reducible] def El : K → Type
  | .int _ => Int | .bool => Bool | .str => ByteArray | .hdr => Value | .ref _ => Unit
  | .slice e => List (El e) | .unit => Unit | .cons a b => El a × El b | .arr _ e => List (El e)

def K.size : K → Nat
  | .unit => 0 | .cons a b => a.size + b.size | .arr n e => n * e.size | _ => 1

def K.isAgg : K → Bool
  | .unit => true | .cons _ _ => true | .arr _ _ => true | _ => false

/-- No slice, no reference inside. -/
def K.flat : K → Bool
  | .int _ => true | .bool => true | .str => true | .hdr => false | .ref _ => false | .slice _ => false
  | .unit => true | .cons a b => a.flat && b.flat | .arr _ e => e.flat

/-- No reference inside. -/
def K.data : K → Bool
  | .ref _ => false | .slice e => e.data | .cons a b => a.data && b.data | .arr _ e => e.data | _ => true

def zeroE : (c : K) → El c
  | .int _ => (0 : Int) | .bool => false | .str => (⟨#[]⟩ : ByteArray) | .hdr => (.slice none 0 0 : Value) | .ref _ => ()
  | .slice _ => [] | .unit => () | .cons a b => (zeroE a, zeroE b) | .arr n e => List.replicate n (zeroE e)

def castE (a b : K) (x : El a) : Option (El b) := if h : a = b then some (h ▸ x) else none

/-- Go's '==' of flat data. -/
def eqE : (c : K) → El c → El c → Bool
  | .int _, x, y => (x : Int) == y | .bool, x, y => (x : Bool) == y | .str, x, y => (x : ByteArray) == y
  | .hdr, _, _ => false | .ref _, _, _ => false | .slice _, _, _ => false | .unit, _, _ => true
  | .cons a b, x, y => eqE a x.1 y.1 && eqE b x.2 y.2
  | .arr _ e, x, y => eqL (eqE e) x y
where eqL {α : Type} (f : α → α → Bool) : List α → List α → Bool
  | [], [] => true | a :: x, b :: y => f a b && eqL f x y | _, _ => false

/-- A step into a variable: a field, an element. -/
inductive Step where
  | fld (j : Nat) | idx (i : Int)

/-- What a slot holds. -/
inductive T where
  | any (n : Nat)
  | und
  | val (c : K) (x : El c)
  | nils (e : K)
  | nilr (r : Nat)
  | ptr (id : Nat) (p : List Step)
  | row (id : Nat)
  | rptr (c : K) (x : El c)
  | mapr (id : Nat)
  | clo (f : FuncId) (caps : T)
  | unit
  | pair (a b : T)
  | tn
  | tc (a b : T)
  | tup (l : T)

inductive Obj where
  | cell (c : K) (fz : Bool) (t : T)
  | row (e : K) (sh : Bool) (l : List (El e))
  | map (k v : K) (es : List (El k × El v))

structure St where
  env : Nat → T
  sto : Nat → Option Obj
  done : Nat → Bool

def St.put (s : St) (d : Nat) (t : T) : St := { s with env := fun u => bif Nat.beq u d then t else s.env u }
def St.upd (s : St) (i : Nat) (o : Option Obj) : St := { s with sto := fun u => bif Nat.beq u i then o else s.sto u }
/-- Is the slot's value an aggregate (a struct, an array)? -/
def T.isAgg : T → Bool
  | .val c _ => c.isAgg | .unit => true | .pair _ _ => true | _ => false

/-- Does it fill a variable of this shape? -/
def T.fits : K → T → Bool
  | c, .any n => Nat.beq n c.size
  | c, .val c' _ => decide (c = c')
  | .slice e, .nils e' => decide (e = e')
  | .slice _, .row _ => true
  | .ref r, .nilr r' => Nat.beq r r' | .ref 0, .ptr _ _ => true | .ref 0, .rptr _ _ => true | .ref 1, .mapr _ => true | .ref 2, .clo _ _ => true
  | .unit, .unit => true
  | .cons a b, .pair x y => x.fits a && y.fits b
  | .arr 0 _, .unit => true
  | .arr (n + 1) e, .pair x y => x.fits e && y.fits (.arr n e)
  | _, _ => false

/-- Two parts, as one datum where both are data. -/
def T.mk2 (a b : T) : T := match a, b with
  | .val c x, .val d y => .val (.cons c d) (x, y)
  | a, b => .pair a b

def zeroT : K → T
  | .ref r => .nilr r | .slice e => .nils e
  | .cons a b => .mk2 (zeroT a) (zeroT b)
  | .unit => .val .unit ()
  | .arr n e => bif e.flat then .val (.arr n e) (zeroE (.arr n e)) else chain n (zeroT e)
  | c => .val c (zeroE c)
where chain : Nat → T → T
  | 0, _ => .unit | n + 1, t => .pair t (chain n t)

/-- All of it as data of this shape, if it is that by itself. -/
def T.un : (c : K) → T → Option (El c)
  | c, .val c' x => castE c' c x
  | .slice e, .nils _ => some []
  | .unit, .unit => some ()
  | .cons a b, .pair x y => (x.un a).bind fun u => (y.un b).bind fun v => some (u, v)
  | .arr 0 _, .unit => some []
  | .arr (n + 1) e, .pair x y => (x.un e).bind fun u => (y.un (.arr n e)).bind fun v => some (u :: v)
  | _, _ => none

/-- An index that is no negative number, or an end. -/
def natK {R : Type} (i : Int) (k : Nat → Option R) : Option R :=
  match i with | .ofNat n => k n | .negSucc _ => none
/-- The element of a list, or an end. -/
def nthN {α R : Type} (l : List α) (n : Nat) (k : α → Option R) : Option R :=
  match l[n]? with | some x => k x | none => none
def nthK {α R : Type} (l : List α) (i : Int) (k : α → Option R) : Option R := natK i fun n => nthN l n k
def chk {R : Type} (b : Bool) (x : Option R) : Option R := bif b then x else none

section
variable {R : Type}
/-- A datum's part, by a path. -/
def getE : (c : K) → El c → List Step → (T → Option R) → Option R
  | c, x, [], k => k (.val c x)
  | .cons a b, x, .fld 0 :: p, k => getE a x.1 p k
  | .cons a b, x, .fld (j + 1) :: p, k => getE b x.2 (.fld j :: p) k
  | .arr n e, x, .idx i :: p, k => nthK x i fun y => getE e y p k
  | _, _, _, _ => none
/-- A variable's part, by a path. -/
def getT : T → List Step → (T → Option R) → Option R
  | .val c x, p, k => getE c x p k
  | t, [], k => k t
  | .pair a b, .fld 0 :: p, k => getT a p k
  | .pair a b, .fld (j + 1) :: p, k => getT b (.fld j :: p) k
  | .pair a b, .idx (.ofNat 0) :: p, k => getT a p k
  | .pair a b, .idx (.ofNat (j + 1)) :: p, k => getT b (.idx (.ofNat j) :: p) k
  | _, _, _ => none
end

end Go.Proofs.D
