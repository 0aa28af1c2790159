/- The evaluator: operations, calls by typed functions, regions, code. Definitions alone. -/
import Derived.Test.YtmmhjcimijfipaaGreatDCore
set_option linter.unusedVariables false
namespace Go.Proofs.D

/-! ### Shapes of arguments and results: T with holes for the data -/
inductive Sk where
  | val (c : K) | nils (e : K) | nilr (r : Nat) | row (k : Nat) | ptr (k : Nat) | mapr (k : Nat) | clo (f : FuncId) (caps : Sk)
  | unit | pair (a b : Sk) | tn | tc (a b : Sk) | tup (l : Sk)

@[reducible] def SkEl : Sk → Type
  | .val c => El c | .clo _ s => SkEl s | .pair a b => SkEl a × SkEl b | .tc a b => SkEl a × SkEl b | .tup l => SkEl l | _ => Unit

def fill : (s : Sk) → SkEl s → T
  | .val c, x => .val c x | .nils e, _ => .nils e | .nilr r, _ => .nilr r | .row k, _ => .row k | .ptr k, _ => .ptr k [] | .mapr k, _ => .mapr k
  | .clo f s, x => .clo f (fill s x) | .unit, _ => .unit | .pair a b, x => .pair (fill a x.1) (fill b x.2)
  | .tn, _ => .tn | .tc a b, x => .tc (fill a x.1) (fill b x.2) | .tup l, x => .tup (fill l x)

inductive ObSk where
  | cell (c : K) (s : Sk) | row (e : K) (sh : Bool) | map (k v : K) | gone

@[reducible] def ObEl : ObSk → Type
  | .cell _ s => SkEl s | .row e _ => List (El e) | .map k v => List (El k × El v) | .gone => Unit

def fillO : (o : ObSk) → ObEl o → Option Obj
  | .cell c s, x => some (.cell c false (fill s x)) | .row e sh, l => some (.row e sh l) | .map k v, es => some (.map k v es) | .gone, _ => none

@[reducible] def ObsEl : List ObSk → Type
  | [] => Unit | o :: r => ObEl o × ObsEl r

def fillOs : (l : List ObSk) → ObsEl l → List (Option Obj)
  | [], _ => [] | o :: r, x => fillO o x.1 :: fillOs r x.2

@[reducible] def ResEl (r : Sk) : List ObSk → Type
  | [] => SkEl r | o :: l => SkEl r × ObsEl (o :: l)
def mkRes (r : Sk) : (l : List ObSk) → SkEl r → ObsEl l → ResEl r l
  | [], x, _ => x | _ :: _, x, y => (x, y)
def res1 : {r : Sk} → {l : List ObSk} → ResEl r l → SkEl r
  | _, [], x => x | _, _ :: _, x => x.1
def res2 : {r : Sk} → {l : List ObSk} → ResEl r l → ObsEl l
  | _, [], _ => () | _, _ :: _, x => x.2

/-- No slice and no reference in what is told: nothing of an argument lives on in it. -/
def Sk.flat : Sk → Bool
  | .val c => c.flat | .nils _ => false | .row _ => true | .ptr _ => true | .mapr _ => true | .nilr _ => true
  | .clo _ s => s.flat | .pair a b => a.flat && b.flat | .tc a b => a.flat && b.flat | .tup l => l.flat | .unit => true | .tn => true
def ObSk.flat : ObSk → Bool
  | .cell _ s => s.flat | .row e sh => e.flat && !sh | .map k v => k.flat && v.flat | .gone => true
def flatL : List ObSk → Bool | [] => true | o :: r => o.flat && flatL r

/-- A function as it is called: 'args' a chain; the objects that it is handed (0, 1, ..) and, behind it, these and those that it made. -/
structure Sig where
  args : Sk
  objs : List ObSk
  ret : Sk
  outs : List ObSk
  F : SkEl args × ObsEl objs → Option (ResEl ret outs)

/-! ### Out of slots into typed data -/
abbrev Sto := Nat → Option Obj
/-- What becomes of objects. -/
abbrev Ups := List (Nat × Option Obj)

def upds : Ups → Sto → Sto
  | [], σ => σ
  | (i, o) :: r, σ => upds r fun u => bif Nat.beq u i then o else σ u

/-- A slot's data; rows that are read so are shared from then on. -/
def freeze (σ : Sto) : (c : K) → T → Option (El c × Ups)
  | c, .val c' x => (castE c' c x).map fun y => (y, [])
  | .slice e, .nils _ => some ([], [])
  | .slice e, .row id => match σ id with
    | some (.row e' _ l) => (castE (.slice e') (.slice e) l).map fun y => (y, [(id, some (.row e' true l))])
    | _ => none
  | .unit, .unit => some ((), [])
  | .cons a b, .pair x y => (freeze σ a x).bind fun u => (freeze σ b y).map fun v => ((u.1, v.1), u.2 ++ v.2)
  | .arr 0 _, .unit => some ([], [])
  | .arr (n + 1) e, .pair x y => (freeze σ e x).bind fun u => (freeze σ (.arr n e) y).map fun v => (u.1 :: v.1, u.2 ++ v.2)
  | _, _ => none

abbrev Binds := List (Nat × Nat × List Step)
def Binds.find (ρ : Binds) (k : Nat) : Option (Nat × List Step) :=
  match ρ with | [] => none | (j, b) :: r => bif Nat.beq j k then some b else Binds.find r k
def Binds.bind (ρ : Binds) (k id : Nat) (p : List Step) : Option Binds :=
  match ρ.find k with
  | none => some ((k, id, p) :: ρ)
  | some (id', p') => bif Nat.beq id id' && p.isEmpty && p'.isEmpty then some ρ else none

/-- 'nb': the first number of rows that nil slices become. -/
def unT (σ : Sto) (nb : Nat) : (s : Sk) → T → Binds × Ups → Option (SkEl s × Binds × Ups)
  | .val c, t, u => (freeze σ c t).map fun v => (v.1, u.1, u.2 ++ v.2)
  | .row k, .row id, u => (u.1.bind k id []).map fun ρ => ((), ρ, u.2)
  | .row k, .nils e, u => match u.1.find k with
    | none => bif Nat.blt k 500 then some ((), (k, nb + k, []) :: u.1, u.2 ++ [(nb + k, some (.row e false []))]) else none
    | some _ => none
  | .ptr k, .ptr id p, u => (u.1.bind k id p).map fun ρ => ((), ρ, u.2)
  | .mapr k, .mapr id, u => (u.1.bind k id []).map fun ρ => ((), ρ, u.2)
  | .nils e, .nils e', u => bif decide (e = e') then some ((), u) else none
  | .nilr r, .nilr r', u => bif Nat.beq r r' then some ((), u) else none
  | .unit, .unit, u => some ((), u)
  | .tn, .tn, u => some ((), u)
  | .clo f s, .clo g t, u => bif Nat.beq f g then unT σ nb s t u else none
  | .pair a b, .pair x y, u => (unT σ nb a x u).bind fun v => (unT σ nb b y v.2).map fun w => ((v.1, w.1), w.2)
  | .pair a b, .val (.cons c d) x, u => (unT σ nb a (.val c x.1) u).bind fun v => (unT σ nb b (.val d x.2) v.2).map fun w => ((v.1, w.1), w.2)
  | .unit, .val .unit _, u => some ((), u)
  | .tc a b, .tc x y, u => (unT σ nb a x u).bind fun v => (unT σ nb b y v.2).map fun w => ((v.1, w.1), w.2)
  | .tup l, .tup t, u => unT σ nb l t u
  | _, _, _ => none

/-- The shape of a variable's part. -/
def codeAt : K → List Step → Option K
  | c, [] => some c
  | .cons a _, .fld 0 :: p => codeAt a p
  | .cons _ b, .fld (j + 1) :: p => codeAt b (.fld j :: p)
  | .arr _ e, .idx _ :: p => codeAt e p
  | _, _ => none

def unO (σ : Sto) (nb : Nat) : (o : ObSk) → Nat → Binds × Ups → Option (ObEl o × Binds × Ups)
  | .cell c s, k, u => (u.1.find k).bind fun b => match upds u.2 σ b.1 with
    | some (.cell c0 false t0) => match codeAt c0 b.2 with
      | some c1 => bif decide (c1 = c) then (getT t0 b.2 some).bind fun t => (unT σ nb s t u).bind fun v => bif (fill s v.1).fits c then some v else none else none
      | none => none
    | _ => none
  | .row e sh, k, u => (u.1.find k).bind fun b => match upds u.2 σ b.1 with
    | some (.row e' sh' l) => bif b.2.isEmpty && (sh || !sh') then (castE (.slice e') (.slice e) l).map fun y => (y, u.1, bif sh && !sh' then u.2 ++ [(b.1, some (.row e' true l))] else u.2) else none
    | _ => none
  | .map kc vc, k, u => (u.1.find k).bind fun b => match upds u.2 σ b.1 with
    | some (.map k' v' es) => bif b.2.isEmpty then (castE (.slice (.cons k' v')) (.slice (.cons kc vc)) es).map fun y => (y, u) else none
    | _ => none
  | .gone, _, u => some ((), u)

def unOs (σ : Sto) (nb : Nat) : (l : List ObSk) → Nat → Binds × Ups → Option (ObsEl l × Binds × Ups)
  | [], _, u => some ((), u)
  | o :: r, k, u => (unO σ nb o k u).bind fun v => (unOs σ nb r (k + 1) v.2).map fun w => ((v.1, w.1), w.2)

def Binds.ids (ρ : Binds) : List Nat := match ρ with | [] => [] | (_, id, _) :: r => id :: Binds.ids r
def elemN (a : Nat) : List Nat → Bool | [] => false | b :: l => Nat.beq a b || elemN a l
def distinct : List Nat → Bool | [] => true | a :: l => !elemN a l && distinct l

/-- At last: rows are shared where the skeleton says so, and only there. -/
def flagsOk (σ : Sto) (ρ : Binds) : Nat → List ObSk → Bool
  | _, [] => true
  | k, .row _ sh :: r => (match ρ.find k with
      | some (id, _) => (match σ id with | some (.row _ sh' _) => sh == sh' | _ => false)
      | none => false) && flagsOk σ ρ (k + 1) r
  | k, _ :: r => flagsOk σ ρ (k + 1) r

/-- The shape of an object's variable. -/
def shapeO : Option Obj → Option K | some (.cell c _ _) => some c | some (.row e _ _) => some (.arr 0 e) | _ => none
/-- The shape behind an object's path. -/
def shapeP (σ : Nat → Option Obj) (id : Nat) (p : List Step) : Option K := match shapeO (σ id) with | some c => codeAt c p | none => none
def isSomeK : Option K → Bool | some _ => true | none => false
/-- Paths lead somewhere; keys are below n. -/
def bindsOk (σ : Sto) (n : Nat) : Binds → Bool
  | [] => true | (k, id, p) :: r => Nat.blt k n && (p.isEmpty || isSomeK (shapeP σ id p)) && bindsOk σ n r

/-- A call's numbers of objects in the caller's: the first m are bound, those up to n new. -/
def backM (ρ : Binds) (m n dst : Nat) (k : Nat) : Option (Nat × List Step) :=
  bif Nat.blt k m then ρ.find k else bif Nat.blt k n then some (1000000 + 1000 * dst + k, []) else none

/-- A result's slot, its ids turned into the caller's. -/
def back (ρ : Nat → Option (Nat × List Step)) : T → T
  | .ptr k q => match ρ k with | some (id, p) => .ptr id (p ++ q) | none => .any 1
  | .row k => match ρ k with | some (id, []) => .row id | _ => .any 1
  | .mapr k => match ρ k with | some (id, []) => .mapr id | _ => .any 1
  | .clo f c => .clo f (back ρ c)
  | .pair a b => .pair (back ρ a) (back ρ b)
  | .tc a b => .tc (back ρ a) (back ρ b)
  | .tup l => .tup (back ρ l)
  | t => t

section
variable {R : Type}
/-- A datum's part put anew, as a datum. -/
def setD : (c : K) → El c → List Step → T → (El c → Option R) → Option R
  | c, _, [], t, k => match t.un c with | some y => k y | none => none
  | .cons a b, x, .fld 0 :: p, t, k => setD a x.1 p t fun u => k (u, x.2)
  | .cons a b, x, .fld (j + 1) :: p, t, k => setD b x.2 (.fld j :: p) t fun u => k (x.1, u)
  | .arr n e, x, .idx i :: p, t, k => natK i fun n => nthN x n fun y => setD e y p t fun u => k (x.set n u)
  | _, _, _, _, _ => none
/-- A datum's part put anew, as a slot. -/
def setV : (c : K) → El c → List Step → T → (T → Option R) → Option R
  | c, _, [], t, k => bif t.fits c then k t else none
  | .cons a b, x, .fld 0 :: q, t, k => setV a x.1 q t fun u => k (.mk2 u (.val b x.2))
  | .cons a b, x, .fld (j + 1) :: q, t, k => setV b x.2 (.fld j :: q) t fun u => k (.mk2 (.val a x.1) u)
  | .arr n e, x, .idx i :: q, t, k => setD (.arr n e) x (.idx i :: q) t fun u => k (.val (.arr n e) u)
  | _, _, _, _, _ => none
/-- A variable's part put anew. -/
def setT : K → T → List Step → T → (T → Option R) → Option R
  | _, .val c' x, p, t, k => setV c' x p t k
  | .cons a b, .pair x y, .fld 0 :: p, t, k => setT a x p t fun u => k (.mk2 u y)
  | .cons a b, .pair x y, .fld (j + 1) :: p, t, k => setT b y (.fld j :: p) t fun u => k (.mk2 x u)
  | .arr (n + 1) e, .pair x y, .idx (.ofNat 0) :: p, t, k => setT e x p t fun u => k (.pair u y)
  | .arr (n + 1) e, .pair x y, .idx (.ofNat (j + 1)) :: p, t, k => setT (.arr n e) y (.idx (.ofNat j) :: p) t fun u => k (.pair x u)
  | c, _, [], t, k => bif t.fits c then k t else none
  | _, _, _, _, _ => none
end
end Go.Proofs.D
