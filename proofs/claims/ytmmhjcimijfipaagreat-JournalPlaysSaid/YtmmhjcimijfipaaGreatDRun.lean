/- The evaluator's run: operations, regions, code, functions. Definitions alone. -/
import Derived.Test.YtmmhjcimijfipaaGreatDEval
set_option linter.unusedVariables false
namespace Go.Proofs.D

/-- What is known of a program: types' shapes, functions as they are called, how many slots. -/
structure Ctx where
  ty : TypeId → Option K
  sigs : FuncId → List Sig
  n : Nat
  mp : TypeId → Option (K × K)

def hasM (k v : K) (es : List (El k × El v)) (y : El k) : Bool :=
  match es with | [] => false | e :: r => eqE k y e.1 || hasM k v r y
def getM (k v : K) (es : List (El k × El v)) (y : El k) : El v :=
  match es with | [] => zeroE v | e :: r => bif eqE k y e.1 then e.2 else getM k v r y
def putM (k v : K) (es : List (El k × El v)) (y : El k) (z : El v) : List (El k × El v) :=
  match es with | [] => [(y, z)] | e :: r => bif eqE k y e.1 then (y, z) :: r else e :: putM k v r y z
def delM (k v : K) (es : List (El k × El v)) (y : El k) : List (El k × El v) :=
  match es with | [] => [] | e :: r => bif eqE k y e.1 then r else e :: delM k v r y

def constT (c : Option K) : Value → Option T
  | .int k n => some (.val (.int k) n)
  | .bool b => some (.val .bool b)
  | .string s => some (.val .str s)
  | .slice none 0 0 => match c with | some (.slice e) => some (.nils e) | _ => none
  | .pointer none => some (.nilr 0)
  | .map none => some (.nilr 1)
  | .nilFunc => some (.nilr 2)
  | _ => none

/-- A function with its first arguments bound is told by a number from here on. -/
def cloB : Nat := 1000000
/-- A string of these bytes. -/
def bytesE (l : List Int) : ByteArray := ⟨(l.map fun n => UInt8.ofNat n.toNat).toArray⟩
/-- A string's bytes. -/
def strL (b : ByteArray) : List Int := b.data.toList.map fun u => (u.toNat : Int)
def T.isChain : T → Bool | .tn => true | .tc _ b => b.isChain | _ => false

/-- What is known of a slot, if anything is. -/
def T.known : T → Option T | .any _ => none | t => some t

def opnd (s : Nat → T) (c : Option K) : Operand → Option T
  | .tmp t => (s t).known
  | .const v => constT c v
  | .func f => bif Nat.blt f cloB then some (.clo f .tn) else none
  | .global _ => none

def isTy (C : Ctx) (t : TypeId) (c : K) : Bool := match C.ty t with | some d => decide (d = c) | none => false
def isTyO (C : Ctx) (t : TypeId) (c : Option K) : Bool := match c with | some c => isTy C t c | none => false
def isInt : Option K → Bool | some (.int _) => true | _ => false
/-- The type of a call's argument. -/
def tyArg (C : Ctx) (c : Call) (j : Nat) : Option K := match c.argTypes.toList[j]? with | some t => C.ty t | none => none
def isK (o : Option K) (c : K) : Bool := match o with | some d => decide (d = c) | none => false
def nzO : Option K → Bool | some c => Nat.blt 0 c.size | none => false

/-- The length of a row fits. -/
def room {R : Type} (n : Nat) (x : Option R) : Option R := bif Nat.ble n 4294967296 then x else none

section
variable {R : Type}

def arith (op : BinOp) (k : IntKind) (a b : Int) (κ : T → Option R) : Option R :=
  match op with
  | .add => κ (.val (.int k) (k.wrap (a + b)))
  | .sub => κ (.val (.int k) (k.wrap (a - b)))
  | .mul => κ (.val (.int k) (k.wrap (a * b)))
  | .quo => chk (b != 0) (κ (.val (.int k) (k.wrap (a.tdiv b))))
  | .rem => chk (b != 0) (κ (.val (.int k) (a.tmod b)))
  | .and => κ (.val (.int k) (k.wrap ((BitVec.ofInt k.bits a &&& BitVec.ofInt k.bits b).toNat)))
  | .or => κ (.val (.int k) (k.wrap ((BitVec.ofInt k.bits a ||| BitVec.ofInt k.bits b).toNat)))
  | .xor => κ (.val (.int k) (k.wrap ((BitVec.ofInt k.bits a ^^^ BitVec.ofInt k.bits b).toNat)))
  | .eql => κ (.val .bool (a == b))
  | .neq => κ (.val .bool (a != b))
  | .lss => κ (.val .bool (decide (a < b)))
  | .leq => κ (.val .bool (decide (a ≤ b)))
  | .gtr => κ (.val .bool (decide (a > b)))
  | .geq => κ (.val .bool (decide (a ≥ b)))
  | _ => none

def shiftK (op : BinOp) (k : IntKind) (a b : Int) (κ : T → Option R) : Option R :=
  match op with
  | .shl => chk (decide (0 ≤ b)) (κ (.val (.int k) (k.wrap (a * 2 ^ (min b.toNat k.bits)))))
  | .shr => chk (decide (0 ≤ b)) (κ (.val (.int k) (a.fdiv (2 ^ (min b.toNat k.bits)))))
  | _ => none

def isShift : BinOp → Bool | .shl => true | .shr => true | _ => false

def eqlK (op : BinOp) (b : Bool) (κ : T → Option R) : Option R :=
  match op with | .eql => κ (.val .bool b) | .neq => κ (.val .bool (!b)) | _ => none

def binK (op : BinOp) (t : Option K) (x y : T) (κ : T → Option R) : Option R :=
  match x, y, t with
  | .val (.int k) a, .val (.int k') b, _ => bif isShift op then shiftK op k a b κ else bif decide (k = k') then arith op k a b κ else none
  | .val .bool a, .val .bool b, some .bool => eqlK op (a == b) κ
  | .val .str a, .val .str b, _ => eqlK op (a.toList == b.toList) κ
  | .ptr _ _, .nilr 0, some (.ref 0) => eqlK op false κ
  | .rptr _ _, .nilr 0, some (.ref 0) => eqlK op false κ
  | .mapr _, .nilr 1, some (.ref 1) => eqlK op false κ
  | .clo _ _, .nilr 2, some (.ref 2) => eqlK op false κ
  | .nilr 0, .nilr 0, some (.ref 0) => eqlK op true κ
  | .nilr 1, .nilr 1, some (.ref 1) => eqlK op true κ
  | .nilr 2, .nilr 2, some (.ref 2) => eqlK op true κ
  | .val (.cons a b) u, .val c v, some d => bif (K.cons a b).flat && decide (d = .cons a b) then (match castE c (.cons a b) v with
      | some w => eqlK op (eqE (.cons a b) u w) κ
      | none => none)
    else none
  | .val (.arr n e) u, .val c v, some d => bif e.flat && decide (d = .arr n e) then (match castE c (.arr n e) v with
      | some w => eqlK op (eqE (.arr n e) u w) κ
      | none => none)
    else none
  | _, _, _ => none

def unK (op : UnOp) (x : T) (κ : T → Option R) : Option R :=
  match op, x with
  | .neg, .val (.int k) a => κ (.val (.int k) (k.wrap (0 - a)))
  | .xor, .val (.int k) a => κ (.val (.int k) (k.wrap ((BitVec.ofInt k.bits (bif k.signed then (-1 : Int) else k.max) ^^^ BitVec.ofInt k.bits a).toNat)))
  | .not, .val .bool b => κ (.val .bool (!b))
  | _, _ => none

/-- The parts of a literal, one behind another. -/
def parts (s : Nat → T) (arr : Bool) (c : K) : List (Nat × Operand) → T → (T → Option R) → Option R
  | [], t, k => k t
  | (i, x) :: r, t, k =>
    let p : List Step := bif arr then [.idx (.ofNat i)] else [.fld i]
    match codeAt c p with
    | some d => (match opnd s (some d) x with | some u => setT c t p u fun t' => parts s arr c r t' k | none => none)
    | none => none

def elems (s : Nat → T) (σ : Sto) (e : K) : List (Nat × Operand) → Nat → Option (List (El e) × Ups)
  | [], _ => some ([], [])
  | (i, x) :: r, j => bif Nat.beq i j then match opnd s (some e) x with
      | some u => (freeze σ e u).bind fun v => (elems s σ e r (j + 1)).map fun w => (v.1 :: w.1, v.2 ++ w.2)
      | none => none
    else none

/-- lo, hi of a cut, within a length. -/
def cutK (len : Nat) (lo hi : Option T) (κ : Nat → Nat → Option R) : Option R :=
  match lo, hi with
  | none, none => κ 0 len
  | some (.val (.int _) l), none => chk (decide (0 ≤ l) && decide (l ≤ (len : Int))) (κ l.toNat len)
  | none, some (.val (.int _) h) => chk (decide (0 ≤ h) && decide (h ≤ (len : Int))) (κ 0 h.toNat)
  | some (.val (.int _) l), some (.val (.int _) h) => chk (decide (0 ≤ l) && decide (l ≤ h) && decide (h ≤ (len : Int))) (κ l.toNat h.toNat)
  | _, _ => none

def optOpnd (s : Nat → T) : Option Operand → Option (Option T)
  | none => some none
  | some x => (opnd s none x).map some

def nthT : T → Nat → Option T
  | .tc a b, 0 => some a | .tc a b, j + 1 => nthT b j | _, _ => none

def chainT (s : Nat → T) (tys : List (Option K)) : List Operand → Option T
  | [] => some .tn
  | x :: r => (opnd s (tys.headD none) x).bind fun a => (chainT s tys.tail r).map fun b => .tc a b
def T.app : T → T → T | .tc a b, c => .tc a (T.app b c) | _, c => c

/-- Behind a call: what became of the objects. -/
def settle (σ : Sto) (ρ : Nat → Option (Nat × List Step)) : Nat → List (Option Obj) → Ups → (Ups → Option R) → Option R
  | _, [], u, k => k u
  | j, o :: r, u, k => match ρ j with
    | none => none
    | some (id, []) => (match o with
      | some (.cell c fz t) => settle σ ρ (j + 1) r (u ++ [(id, some (.cell c fz (back ρ t)))]) k
      | some (.row e sh l) => settle σ ρ (j + 1) r (u ++ [(id, some (.row e sh l))]) k
      | some (.map kc vc es) => settle σ ρ (j + 1) r (u ++ [(id, some (.map kc vc es))]) k
      | none => settle σ ρ (j + 1) r (u ++ [(id, none)]) k)
    | some (id, p) => match σ id, o with
      | some (.cell c0 false t0), some (.cell _ _ t) => setT c0 t0 p (back ρ t) fun v => settle σ ρ (j + 1) r (u ++ [(id, some (.cell c0 false v))]) k
      | _, _ => none

/-- The rows that nil slices became: what was not there. -/
def news (nb : Nat) : Ups → Ups
  | [] => [] | (i, o) :: r => bif Nat.ble nb i && Nat.blt i (nb + 500) then (i, o) :: news nb r else news nb r

def callK (sg : Sig) (dst : Nat) (args : T) (σ : Sto) (κ : T → Ups → Option R) (none' : Unit → Option R) : Option R :=
  match unT σ (1000500 + 1000 * dst) sg.args args ([], []) with
  | none => none' ()
  | some (x, u) => match unOs σ (1000500 + 1000 * dst) sg.objs 0 u with
    | none => none' ()
    | some (o, ρ, ups) => bif distinct ρ.ids && flagsOk (upds ups σ) ρ 0 sg.objs && bindsOk (upds ups σ) sg.objs.length ρ && Nat.ble sg.objs.length sg.outs.length && Nat.ble sg.outs.length 500 then
        (sg.F (x, o)).bind fun y =>
          settle σ (backM ρ sg.objs.length sg.outs.length dst) 0 (fillOs sg.outs (res2 y)) (bif sg.ret.flat && flatL sg.outs then news (1000500 + 1000 * dst) ups else ups) fun v => κ (back (backM ρ sg.objs.length sg.outs.length dst) (fill sg.ret (res1 y))) v
      else none' ()

def callsK (l : List Sig) (dst : Nat) (args : T) (σ : Sto) (κ : T → Ups → Option R) : Option R :=
  match l with
  | [] => none
  | sg :: r => callK sg dst args σ κ fun _ => callsK r dst args σ κ

/-- One operation: its value, and what becomes of objects. -/
def evalOp (C : Ctx) (o : Oper) (s : Nat → T) (σ : Sto) (κ : T → Ups → Option R) : Option R :=
  let dn := match o.dst with | some d => d | none => 0
  match o.op with
  | .move x => (match opnd s (C.ty o.type) x with | some t => κ t [] | none => none)
  | .assign x => (match opnd s (C.ty o.type) x with | some t => κ t [] | none => none)
  | .pick c a b => (match opnd s none c with
    | some (.val .bool q) => match q with
      | true => (match opnd s (C.ty o.type) a with | some t => κ t [] | none => none)
      | false => (match opnd s (C.ty o.type) b with | some t => κ t [] | none => none)
    | _ => none)
  | .alloc t => (match C.ty t with | some c => κ (.ptr (1000 + dn) []) [(1000 + dn, some (.cell c false (zeroT c)))] | none => none)
  | .box t x => (match C.ty t, opnd s (C.ty t) x with
    | some c, some u => bif u.fits c then κ (.ptr (1000 + dn) []) [(1000 + dn, some (.cell c false u))] else none
    | _, _ => none)
  | .build t ps => (match C.ty t with
    | some c => bif c.isAgg then parts s (match c with | .arr _ _ => true | _ => false) c ps.toList (zeroT c) fun u => κ u [] else none
    | none => none)
  | .buildSlice t n ps => (match C.ty t with
    | some (.slice e) => (match elems s σ e ps.toList 0 with
      | some (l, u) => bif Nat.beq l.length n && Nat.ble (n * e.size) 16777216 then κ (.row (1000 + dn)) (u ++ [(1000 + dn, some (.row e false l))]) else none
      | none => none)
    | _ => none)
  | .load t a => (match opnd s none a with
    | some (.rptr c x) => bif isTy C t c then κ (.val c x) [] else none
    | some (.ptr id p) => bif isTyO C t (shapeP σ id p) then (match σ id with
      | some (.cell _ _ u) => getT u p fun v => κ v []
      | some (.row e _ l) => (match p with
        | .idx i :: q => nthK l i fun x => getE e x q fun v => κ v []
        | _ => none)
      | _ => none) else none
    | _ => none)
  | .store t a x => (match opnd s none a, opnd s (C.ty t) x with
    | some (.ptr id p), some v => bif isTyO C t (shapeP σ id p) then (match σ id with
      | some (.cell c false u) => setT c u p v fun u' => κ (.any 0) [(id, some (.cell c false u'))]
      | some (.row e false l) => (match p with
        | .idx i :: q => natK i fun n => nthN l n fun y => setD e y q v fun z => κ (.any 0) [(id, some (.row e false (l.set n z)))]
        | _ => none)
      | _ => none) else none
    | _, _ => none)
  | .nilCheck x => (match opnd s none x with
    | some (.ptr id p) => κ (.ptr id p) []
    | some (.rptr c y) => κ (.rptr c y) []
    | _ => none)
  | .binOp op t x y _ => (match opnd s (C.ty t) x, opnd s (C.ty t) y with
    | some a, some b => binK op (C.ty t) a b fun t => κ t []
    | _, _ => none)
  | .unOp op _ x => (match opnd s none x with | some a => unK op a fun t => κ t [] | none => none)
  | .convert t d x => (match C.ty d, opnd s none x with
    | some (.int k), some (.val (.int _) n) => bif isInt (C.ty t) then κ (.val (.int k) (k.wrap n)) [] else none
    | some .str, some (.val (.slice (.int .u8)) l) => bif isTy C t (.slice (.int .u8)) then κ (.val .str (bytesE l)) [] else none
    | _, _ => none)
  | .slice t x lo hi mx => (match opnd s (C.ty t) x, optOpnd s lo, optOpnd s hi, optOpnd s mx with
    | some (.val (.slice e) l), some lo, some hi, some none => bif isTy C t (.slice e) then cutK l.length lo hi fun a b => κ (.val (.slice e) ((l.take b).drop a)) [] else none
    | some (.row id), some lo, some hi, some none => (match σ id with
      | some (.row e _ l) => bif isTy C t (.slice e) then cutK l.length lo hi fun a b => κ (.val (.slice e) ((l.take b).drop a)) [(id, some (.row e true l))] else none
      | _ => none)
    | some (.val (.slice e) l), some lo, some (some (.val (.int _) h)), some (some (.val (.int _) m)) => bif isTy C t (.slice e) then
      cutK l.length lo (some (.val (.int .i64) h)) fun a b => chk (h == m) (κ (.row (1000 + dn)) [(1000 + dn, some (.row e true ((l.take b).drop a)))])
      else none
    | some (.row i0), some lo, some (some (.val (.int _) h)), some (some (.val (.int _) m)) => (match σ i0 with
      | some (.row e _ l) => bif isTy C t (.slice e) then cutK l.length lo (some (.val (.int .i64) h)) fun a b => chk (h == m) (κ (.row (1000 + dn)) [(i0, some (.row e true l)), (1000 + dn, some (.row e true ((l.take b).drop a)))]) else none
      | _ => none)
    | some (.rptr (.arr n e) l), some lo, some hi, some none => bif isTy C t (.arr n e) then cutK n lo hi fun a b => κ (.val (.slice e) ((l.take b).drop a)) [] else none
    | some (.ptr id p), some lo, some hi, some none => bif isTyO C t (shapeP σ id p) then (match σ id with
      | some (.cell c _ u) => getT u p fun v => match v with
        | .val (.arr n e) l => cutK n lo hi fun a b => κ (.val (.slice e) ((l.take b).drop a)) [(id, some (.cell c true u))]
        | _ => none
      | _ => none) else none
    | _, _, _, _ => none)
  | .fieldAddr t x j => (match opnd s none x with
    | some (.ptr id p) => bif isTyO C t (shapeP σ id p) && nzO (shapeP σ id (p ++ [.fld j])) then κ (.ptr id (p ++ [.fld j])) [] else none
    | some (.rptr c x) => bif isTy C t c && nzO (codeAt c [.fld j]) then getE c x [.fld j] fun v => (match v with | .val d y => κ (.rptr d y) [] | _ => none) else none
    | _ => none)
  | .field t x j => (match opnd s none x with
    | some u => (match C.ty t with
      | some c => bif u.fits c && isSomeK (codeAt c [.fld j]) then getT u [.fld j] fun v => κ v [] else none
      | none => none)
    | none => none)
  | .indexAddr t x i => (match C.ty t, opnd s none x, opnd s none i with
    | some (.slice e'), some (.val (.slice e) l), some (.val (.int _) i) => bif decide (e' = e) then nthK l i fun x => κ (.rptr e x) [] else none
    | some (.slice e'), some (.row id), some (.val (.int _) i) => (match σ id with
      | some (.row e _ l) => bif decide (e' = e) then chk (decide (0 ≤ i) && decide (i < (l.length : Int))) (κ (.ptr id [.idx i]) []) else none
      | _ => none)
    | some (.arr n e), some (.ptr id p), some (.val (.int _) i) => bif isTyO C t (shapeP σ id p) then chk (decide (0 ≤ i) && decide (i < (n : Int))) (κ (.ptr id (p ++ [.idx i])) []) else none
    | some (.arr _ _), some (.rptr (.arr n e) l), some (.val (.int _) i) => bif isTy C t (.arr n e) then nthK l i fun x => κ (.rptr e x) [] else none
    | _, _, _ => none)
  | .index t x i => (match opnd s none x, opnd s none i with
    | some (.val (.arr n e) l), some (.val (.int _) i) => bif isTy C t (.arr n e) then nthK l i fun x => κ (.val e x) [] else none
    | some (.pair a b), some (.val (.int _) i) => (match C.ty t with
      | some (.arr n e) => bif (T.pair a b).fits (.arr n e) then getT (.pair a b) [.idx i] fun v => κ v [] else none
      | _ => none)
    | some (.val .str b), some (.val (.int _) i) => bif isTy C t .str then nthK (strL b) i fun u => κ (.val (.int .u8) u) [] else none
    | _, _ => none)
  | .extract x j => (match opnd s none x with
    | some (.tup l) => (match nthT l j with | some u => κ u [] | none => none)
    | _ => none)
  | .makeFunc (.func f) fst caps => (match fst.toList with
    | [] => (match chainT s [] caps.toList with
      | some c => bif Nat.blt f cloB then κ (.clo f c) [] else none
      | none => none)
    | x :: xs => (match caps.toList with
      | [] => (match chainT s [] (x :: xs) with
        | some c => κ (.clo (cloB + f) c) []
        | none => none)
      | _ :: _ => none))
  | .makeSlice t n c => (match C.ty t, opnd s none n, opnd s none c with
    | some (.slice e), some (.val (.int _) n), some (.val (.int _) c) => bif e.flat then
        chk (decide (0 ≤ n) && decide (n ≤ c) && decide (c ≤ 4294967296)) (κ (.row (1000 + dn)) [(1000 + dn, some (.row e false (List.replicate n.toNat (zeroE e))))])
      else none
    | _, _, _ => none)
  | .makeMap t none => (match C.mp t with
    | some (k, v) => κ (.mapr (1000 + dn)) [(1000 + dn, some (.map k v []))]
    | none => none)
  | .lookup t x i ok => (match C.mp t, opnd s none x, opnd s none i with
    | some (k', v'), some (.mapr id), some u => (match σ id with
      | some (.map k v es) => bif decide (k' = k) && (decide (v' = v) && v.data) then (match u.un k with
          | some y => (match ok with
            | true => κ (.tup (.tc (.val v (getM k v es y)) (.tc (.val .bool (hasM k v es y)) .tn))) []
            | false => κ (.val v (getM k v es y)) [])
          | none => none) else none
      | _ => none)
    | some (k, v), some (.nilr 1), some u => bif v.data then (match u.un k with
          | some y => (match ok with
            | true => κ (.tup (.tc (.val v (zeroE v)) (.tc (.val .bool false) .tn))) []
            | false => κ (.val v (zeroE v)) [])
          | none => none) else none
    | _, _, _ => none)
  | .mapUpdate t x i z => (match C.mp t, opnd s none x, opnd s none i, opnd s none z with
    | some (k', v'), some (.mapr id), some u, some q => (match σ id with
      | some (.map k v es) => bif decide (k' = k) && decide (v' = v) then (match u.un k, q.un v with
          | some y, some z => κ (.any 0) [(id, some (.map k v (putM k v es y z)))]
          | _, _ => none) else none
      | _ => none)
    | _, _, _, _ => none)
  | .call c => match c.callee with
    | .builtin b => (match b, c.args.toList with
      | .len, [x] => (match tyArg C c 0, opnd s none x with
        | some (.slice _), some (.val (.slice _) l) => κ (.val (.int .i64) (l.length : Int)) []
        | some (.slice _), some (.nils _) => κ (.val (.int .i64) (0 : Int)) []
        | some .str, some (.val .str b) => κ (.val (.int .i64) (b.size : Int)) []
        | some (.slice _), some (.row id) => (match σ id with | some (.row _ _ l) => κ (.val (.int .i64) (l.length : Int)) [] | _ => none)
        | some (.ref 1), some (.mapr id) => (match σ id with | some (.map _ _ es) => κ (.val (.int .i64) (es.length : Int)) [] | _ => none)
        | _, _ => none)
      | .max, [x, y] => (match opnd s none x, opnd s none y with
        | some (.val (.int k) a), some (.val (.int k') b) => bif decide (k = k') then κ (.val (.int k) (if b > a then b else a)) [] else none
        | _, _ => none)
      | .min, [x, y] => (match opnd s none x, opnd s none y with
        | some (.val (.int k) a), some (.val (.int k') b) => bif decide (k = k') then κ (.val (.int k) (if b < a then b else a)) [] else none
        | _, _ => none)
      | .append, [x, y] => (match tyArg C c 0 with
        | some (.slice e) => bif isK (tyArg C c 1) (.slice e) && isTy C o.type (.slice e) then (match opnd s (C.ty o.type) y with
          | some ty => (match freeze σ (.slice e) ty with
            | some (m, _) => (match opnd s (C.ty o.type) x with
              | some (.nils _) => room m.length (κ (.row (1000 + dn)) [(1000 + dn, some (.row e false m))])
              | some (.row id) => (match σ id with
                | some (.row e' sh l) => (match castE (.slice e') (.slice e) l with
                  | some l => room (l.length + m.length) (κ (.row (1000 + dn)) [(id, none), (1000 + dn, some (.row e sh (l ++ m)))])
                  | none => none)
                | _ => none)
              | _ => none)
            | none => none)
          | none => none) else none
        | _ => none)
      | .delete, [x, i] => (match c.argTypes.toList with
        | t :: _ => (match C.mp t, opnd s none x, opnd s none i with
          | some (k', v'), some (.mapr id), some u => (match σ id with
            | some (.map k v es) => bif decide (k' = k) && decide (v' = v) then (match u.un k with
                | some y => κ (.any 0) [(id, some (.map k v (delM k v es y)))]
                | none => none) else none
            | _ => none)
          | _, _, _ => none)
        | [] => none)
      | _, _ => none)
    | .value f => (match opnd s none f with
      | some (.clo g caps) => (match chainT s (c.argTypes.toList.map C.ty) c.args.toList with
        | some args => bif Nat.blt g cloB then callsK (C.sigs g) dn (args.app caps) σ κ else bif caps.isChain then callsK (C.sigs (g - cloB)) dn (caps.app args) σ κ else none
        | none => none)
      | _ => none)
    | _ => none
  | _ => none

/-- Can it make an object? -/
def makes : Op → Bool
  | .alloc _ => true | .box _ _ => true | .buildSlice _ _ _ => true | .slice _ _ _ _ _ => true | .makeSlice _ _ _ => true | .makeMap _ _ => true
  | .call c => (match c.callee with | .builtin .append => true | .builtin _ => false | _ => true)
  | _ => false

def St.step (s : St) (o : Oper) (t : T) (u : Ups) : St :=
  { env := match o.dst with | some d => fun x => bif Nat.beq x d then t else s.env x | none => s.env
    sto := upds u s.sto
    done := bif makes o.op then (fun x => Nat.beq x (match o.dst with | some d => d | none => 0) || s.done x) else s.done }

def stepOk (C : Ctx) (o : Oper) (s : St) : Bool :=
  (match o.dst with | some d => Nat.blt d C.n | none => true) && !(makes o.op && s.done (match o.dst with | some d => d | none => 0))

def skip (o : Oper) (s : St) : St := match o.dst with | some d => s.put d .und | none => s

/-- An operation with a guard: run, or left out. -/
def guardK (all : List Oper) (o : Oper) (s : St) (run out : St → Option R) : Option R :=
  match o.guard with
  | none => run s
  | some (j, want) => match (all[j]?).bind (·.dst) with
    | none => none
    | some d => match s.env d with
      | .val .bool b => match b with
        | true => bif want then run (s.put d (.val .bool true)) else out (skip o (s.put d (.val .bool true)))
        | false => bif want then out (skip o (s.put d (.val .bool false))) else run (s.put d (.val .bool false))
      | .und => out (skip o s)
      | _ => none

/-- A region's operations, one behind another. -/
def evalOps (C : Ctx) (all : List Oper) : List Oper → St → (St → Option R) → Option R
  | [], s, k => k s
  | o :: r, s, k => guardK all o s
    (fun s => bif stepOk C o s then evalOp C o s.env s.sto fun t u => evalOps C all r (s.step o t u) k else none)
    (fun s => evalOps C all r s k)
end

/-! ### Regions whose order is drawn: what each operation looks at, what it turns -/
def T.ids : T → List Nat
  | .ptr i _ => [i] | .row i => [i] | .mapr i => [i] | .clo _ c => c.ids | .pair a b => a.ids ++ b.ids | .tc a b => a.ids ++ b.ids | .tup l => l.ids | _ => []
def objIds (σ : Sto) (i : Nat) : List Nat := match σ i with | some (.cell _ _ t) => t.ids | _ => []
def subN : List Nat → List Nat → Bool | [], _ => true | a :: r, l => elemN a l && subN r l
def disjN : List Nat → List Nat → Bool | [], _ => true | a :: r, l => !elemN a l && disjN r l
def objsIds (σ : Sto) : List Nat → List Nat | [] => [] | i :: r => objIds σ i ++ objsIds σ r
def close (σ : Sto) : Nat → List Nat → List Nat | 0, l => l | n + 1, l => bif subN (objsIds σ l) l then l else close σ n (l ++ objsIds σ l)
def opsOf : Op → List Operand
  | .move x => [x] | .assign x => [x] | .pick c a b => [c, a, b] | .box _ x => [x] | .build _ ps => ps.toList.map (·.2) | .buildSlice _ _ ps => ps.toList.map (·.2)
  | .load _ x => [x] | .store _ a x => [a, x] | .nilCheck x => [x] | .binOp _ _ x y _ => [x, y] | .unOp _ _ x => [x] | .convert _ _ x => [x]
  | .slice _ x a b c => x :: (a.toList ++ b.toList ++ c.toList) | .fieldAddr _ x _ => [x] | .field _ x _ => [x] | .indexAddr _ x i => [x, i] | .index _ x i => [x, i]
  | .extract x _ => [x] | .makeFunc _ b c => b.toList ++ c.toList | .lookup _ x i _ => [x, i] | .mapUpdate _ x i z => [x, i, z] | .makeSlice _ a b => [a, b]
  | .call c => (match c.callee with | .value f => [f] | _ => []) ++ c.args.toList
  | _ => []
/-- The operands whose objects it looks at. -/
def lookOps : Op → List Operand | .move _ => [] | .assign _ => [] | .pick _ _ _ => [] | op => opsOf op
def idsOf (s : Nat → T) : List Operand → List Nat | [] => [] | .tmp t :: r => (s t).ids ++ idsOf s r | _ :: r => idsOf s r
def isCall : Op → Bool | .call _ => true | _ => false

structure Foot where
  i : Nat
  rd : List Nat
  wr : List Nat

def aftOf : List Edge → List Nat | [] => [] | e :: r => (match e.ground with | .textOnly _ => aftOf r | .gcOnly _ => aftOf r | _ => e.on :: aftOf r)
def upIds : Ups → List Nat | [] => [] | (i, _) :: r => i :: upIds r
def readIds (o : Oper) (s : Nat → T) (σ : Sto) : List Nat := match isCall o.op with | true => close σ 4 (idsOf s (lookOps o.op)) | false => idsOf s (lookOps o.op)
/-- Is i before j, by edges? -/
def anc (all : List Oper) : Nat → Nat → Nat → Bool
  | 0, _, _ => false
  | n + 1, i, j => match all[j]? with | none => false | some o => ancs (anc all n) i (aftOf o.after.toList)
where ancs (f : Nat → Nat → Bool) (i : Nat) : List Nat → Bool | [] => false | e :: r => Nat.beq e i || (Nat.blt i e && f i e) || ancs f i r
def forceL {X : Type} (l : List Nat) (k : List Nat → X) : X := match l with | [] => k [] | a :: r => forceL r fun r => k (a :: r)
/-- a comes behind b. -/
def Foot.fine (all : List Oper) (a b : Foot) : Bool := (disjN a.wr b.wr && disjN a.wr b.rd && disjN a.rd b.wr) || anc all 40 b.i a.i
def footOk (σ : Sto) (rd : List Nat) : Bool := subN (objsIds σ rd) rd
def fineAll (all : List Oper) (f : Foot) : List Foot → Bool | [] => true | g :: r => f.fine all g && fineAll all f r
def noIds (a b : List Nat) : Bool := match a, b with | [], [] => true | _, _ => false

def tmpsOf : List Operand → List Nat | [] => [] | .tmp t :: r => t :: tmpsOf r | _ :: r => tmpsOf r
def guardT (all : List Oper) (o : Oper) : List Nat := match o.guard with
  | none => [] | some (j, _) => match all[j]? with | some g => (match g.dst with | some d => [d] | none => []) | none => []
def looksL (all : List Oper) (o : Oper) : List Nat := tmpsOf (opsOf o.op) ++ guardT all o
def dstIn (d : Option Nat) (l : List Nat) : Bool := match d with | some d => elemN d l | none => false
def dstEq (d e : Option Nat) : Bool := match d, e with | some d, some e => Nat.beq d e | _, _ => false
def apartL (all : List Oper) (a b : Oper) : Bool := !dstIn a.dst (looksL all b) && !dstEq a.dst b.dst && !dstIn b.dst (looksL all a)
def allBelow (i : Nat) : List Nat → Bool | [] => true | e :: r => Nat.blt e i && allBelow i r
def apartAll (all : List Oper) (i : Nat) (a : Oper) : List (Nat × Oper) → Bool | [] => true | (j, b) :: r => (apartL all a b || anc all 40 i j) && apartAll all i a r
def pairsOk (all : List Oper) : List (Nat × Oper) → Bool | [] => true | (i, a) :: r => allBelow i (aftOf a.after.toList) && apartAll all i a r && pairsOk all r

section
variable {R : Type}
def evalDraw (C : Ctx) (all : List Oper) : List (Nat × Oper) → List Foot → St → (St → Option R) → Option R
  | [], _, s, k => k s
  | (i, o) :: r, lg, s, k => guardK all o s
    (fun s => bif stepOk C o s then evalOp C o s.env s.sto fun t u => forceL (readIds o s.env s.sto) fun rd => forceL (upIds u) fun wr =>
        bif noIds rd wr then evalDraw C all r lg (s.step o t u) k
        else bif (!isCall o.op || footOk s.sto rd) && fineAll all { i, rd, wr } lg then evalDraw C all r ({ i, rd, wr } :: lg) (s.step o t u) k else none
      else none)
    (fun s => evalDraw C all r lg s k)
def numbered (n : Nat) : List Oper → List (Nat × Oper) | [] => [] | o :: r => (n, o) :: numbered (n + 1) r
def evalReg (C : Ctx) (d : Bool) (ops : List Oper) (s : St) (k : St → Option R) : Option R :=
  match d with | false => evalOps C ops ops s k | true => bif pairsOk ops (numbered 0 ops) then evalDraw C ops (numbered 0 ops) [] s k else none
end

/-! ### A state as typed data: slots and objects by a skeleton -/
structure StSk where
  env : List (Nat × Sk)
  objs : List ObSk

@[reducible] def EnvEl : List (Nat × Sk) → Type
  | [] => Unit | [a] => SkEl a.2 | a :: b :: r => SkEl a.2 × EnvEl (b :: r)
@[reducible] def StElO (l : List (Nat × Sk)) : List ObSk → Type
  | [] => EnvEl l | o :: r => EnvEl l × ObsEl (o :: r)
@[reducible] def StEl (k : StSk) : Type := StElO k.env k.objs
def stE : {l : List (Nat × Sk)} → {o : List ObSk} → StElO l o → EnvEl l
  | _, [], x => x | _, _ :: _, x => x.1
def stO : {l : List (Nat × Sk)} → {o : List ObSk} → StElO l o → ObsEl o
  | _, [], _ => () | _, _ :: _, x => x.2
def mkSt : (l : List (Nat × Sk)) → (o : List ObSk) → EnvEl l → ObsEl o → StElO l o
  | _, [], x, _ => x | _, _ :: _, x, y => (x, y)

def lookE : (l : List (Nat × Sk)) → EnvEl l → Nat → T
  | [], _, _ => .any 0
  | [a], x, u => bif Nat.beq u a.1 then fill a.2 x else .any 0
  | a :: b :: r, x, u => bif Nat.beq u a.1 then fill a.2 x.1 else lookE (b :: r) x.2 u
def objs0 (l : List (Option Obj)) (n : Nat) : Option Obj := match l with | [] => none | o :: r => match n with | 0 => o | n + 1 => objs0 r n

def fillSt (k : StSk) (x : StEl k) : St := { env := lookE k.env (stE x), sto := objs0 (fillOs k.objs (stO x)), done := fun _ => false }

def unE (σ : Sto) (env : Nat → T) : (l : List (Nat × Sk)) → Binds × Ups → Option (EnvEl l × Binds × Ups)
  | [], u => some ((), u)
  | [a], u => unT σ 100000000 a.2 (env a.1) u
  | a :: b :: r, u => (unT σ 100000000 a.2 (env a.1) u).bind fun v => (unE σ env (b :: r) v.2).map fun w => ((v.1, w.1), w.2)

def isGone : Option ObSk → Bool | some .gone => true | _ => false
def obAt : List ObSk → Nat → Option ObSk | [], _ => none | o :: _, 0 => some o | _ :: r, n + 1 => obAt r n
/-- The numbers of what was handed in, but for what is gone. -/
def idBindsG (l : List ObSk) : Nat → Binds
  | 0 => [] | n + 1 => bif isGone (obAt l n) then idBindsG l n else (n, n, []) :: idBindsG l n
/-- Nothing that is gone is named. -/
def keysG (l : List ObSk) (np : Nat) : Binds → Bool | [] => true | (k, _, _) :: r => !(Nat.blt k np && isGone (obAt l k)) && keysG l np r

def plainB : Binds → Bool | [] => true | (k, _, p) :: r => Nat.blt k 1000 && p.isEmpty && plainB r
def keysB : Binds → Bool | [] => true | (k, _, _) :: r => Nat.blt k 1000 && keysB r

def unSt (np : Nat) (k : StSk) (s : St) : Option (StEl k) :=
  (unE s.sto s.env k.env (idBindsG k.objs np, [])).bind fun v => (unOs s.sto 100000000 k.objs 0 v.2).bind fun w =>
    bif distinct w.2.1.ids && plainB w.2.1 && flagsOk (upds w.2.2 s.sto) w.2.1 0 k.objs && (Nat.ble np 1000 && keysG k.objs np w.2.1) then some (mkSt k.env k.objs v.1 w.1) else none

/-! ### Code -/
inductive Ex where | normal | exit (id : Nat) | ret | goto (l : Nat)
def Ex.beq : Ex → Ex → Bool | .normal, .normal => true | .exit a, .exit b => Nat.beq a b | .ret, .ret => true | .goto a, .goto b => Nat.beq a b | _, _ => false

abbrev Outs := List (Ex × StSk)
@[reducible] def OutEl : Outs → Type
  | [] => Empty | [a] => StEl a.2 | a :: b :: r => StEl a.2 ⊕ OutEl (b :: r)

def unOut (np : Nat) : (l : Outs) → Ex → St → Option (OutEl l)
  | [], _, _ => none
  | [a], e, s => bif Ex.beq e a.1 then unSt np a.2 s else none
  | a :: b :: r, e, s => bif Ex.beq e a.1 then (unSt np a.2 s).map .inl else (unOut np (b :: r) e s).map .inr

/-- A loop: at most n rounds. -/
def iterL {V X : Type} (step : V → Option (V ⊕ X)) : Nat → V → Option X
  | 0, _ => none
  | n + 1, v => match step v with | none => none | some (.inl v') => iterL step n v' | some (.inr x) => some x

def loopN : Nat := 18446744073709551616

def firstRegion : Code → Option Nat
  | .region i _ _ => some i | .seq a b => (firstRegion a).or (firstRegion b) | .block _ c => firstRegion c | .loop c => firstRegion c
  | .cond _ a b => (firstRegion a).or (firstRegion b) | .scope c => firstRegion c | .rangeFunc _ _ a b => (firstRegion a).or (firstRegion b) | _ => none

/-- Code whose work is shown by hand: as what it is met, what it makes of it. -/
structure Given where
  hd : StSk
  outs : Outs
  G : StEl hd → Option (OutEl outs)

/-- Where a function's code is cut: loops and sequences, by the first region in them. -/
structure Cuts where
  np : Nat
  loops : Nat → Option (StSk × Outs)
  seqs : Nat → Option Outs
  splits : Nat → Option (Nat × Option (List Nat))
  given : Nat → Nat → Option Given := fun _ _ => none

/-- One of four numbers, or an end. -/
def split4 {R : Type} (i : Int) (k : Int → Option R) : Option R :=
  natK i fun n => match n with | 0 => k 0 | 1 => k 1 | 2 => k 2 | 3 => k 3 | _ => none

def split4n {R : Type} (i : Int) (a b c d : Option R) : Option R :=
  natK i fun n => match n with | 0 => a | 1 => b | 2 => c | 3 => d | _ => none

/-- A slot, or a field behind a pointer, told by its number (0 .. 3) from here on. -/
def splitSt {R : Type} (w : Nat × Option (List Nat)) (s : St) (k : St → Option R) : Option R :=
  match w.2 with
  | none => (match s.env w.1 with
    | .val (.int kd) x => split4 x fun y => k (s.put w.1 (.val (.int kd) y))
    | _ => none)
  | some p => (match s.env w.1 with
    | .ptr id [] => (match s.sto id with
      | some (.cell c false u) => bif isSomeK (codeAt c (p.map .fld)) then getT u (p.map .fld) fun v => match v with
        | .val (.int kd) x => split4 x fun y => setT c u (p.map .fld) (.val (.int kd) y) fun u' => k (s.upd id (some (.cell c false u')))
        | _ => none else none
      | _ => none)
    | _ => none)

section
variable {R : Type}
def goOn : (l : Outs) → OutEl l → (Ex → St → Option R) → Option R
  | [], _, _ => none
  | [a], x, k => k a.1 (fillSt a.2 x)
  | a :: b :: r, x, k => match x with | .inl y => k a.1 (fillSt a.2 y) | .inr y => goOn (b :: r) y k

def atSeq (q : Cuts) (c : Code) : Option Outs := match firstRegion c with | some i => q.seqs i | none => none
/-- How many loops begin with a code's first region. -/
def headLoops : Code → Nat
  | .seq a b => (match firstRegion a with | some _ => headLoops a | none => headLoops b)
  | .block _ c => headLoops c | .loop c => headLoops c + 1
  | .cond _ a b => (match firstRegion a with | some _ => headLoops a | none => headLoops b)
  | .scope c => headLoops c
  | .rangeFunc _ _ a b => (match firstRegion a with | some _ => headLoops a | none => headLoops b)
  | _ => 0
def atLoop (q : Cuts) (c : Code) : Option (StSk × Outs) := match firstRegion c with | some i => q.loops (i + 1000 * headLoops c) | none => none
end

/-- The outs of a round: on with the loop, or out of it. -/
def roundK (np : Nat) (hd : StSk) (l : Outs) : Ex → St → Option (StEl hd ⊕ OutEl l)
  | .normal, s => (unSt np hd s).map .inl
  | e, s => (unOut np l e s).map .inr

/-- Kind 0: a loop, 1: a range over a function, 2: a scope, 3: a region. -/
def givenK {R : Type} (q : Cuts) (kind : Nat) (i : Option Nat) (s : St) (k : Ex → St → Option R) : Option R := match i with
  | none => none
  | some i => match q.given kind i with
    | none => none
    | some g => (unSt q.np g.hd s).bind fun v => (g.G v).bind fun x => goOn g.outs x k

def eval (C : Ctx) (q : Cuts) : Code → {R : Type} → St → (Ex → St → Option R) → Option R
  | .skip, _, s, k => k .normal s
  | .region i ops d, _, s, k => (match q.given 3 i with
    | some g => (unSt q.np g.hd s).bind fun v => (g.G v).bind fun x => goOn g.outs x k
    | none => match q.splits i with
      | none => evalReg C d ops.toList s (k .normal)
      | some w => splitSt w s fun s => evalReg C d ops.toList s (k .normal))
  | .seq a b, _, s, k => match atSeq q b with
    | none => eval C q a s fun e s => match e with | .normal => eval C q b s k | .exit i => k (.exit i) s | .ret => k .ret s | .goto l => k (.goto l) s
    | some l => (eval C q a s (unOut q.np l)).bind fun x => goOn l x fun e s => match e with | .normal => eval C q b s k | .exit i => k (.exit i) s | .ret => k .ret s | .goto l => k (.goto l) s
  | .cond c a b, _, s, k => match opnd s.env none c with
    | some (.val .bool p) => (match p with | true => eval C q a s k | false => eval C q b s k)
    | _ => none
  | .block id c, _, s, k => eval C q c s fun e s => match e with
    | .exit i => bif Nat.beq i id then k .normal s else k (.exit i) s
    | .normal => k .normal s | .ret => k .ret s | .goto l => k (.goto l) s
  | .loop c, _, s, k => match atLoop q c with
    | none => givenK q 0 (firstRegion c) s k
    | some (hd, l) => (unSt q.np hd s).bind fun v => (iterL (fun v => eval C q c (fillSt hd v) (roundK q.np hd l)) loopN v).bind fun x => goOn l x k
  | .exit id, _, s, k => k (.exit id) s
  | .ret, _, s, k => k .ret s
  | .rangeFunc _ _ a b, _, s, k => givenK q 1 ((firstRegion a).or (firstRegion b)) s k
  | .scope c, _, s, k => givenK q 2 (firstRegion c) s k
  | .label _, _, s, k => k .normal s
  | .goto l, _, s, k => k (.goto l) s
  | _, _, _, _ => none

def argT : T → Nat → T
  | .tc a _, 0 => a | .tc _ b, n + 1 => argT b n | _, _ => .any 0

def resT (C : Ctx) (s : St) : List ResultVar → Option T
  | [] => some .tn
  | .tmp t :: r => (resT C s r).map fun b => .tc (s.env t) b
  | .cell a t :: r => match s.env a with
    | .ptr id p => bif isTyO C t (shapeP s.sto id p) then (match s.sto id with | some (.cell _ _ u) => (getT u p some).bind fun v => (resT C s r).map fun b => .tc v b | _ => none) else none
    | _ => none

def tup1 : T → T | .tc a .tn => a | l => .tup l

/-- The function that a body computes. -/
def body (C : Ctx) (q : Cuts) (fn : Func) (args : Sk) (objs : List ObSk) (ret : Sk) (outs : List ObSk) (x : SkEl args × ObsEl objs) : Option (ResEl ret outs) :=
  match fn.body with
  | none => none
  | some c => eval C q c { env := argT (fill args x.1), sto := objs0 (fillOs objs x.2), done := fun _ => false } fun e s =>
    match e with
    | .exit _ => none
    | .goto _ => none
    | _ => match resT C s fn.results.toList with
      | none => none
      | some l => (unT s.sto 100000000 ret (tup1 l) (idBindsG outs objs.length, [])).bind fun v =>
        (unOs s.sto 100000000 outs 0 v.2).bind fun w => bif distinct w.2.1.ids && keysB w.2.1 && flagsOk (upds w.2.2 s.sto) w.2.1 0 outs && (Nat.ble objs.length 1000 && keysG outs objs.length w.2.1) then some (mkRes ret outs v.1 w.1) else none

def lookK (l : List (Nat × K)) (t : Nat) : Option K := match l with | [] => none | (a, k) :: r => bif Nat.beq a t then some k else lookK r t
def add64 (a b c : Int) : Option (Int × Int × Unit) := chk (decide (c.toNat ≤ 1)) (some (Int.ofNat ((a.toNat + b.toNat + c.toNat) % 18446744073709551616), Int.ofNat ((a.toNat + b.toNat + c.toNat) / 18446744073709551616), ()))
def bitsAnd (k : IntKind) (a b : Int) : Int := k.wrap ((BitVec.ofInt k.bits a &&& BitVec.ofInt k.bits b).toNat)
def bitsXor (k : IntKind) (a b : Int) : Int := k.wrap ((BitVec.ofInt k.bits a ^^^ BitVec.ofInt k.bits b).toNat)
end Go.Proofs.D
