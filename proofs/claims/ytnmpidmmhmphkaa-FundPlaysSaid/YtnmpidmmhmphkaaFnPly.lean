import Derived.Test.YtnmpidmmhmphkaaDCopy
import Derived.Test.YtnmpidmmhmphkaaProg
import Derived.KernelRfl
set_option linter.unusedVariables false
namespace Go.Proofs.F
open Go.Proofs.D
def kpart : K := .cons (.int .i64) (.cons .bool .unit)
def kwide : K := .cons (.int .i64) (.cons (.int .i64) .unit)
def kLine : K := .cons (.int .u8) (.cons (.int .i64) .unit)
def kKey : K := .cons (.int .u8) (.cons (.int .u8) (.cons (.int .u8) .unit))
def kWriter : K := .cons (.cons (.int .i64) .unit) (.cons (.slice (.int .u8)) (.cons (.int .i64) .unit))
def kOp : K := .cons kKey (.cons (.int .i64) .unit)
def kMove : K := .cons (.int .i64) (.cons (.int .i64) kwide)
def kTake : K := .cons (.int .u32) (.cons (.int .u8) kLine)
def kAct : K := .cons (.int .u8) (.cons kOp .unit)
def kField : K := .cons (.int .i64) (.cons (.int .i64) kMove)
def kDecl : K := .cons kKey (.cons (.int .i64) kwide)
def kTxn : K := .cons (.int .u32) (.cons (.int .u32) (.cons (.int .u8) (.cons .bool (.cons .bool (.cons (.slice kOp) kwide)))))
def kRow : K := .cons kKey (.cons kField .unit)
def kProgram : K := .cons (.int .u8) (.cons (.int .u32) (.cons (.int .u8) (.cons (.slice kLine) (.cons (.slice kTake) (.cons (.slice kLine) (.cons (.int .u8) (.cons (.int .u8) kLine)))))))
def kRec : K := .cons (.int .u8) (.cons (.int .u32) (.cons (.int .u32) (.cons (.int .u8) (.cons .bool (.cons kKey (.cons (.int .i64) (.cons (.int .u8) (.cons kProgram .unit))))))))
def tyL : List (Nat × K) := [(1, .ref 2), (2, .int .i64), (3, .int .i64), (4, .bool), (5, .int .u8), (22, .slice kDecl), (23, .slice kOp), (24, .ref 0), (26, .int .i64), (28, kKey), (29, kKey), (30, kOp), (31, kOp), (33, .slice kRow), (37, .slice kAct), (40, kAct), (41, kAct), (76, .ref 0), (78, kField), (79, kField), (80, .cons (.ref 0) .unit), (81, .cons (.ref 0) .unit), (82, kDecl), (83, kDecl), (88, .ref 2), (90, .ref 2), (95, kRow), (96, kRow), (103, kMove), (104, kMove), (122, .ref 1), (123, .cons (.ref 1) .unit), (124, .cons (.ref 1) .unit), (127, .ref 0), (130, .ref 2), (132, kpart), (133, kpart), (134, .slice kKey), (151, .ref 2), (153, .slice (.int .i64)), (173, .ref 2), (174, .ref 2), (176, .ref 2), (178, kwide), (179, kwide), (226, .slice (.int .i64))]
def tyT (t : Nat) : Option K := lookK tyL t
def mpL : List (Nat × K × K) := [(122, kKey, kField)]
def mpT (t : Nat) : Option (K × K) := lookM mpL t
theorem tyOk : ∀ t c, tyT t = some c → TyOk Go.Proofs.Try.prog tyT t c := tyOk_of (l := tyL) (fun _ => rfl) (by kernel_rfl) (by kernel_rfl)
theorem mpOk : ∀ t k v, mpT t = some (k, v) → ∃ tk tv, Go.Proofs.Try.prog.underlying t = some (.map tk tv) ∧ tyT tk = some k ∧ tyT tv = some v ∧ k.flat = true := mpOk_of (l := mpL) (fun _ => rfl) (by kernel_rfl)
theorem follows : Go.Proofs.Try.prog.follows .mixedOrders = true := by kernel_rfl
def table_New_api_Field  : Option (Unit × (Unit × Unit) × (List ((Int × Int × Int × Unit) × Int × Int × Int × Int × Int × Int × Unit)) × Unit) :=
  some ((), (((), ()), ([], ())))
def table_New_api_Field.C : Ctx := { ty := tyT, sigs := fun i => [], n := 4, mp := mpT }
def table_New_api_Field.Q : Cuts := { np := 0, loops := fun i => none, seqs := fun i => none, splits := fun i => none }
def table_New_api_Field.sig : Sig := { args := .tn, objs := [], ret := .ptr 0, outs := [.cell (.cons (.ref 1) .unit) (.pair (.mapr 1) (.val .unit)), .map kKey kField], F := fun x => table_New_api_Field }
theorem table_New_api_Field.eq : (fun x => body table_New_api_Field.C table_New_api_Field.Q Go.Proofs.Try.f35 table_New_api_Field.sig.args table_New_api_Field.sig.objs table_New_api_Field.sig.ret table_New_api_Field.sig.outs x) = table_New_api_Field.sig.F := by
  kernel_rfl
set_option maxRecDepth 100000 in
theorem table_New_api_Field.ctx : CtxOk Go.Proofs.Try.prog table_New_api_Field.C := ⟨tyOk, mpOk, Nat.le_of_ble_eq_true (by kernel_rfl), fun f sg => (fun h => by cases h)⟩
set_option maxRecDepth 100000 in
theorem table_New_api_Field.ok : Sound Go.Proofs.Try.prog 35 table_New_api_Field.sig := body_sound (C := table_New_api_Field.C) (q := table_New_api_Field.Q) (fn := Go.Proofs.Try.f35) (sg := table_New_api_Field.sig) (n := 0) table_New_api_Field.ctx follows Go.Proofs.Try.func35 (by kernel_rfl) (by kernel_rfl) (by kernel_rfl) (by kernel_rfl) (Nat.le_of_ble_eq_true (by kernel_rfl)) (by kernel_rfl) table_New_api_Field.eq

def field_Good (x0 : Int × Int × Int × Int × Int × Int × Unit) : Option Bool :=
  bif decide (x0.1 ≤ x0.2.2.2.1) then bif decide (x0.2.2.2.1 ≤ (if x0.2.2.2.2.2.1 < x0.2.2.1 then x0.2.2.2.2.2.1 else x0.2.2.1)) then bif decide ((if x0.2.2.2.2.2.1 > x0.2.2.1 then x0.2.2.2.2.2.1 else x0.2.2.1) ≤ x0.2.2.2.2.1) then some (decide (x0.2.2.2.2.1 ≤ x0.2.1)) else some false else some false else some false
def field_Good.C : Ctx := { ty := tyT, sigs := fun i => [], n := 35, mp := mpT }
def field_Good.Q : Cuts := { np := 0, loops := fun i => none, seqs := fun i => none, splits := fun i => none }
def field_Good.sig : Sig := { args := .tc (.val kField) .tn, objs := [], ret := .val .bool, outs := [], F := fun x => field_Good x.1.1 }
theorem field_Good.eq : (fun x => body field_Good.C field_Good.Q Go.Proofs.Try.f67 field_Good.sig.args field_Good.sig.objs field_Good.sig.ret field_Good.sig.outs x) = field_Good.sig.F := by
  kernel_rfl
set_option maxRecDepth 100000 in
theorem field_Good.ctx : CtxOk Go.Proofs.Try.prog field_Good.C := ⟨tyOk, mpOk, Nat.le_of_ble_eq_true (by kernel_rfl), fun f sg => (fun h => by cases h)⟩
set_option maxRecDepth 100000 in
theorem field_Good.ok : Sound Go.Proofs.Try.prog 67 field_Good.sig := body_sound (C := field_Good.C) (q := field_Good.Q) (fn := Go.Proofs.Try.f67) (sg := field_Good.sig) (n := 1) field_Good.ctx follows Go.Proofs.Try.func67 (by kernel_rfl) (by kernel_rfl) (by kernel_rfl) (by kernel_rfl) (Nat.le_of_ble_eq_true (by kernel_rfl)) (by kernel_rfl) field_Good.eq

def field_New (x0 : (Int × Int × Int × Unit) × Int × Int × Int × Unit) : Option ((Int × Int × Int × Int × Int × Int × Unit) × Int × Unit) :=
  (field_Good (x0.2.1, (x0.2.2.2.1, (x0.2.2.1, (x0.2.2.1, (x0.2.2.1, (x0.2.2.1, ()))))))).bind fun r3 => bif !r3 then some ((0, (0, (0, (0, (0, (0, ())))))), (3, ())) else some ((x0.2.1, (x0.2.2.2.1, (x0.2.2.1, (x0.2.2.1, (x0.2.2.1, (x0.2.2.1, ())))))), (0, ()))
def field_New.C : Ctx := { ty := tyT, sigs := fun i => bif Nat.beq i 67 then [field_Good.sig] else [], n := 23, mp := mpT }
def field_New.Q : Cuts := { np := 0, loops := fun i => none, seqs := fun i => none, splits := fun i => none }
def field_New.sig : Sig := { args := .tc (.val kDecl) .tn, objs := [], ret := .tup (.tc (.val kField) (.tc (.val (.int .i64)) .tn)), outs := [], F := fun x => field_New x.1.1 }
theorem field_New.eq : (fun x => body field_New.C field_New.Q Go.Proofs.Try.f36 field_New.sig.args field_New.sig.objs field_New.sig.ret field_New.sig.outs x) = field_New.sig.F := by
  kernel_rfl
set_option maxRecDepth 100000 in
theorem field_New.ctx : CtxOk Go.Proofs.Try.prog field_New.C := ⟨tyOk, mpOk, Nat.le_of_ble_eq_true (by kernel_rfl), fun f sg => fun h => sigs_if h (allS_cons field_Good.ok allS_nil) ((fun h => by cases h))⟩
set_option maxRecDepth 100000 in
theorem field_New.ok : Sound Go.Proofs.Try.prog 36 field_New.sig := body_sound (C := field_New.C) (q := field_New.Q) (fn := Go.Proofs.Try.f36) (sg := field_New.sig) (n := 1) field_New.ctx follows Go.Proofs.Try.func36 (by kernel_rfl) (by kernel_rfl) (by kernel_rfl) (by kernel_rfl) (Nat.le_of_ble_eq_true (by kernel_rfl)) (by kernel_rfl) field_New.eq

def table_Table_api_Field_Put (x0 : Unit) (x1 : Int × Int × Int × Unit) (x2 : Int × Int × Int × Int × Int × Int × Unit) (o0 : Unit × Unit) (o1 : List ((Int × Int × Int × Unit) × Int × Int × Int × Int × Int × Int × Unit)) : Option (Unit × (Unit × Unit) × (List ((Int × Int × Int × Unit) × Int × Int × Int × Int × Int × Int × Unit)) × Unit) :=
  some ((), (((), o0.2), (putM kKey kField o1 x1 x2, ())))
def table_Table_api_Field_Put.C : Ctx := { ty := tyT, sigs := fun i => [], n := 23, mp := mpT }
def table_Table_api_Field_Put.Q : Cuts := { np := 2, loops := fun i => none, seqs := fun i => none, splits := fun i => none }
def table_Table_api_Field_Put.sig : Sig := { args := .tc (.ptr 0) (.tc (.val kKey) (.tc (.val kField) .tn)), objs := [.cell (.cons (.ref 1) .unit) (.pair (.mapr 1) (.val .unit)), .map kKey kField], ret := .tup .tn, outs := [.cell (.cons (.ref 1) .unit) (.pair (.mapr 1) (.val .unit)), .map kKey kField], F := fun x => table_Table_api_Field_Put x.1.1 x.1.2.1 x.1.2.2.1 x.2.1 x.2.2.1 }
theorem table_Table_api_Field_Put.eq : (fun x => body table_Table_api_Field_Put.C table_Table_api_Field_Put.Q Go.Proofs.Try.f37 table_Table_api_Field_Put.sig.args table_Table_api_Field_Put.sig.objs table_Table_api_Field_Put.sig.ret table_Table_api_Field_Put.sig.outs x) = table_Table_api_Field_Put.sig.F := by
  kernel_rfl
set_option maxRecDepth 100000 in
theorem table_Table_api_Field_Put.ctx : CtxOk Go.Proofs.Try.prog table_Table_api_Field_Put.C := ⟨tyOk, mpOk, Nat.le_of_ble_eq_true (by kernel_rfl), fun f sg => (fun h => by cases h)⟩
set_option maxRecDepth 100000 in
theorem table_Table_api_Field_Put.ok : Sound Go.Proofs.Try.prog 37 table_Table_api_Field_Put.sig := body_sound (C := table_Table_api_Field_Put.C) (q := table_Table_api_Field_Put.Q) (fn := Go.Proofs.Try.f37) (sg := table_Table_api_Field_Put.sig) (n := 3) table_Table_api_Field_Put.ctx follows Go.Proofs.Try.func37 (by kernel_rfl) (by kernel_rfl) (by kernel_rfl) (by kernel_rfl) (Nat.le_of_ble_eq_true (by kernel_rfl)) (by kernel_rfl) table_Table_api_Field_Put.eq

def fund_New.l1 (v : (Unit × (List ((Int × Int × Int × Unit) × Int × Int × Int × Unit)) × Int × Int) × (Unit × Unit) × (Unit × Unit) × (List ((Int × Int × Int × Unit) × Int × Int × Int × Int × Int × Int × Unit)) × Unit) : Option (((Unit × (List ((Int × Int × Int × Unit) × Int × Int × Int × Unit)) × Int × Int) × (Unit × Unit) × (Unit × Unit) × (List ((Int × Int × Int × Unit) × Int × Int × Int × Int × Int × Int × Unit)) × Unit) ⊕ (Unit × (Unit × Unit) × (Unit × Unit) × (List ((Int × Int × Int × Unit) × Int × Int × Int × Int × Int × Int × Unit)) × Unit)) :=
  bif decide (v.1.2.2.2 < v.1.2.2.1) then nthK v.1.2.1 v.1.2.2.2 fun e2 => (field_New e2).bind fun r3 => bif (r3.2.1 : Int) == 0 then (table_Table_api_Field_Put () e2.1 r3.1 ((), v.2.2.1.2) v.2.2.2.1).bind fun r4 => some (Sum.inl (((), (v.1.2.1, (v.1.2.2.1, IntKind.i64.wrap (v.1.2.2.2 + 1)))), (((), v.2.1.2), (((), r4.2.1.2), (r4.2.2.1, ()))))) else some (Sum.inl (((), (v.1.2.1, (v.1.2.2.1, IntKind.i64.wrap (v.1.2.2.2 + 1)))), (((), v.2.1.2), (((), v.2.2.1.2), (v.2.2.2.1, ()))))) else some (Sum.inr ((), (((), v.2.1.2), (((), v.2.2.1.2), (v.2.2.2.1, ())))))
def fund_New (x0 : List ((Int × Int × Int × Unit) × Int × Int × Int × Unit)) : Option (Unit × (Unit × Unit) × (Unit × Unit) × (List ((Int × Int × Int × Unit) × Int × Int × Int × Int × Int × Int × Unit)) × Unit) :=
  table_New_api_Field.bind fun r1 => (iterL fund_New.l1 loopN (((), (x0, ((x0.length : Int), 0))), (((), ()), (((), r1.2.1.2), (r1.2.2.1, ()))))).bind fun y5 => some ((), (((), y5.2.1.2), (((), y5.2.2.1.2), (y5.2.2.2.1, ()))))
def fund_New.C : Ctx := { ty := tyT, sigs := fun i => bif Nat.beq i 35 then [table_New_api_Field.sig] else bif Nat.beq i 36 then [field_New.sig] else bif Nat.beq i 37 then [table_Table_api_Field_Put.sig] else [], n := 34, mp := mpT }
def fund_New.Q : Cuts := { np := 0, loops := fun i => bif Nat.beq i 3 then some ({ env := [(3, .ptr 0), (11, .val (.slice kDecl)), (12, .val (.int .i64)), (13, .val (.int .i64))], objs := [.cell (.cons (.ref 0) .unit) (.pair (.ptr 1) (.val .unit)), .cell (.cons (.ref 1) .unit) (.pair (.mapr 2) (.val .unit)), .map kKey kField] }, [(.exit 0, { env := [(3, .ptr 0)], objs := [.cell (.cons (.ref 0) .unit) (.pair (.ptr 1) (.val .unit)), .cell (.cons (.ref 1) .unit) (.pair (.mapr 2) (.val .unit)), .map kKey kField] })]) else none, seqs := fun i => none, splits := fun i => none }
def fund_New.sig : Sig := { args := .tc (.val (.slice kDecl)) .tn, objs := [], ret := .ptr 0, outs := [.cell (.cons (.ref 0) .unit) (.pair (.ptr 1) (.val .unit)), .cell (.cons (.ref 1) .unit) (.pair (.mapr 2) (.val .unit)), .map kKey kField], F := fun x => fund_New x.1.1 }
theorem fund_New.eq : (fun x => body fund_New.C fund_New.Q Go.Proofs.Try.f9 fund_New.sig.args fund_New.sig.objs fund_New.sig.ret fund_New.sig.outs x) = fund_New.sig.F := by
  kernel_rfl
set_option maxRecDepth 100000 in
theorem fund_New.ctx : CtxOk Go.Proofs.Try.prog fund_New.C := ⟨tyOk, mpOk, Nat.le_of_ble_eq_true (by kernel_rfl), fun f sg => fun h => sigs_if h (allS_cons table_New_api_Field.ok allS_nil) (fun h => sigs_if h (allS_cons field_New.ok allS_nil) (fun h => sigs_if h (allS_cons table_Table_api_Field_Put.ok allS_nil) ((fun h => by cases h))))⟩
set_option maxRecDepth 100000 in
theorem fund_New.ok : Sound Go.Proofs.Try.prog 9 fund_New.sig := body_sound (C := fund_New.C) (q := fund_New.Q) (fn := Go.Proofs.Try.f9) (sg := fund_New.sig) (n := 1) fund_New.ctx follows Go.Proofs.Try.func9 (by kernel_rfl) (by kernel_rfl) (by kernel_rfl) (by kernel_rfl) (Nat.le_of_ble_eq_true (by kernel_rfl)) (by kernel_rfl) fund_New.eq

def pledgeref17_New (x0 : (Int × Int × Int × Unit) × Int × Int × Int × Unit) : Option ((Int × Int × Int × Int × Int × Int × Unit) × Int × Unit) :=
  bif decide (x0.2.1 > x0.2.2.1) then some ((0, (0, (0, (0, (0, (0, ())))))), (3, ())) else bif decide (x0.2.2.1 > x0.2.2.2.1) then some ((0, (0, (0, (0, (0, (0, ())))))), (3, ())) else some ((x0.2.1, (x0.2.2.2.1, (x0.2.2.1, (x0.2.2.1, (x0.2.2.1, (x0.2.2.1, ())))))), (0, ()))
def pledgeref17_New.C : Ctx := { ty := tyT, sigs := fun i => [], n := 30, mp := mpT }
def pledgeref17_New.Q : Cuts := { np := 0, loops := fun i => none, seqs := fun i => none, splits := fun i => none }
def pledgeref17_New.sig : Sig := { args := .tc (.val kDecl) .tn, objs := [], ret := .tup (.tc (.val kField) (.tc (.val (.int .i64)) .tn)), outs := [], F := fun x => pledgeref17_New x.1.1 }
theorem pledgeref17_New.eq : (fun x => body pledgeref17_New.C pledgeref17_New.Q Go.Proofs.Try.f43 pledgeref17_New.sig.args pledgeref17_New.sig.objs pledgeref17_New.sig.ret pledgeref17_New.sig.outs x) = pledgeref17_New.sig.F := by
  kernel_rfl
set_option maxRecDepth 100000 in
theorem pledgeref17_New.ctx : CtxOk Go.Proofs.Try.prog pledgeref17_New.C := ⟨tyOk, mpOk, Nat.le_of_ble_eq_true (by kernel_rfl), fun f sg => (fun h => by cases h)⟩
set_option maxRecDepth 100000 in
theorem pledgeref17_New.ok : Sound Go.Proofs.Try.prog 43 pledgeref17_New.sig := body_sound (C := pledgeref17_New.C) (q := pledgeref17_New.Q) (fn := Go.Proofs.Try.f43) (sg := pledgeref17_New.sig) (n := 1) pledgeref17_New.ctx follows Go.Proofs.Try.func43 (by kernel_rfl) (by kernel_rfl) (by kernel_rfl) (by kernel_rfl) (Nat.le_of_ble_eq_true (by kernel_rfl)) (by kernel_rfl) pledgeref17_New.eq

def pledgeref04_Less (x0 : Int × Int × Int × Unit) (x1 : Int × Int × Int × Unit) : Option Bool :=
  bif (x0.1 : Int) != x1.1 then some (decide (x0.1 < x1.1)) else bif (x0.2.1 : Int) != x1.2.1 then some (decide (x0.2.1 < x1.2.1)) else some (decide (x0.2.2.1 < x1.2.2.1))
def pledgeref04_Less.C : Ctx := { ty := tyT, sigs := fun i => [], n := 30, mp := mpT }
def pledgeref04_Less.Q : Cuts := { np := 0, loops := fun i => none, seqs := fun i => none, splits := fun i => none }
def pledgeref04_Less.sig : Sig := { args := .tc (.val kKey) (.tc (.val kKey) .tn), objs := [], ret := .val .bool, outs := [], F := fun x => pledgeref04_Less x.1.1 x.1.2.1 }
theorem pledgeref04_Less.eq : (fun x => body pledgeref04_Less.C pledgeref04_Less.Q Go.Proofs.Try.f75 pledgeref04_Less.sig.args pledgeref04_Less.sig.objs pledgeref04_Less.sig.ret pledgeref04_Less.sig.outs x) = pledgeref04_Less.sig.F := by
  kernel_rfl
set_option maxRecDepth 100000 in
theorem pledgeref04_Less.ctx : CtxOk Go.Proofs.Try.prog pledgeref04_Less.C := ⟨tyOk, mpOk, Nat.le_of_ble_eq_true (by kernel_rfl), fun f sg => (fun h => by cases h)⟩
set_option maxRecDepth 100000 in
theorem pledgeref04_Less.ok : Sound Go.Proofs.Try.prog 75 pledgeref04_Less.sig := body_sound (C := pledgeref04_Less.C) (q := pledgeref04_Less.Q) (fn := Go.Proofs.Try.f75) (sg := pledgeref04_Less.sig) (n := 2) pledgeref04_Less.ctx follows Go.Proofs.Try.func75 (by kernel_rfl) (by kernel_rfl) (by kernel_rfl) (by kernel_rfl) (Nat.le_of_ble_eq_true (by kernel_rfl)) (by kernel_rfl) pledgeref04_Less.eq

def pledgeref18_put.l1 (v : ((List ((Int × Int × Int × Unit) × (Int × Int × Int × Int × Int × Int × Unit) × Unit)) × Unit × Unit × Bool × Int) × ((Int × Int × Int × Unit) × (Int × Int × Int × Int × Int × Int × Unit) × Unit) × (List ((Int × Int × Int × Unit) × (Int × Int × Int × Int × Int × Int × Unit) × Unit)) × Unit) : Option ((((List ((Int × Int × Int × Unit) × (Int × Int × Int × Int × Int × Int × Unit) × Unit)) × Unit × Unit × Bool × Int) × ((Int × Int × Int × Unit) × (Int × Int × Int × Int × Int × Int × Unit) × Unit) × (List ((Int × Int × Int × Unit) × (Int × Int × Int × Int × Int × Int × Unit) × Unit)) × Unit) ⊕ ((Unit × Unit × Bool) × ((Int × Int × Int × Unit) × (Int × Int × Int × Int × Int × Int × Unit) × Unit) × (List ((Int × Int × Int × Unit) × (Int × Int × Int × Int × Int × Int × Unit) × Unit)) × Unit)) :=
  bif decide (v.1.2.2.2.2 < (v.1.1.length : Int)) then (bif !v.1.2.2.2.1 then nthK v.1.1 v.1.2.2.2.2 fun e10 => (pledgeref04_Less e10.1 v.2.1.1).bind fun r11 => bif !r11 then room (v.2.2.1.length + [v.2.1].length) (some (((v.1.1, ((), ((), (true, v.1.2.2.2.2)))), (v.2.1, (v.2.2.1 ++ [v.2.1], ()))))) else some (((v.1.1, ((), ((), v.1.2.2.2))), (v.2.1, (v.2.2.1, ())))) else some (((v.1.1, ((), ((), v.1.2.2.2))), (v.2.1, (v.2.2.1, ())))) : Option (((List ((Int × Int × Int × Unit) × (Int × Int × Int × Int × Int × Int × Unit) × Unit)) × Unit × Unit × Bool × Int) × ((Int × Int × Int × Unit) × (Int × Int × Int × Int × Int × Int × Unit) × Unit) × (List ((Int × Int × Int × Unit) × (Int × Int × Int × Int × Int × Int × Unit) × Unit)) × Unit)).bind fun y12 => nthK y12.1.1 y12.1.2.2.2.2 fun e13 => bif !(eqE kKey e13.1 y12.2.1.1) then nthK y12.1.1 y12.1.2.2.2.2 fun e14 => room (y12.2.2.1.length + [e14].length) (some (Sum.inl ((y12.1.1, ((), ((), (y12.1.2.2.2.1, IntKind.i64.wrap (y12.1.2.2.2.2 + 1))))), (y12.2.1, (y12.2.2.1 ++ [e14], ()))))) else some (Sum.inl ((y12.1.1, ((), ((), (y12.1.2.2.2.1, IntKind.i64.wrap (y12.1.2.2.2.2 + 1))))), (y12.2.1, (y12.2.2.1, ())))) else some (Sum.inr (((), ((), v.1.2.2.2.1)), (v.2.1, (v.2.2.1, ()))))
def pledgeref18_put (x0 : List ((Int × Int × Int × Unit) × (Int × Int × Int × Int × Int × Int × Unit) × Unit)) (x1 : (Int × Int × Int × Unit) × (Int × Int × Int × Int × Int × Int × Unit) × Unit) : Option (List ((Int × Int × Int × Unit) × (Int × Int × Int × Int × Int × Int × Unit) × Unit)) :=
  (iterL pledgeref18_put.l1 loopN ((x0, ((), ((), (false, 0)))), (x1, ([], ())))).bind fun y15 => bif !y15.1.2.2 then room (y15.2.2.1.length + [y15.2.1].length) (some (y15.2.2.1 ++ [y15.2.1])) else some y15.2.2.1
def pledgeref18_put.C : Ctx := { ty := tyT, sigs := fun i => bif Nat.beq i 75 then [pledgeref04_Less.sig] else [], n := 53, mp := mpT }
def pledgeref18_put.Q : Cuts := { np := 0, loops := fun i => bif Nat.beq i 4 then some ({ env := [(0, .val (.slice kRow)), (3, .ptr 0), (5, .row 1), (6, .val .bool), (7, .val (.int .i64))], objs := [.cell kRow (.val kRow), .row kRow false] }, [(.exit 0, { env := [(3, .ptr 0), (5, .row 1), (6, .val .bool)], objs := [.cell kRow (.val kRow), .row kRow false] })]) else none, seqs := fun i => bif Nat.beq i 9 then some [(.normal, { env := [(0, .val (.slice kRow)), (3, .ptr 0), (5, .row 1), (6, .val .bool), (7, .val (.int .i64))], objs := [.cell kRow (.val kRow), .row kRow false] })] else none, splits := fun i => none }
def pledgeref18_put.sig : Sig := { args := .tc (.val (.slice kRow)) (.tc (.val kRow) .tn), objs := [], ret := .val (.slice kRow), outs := [], F := fun x => pledgeref18_put x.1.1 x.1.2.1 }
theorem pledgeref18_put.eq : (fun x => body pledgeref18_put.C pledgeref18_put.Q Go.Proofs.Try.f44 pledgeref18_put.sig.args pledgeref18_put.sig.objs pledgeref18_put.sig.ret pledgeref18_put.sig.outs x) = pledgeref18_put.sig.F := by
  kernel_rfl
set_option maxRecDepth 100000 in
theorem pledgeref18_put.ctx : CtxOk Go.Proofs.Try.prog pledgeref18_put.C := ⟨tyOk, mpOk, Nat.le_of_ble_eq_true (by kernel_rfl), fun f sg => fun h => sigs_if h (allS_cons pledgeref04_Less.ok allS_nil) ((fun h => by cases h))⟩
set_option maxRecDepth 100000 in
theorem pledgeref18_put.ok : Sound Go.Proofs.Try.prog 44 pledgeref18_put.sig := body_sound (C := pledgeref18_put.C) (q := pledgeref18_put.Q) (fn := Go.Proofs.Try.f44) (sg := pledgeref18_put.sig) (n := 2) pledgeref18_put.ctx follows Go.Proofs.Try.func44 (by kernel_rfl) (by kernel_rfl) (by kernel_rfl) (by kernel_rfl) (Nat.le_of_ble_eq_true (by kernel_rfl)) (by kernel_rfl) pledgeref18_put.eq

def pledgeref18_New.l1 (v : (List ((Int × Int × Int × Unit) × Int × Int × Int × Unit)) × (List ((Int × Int × Int × Unit) × (Int × Int × Int × Int × Int × Int × Unit) × Unit)) × Int) : Option (((List ((Int × Int × Int × Unit) × Int × Int × Int × Unit)) × (List ((Int × Int × Int × Unit) × (Int × Int × Int × Int × Int × Int × Unit) × Unit)) × Int) ⊕ (List ((Int × Int × Int × Unit) × (Int × Int × Int × Int × Int × Int × Unit) × Unit))) :=
  bif decide (v.2.2 < (v.1.length : Int)) then nthK v.1 v.2.2 fun e7 => (pledgeref17_New e7).bind fun r8 => bif (r8.2.1 : Int) == 0 then nthK v.1 v.2.2 fun e9 => (pledgeref18_put v.2.1 (e9.1, (r8.1, ()))).bind fun r10 => some (Sum.inl (v.1, (r10, IntKind.i64.wrap (v.2.2 + 1)))) else some (Sum.inl (v.1, (v.2.1, IntKind.i64.wrap (v.2.2 + 1)))) else some (Sum.inr v.2.1)
def pledgeref18_New (x0 : List ((Int × Int × Int × Unit) × Int × Int × Int × Unit)) : Option (List ((Int × Int × Int × Unit) × (Int × Int × Int × Int × Int × Int × Unit) × Unit)) :=
  (iterL pledgeref18_New.l1 loopN (x0, ([], 0))).bind fun y11 => some y11
def pledgeref18_New.C : Ctx := { ty := tyT, sigs := fun i => bif Nat.beq i 43 then [pledgeref17_New.sig] else bif Nat.beq i 44 then [pledgeref18_put.sig] else [], n := 33, mp := mpT }
def pledgeref18_New.Q : Cuts := { np := 0, loops := fun i => bif Nat.beq i 3 then some ({ env := [(0, .val (.slice kDecl)), (3, .val (.slice kRow)), (4, .val (.int .i64))], objs := [] }, [(.exit 0, { env := [(3, .val (.slice kRow))], objs := [] })]) else none, seqs := fun i => none, splits := fun i => none }
def pledgeref18_New.sig : Sig := { args := .tc (.val (.slice kDecl)) .tn, objs := [], ret := .val (.slice kRow), outs := [], F := fun x => pledgeref18_New x.1.1 }
theorem pledgeref18_New.eq : (fun x => body pledgeref18_New.C pledgeref18_New.Q Go.Proofs.Try.f13 pledgeref18_New.sig.args pledgeref18_New.sig.objs pledgeref18_New.sig.ret pledgeref18_New.sig.outs x) = pledgeref18_New.sig.F := by
  kernel_rfl
set_option maxRecDepth 100000 in
theorem pledgeref18_New.ctx : CtxOk Go.Proofs.Try.prog pledgeref18_New.C := ⟨tyOk, mpOk, Nat.le_of_ble_eq_true (by kernel_rfl), fun f sg => fun h => sigs_if h (allS_cons pledgeref17_New.ok allS_nil) (fun h => sigs_if h (allS_cons pledgeref18_put.ok allS_nil) ((fun h => by cases h)))⟩
set_option maxRecDepth 100000 in
theorem pledgeref18_New.ok : Sound Go.Proofs.Try.prog 13 pledgeref18_New.sig := body_sound (C := pledgeref18_New.C) (q := pledgeref18_New.Q) (fn := Go.Proofs.Try.f13) (sg := pledgeref18_New.sig) (n := 1) pledgeref18_New.ctx follows Go.Proofs.Try.func13 (by kernel_rfl) (by kernel_rfl) (by kernel_rfl) (by kernel_rfl) (Nat.le_of_ble_eq_true (by kernel_rfl)) (by kernel_rfl) pledgeref18_New.eq

def fund_Fund_all (x0 : Unit) (o0 : Unit × Unit) (o1 : Unit × Unit) (o2 : List ((Int × Int × Int × Unit) × Int × Int × Int × Int × Int × Int × Unit)) : Option (Unit × (Unit × Unit) × (Unit × Unit) × (List ((Int × Int × Int × Unit) × Int × Int × Int × Int × Int × Int × Unit)) × Unit) :=
  some ((), (((), o0.2), (((), o1.2), (o2, ()))))
def fund_Fund_all.C : Ctx := { ty := tyT, sigs := fun i => [], n := 9, mp := mpT }
def fund_Fund_all.Q : Cuts := { np := 3, loops := fun i => none, seqs := fun i => none, splits := fun i => none }
def fund_Fund_all.sig : Sig := { args := .tc (.ptr 0) .tn, objs := [.cell (.cons (.ref 0) .unit) (.pair (.ptr 1) (.val .unit)), .cell (.cons (.ref 1) .unit) (.pair (.mapr 2) (.val .unit)), .map kKey kField], ret := .ptr 1, outs := [.cell (.cons (.ref 0) .unit) (.pair (.ptr 1) (.val .unit)), .cell (.cons (.ref 1) .unit) (.pair (.mapr 2) (.val .unit)), .map kKey kField], F := fun x => fund_Fund_all x.1.1 x.2.1 x.2.2.1 x.2.2.2.1 }
theorem fund_Fund_all.eq : (fun x => body fund_Fund_all.C fund_Fund_all.Q Go.Proofs.Try.f77 fund_Fund_all.sig.args fund_Fund_all.sig.objs fund_Fund_all.sig.ret fund_Fund_all.sig.outs x) = fund_Fund_all.sig.F := by
  kernel_rfl
set_option maxRecDepth 100000 in
theorem fund_Fund_all.ctx : CtxOk Go.Proofs.Try.prog fund_Fund_all.C := ⟨tyOk, mpOk, Nat.le_of_ble_eq_true (by kernel_rfl), fun f sg => (fun h => by cases h)⟩
set_option maxRecDepth 100000 in
theorem fund_Fund_all.ok : Sound Go.Proofs.Try.prog 77 fund_Fund_all.sig := body_sound (C := fund_Fund_all.C) (q := fund_Fund_all.Q) (fn := Go.Proofs.Try.f77) (sg := fund_Fund_all.sig) (n := 1) fund_Fund_all.ctx follows Go.Proofs.Try.func77 (by kernel_rfl) (by kernel_rfl) (by kernel_rfl) (by kernel_rfl) (Nat.le_of_ble_eq_true (by kernel_rfl)) (by kernel_rfl) fund_Fund_all.eq

def cmp_isNaN_uint8 (x0 : Int) : Option Bool :=
  some ((x0 : Int) != x0)
def cmp_isNaN_uint8.C : Ctx := { ty := tyT, sigs := fun i => [], n := 6, mp := mpT }
def cmp_isNaN_uint8.Q : Cuts := { np := 0, loops := fun i => none, seqs := fun i => none, splits := fun i => none }
def cmp_isNaN_uint8.sig : Sig := { args := .tc (.val (.int .u8)) .tn, objs := [], ret := .val .bool, outs := [], F := fun x => cmp_isNaN_uint8 x.1.1 }
theorem cmp_isNaN_uint8.eq : (fun x => body cmp_isNaN_uint8.C cmp_isNaN_uint8.Q Go.Proofs.Try.f162 cmp_isNaN_uint8.sig.args cmp_isNaN_uint8.sig.objs cmp_isNaN_uint8.sig.ret cmp_isNaN_uint8.sig.outs x) = cmp_isNaN_uint8.sig.F := by
  kernel_rfl
set_option maxRecDepth 100000 in
theorem cmp_isNaN_uint8.ctx : CtxOk Go.Proofs.Try.prog cmp_isNaN_uint8.C := ⟨tyOk, mpOk, Nat.le_of_ble_eq_true (by kernel_rfl), fun f sg => (fun h => by cases h)⟩
set_option maxRecDepth 100000 in
theorem cmp_isNaN_uint8.ok : Sound Go.Proofs.Try.prog 162 cmp_isNaN_uint8.sig := body_sound (C := cmp_isNaN_uint8.C) (q := cmp_isNaN_uint8.Q) (fn := Go.Proofs.Try.f162) (sg := cmp_isNaN_uint8.sig) (n := 1) cmp_isNaN_uint8.ctx follows Go.Proofs.Try.func162 (by kernel_rfl) (by kernel_rfl) (by kernel_rfl) (by kernel_rfl) (Nat.le_of_ble_eq_true (by kernel_rfl)) (by kernel_rfl) cmp_isNaN_uint8.eq

def cmp_Compare_uint8 (x0 : Int) (x1 : Int) : Option Int :=
  (cmp_isNaN_uint8 x0).bind fun r4 => (cmp_isNaN_uint8 x1).bind fun r5 => bif r4 then bif r5 then some 0 else some (-1) else bif r5 then some 1 else bif decide (x0 < x1) then some (-1) else bif decide (x0 > x1) then some 1 else some 0
def cmp_Compare_uint8.C : Ctx := { ty := tyT, sigs := fun i => bif Nat.beq i 162 then [cmp_isNaN_uint8.sig] else [], n := 20, mp := mpT }
def cmp_Compare_uint8.Q : Cuts := { np := 0, loops := fun i => none, seqs := fun i => none, splits := fun i => none }
def cmp_Compare_uint8.sig : Sig := { args := .tc (.val (.int .u8)) (.tc (.val (.int .u8)) .tn), objs := [], ret := .val (.int .i64), outs := [], F := fun x => cmp_Compare_uint8 x.1.1 x.1.2.1 }
theorem cmp_Compare_uint8.eq : (fun x => body cmp_Compare_uint8.C cmp_Compare_uint8.Q Go.Proofs.Try.f151 cmp_Compare_uint8.sig.args cmp_Compare_uint8.sig.objs cmp_Compare_uint8.sig.ret cmp_Compare_uint8.sig.outs x) = cmp_Compare_uint8.sig.F := by
  kernel_rfl
set_option maxRecDepth 100000 in
theorem cmp_Compare_uint8.ctx : CtxOk Go.Proofs.Try.prog cmp_Compare_uint8.C := ⟨tyOk, mpOk, Nat.le_of_ble_eq_true (by kernel_rfl), fun f sg => fun h => sigs_if h (allS_cons cmp_isNaN_uint8.ok allS_nil) ((fun h => by cases h))⟩
set_option maxRecDepth 100000 in
theorem cmp_Compare_uint8.ok : Sound Go.Proofs.Try.prog 151 cmp_Compare_uint8.sig := body_sound (C := cmp_Compare_uint8.C) (q := cmp_Compare_uint8.Q) (fn := Go.Proofs.Try.f151) (sg := cmp_Compare_uint8.sig) (n := 2) cmp_Compare_uint8.ctx follows Go.Proofs.Try.func151 (by kernel_rfl) (by kernel_rfl) (by kernel_rfl) (by kernel_rfl) (Nat.le_of_ble_eq_true (by kernel_rfl)) (by kernel_rfl) cmp_Compare_uint8.eq

def cmp_Or_int.l1 (v : Int × List Int × Int × Int) : Option ((Int × List Int × Int × Int) ⊕ (Int ⊕ Int)) :=
  bif decide (v.2.2.2 < v.2.2.1) then nthK v.2.1 v.2.2.2 fun e9 => bif (e9 : Int) != v.1 then some (Sum.inr (Sum.inr e9)) else some (Sum.inl (v.1, (v.2.1, (v.2.2.1, IntKind.i64.wrap (v.2.2.2 + 1))))) else some (Sum.inr (Sum.inl v.1))
def cmp_Or_int (x0 : List Int) : Option Int :=
  (iterL cmp_Or_int.l1 loopN (0, (x0, ((x0.length : Int), 0)))).bind fun y10 => (match y10 with | .inl y11 => some y11 | .inr y12 => some y12)
def cmp_Or_int.C : Ctx := { ty := tyT, sigs := fun i => [], n := 18, mp := mpT }
def cmp_Or_int.Q : Cuts := { np := 0, loops := fun i => bif Nat.beq i 3 then some ({ env := [(3, .val (.int .i64)), (6, .val (.slice (.int .i64))), (7, .val (.int .i64)), (8, .val (.int .i64))], objs := [] }, [(.exit 0, { env := [(3, .val (.int .i64))], objs := [] }), (.ret, { env := [(2, .val (.int .i64))], objs := [] })]) else none, seqs := fun i => none, splits := fun i => none }
def cmp_Or_int.sig : Sig := { args := .tc (.val (.slice (.int .i64))) .tn, objs := [], ret := .val (.int .i64), outs := [], F := fun x => cmp_Or_int x.1.1 }
theorem cmp_Or_int.eq : (fun x => body cmp_Or_int.C cmp_Or_int.Q Go.Proofs.Try.f150 cmp_Or_int.sig.args cmp_Or_int.sig.objs cmp_Or_int.sig.ret cmp_Or_int.sig.outs x) = cmp_Or_int.sig.F := by
  kernel_rfl
set_option maxRecDepth 100000 in
theorem cmp_Or_int.ctx : CtxOk Go.Proofs.Try.prog cmp_Or_int.C := ⟨tyOk, mpOk, Nat.le_of_ble_eq_true (by kernel_rfl), fun f sg => (fun h => by cases h)⟩
set_option maxRecDepth 100000 in
theorem cmp_Or_int.ok : Sound Go.Proofs.Try.prog 150 cmp_Or_int.sig := body_sound (C := cmp_Or_int.C) (q := cmp_Or_int.Q) (fn := Go.Proofs.Try.f150) (sg := cmp_Or_int.sig) (n := 1) cmp_Or_int.ctx follows Go.Proofs.Try.func150 (by kernel_rfl) (by kernel_rfl) (by kernel_rfl) (by kernel_rfl) (Nat.le_of_ble_eq_true (by kernel_rfl)) (by kernel_rfl) cmp_Or_int.eq

def key_Compare (x0 : Int × Int × Int × Unit) (x1 : Int × Int × Int × Unit) : Option Int :=
  (cmp_Compare_uint8 x0.1 x1.1).bind fun r4 => (cmp_Compare_uint8 x0.2.1 x1.2.1).bind fun r5 => (cmp_Compare_uint8 x0.2.2.1 x1.2.2.1).bind fun r6 => (cmp_Or_int [r4, r5, r6]).bind fun r7 => some r7
def key_Compare.C : Ctx := { ty := tyT, sigs := fun i => bif Nat.beq i 150 then [cmp_Or_int.sig] else bif Nat.beq i 151 then [cmp_Compare_uint8.sig] else [], n := 22, mp := mpT }
def key_Compare.Q : Cuts := { np := 0, loops := fun i => none, seqs := fun i => none, splits := fun i => none }
def key_Compare.sig : Sig := { args := .tc (.val kKey) (.tc (.val kKey) .tn), objs := [], ret := .val (.int .i64), outs := [], F := fun x => key_Compare x.1.1 x.1.2.1 }
theorem key_Compare.eq : (fun x => body key_Compare.C key_Compare.Q Go.Proofs.Try.f120 key_Compare.sig.args key_Compare.sig.objs key_Compare.sig.ret key_Compare.sig.outs x) = key_Compare.sig.F := by
  kernel_rfl
set_option maxRecDepth 100000 in
theorem key_Compare.ctx : CtxOk Go.Proofs.Try.prog key_Compare.C := ⟨tyOk, mpOk, Nat.le_of_ble_eq_true (by kernel_rfl), fun f sg => fun h => sigs_if h (allS_cons cmp_Or_int.ok allS_nil) (fun h => sigs_if h (allS_cons cmp_Compare_uint8.ok allS_nil) ((fun h => by cases h)))⟩
set_option maxRecDepth 100000 in
theorem key_Compare.ok : Sound Go.Proofs.Try.prog 120 key_Compare.sig := body_sound (C := key_Compare.C) (q := key_Compare.Q) (fn := Go.Proofs.Try.f120) (sg := key_Compare.sig) (n := 2) key_Compare.ctx follows Go.Proofs.Try.func120 (by kernel_rfl) (by kernel_rfl) (by kernel_rfl) (by kernel_rfl) (Nat.le_of_ble_eq_true (by kernel_rfl)) (by kernel_rfl) key_Compare.eq

def table_Table_api_Field_Keys (es : List ((Int × Int × Int × Unit) × Int × Int × Int × Int × Int × Int × Unit)) : Option (List (Int × Int × Int × Unit) × (Unit × Unit) × List ((Int × Int × Int × Unit) × Int × Int × Int × Int × Int × Int × Unit) × Unit) := tabKeysF kKey kField (leOf cmp3) es
def table_Table_api_Field_Keys.sig : Sig := { args := .tc (.ptr 0) .tn, objs := [tabSk 1, .map kKey kField], ret := .val (.slice kKey), outs := [tabSk 1, .map kKey kField], F := fun x => table_Table_api_Field_Keys x.2.2.1 }
def table_Table_api_Field_Keys.CK : Ctx := { ty := tyT, sigs := fun _ => [], n := 14, mp := fun _ => none }
def table_Table_api_Field_Keys.CA : Ctx := { ty := tyT, sigs := fun _ => [], n := 13, mp := fun _ => none }
theorem table_Table_api_Field_Keys.ctxK : CtxOk Go.Proofs.Try.prog table_Table_api_Field_Keys.CK := ⟨tyOk, (fun t k v h => by cases h), Nat.le_of_ble_eq_true (by kernel_rfl), fun f sg h => by cases h⟩
theorem table_Table_api_Field_Keys.ctxA : CtxOk Go.Proofs.Try.prog table_Table_api_Field_Keys.CA := ⟨tyOk, (fun t k v h => by cases h), Nat.le_of_ble_eq_true (by kernel_rfl), fun f sg h => by cases h⟩
theorem table_Table_api_Field_Keys.kit : KitFacts Go.Proofs.Try.prog table_Table_api_Field_Keys.CK 149 Go.Proofs.Try.f149 kKey 122 29 79 #[29] := { hf := Go.Proofs.Try.func149, hname := by kernel_rfl, hb := by kernel_rfl, hres := by kernel_rfl, hn := by kernel_rfl, h13 := (by show 13 < 14; omega), hm := by kernel_rfl, hmt := by kernel_rfl, r0 := by kernel_rfl, r1 := by kernel_rfl, r2 := by kernel_rfl, r3 := by kernel_rfl, g := by kernel_rfl, o00 := by kernel_rfl, o01 := by kernel_rfl, o10 := by kernel_rfl, o11 := by kernel_rfl, o20 := by kernel_rfl, o21 := by kernel_rfl, o30 := by kernel_rfl, o32 := by kernel_rfl, d := by kernel_rfl, k2 := by kernel_rfl, k3 := by kernel_rfl, k7 := by kernel_rfl, q2 := fun y => by kernel_rfl, q3 := fun y => by kernel_rfl, q7 := fun b => by kernel_rfl }
theorem table_Table_api_Field_Keys.asq : AsFacts Go.Proofs.Try.prog table_Table_api_Field_Keys.CA 160 Go.Proofs.Try.f160 kKey := { hf := Go.Proofs.Try.func160, hb := by kernel_rfl, hres := by kernel_rfl, hn := by kernel_rfl, h12 := (by show 12 < 13; omega), r1 := by kernel_rfl, o1 := by kernel_rfl, o1d := by kernel_rfl, o1g := by kernel_rfl, k0 := by kernel_rfl, q0 := by kernel_rfl, q2 := fun ks x => by kernel_rfl, q3 := fun ks x => by kernel_rfl, q4 := fun ks => by kernel_rfl }
theorem table_Table_api_Field_Keys.isNaN (x : Int) : cmp_isNaN_uint8 x = some false := by
  show some ((x : Int) != x) = some false
  rw [bne_self_eq_false]
theorem table_Table_api_Field_Keys.cmp1 (x y : Int) : cmp_Compare_uint8 x y = some (cmpI x y) := by
  unfold cmp_Compare_uint8 cmpI
  rw [table_Table_api_Field_Keys.isNaN, table_Table_api_Field_Keys.isNaN]
  simp only [Option.bind_some, cond_false]
  by_cases h1 : x < y
  · simp [h1]
  · by_cases h2 : x > y <;> simp [h1, h2]
theorem table_Table_api_Field_Keys.orStep (a b c i : Int) (k : Nat) (hk : k < 3) (x : Int) (hx : [a, b, c][k]? = some x) (hi : i = k) : cmp_Or_int.l1 (0, ([a, b, c], (3, i))) = if x ≠ 0 then some (Sum.inr (Sum.inr x)) else some (Sum.inl (0, ([a, b, c], (3, ((k + 1 : Nat) : Int))))) := by
  subst hi
  unfold cmp_Or_int.l1
  simp only
  rw [show decide ((k : Int) < 3) = true by simp; omega, cond_true]
  rw [nthK_get hx]
  have hw : IntKind.i64.wrap ((k : Int) + 1) = ((k + 1 : Nat) : Int) := succ_i64 (by omega)
  rw [hw]
  by_cases h : x = 0
  · subst h; simp
  · have hb : ((x : Int) != 0) = true := by simpa using h
    rw [hb, cond_true, if_pos h]
theorem table_Table_api_Field_Keys.or3 (a b c : Int) : cmp_Or_int [a, b, c] = some (if a ≠ 0 then a else if b ≠ 0 then b else c) := by
  unfold cmp_Or_int
  show (iterL cmp_Or_int.l1 loopN (0, ([a, b, c], (3, 0)))).bind _ = _
  have s0 := table_Table_api_Field_Keys.orStep a b c 0 0 (by omega) a rfl rfl
  have s1 := table_Table_api_Field_Keys.orStep a b c ((0 + 1 : Nat) : Int) 1 (by omega) b rfl rfl
  have s2 := table_Table_api_Field_Keys.orStep a b c ((1 + 1 : Nat) : Int) 2 (by omega) c rfl rfl
  have s3 : cmp_Or_int.l1 (0, ([a, b, c], (3, ((2 + 1 : Nat) : Int)))) = some (Sum.inr (Sum.inl 0)) := rfl
  by_cases ha : a = 0
  · by_cases hb : b = 0
    · by_cases hc : c = 0
      · rw [if_neg (by simpa using ha)] at s0; rw [if_neg (by simpa using hb)] at s1; rw [if_neg (by simpa using hc)] at s2
        have := iterL_mono (m := loopN) ((iterL_next s0).trans ((iterL_next s1).trans ((iterL_next s2).trans (iterL_done (n := 0) s3)))) (by rw [loopN_eq]; omega)
        rw [this, Option.bind_some]
        simp [ha, hb, hc]
      · rw [if_neg (by simpa using ha)] at s0; rw [if_neg (by simpa using hb)] at s1; rw [if_pos (by simpa using hc)] at s2
        have := iterL_mono (m := loopN) ((iterL_next s0).trans ((iterL_next s1).trans (iterL_done (n := 0) s2))) (by rw [loopN_eq]; omega)
        rw [this, Option.bind_some]
        simp [ha, hb]
    · rw [if_neg (by simpa using ha)] at s0; rw [if_pos (by simpa using hb)] at s1
      have := iterL_mono (m := loopN) ((iterL_next s0).trans (iterL_done (n := 0) s1)) (by rw [loopN_eq]; omega)
      rw [this, Option.bind_some]
      simp [ha, hb]
  · rw [if_pos (by simpa using ha)] at s0
    have := iterL_mono (m := loopN) (iterL_done (n := 0) s0) (by rw [loopN_eq]; omega)
    rw [this, Option.bind_some]
    simp [ha]
theorem table_Table_api_Field_Keys.hcf (x y : Int × Int × Int × Unit) : key_Compare x y = some (cmp3 x y) := by
  unfold key_Compare
  rw [table_Table_api_Field_Keys.cmp1, table_Table_api_Field_Keys.cmp1, table_Table_api_Field_Keys.cmp1]
  simp only [Option.bind_some, table_Table_api_Field_Keys.or3]
  rfl
def table_Table_api_Field_Keys.ren : Go.Shelf.Ren := { f := fun x => match x with | 6 => 148 | 15 => 117 | 14 => 161 | 28 => 145 | 29 => 146 | 20 => 165 | 21 => 166 | 22 => 167 | 23 => 168 | 24 => 169 | 25 => 170 | 26 => 171 | 27 => 172 | 46 => 173 | 47 => 155 | 48 => 156 | 49 => 174 | 50 => 175 | 57 => 176 | n => n, t := fun x => match x with | 22 => 134 | 24 => 29 | 25 => 176 | 3 => 3 | 39 => 171 | 0 => 0 | 53 => 47 | 55 => 162 | 4 => 4 | 46 => 198 | 45 => 197 | 50 => 203 | 5 => 5 | 9 => 9 | 66 => 218 | 70 => 222 | 76 => 229 | 77 => 230 | n => n, g := fun x => x }
theorem table_Table_api_Field_Keys.lays : SlLaysF0.n6 Go.Proofs.Try.prog table_Table_api_Field_Keys.ren := { mixed := follows, f6 := ⟨ "slices.SortFunc[[]pledge/api.Key,pledge/api.Key]", by kernel_rfl, Go.Proofs.Try.func148.trans (congrArg some (by kernel_rfl))⟩, f14 := ⟨ "slices.pdqsortCmpFunc[pledge/api.Key]", by kernel_rfl, Go.Proofs.Try.func161.trans (congrArg some (by kernel_rfl))⟩, f15 := Go.Proofs.Try.func117.trans (congrArg some (by kernel_rfl)), f20 := ⟨ "slices.insertionSortCmpFunc[pledge/api.Key]", by kernel_rfl, Go.Proofs.Try.func165.trans (congrArg some (by kernel_rfl))⟩, f21 := ⟨ "slices.heapSortCmpFunc[pledge/api.Key]", by kernel_rfl, Go.Proofs.Try.func166.trans (congrArg some (by kernel_rfl))⟩, f22 := ⟨ "slices.breakPatternsCmpFunc[pledge/api.Key]", by kernel_rfl, Go.Proofs.Try.func167.trans (congrArg some (by kernel_rfl))⟩, f23 := ⟨ "slices.choosePivotCmpFunc[pledge/api.Key]", by kernel_rfl, Go.Proofs.Try.func168.trans (congrArg some (by kernel_rfl))⟩, f24 := ⟨ "slices.reverseRangeCmpFunc[pledge/api.Key]", by kernel_rfl, Go.Proofs.Try.func169.trans (congrArg some (by kernel_rfl))⟩, f25 := ⟨ "slices.partialInsertionSortCmpFunc[pledge/api.Key]", by kernel_rfl, Go.Proofs.Try.func170.trans (congrArg some (by kernel_rfl))⟩, f26 := ⟨ "slices.partitionEqualCmpFunc[pledge/api.Key]", by kernel_rfl, Go.Proofs.Try.func171.trans (congrArg some (by kernel_rfl))⟩, f27 := ⟨ "slices.partitionCmpFunc[pledge/api.Key]", by kernel_rfl, Go.Proofs.Try.func172.trans (congrArg some (by kernel_rfl))⟩, f28 := Go.Proofs.Try.func145.trans (congrArg some (by kernel_rfl)), f29 := Go.Proofs.Try.func146.trans (congrArg some (by kernel_rfl)), f46 := ⟨ "slices.siftDownCmpFunc[pledge/api.Key]", by kernel_rfl, Go.Proofs.Try.func173.trans (congrArg some (by kernel_rfl))⟩, f47 := Go.Proofs.Try.func155.trans (congrArg some (by kernel_rfl)), f48 := Go.Proofs.Try.func156.trans (congrArg some (by kernel_rfl)), f49 := ⟨ "slices.medianAdjacentCmpFunc[pledge/api.Key]", by kernel_rfl, Go.Proofs.Try.func174.trans (congrArg some (by kernel_rfl))⟩, f50 := ⟨ "slices.medianCmpFunc[pledge/api.Key]", by kernel_rfl, Go.Proofs.Try.func175.trans (congrArg some (by kernel_rfl))⟩, f57 := ⟨ "slices.order2CmpFunc[pledge/api.Key]", by kernel_rfl, Go.Proofs.Try.func176.trans (congrArg some (by kernel_rfl))⟩, t0 := Go.Proofs.Try.underlying0, a0 := Go.Proofs.Try.isAgg0, z0 := Go.Proofs.Try.sizeOf0, v0 := Go.Proofs.Try.zeroValue0, t3 := Go.Proofs.Try.underlying3, a3 := Go.Proofs.Try.isAgg3, z3 := Go.Proofs.Try.sizeOf3, v3 := Go.Proofs.Try.zeroValue3, t4 := Go.Proofs.Try.underlying4, a4 := Go.Proofs.Try.isAgg4, z4 := Go.Proofs.Try.sizeOf4, v4 := Go.Proofs.Try.zeroValue4, t5 := Go.Proofs.Try.underlying5, a5 := Go.Proofs.Try.isAgg5, z5 := Go.Proofs.Try.sizeOf5, v5 := Go.Proofs.Try.zeroValue5, t9 := Go.Proofs.Try.underlying9, a9 := Go.Proofs.Try.isAgg9, z9 := Go.Proofs.Try.sizeOf9, v9 := Go.Proofs.Try.zeroValue9, t22 := Go.Proofs.Try.underlying134, a22 := Go.Proofs.Try.isAgg134, z22 := Go.Proofs.Try.sizeOf134, v22 := Go.Proofs.Try.zeroValue134, t25 := Go.Proofs.Try.underlying176, a25 := Go.Proofs.Try.isAgg176, z25 := Go.Proofs.Try.sizeOf176, v25 := Go.Proofs.Try.zeroValue176, t39 := Go.Proofs.Try.underlying171, a39 := Go.Proofs.Try.isAgg171, z39 := Go.Proofs.Try.sizeOf171, v39 := Go.Proofs.Try.zeroValue171, t45 := Go.Proofs.Try.underlying197, a45 := Go.Proofs.Try.isAgg197, z45 := Go.Proofs.Try.sizeOf197, v45 := Go.Proofs.Try.zeroValue197, t46 := Go.Proofs.Try.underlying198, a46 := Go.Proofs.Try.isAgg198, z46 := Go.Proofs.Try.sizeOf198, v46 := Go.Proofs.Try.zeroValue198, t50 := Go.Proofs.Try.underlying203, a50 := Go.Proofs.Try.isAgg203, z50 := Go.Proofs.Try.sizeOf203, v50 := Go.Proofs.Try.zeroValue203, t53 := Go.Proofs.Try.underlying47, a53 := Go.Proofs.Try.isAgg47, z53 := Go.Proofs.Try.sizeOf47, v53 := Go.Proofs.Try.zeroValue47, t55 := Go.Proofs.Try.underlying162, a55 := Go.Proofs.Try.isAgg162, z55 := Go.Proofs.Try.sizeOf162, v55 := Go.Proofs.Try.zeroValue162, t66 := Go.Proofs.Try.underlying218, a66 := Go.Proofs.Try.isAgg218, z66 := Go.Proofs.Try.sizeOf218, v66 := Go.Proofs.Try.zeroValue218, t70 := Go.Proofs.Try.underlying222, a70 := Go.Proofs.Try.isAgg222, z70 := Go.Proofs.Try.sizeOf222, v70 := Go.Proofs.Try.zeroValue222, t76 := Go.Proofs.Try.underlying229, a76 := Go.Proofs.Try.isAgg229, z76 := Go.Proofs.Try.sizeOf229, v76 := Go.Proofs.Try.zeroValue229, t77 := Go.Proofs.Try.underlying230, a77 := Go.Proofs.Try.isAgg230, z77 := Go.Proofs.Try.sizeOf230, v77 := Go.Proofs.Try.zeroValue230 }
set_option maxRecDepth 100000 in
open Go.RowKit Go.Sort Go.Shelf Go.Proofs in
theorem table_Table_api_Field_Keys.sortC (w : World) (S : Cells) (m : Nat → Option MB) (ks : List (El kKey)) (v : Value) (hl : ks.length < 4611686018427387904) (hr : StoRel (mkS [] [(1, .row kKey false ks)] []).sto w S m) (hv : RepV w S m (.row 1) v) :
    Calls Go.Proofs.Try.prog 148 #[v, .func (.func 120) #[] #[]] w fun e w' => e = .returned (.tuple #[]) ∧ ∃ S', RepV w' S' (fun _ => none) (.val (.slice kKey) (ks.mergeSort (leOf cmp3))) v ∧ Ext (OwnSt (mkS [] [(1, .row kKey false ks)] []).sto m) w S m w' S' m (fun _ _ => False) ∧ ∀ b x, S' b x → b < w'.heap.size :=
  sort_row (kk := kKey) table_Table_api_Field_Keys.lays Go.Proofs.Try.isAgg29 Go.Proofs.Try.sizeOf29 rfl (by decide) cmp3 swo3 tot3 (enters_of Go.Proofs.Try.func120 (by kernel_rfl) rfl) (cmp_calls (kk := kKey) key_Compare.ok Go.Proofs.Try.func120 (by kernel_rfl) (by kernel_rfl) rfl rfl cmp3 (fun x y => table_Table_api_Field_Keys.hcf x y)) hl hr hv
open Go.RowKit Go.Sort Go.Shelf Go.Proofs in
theorem table_Table_api_Field_Keys.keysC : KeysCall Go.Proofs.Try.prog 119 149 122 := by
  intro mb w
  go_enter Go.Proofs.Try.func119, Go.Proofs.Try.ntmps119
  go_wp2
  go_ret
  exact ⟨rfl, rfl⟩
open Go.RowKit Go.Sort Go.Shelf Go.Proofs in
theorem table_Table_api_Field_Keys.collect {w : World} {S : Cells} (hl : ∀ b x, S b x → b < w.heap.size) {bx : Value} {ok : List (El kKey) → Prop} {N : Nat} (hN : N ≤ 4294967296) (hG : KGives Go.Proofs.Try.prog 149 bx kKey ok N w) :
    Calls Go.Proofs.Try.prog 147 #[.func (.func 149) #[] #[bx]] w fun e w' => ∃ v ks S' m', e = .returned v ∧ ok ks ∧ RepV w' S' m' (.row 1) v ∧ StoRel (mkS [] [(1, .row kKey false ks)] []).sto w' S' m' ∧ Ext (fun _ _ => False) w S (fun _ => none) w' S' (fun _ => none) (OwnSt (mkS [] [(1, .row kKey false ks)] []).sto m') := by
  have h := appseq table_Table_api_Field_Keys.ctxA table_Table_api_Field_Keys.asq rfl hl (Go.Proofs.Try.func149 : _) (by kernel_rfl) (by kernel_rfl) hN hG
  clear hG hl
  go_enter Go.Proofs.Try.func147, Go.Proofs.Try.ntmps147
  go_wp2_with (go_at_call 160; refine h.mono ?_; rintro e w' ⟨v, ks, S1, m1, rfl, h1, h2, h3, h4⟩)
  go_ret
  exact ⟨v, ks, S1, m1, rfl, h1, h2, h3, h4⟩
open Go.RowKit Go.Sort Go.Shelf Go.Proofs in
theorem table_Table_api_Field_Keys.sortedC : SortedCall Go.Proofs.Try.prog 118 149 120 kKey (leOf cmp3) := by
  intro w S bx ok N hG hl hN hok
  have h := table_Table_api_Field_Keys.collect hl hN hG
  clear hG hl
  have hsort := table_Table_api_Field_Keys.sortC
  go_enter Go.Proofs.Try.func118, Go.Proofs.Try.ntmps118
  go_wp2_with (first
    | (go_at_call 147; refine h.mono ?_; rintro e w' ⟨v, ks, S1, m1, rfl, h1, h2, h3, h4⟩)
    | (go_at_call 148; refine (hsort _ S1 m1 ks v (by have := hok ks h1; omega) h3 h2).mono ?_; rintro e w' ⟨rfl, S2, g1, g2, g3⟩))
  go_ret
  exact ⟨v, ks, S2, rfl, h1, g1, h4.trans g2.drop, g3⟩
set_option maxRecDepth 100000 in
open Go.RowKit Go.Sort Go.Shelf Go.Proofs in
theorem table_Table_api_Field_Keys.run : TabRun Go.Proofs.Try.prog 97 149 122 kKey (leOf cmp3) := by
  intro w S b o r ok N hc hG hl hN hok
  have hk := table_Table_api_Field_Keys.keysC (some r) w
  have hs := table_Table_api_Field_Keys.sortedC _ S _ ok N hG hl hN hok
  clear hG hl
  go_enter Go.Proofs.Try.func97, Go.Proofs.Try.ntmps97
  go_wp2_with (first
    | (go_at_call 119; refine hk.mono ?_; rintro e w' ⟨rfl, rfl⟩)
    | (go_at_call 118; refine hs.mono ?_; rintro e w' ⟨v, ks, S1, rfl, h1, h2, h3, h4⟩))
  go_ret
  exact ⟨v, ks, S1, rfl, h1, h2, h3, h4⟩
set_option maxRecDepth 100000 in
theorem table_Table_api_Field_Keys.ok : Sound Go.Proofs.Try.prog 97 table_Table_api_Field_Keys.sig := tabkeys_sound Go.Proofs.Try.func97 (by kernel_rfl) (by kernel_rfl) table_Table_api_Field_Keys.ctxK table_Table_api_Field_Keys.kit rfl swo3 tot3 inferInstance table_Table_api_Field_Keys.run

def fund_Fund_Keys (x0 : Unit) (o0 : Unit × Unit) (o1 : Unit × Unit) (o2 : List ((Int × Int × Int × Unit) × Int × Int × Int × Int × Int × Int × Unit)) : Option ((List (Int × Int × Int × Unit)) × (Unit × Unit) × (Unit × Unit) × (List ((Int × Int × Int × Unit) × Int × Int × Int × Int × Int × Int × Unit)) × Unit) :=
  (fund_Fund_all () ((), o0.2) ((), o1.2) o2).bind fun r3 => (table_Table_api_Field_Keys r3.2.2.2.1).bind fun r4 => some (r4.1, (((), r3.2.1.2), (((), r4.2.1.2), (r4.2.2.1, ()))))
def fund_Fund_Keys.C : Ctx := { ty := tyT, sigs := fun i => bif Nat.beq i 77 then [fund_Fund_all.sig] else bif Nat.beq i 97 then [table_Table_api_Field_Keys.sig] else [], n := 6, mp := mpT }
def fund_Fund_Keys.Q : Cuts := { np := 3, loops := fun i => none, seqs := fun i => none, splits := fun i => none }
def fund_Fund_Keys.sig : Sig := { args := .tc (.ptr 0) .tn, objs := [.cell (.cons (.ref 0) .unit) (.pair (.ptr 1) (.val .unit)), .cell (.cons (.ref 1) .unit) (.pair (.mapr 2) (.val .unit)), .map kKey kField], ret := .val (.slice kKey), outs := [.cell (.cons (.ref 0) .unit) (.pair (.ptr 1) (.val .unit)), .cell (.cons (.ref 1) .unit) (.pair (.mapr 2) (.val .unit)), .map kKey kField], F := fun x => fund_Fund_Keys x.1.1 x.2.1 x.2.2.1 x.2.2.2.1 }
theorem fund_Fund_Keys.eq : (fun x => body fund_Fund_Keys.C fund_Fund_Keys.Q Go.Proofs.Try.f74 fund_Fund_Keys.sig.args fund_Fund_Keys.sig.objs fund_Fund_Keys.sig.ret fund_Fund_Keys.sig.outs x) = fund_Fund_Keys.sig.F := by
  kernel_rfl
set_option maxRecDepth 100000 in
theorem fund_Fund_Keys.ctx : CtxOk Go.Proofs.Try.prog fund_Fund_Keys.C := ⟨tyOk, mpOk, Nat.le_of_ble_eq_true (by kernel_rfl), fun f sg => fun h => sigs_if h (allS_cons fund_Fund_all.ok allS_nil) (fun h => sigs_if h (allS_cons table_Table_api_Field_Keys.ok allS_nil) ((fun h => by cases h)))⟩
set_option maxRecDepth 100000 in
theorem fund_Fund_Keys.ok : Sound Go.Proofs.Try.prog 74 fund_Fund_Keys.sig := body_sound (C := fund_Fund_Keys.C) (q := fund_Fund_Keys.Q) (fn := Go.Proofs.Try.f74) (sg := fund_Fund_Keys.sig) (n := 1) fund_Fund_Keys.ctx follows Go.Proofs.Try.func74 (by kernel_rfl) (by kernel_rfl) (by kernel_rfl) (by kernel_rfl) (Nat.le_of_ble_eq_true (by kernel_rfl)) (by kernel_rfl) fund_Fund_Keys.eq

def table_Table_api_Field_Get (x0 : Unit) (x1 : Int × Int × Int × Unit) (o0 : Unit × Unit) (o1 : List ((Int × Int × Int × Unit) × Int × Int × Int × Int × Int × Int × Unit)) : Option (((Int × Int × Int × Int × Int × Int × Unit) × Bool × Unit) × (Unit × Unit) × (List ((Int × Int × Int × Unit) × Int × Int × Int × Int × Int × Int × Unit)) × Unit) :=
  some ((getM kKey kField o1 x1, (hasM kKey kField o1 x1, ())), (((), o0.2), (o1, ())))
def table_Table_api_Field_Get.C : Ctx := { ty := tyT, sigs := fun i => [], n := 20, mp := mpT }
def table_Table_api_Field_Get.Q : Cuts := { np := 2, loops := fun i => none, seqs := fun i => none, splits := fun i => none }
def table_Table_api_Field_Get.sig : Sig := { args := .tc (.ptr 0) (.tc (.val kKey) .tn), objs := [.cell (.cons (.ref 1) .unit) (.pair (.mapr 1) (.val .unit)), .map kKey kField], ret := .tup (.tc (.val kField) (.tc (.val .bool) .tn)), outs := [.cell (.cons (.ref 1) .unit) (.pair (.mapr 1) (.val .unit)), .map kKey kField], F := fun x => table_Table_api_Field_Get x.1.1 x.1.2.1 x.2.1 x.2.2.1 }
theorem table_Table_api_Field_Get.eq : (fun x => body table_Table_api_Field_Get.C table_Table_api_Field_Get.Q Go.Proofs.Try.f78 table_Table_api_Field_Get.sig.args table_Table_api_Field_Get.sig.objs table_Table_api_Field_Get.sig.ret table_Table_api_Field_Get.sig.outs x) = table_Table_api_Field_Get.sig.F := by
  kernel_rfl
set_option maxRecDepth 100000 in
theorem table_Table_api_Field_Get.ctx : CtxOk Go.Proofs.Try.prog table_Table_api_Field_Get.C := ⟨tyOk, mpOk, Nat.le_of_ble_eq_true (by kernel_rfl), fun f sg => (fun h => by cases h)⟩
set_option maxRecDepth 100000 in
theorem table_Table_api_Field_Get.ok : Sound Go.Proofs.Try.prog 78 table_Table_api_Field_Get.sig := body_sound (C := table_Table_api_Field_Get.C) (q := table_Table_api_Field_Get.Q) (fn := Go.Proofs.Try.f78) (sg := table_Table_api_Field_Get.sig) (n := 2) table_Table_api_Field_Get.ctx follows Go.Proofs.Try.func78 (by kernel_rfl) (by kernel_rfl) (by kernel_rfl) (by kernel_rfl) (Nat.le_of_ble_eq_true (by kernel_rfl)) (by kernel_rfl) table_Table_api_Field_Get.eq

def fund_Fund_Get (x0 : Unit) (x1 : Int × Int × Int × Unit) (o0 : Unit × Unit) (o1 : Unit × Unit) (o2 : List ((Int × Int × Int × Unit) × Int × Int × Int × Int × Int × Int × Unit)) : Option (((Int × Int × Int × Int × Int × Int × Unit) × Bool × Unit) × (Unit × Unit) × (Unit × Unit) × (List ((Int × Int × Int × Unit) × Int × Int × Int × Int × Int × Int × Unit)) × Unit) :=
  (fund_Fund_all () ((), o0.2) ((), o1.2) o2).bind fun r5 => (table_Table_api_Field_Get () x1 ((), r5.2.2.1.2) r5.2.2.2.1).bind fun r6 => some ((r6.1.1, (r6.1.2.1, ())), (((), r5.2.1.2), (((), r6.2.1.2), (r6.2.2.1, ()))))
def fund_Fund_Get.C : Ctx := { ty := tyT, sigs := fun i => bif Nat.beq i 77 then [fund_Fund_all.sig] else bif Nat.beq i 78 then [table_Table_api_Field_Get.sig] else [], n := 12, mp := mpT }
def fund_Fund_Get.Q : Cuts := { np := 3, loops := fun i => none, seqs := fun i => none, splits := fun i => none }
def fund_Fund_Get.sig : Sig := { args := .tc (.ptr 0) (.tc (.val kKey) .tn), objs := [.cell (.cons (.ref 0) .unit) (.pair (.ptr 1) (.val .unit)), .cell (.cons (.ref 1) .unit) (.pair (.mapr 2) (.val .unit)), .map kKey kField], ret := .tup (.tc (.val kField) (.tc (.val .bool) .tn)), outs := [.cell (.cons (.ref 0) .unit) (.pair (.ptr 1) (.val .unit)), .cell (.cons (.ref 1) .unit) (.pair (.mapr 2) (.val .unit)), .map kKey kField], F := fun x => fund_Fund_Get x.1.1 x.1.2.1 x.2.1 x.2.2.1 x.2.2.2.1 }
theorem fund_Fund_Get.eq : (fun x => body fund_Fund_Get.C fund_Fund_Get.Q Go.Proofs.Try.f46 fund_Fund_Get.sig.args fund_Fund_Get.sig.objs fund_Fund_Get.sig.ret fund_Fund_Get.sig.outs x) = fund_Fund_Get.sig.F := by
  kernel_rfl
set_option maxRecDepth 100000 in
theorem fund_Fund_Get.ctx : CtxOk Go.Proofs.Try.prog fund_Fund_Get.C := ⟨tyOk, mpOk, Nat.le_of_ble_eq_true (by kernel_rfl), fun f sg => fun h => sigs_if h (allS_cons fund_Fund_all.ok allS_nil) (fun h => sigs_if h (allS_cons table_Table_api_Field_Get.ok allS_nil) ((fun h => by cases h)))⟩
set_option maxRecDepth 100000 in
theorem fund_Fund_Get.ok : Sound Go.Proofs.Try.prog 46 fund_Fund_Get.sig := body_sound (C := fund_Fund_Get.C) (q := fund_Fund_Get.Q) (fn := Go.Proofs.Try.f46) (sg := fund_Fund_Get.sig) (n := 2) fund_Fund_Get.ctx follows Go.Proofs.Try.func46 (by kernel_rfl) (by kernel_rfl) (by kernel_rfl) (by kernel_rfl) (Nat.le_of_ble_eq_true (by kernel_rfl)) (by kernel_rfl) fund_Fund_Get.eq

def pledgelaw18_sameRows.l1 (v : (Unit × (List ((Int × Int × Int × Unit) × (Int × Int × Int × Int × Int × Int × Unit) × Unit)) × (List (Int × Int × Int × Unit)) × Int) × (Unit × Unit) × (Unit × Unit) × (List ((Int × Int × Int × Unit) × Int × Int × Int × Int × Int × Int × Unit)) × Unit) : Option (((Unit × (List ((Int × Int × Int × Unit) × (Int × Int × Int × Int × Int × Int × Unit) × Unit)) × (List (Int × Int × Int × Unit)) × Int) × (Unit × Unit) × (Unit × Unit) × (List ((Int × Int × Int × Unit) × Int × Int × Int × Int × Int × Int × Unit)) × Unit) ⊕ ((Unit × (Unit × Unit) × (Unit × Unit) × (List ((Int × Int × Int × Unit) × Int × Int × Int × Int × Int × Int × Unit)) × Unit) ⊕ (Bool × (Unit × Unit) × (Unit × Unit) × (List ((Int × Int × Int × Unit) × Int × Int × Int × Int × Int × Int × Unit)) × Unit))) :=
  bif decide (v.1.2.2.2 < (v.1.2.1.length : Int)) then nthK v.1.2.1 v.1.2.2.2 fun e4 => (fund_Fund_Get () e4.1 ((), v.2.1.2) ((), v.2.2.1.2) v.2.2.2.1).bind fun r5 => nthK v.1.2.2.1 v.1.2.2.2 fun e6 => nthK v.1.2.1 v.1.2.2.2 fun e7 => bif !(eqE kKey e6 e7.1) then some (Sum.inr (Sum.inr (false, (((), r5.2.1.2), (((), r5.2.2.1.2), (r5.2.2.2.1, ())))))) else bif !r5.1.2.1 then some (Sum.inr (Sum.inr (false, (((), r5.2.1.2), (((), r5.2.2.1.2), (r5.2.2.2.1, ())))))) else nthK v.1.2.1 v.1.2.2.2 fun e8 => bif !(eqE kField r5.1.1 e8.2.1) then some (Sum.inr (Sum.inr (false, (((), r5.2.1.2), (((), r5.2.2.1.2), (r5.2.2.2.1, ())))))) else some (Sum.inl (((), (v.1.2.1, (v.1.2.2.1, IntKind.i64.wrap (v.1.2.2.2 + 1)))), (((), r5.2.1.2), (((), r5.2.2.1.2), (r5.2.2.2.1, ()))))) else some (Sum.inr (Sum.inl ((), (((), v.2.1.2), (((), v.2.2.1.2), (v.2.2.2.1, ()))))))
def pledgelaw18_sameRows (x0 : Unit) (x1 : List ((Int × Int × Int × Unit) × (Int × Int × Int × Int × Int × Int × Unit) × Unit)) (o0 : Unit × Unit) (o1 : Unit × Unit) (o2 : List ((Int × Int × Int × Unit) × Int × Int × Int × Int × Int × Int × Unit)) : Option (Bool × (Unit × Unit) × (Unit × Unit) × (List ((Int × Int × Int × Unit) × Int × Int × Int × Int × Int × Int × Unit)) × Unit) :=
  (fund_Fund_Keys () ((), o0.2) ((), o1.2) o2).bind fun r3 => bif ((r3.1.length : Int) : Int) != (x1.length : Int) then some (false, (((), r3.2.1.2), (((), r3.2.2.1.2), (r3.2.2.2.1, ())))) else (iterL pledgelaw18_sameRows.l1 loopN (((), (x1, (r3.1, 0))), (((), r3.2.1.2), (((), r3.2.2.1.2), (r3.2.2.2.1, ()))))).bind fun y9 => (match y9 with | .inl y10 => some (true, (((), y10.2.1.2), (((), y10.2.2.1.2), (y10.2.2.2.1, ())))) | .inr y11 => some (y11.1, (((), y11.2.1.2), (((), y11.2.2.1.2), (y11.2.2.2.1, ())))))
def pledgelaw18_sameRows.C : Ctx := { ty := tyT, sigs := fun i => bif Nat.beq i 46 then [fund_Fund_Get.sig] else bif Nat.beq i 74 then [fund_Fund_Keys.sig] else [], n := 55, mp := mpT }
def pledgelaw18_sameRows.Q : Cuts := { np := 3, loops := fun i => bif Nat.beq i 5 then some ({ env := [(0, .ptr 0), (1, .val (.slice kRow)), (5, .val (.slice kKey)), (6, .val (.int .i64))], objs := [.cell (.cons (.ref 0) .unit) (.pair (.ptr 1) (.val .unit)), .cell (.cons (.ref 1) .unit) (.pair (.mapr 2) (.val .unit)), .map kKey kField] }, [(.exit 0, { env := [], objs := [.cell (.cons (.ref 0) .unit) (.pair (.ptr 1) (.val .unit)), .cell (.cons (.ref 1) .unit) (.pair (.mapr 2) (.val .unit)), .map kKey kField] }), (.ret, { env := [(4, .val .bool)], objs := [.cell (.cons (.ref 0) .unit) (.pair (.ptr 1) (.val .unit)), .cell (.cons (.ref 1) .unit) (.pair (.mapr 2) (.val .unit)), .map kKey kField] })]) else none, seqs := fun i => none, splits := fun i => none }
def pledgelaw18_sameRows.sig : Sig := { args := .tc (.ptr 0) (.tc (.val (.slice kRow)) .tn), objs := [.cell (.cons (.ref 0) .unit) (.pair (.ptr 1) (.val .unit)), .cell (.cons (.ref 1) .unit) (.pair (.mapr 2) (.val .unit)), .map kKey kField], ret := .val .bool, outs := [.cell (.cons (.ref 0) .unit) (.pair (.ptr 1) (.val .unit)), .cell (.cons (.ref 1) .unit) (.pair (.mapr 2) (.val .unit)), .map kKey kField], F := fun x => pledgelaw18_sameRows x.1.1 x.1.2.1 x.2.1 x.2.2.1 x.2.2.2.1 }
theorem pledgelaw18_sameRows.eq : (fun x => body pledgelaw18_sameRows.C pledgelaw18_sameRows.Q Go.Proofs.Try.f42 pledgelaw18_sameRows.sig.args pledgelaw18_sameRows.sig.objs pledgelaw18_sameRows.sig.ret pledgelaw18_sameRows.sig.outs x) = pledgelaw18_sameRows.sig.F := by
  kernel_rfl
set_option maxRecDepth 100000 in
theorem pledgelaw18_sameRows.ctx : CtxOk Go.Proofs.Try.prog pledgelaw18_sameRows.C := ⟨tyOk, mpOk, Nat.le_of_ble_eq_true (by kernel_rfl), fun f sg => fun h => sigs_if h (allS_cons fund_Fund_Get.ok allS_nil) (fun h => sigs_if h (allS_cons fund_Fund_Keys.ok allS_nil) ((fun h => by cases h)))⟩
set_option maxRecDepth 100000 in
theorem pledgelaw18_sameRows.ok : Sound Go.Proofs.Try.prog 42 pledgelaw18_sameRows.sig := body_sound (C := pledgelaw18_sameRows.C) (q := pledgelaw18_sameRows.Q) (fn := Go.Proofs.Try.f42) (sg := pledgelaw18_sameRows.sig) (n := 2) pledgelaw18_sameRows.ctx follows Go.Proofs.Try.func42 (by kernel_rfl) (by kernel_rfl) (by kernel_rfl) (by kernel_rfl) (Nat.le_of_ble_eq_true (by kernel_rfl)) (by kernel_rfl) pledgelaw18_sameRows.eq

def pledgelaw18_Same (x0 : Unit) (x1 : List ((Int × Int × Int × Unit) × (Int × Int × Int × Int × Int × Int × Unit) × Unit)) (o0 : Unit × Unit) (o1 : Unit × Unit) (o2 : List ((Int × Int × Int × Unit) × Int × Int × Int × Int × Int × Int × Unit)) : Option (Int × (Unit × Unit) × (Unit × Unit) × (List ((Int × Int × Int × Unit) × Int × Int × Int × Int × Int × Int × Unit)) × Unit) :=
  (pledgelaw18_sameRows () x1 ((), o0.2) ((), o1.2) o2).bind fun r3 => bif r3.1 then some (1, (((), r3.2.1.2), (((), r3.2.2.1.2), (r3.2.2.2.1, ())))) else some (0, (((), r3.2.1.2), (((), r3.2.2.1.2), (r3.2.2.2.1, ()))))
def pledgelaw18_Same.C : Ctx := { ty := tyT, sigs := fun i => bif Nat.beq i 42 then [pledgelaw18_sameRows.sig] else [], n := 8, mp := mpT }
def pledgelaw18_Same.Q : Cuts := { np := 3, loops := fun i => none, seqs := fun i => none, splits := fun i => none }
def pledgelaw18_Same.sig : Sig := { args := .tc (.ptr 0) (.tc (.val (.slice kRow)) .tn), objs := [.cell (.cons (.ref 0) .unit) (.pair (.ptr 1) (.val .unit)), .cell (.cons (.ref 1) .unit) (.pair (.mapr 2) (.val .unit)), .map kKey kField], ret := .val (.int .i64), outs := [.cell (.cons (.ref 0) .unit) (.pair (.ptr 1) (.val .unit)), .cell (.cons (.ref 1) .unit) (.pair (.mapr 2) (.val .unit)), .map kKey kField], F := fun x => pledgelaw18_Same x.1.1 x.1.2.1 x.2.1 x.2.2.1 x.2.2.2.1 }
theorem pledgelaw18_Same.eq : (fun x => body pledgelaw18_Same.C pledgelaw18_Same.Q Go.Proofs.Try.f12 pledgelaw18_Same.sig.args pledgelaw18_Same.sig.objs pledgelaw18_Same.sig.ret pledgelaw18_Same.sig.outs x) = pledgelaw18_Same.sig.F := by
  kernel_rfl
set_option maxRecDepth 100000 in
theorem pledgelaw18_Same.ctx : CtxOk Go.Proofs.Try.prog pledgelaw18_Same.C := ⟨tyOk, mpOk, Nat.le_of_ble_eq_true (by kernel_rfl), fun f sg => fun h => sigs_if h (allS_cons pledgelaw18_sameRows.ok allS_nil) ((fun h => by cases h))⟩
set_option maxRecDepth 100000 in
theorem pledgelaw18_Same.ok : Sound Go.Proofs.Try.prog 12 pledgelaw18_Same.sig := body_sound (C := pledgelaw18_Same.C) (q := pledgelaw18_Same.Q) (fn := Go.Proofs.Try.f12) (sg := pledgelaw18_Same.sig) (n := 2) pledgelaw18_Same.ctx follows Go.Proofs.Try.func12 (by kernel_rfl) (by kernel_rfl) (by kernel_rfl) (by kernel_rfl) (Nat.le_of_ble_eq_true (by kernel_rfl)) (by kernel_rfl) pledgelaw18_Same.eq

def pledgeref18_Get.l1 (v : ((List ((Int × Int × Int × Unit) × (Int × Int × Int × Int × Int × Int × Unit) × Unit)) × Unit × Unit × Int) × (Int × Int × Int × Unit) × (Int × Int × Int × Int × Int × Int × Unit) × Unit) : Option ((((List ((Int × Int × Int × Unit) × (Int × Int × Int × Int × Int × Int × Unit) × Unit)) × Unit × Unit × Int) × (Int × Int × Int × Unit) × (Int × Int × Int × Int × Int × Int × Unit) × Unit) ⊕ ((Unit × (Int × Int × Int × Int × Int × Int × Unit) × Unit) ⊕ ((Unit × Bool) × (Int × Int × Int × Int × Int × Int × Unit) × Unit))) :=
  bif decide (v.1.2.2.2 < (v.1.1.length : Int)) then nthK v.1.1 v.1.2.2.2 fun e6 => bif eqE kKey e6.1 v.2.1 then nthK v.1.1 v.1.2.2.2 fun e7 => some (Sum.inr (Sum.inr (((), true), (e7.2.1, ())))) else some (Sum.inl ((v.1.1, ((), ((), IntKind.i64.wrap (v.1.2.2.2 + 1)))), (v.2.1, (v.2.2.1, ())))) else some (Sum.inr (Sum.inl ((), (v.2.2.1, ()))))
def pledgeref18_Get (x0 : List ((Int × Int × Int × Unit) × (Int × Int × Int × Int × Int × Int × Unit) × Unit)) (x1 : Int × Int × Int × Unit) : Option ((Int × Int × Int × Int × Int × Int × Unit) × Bool × Unit) :=
  (iterL pledgeref18_Get.l1 loopN ((x0, ((), ((), 0))), (x1, ((0, (0, (0, (0, (0, (0, ())))))), ())))).bind fun y8 => (match y8 with | .inl y9 => some ((0, (0, (0, (0, (0, (0, ())))))), (false, ())) | .inr y10 => some (y10.2.1, (y10.1.2, ())))
def pledgeref18_Get.C : Ctx := { ty := tyT, sigs := fun i => [], n := 26, mp := mpT }
def pledgeref18_Get.Q : Cuts := { np := 0, loops := fun i => bif Nat.beq i 2 then some ({ env := [(0, .val (.slice kRow)), (3, .ptr 0), (4, .ptr 1), (6, .val (.int .i64))], objs := [.cell kKey (.val kKey), .cell kField (.val kField)] }, [(.exit 0, { env := [(4, .ptr 0)], objs := [.cell kField (.val kField)] }), (.ret, { env := [(4, .ptr 0), (5, .val .bool)], objs := [.cell kField (.val kField)] })]) else none, seqs := fun i => none, splits := fun i => none }
def pledgeref18_Get.sig : Sig := { args := .tc (.val (.slice kRow)) (.tc (.val kKey) .tn), objs := [], ret := .tup (.tc (.val kField) (.tc (.val .bool) .tn)), outs := [], F := fun x => pledgeref18_Get x.1.1 x.1.2.1 }
theorem pledgeref18_Get.eq : (fun x => body pledgeref18_Get.C pledgeref18_Get.Q Go.Proofs.Try.f47 pledgeref18_Get.sig.args pledgeref18_Get.sig.objs pledgeref18_Get.sig.ret pledgeref18_Get.sig.outs x) = pledgeref18_Get.sig.F := by
  kernel_rfl
set_option maxRecDepth 100000 in
theorem pledgeref18_Get.ctx : CtxOk Go.Proofs.Try.prog pledgeref18_Get.C := ⟨tyOk, mpOk, Nat.le_of_ble_eq_true (by kernel_rfl), fun f sg => (fun h => by cases h)⟩
set_option maxRecDepth 100000 in
theorem pledgeref18_Get.ok : Sound Go.Proofs.Try.prog 47 pledgeref18_Get.sig := body_sound (C := pledgeref18_Get.C) (q := pledgeref18_Get.Q) (fn := Go.Proofs.Try.f47) (sg := pledgeref18_Get.sig) (n := 2) pledgeref18_Get.ctx follows Go.Proofs.Try.func47 (by kernel_rfl) (by kernel_rfl) (by kernel_rfl) (by kernel_rfl) (Nat.le_of_ble_eq_true (by kernel_rfl)) (by kernel_rfl) pledgeref18_Get.eq

def pledgeref17_Good (x0 : Int × Int × Int × Int × Int × Int × Unit) : Option Bool :=
  bif decide (x0.1 ≤ x0.2.2.2.1) then bif decide (x0.2.2.2.1 ≤ x0.2.2.1) then bif decide (x0.2.2.2.1 ≤ x0.2.2.2.2.2.1) then bif decide (x0.2.2.1 ≤ x0.2.2.2.2.1) then bif decide (x0.2.2.2.2.2.1 ≤ x0.2.2.2.2.1) then some (decide (x0.2.2.2.2.1 ≤ x0.2.1)) else some false else some false else some false else some false else some false
def pledgeref17_Good.C : Ctx := { ty := tyT, sigs := fun i => [], n := 43, mp := mpT }
def pledgeref17_Good.Q : Cuts := { np := 0, loops := fun i => none, seqs := fun i => none, splits := fun i => none }
def pledgeref17_Good.sig : Sig := { args := .tc (.val kField) .tn, objs := [], ret := .val .bool, outs := [], F := fun x => pledgeref17_Good x.1.1 }
theorem pledgeref17_Good.eq : (fun x => body pledgeref17_Good.C pledgeref17_Good.Q Go.Proofs.Try.f82 pledgeref17_Good.sig.args pledgeref17_Good.sig.objs pledgeref17_Good.sig.ret pledgeref17_Good.sig.outs x) = pledgeref17_Good.sig.F := by
  kernel_rfl
set_option maxRecDepth 100000 in
theorem pledgeref17_Good.ctx : CtxOk Go.Proofs.Try.prog pledgeref17_Good.C := ⟨tyOk, mpOk, Nat.le_of_ble_eq_true (by kernel_rfl), fun f sg => (fun h => by cases h)⟩
set_option maxRecDepth 100000 in
theorem pledgeref17_Good.ok : Sound Go.Proofs.Try.prog 82 pledgeref17_Good.sig := body_sound (C := pledgeref17_Good.C) (q := pledgeref17_Good.Q) (fn := Go.Proofs.Try.f82) (sg := pledgeref17_Good.sig) (n := 1) pledgeref17_Good.ctx follows Go.Proofs.Try.func82 (by kernel_rfl) (by kernel_rfl) (by kernel_rfl) (by kernel_rfl) (Nat.le_of_ble_eq_true (by kernel_rfl)) (by kernel_rfl) pledgeref17_Good.eq

def pledgeref17_first (x0 : Int × Int × Int × Int × Int × Int × Unit) (x1 : Int) : Option Int :=
  (pledgeref17_Good x0).bind fun r7 => bif !r7 then some 12 else bif (x1 : Int) == 0 then some 1 else bif decide (x1 < (-9223372036854775807)) then some 1 else some 0
def pledgeref17_first.C : Ctx := { ty := tyT, sigs := fun i => bif Nat.beq i 82 then [pledgeref17_Good.sig] else [], n := 14, mp := mpT }
def pledgeref17_first.Q : Cuts := { np := 0, loops := fun i => none, seqs := fun i => none, splits := fun i => none }
def pledgeref17_first.sig : Sig := { args := .tc (.val kField) (.tc (.val (.int .i64)) .tn), objs := [], ret := .val (.int .i64), outs := [], F := fun x => pledgeref17_first x.1.1 x.1.2.1 }
theorem pledgeref17_first.eq : (fun x => body pledgeref17_first.C pledgeref17_first.Q Go.Proofs.Try.f79 pledgeref17_first.sig.args pledgeref17_first.sig.objs pledgeref17_first.sig.ret pledgeref17_first.sig.outs x) = pledgeref17_first.sig.F := by
  kernel_rfl
set_option maxRecDepth 100000 in
theorem pledgeref17_first.ctx : CtxOk Go.Proofs.Try.prog pledgeref17_first.C := ⟨tyOk, mpOk, Nat.le_of_ble_eq_true (by kernel_rfl), fun f sg => fun h => sigs_if h (allS_cons pledgeref17_Good.ok allS_nil) ((fun h => by cases h))⟩
set_option maxRecDepth 100000 in
theorem pledgeref17_first.ok : Sound Go.Proofs.Try.prog 79 pledgeref17_first.sig := body_sound (C := pledgeref17_first.C) (q := pledgeref17_first.Q) (fn := Go.Proofs.Try.f79) (sg := pledgeref17_first.sig) (n := 2) pledgeref17_first.ctx follows Go.Proofs.Try.func79 (by kernel_rfl) (by kernel_rfl) (by kernel_rfl) (by kernel_rfl) (Nat.le_of_ble_eq_true (by kernel_rfl)) (by kernel_rfl) pledgeref17_first.eq

def pledgeref01_halves_v2 (x0 : Int) : Option (Int × Int × Unit) :=
  bif decide (x0 < 0) then none else some (IntKind.i64.wrap (Int.tdiv x0 4294967296), (Int.tmod x0 4294967296, ()))
def pledgeref01_halves_v2.C : Ctx := { ty := tyT, sigs := fun i => [], n := 22, mp := mpT }
def pledgeref01_halves_v2.Q : Cuts := { np := 0, loops := fun i => none, seqs := fun i => none, splits := fun i => none }
def pledgeref01_halves_v2.sig : Sig := { args := .tc (.val (.int .i64)) .tn, objs := [], ret := .val kwide, outs := [], F := fun x => pledgeref01_halves_v2 x.1.1 }
theorem pledgeref01_halves_v2.eq : (fun x => body pledgeref01_halves_v2.C pledgeref01_halves_v2.Q Go.Proofs.Try.f122 pledgeref01_halves_v2.sig.args pledgeref01_halves_v2.sig.objs pledgeref01_halves_v2.sig.ret pledgeref01_halves_v2.sig.outs x) = pledgeref01_halves_v2.sig.F := by
  kernel_rfl
set_option maxRecDepth 100000 in
theorem pledgeref01_halves_v2.ctx : CtxOk Go.Proofs.Try.prog pledgeref01_halves_v2.C := ⟨tyOk, mpOk, Nat.le_of_ble_eq_true (by kernel_rfl), fun f sg => (fun h => by cases h)⟩
set_option maxRecDepth 100000 in
theorem pledgeref01_halves_v2.ok : Sound Go.Proofs.Try.prog 122 pledgeref01_halves_v2.sig := body_sound (C := pledgeref01_halves_v2.C) (q := pledgeref01_halves_v2.Q) (fn := Go.Proofs.Try.f122) (sg := pledgeref01_halves_v2.sig) (n := 1) pledgeref01_halves_v2.ctx follows Go.Proofs.Try.func122 (by kernel_rfl) (by kernel_rfl) (by kernel_rfl) (by kernel_rfl) (Nat.le_of_ble_eq_true (by kernel_rfl)) (by kernel_rfl) pledgeref01_halves_v2.eq

def pledgeref01_halves (x0 : Int) : Option (Int × Int × Unit) :=
  bif decide (x0 < 0) then (pledgeref01_halves_v2 (IntKind.i64.wrap (0 - (IntKind.i64.wrap (x0 + 1))))).bind fun r10 => some (IntKind.i64.wrap ((-1) - r10.1), (IntKind.i64.wrap (4294967295 - r10.2.1), ())) else some (IntKind.i64.wrap (Int.tdiv x0 4294967296), (Int.tmod x0 4294967296, ()))
def pledgeref01_halves.C : Ctx := { ty := tyT, sigs := fun i => bif Nat.beq i 122 then [pledgeref01_halves_v2.sig] else [], n := 22, mp := mpT }
def pledgeref01_halves.Q : Cuts := { np := 0, loops := fun i => none, seqs := fun i => none, splits := fun i => none }
def pledgeref01_halves.sig : Sig := { args := .tc (.val (.int .i64)) .tn, objs := [], ret := .val kwide, outs := [], F := fun x => pledgeref01_halves x.1.1 }
theorem pledgeref01_halves.eq : (fun x => body pledgeref01_halves.C pledgeref01_halves.Q Go.Proofs.Try.f122 pledgeref01_halves.sig.args pledgeref01_halves.sig.objs pledgeref01_halves.sig.ret pledgeref01_halves.sig.outs x) = pledgeref01_halves.sig.F := by
  kernel_rfl
set_option maxRecDepth 100000 in
theorem pledgeref01_halves.ctx : CtxOk Go.Proofs.Try.prog pledgeref01_halves.C := ⟨tyOk, mpOk, Nat.le_of_ble_eq_true (by kernel_rfl), fun f sg => fun h => sigs_if h (allS_cons pledgeref01_halves_v2.ok allS_nil) ((fun h => by cases h))⟩
set_option maxRecDepth 100000 in
theorem pledgeref01_halves.ok : Sound Go.Proofs.Try.prog 122 pledgeref01_halves.sig := body_sound (C := pledgeref01_halves.C) (q := pledgeref01_halves.Q) (fn := Go.Proofs.Try.f122) (sg := pledgeref01_halves.sig) (n := 1) pledgeref01_halves.ctx follows Go.Proofs.Try.func122 (by kernel_rfl) (by kernel_rfl) (by kernel_rfl) (by kernel_rfl) (Nat.le_of_ble_eq_true (by kernel_rfl)) (by kernel_rfl) pledgeref01_halves.eq

def pledgeref01_Sum.l1 (v : (List Int × Unit × Int) × (Int × Int × Unit) × Unit) : Option (((List Int × Unit × Int) × (Int × Int × Unit) × Unit) ⊕ (Unit × (Int × Int × Unit) × Unit)) :=
  bif decide (v.1.2.2 < (v.1.1.length : Int)) then nthK v.1.1 v.1.2.2 fun e9 => (pledgeref01_halves e9).bind fun r10 => bif decide ((IntKind.i64.wrap (v.2.1.2.1 + r10.2.1)) ≥ 4294967296) then some (Sum.inl ((v.1.1, ((), IntKind.i64.wrap (v.1.2.2 + 1))), ((IntKind.i64.wrap ((IntKind.i64.wrap (v.2.1.1 + r10.1)) + 1), (IntKind.i64.wrap ((IntKind.i64.wrap (v.2.1.2.1 + r10.2.1)) - 4294967296), v.2.1.2.2)), ()))) else some (Sum.inl ((v.1.1, ((), IntKind.i64.wrap (v.1.2.2 + 1))), ((IntKind.i64.wrap (v.2.1.1 + r10.1), (IntKind.i64.wrap (v.2.1.2.1 + r10.2.1), v.2.1.2.2)), ()))) else some (Sum.inr ((), (v.2.1, ())))
def pledgeref01_Sum (x0 : List Int) : Option (Int × Bool × Unit) :=
  (iterL pledgeref01_Sum.l1 loopN ((x0, ((), 0)), ((0, (0, ())), ()))).bind fun y11 => bif decide (y11.2.1.1 < (-2147483648)) then some (0, (false, ())) else bif decide (y11.2.1.1 > 2147483647) then some (0, (false, ())) else some (IntKind.i64.wrap ((IntKind.i64.wrap (y11.2.1.1 * 4294967296)) + y11.2.1.2.1), (true, ()))
def pledgeref01_Sum.C : Ctx := { ty := tyT, sigs := fun i => bif Nat.beq i 122 then [pledgeref01_halves.sig] else [], n := 56, mp := mpT }
def pledgeref01_Sum.Q : Cuts := { np := 0, loops := fun i => bif Nat.beq i 3 then some ({ env := [(0, .val (.slice (.int .i64))), (4, .ptr 0), (5, .val (.int .i64))], objs := [.cell kwide (.val kwide)] }, [(.exit 0, { env := [(4, .ptr 0)], objs := [.cell kwide (.val kwide)] })]) else none, seqs := fun i => none, splits := fun i => none }
def pledgeref01_Sum.sig : Sig := { args := .tc (.val (.slice (.int .i64))) .tn, objs := [], ret := .tup (.tc (.val (.int .i64)) (.tc (.val .bool) .tn)), outs := [], F := fun x => pledgeref01_Sum x.1.1 }
theorem pledgeref01_Sum.eq : (fun x => body pledgeref01_Sum.C pledgeref01_Sum.Q Go.Proofs.Try.f99 pledgeref01_Sum.sig.args pledgeref01_Sum.sig.objs pledgeref01_Sum.sig.ret pledgeref01_Sum.sig.outs x) = pledgeref01_Sum.sig.F := by
  kernel_rfl
set_option maxRecDepth 100000 in
theorem pledgeref01_Sum.ctx : CtxOk Go.Proofs.Try.prog pledgeref01_Sum.C := ⟨tyOk, mpOk, Nat.le_of_ble_eq_true (by kernel_rfl), fun f sg => fun h => sigs_if h (allS_cons pledgeref01_halves.ok allS_nil) ((fun h => by cases h))⟩
set_option maxRecDepth 100000 in
theorem pledgeref01_Sum.ok : Sound Go.Proofs.Try.prog 99 pledgeref01_Sum.sig := body_sound (C := pledgeref01_Sum.C) (q := pledgeref01_Sum.Q) (fn := Go.Proofs.Try.f99) (sg := pledgeref01_Sum.sig) (n := 1) pledgeref01_Sum.ctx follows Go.Proofs.Try.func99 (by kernel_rfl) (by kernel_rfl) (by kernel_rfl) (by kernel_rfl) (Nat.le_of_ble_eq_true (by kernel_rfl)) (by kernel_rfl) pledgeref01_Sum.eq

def pledgeref01_Add (x0 : Int) (x1 : Int) : Option (Int × Bool × Unit) :=
  (pledgeref01_Sum [x0, x1]).bind fun r9 => some (r9.1, (r9.2.1, ()))
def pledgeref01_Add.C : Ctx := { ty := tyT, sigs := fun i => bif Nat.beq i 99 then [pledgeref01_Sum.sig] else [], n := 12, mp := mpT }
def pledgeref01_Add.Q : Cuts := { np := 0, loops := fun i => none, seqs := fun i => none, splits := fun i => none }
def pledgeref01_Add.sig : Sig := { args := .tc (.val (.int .i64)) (.tc (.val (.int .i64)) .tn), objs := [], ret := .tup (.tc (.val (.int .i64)) (.tc (.val .bool) .tn)), outs := [], F := fun x => pledgeref01_Add x.1.1 x.1.2.1 }
theorem pledgeref01_Add.eq : (fun x => body pledgeref01_Add.C pledgeref01_Add.Q Go.Proofs.Try.f80 pledgeref01_Add.sig.args pledgeref01_Add.sig.objs pledgeref01_Add.sig.ret pledgeref01_Add.sig.outs x) = pledgeref01_Add.sig.F := by
  kernel_rfl
set_option maxRecDepth 100000 in
theorem pledgeref01_Add.ctx : CtxOk Go.Proofs.Try.prog pledgeref01_Add.C := ⟨tyOk, mpOk, Nat.le_of_ble_eq_true (by kernel_rfl), fun f sg => fun h => sigs_if h (allS_cons pledgeref01_Sum.ok allS_nil) ((fun h => by cases h))⟩
set_option maxRecDepth 100000 in
theorem pledgeref01_Add.ok : Sound Go.Proofs.Try.prog 80 pledgeref01_Add.sig := body_sound (C := pledgeref01_Add.C) (q := pledgeref01_Add.Q) (fn := Go.Proofs.Try.f80) (sg := pledgeref01_Add.sig) (n := 2) pledgeref01_Add.ctx follows Go.Proofs.Try.func80 (by kernel_rfl) (by kernel_rfl) (by kernel_rfl) (by kernel_rfl) (Nat.le_of_ble_eq_true (by kernel_rfl)) (by kernel_rfl) pledgeref01_Add.eq

def pledgeref17_Grant (x0 : Int × Int × Int × Int × Int × Int × Unit) (x1 : Int) : Option ((Int × Int × Int × Int × Int × Int × Unit) × Int × Unit) :=
  (pledgeref17_first x0 x1).bind fun r7 => bif (r7 : Int) != 0 then some (x0, (r7, ())) else (bif decide (x1 < 0) then some (((x1, ((), ((), ((), x0.2.2.2.1)))), (x0, ((0, (0, (0, (0, (0, (0, ())))))), (x0, ()))))) else some (((x1, ((), ((), ((), x0.2.2.2.2.1)))), (x0, ((0, (0, (0, (0, (0, (0, ())))))), (x0, ()))))) : Option ((Int × Unit × Unit × Unit × Int) × (Int × Int × Int × Int × Int × Int × Unit) × (Int × Int × Int × Int × Int × Int × Unit) × (Int × Int × Int × Int × Int × Int × Unit) × Unit)).bind fun y8 => (pledgeref01_Add y8.1.2.2.2.2 y8.1.1).bind fun r9 => bif !r9.2.1 then some (y8.2.1, (2, ())) else bif decide (r9.1 < y8.2.1.1) then some (y8.2.1, (3, ())) else bif decide (r9.1 > y8.2.1.2.1) then some (y8.2.1, (3, ())) else bif decide (y8.1.1 > 0) then some ((y8.2.2.2.1.1, (y8.2.2.2.1.2.1, (y8.2.2.2.1.2.2.1, (y8.2.2.2.1.2.2.2.1, (r9.1, (IntKind.i64.wrap (y8.2.1.2.2.2.2.2.1 + y8.1.1), y8.2.2.2.1.2.2.2.2.2.2)))))), (0, ())) else some ((y8.2.2.2.1.1, (y8.2.2.2.1.2.1, (y8.2.2.2.1.2.2.1, (r9.1, (y8.2.2.2.1.2.2.2.2.1, (IntKind.i64.wrap (y8.2.1.2.2.2.2.2.1 + y8.1.1), y8.2.2.2.1.2.2.2.2.2.2)))))), (0, ()))
def pledgeref17_Grant.C : Ctx := { ty := tyT, sigs := fun i => bif Nat.beq i 79 then [pledgeref17_first.sig] else bif Nat.beq i 80 then [pledgeref01_Add.sig] else [], n := 57, mp := mpT }
def pledgeref17_Grant.Q : Cuts := { np := 0, loops := fun i => none, seqs := fun i => bif Nat.beq i 8 then some [(.normal, { env := [(1, .val (.int .i64)), (2, .ptr 0), (4, .ptr 1), (7, .ptr 2), (8, .val (.int .i64))], objs := [.cell kField (.val kField), .cell kField (.val kField), .cell kField (.val kField)] })] else none, splits := fun i => none }
def pledgeref17_Grant.sig : Sig := { args := .tc (.val kField) (.tc (.val (.int .i64)) .tn), objs := [], ret := .tup (.tc (.val kField) (.tc (.val (.int .i64)) .tn)), outs := [], F := fun x => pledgeref17_Grant x.1.1 x.1.2.1 }
theorem pledgeref17_Grant.eq : (fun x => body pledgeref17_Grant.C pledgeref17_Grant.Q Go.Proofs.Try.f48 pledgeref17_Grant.sig.args pledgeref17_Grant.sig.objs pledgeref17_Grant.sig.ret pledgeref17_Grant.sig.outs x) = pledgeref17_Grant.sig.F := by
  kernel_rfl
set_option maxRecDepth 100000 in
theorem pledgeref17_Grant.ctx : CtxOk Go.Proofs.Try.prog pledgeref17_Grant.C := ⟨tyOk, mpOk, Nat.le_of_ble_eq_true (by kernel_rfl), fun f sg => fun h => sigs_if h (allS_cons pledgeref17_first.ok allS_nil) (fun h => sigs_if h (allS_cons pledgeref01_Add.ok allS_nil) ((fun h => by cases h)))⟩
set_option maxRecDepth 100000 in
theorem pledgeref17_Grant.ok : Sound Go.Proofs.Try.prog 48 pledgeref17_Grant.sig := body_sound (C := pledgeref17_Grant.C) (q := pledgeref17_Grant.Q) (fn := Go.Proofs.Try.f48) (sg := pledgeref17_Grant.sig) (n := 2) pledgeref17_Grant.ctx follows Go.Proofs.Try.func48 (by kernel_rfl) (by kernel_rfl) (by kernel_rfl) (by kernel_rfl) (Nat.le_of_ble_eq_true (by kernel_rfl)) (by kernel_rfl) pledgeref17_Grant.eq

def pledgeref17_Moved (x0 : Int) : Option (Int × Int × Int × Int × Unit) :=
  bif (x0 : Int) == 1 then some ((-1), (0, (0, ((-1), ())))) else bif (x0 : Int) == 2 then some (0, (1, (1, (0, ())))) else bif (x0 : Int) == 3 then some ((-1), (0, (0, (0, ())))) else bif (x0 : Int) == 4 then some (1, (0, (0, (0, ())))) else some (0, (0, (0, ((-1), ()))))
def pledgeref17_Moved.C : Ctx := { ty := tyT, sigs := fun i => [], n := 17, mp := mpT }
def pledgeref17_Moved.Q : Cuts := { np := 0, loops := fun i => none, seqs := fun i => none, splits := fun i => none }
def pledgeref17_Moved.sig : Sig := { args := .tc (.val (.int .i64)) .tn, objs := [], ret := .val kMove, outs := [], F := fun x => pledgeref17_Moved x.1.1 }
theorem pledgeref17_Moved.eq : (fun x => body pledgeref17_Moved.C pledgeref17_Moved.Q Go.Proofs.Try.f50 pledgeref17_Moved.sig.args pledgeref17_Moved.sig.objs pledgeref17_Moved.sig.ret pledgeref17_Moved.sig.outs x) = pledgeref17_Moved.sig.F := by
  kernel_rfl
set_option maxRecDepth 100000 in
theorem pledgeref17_Moved.ctx : CtxOk Go.Proofs.Try.prog pledgeref17_Moved.C := ⟨tyOk, mpOk, Nat.le_of_ble_eq_true (by kernel_rfl), fun f sg => (fun h => by cases h)⟩
set_option maxRecDepth 100000 in
theorem pledgeref17_Moved.ok : Sound Go.Proofs.Try.prog 50 pledgeref17_Moved.sig := body_sound (C := pledgeref17_Moved.C) (q := pledgeref17_Moved.Q) (fn := Go.Proofs.Try.f50) (sg := pledgeref17_Moved.sig) (n := 1) pledgeref17_Moved.ctx follows Go.Proofs.Try.func50 (by kernel_rfl) (by kernel_rfl) (by kernel_rfl) (by kernel_rfl) (Nat.le_of_ble_eq_true (by kernel_rfl)) (by kernel_rfl) pledgeref17_Moved.eq

def pledgeref01_Sub (x0 : Int) (x1 : Int) : Option (Int × Bool × Unit) :=
  bif decide (x1 < (-9223372036854775807)) then (pledgeref01_Sum [x0, 9223372036854775807, 1]).bind fun r12 => some (r12.1, (r12.2.1, ())) else (pledgeref01_Sum [x0, IntKind.i64.wrap (0 - x1)]).bind fun r13 => some (r13.1, (r13.2.1, ()))
def pledgeref01_Sub.C : Ctx := { ty := tyT, sigs := fun i => bif Nat.beq i 99 then [pledgeref01_Sum.sig] else [], n := 20, mp := mpT }
def pledgeref01_Sub.Q : Cuts := { np := 0, loops := fun i => none, seqs := fun i => none, splits := fun i => none }
def pledgeref01_Sub.sig : Sig := { args := .tc (.val (.int .i64)) (.tc (.val (.int .i64)) .tn), objs := [], ret := .tup (.tc (.val (.int .i64)) (.tc (.val .bool) .tn)), outs := [], F := fun x => pledgeref01_Sub x.1.1 x.1.2.1 }
theorem pledgeref01_Sub.eq : (fun x => body pledgeref01_Sub.C pledgeref01_Sub.Q Go.Proofs.Try.f100 pledgeref01_Sub.sig.args pledgeref01_Sub.sig.objs pledgeref01_Sub.sig.ret pledgeref01_Sub.sig.outs x) = pledgeref01_Sub.sig.F := by
  kernel_rfl
set_option maxRecDepth 100000 in
theorem pledgeref01_Sub.ctx : CtxOk Go.Proofs.Try.prog pledgeref01_Sub.C := ⟨tyOk, mpOk, Nat.le_of_ble_eq_true (by kernel_rfl), fun f sg => fun h => sigs_if h (allS_cons pledgeref01_Sum.ok allS_nil) ((fun h => by cases h))⟩
set_option maxRecDepth 100000 in
theorem pledgeref01_Sub.ok : Sound Go.Proofs.Try.prog 100 pledgeref01_Sub.sig := body_sound (C := pledgeref01_Sub.C) (q := pledgeref01_Sub.Q) (fn := Go.Proofs.Try.f100) (sg := pledgeref01_Sub.sig) (n := 2) pledgeref01_Sub.ctx follows Go.Proofs.Try.func100 (by kernel_rfl) (by kernel_rfl) (by kernel_rfl) (by kernel_rfl) (Nat.le_of_ble_eq_true (by kernel_rfl)) (by kernel_rfl) pledgeref01_Sub.eq

def pledgeref17_times (x0 : Int) (x1 : Int) (x2 : Int) : Option (Int × Bool × Unit) :=
  bif (x2 : Int) == 0 then some (x0, (true, ())) else bif decide (x2 > 0) then (pledgeref01_Add x0 x1).bind fun r11 => some (r11.1, (r11.2.1, ())) else (pledgeref01_Sub x0 x1).bind fun r12 => some (r12.1, (r12.2.1, ()))
def pledgeref17_times.C : Ctx := { ty := tyT, sigs := fun i => bif Nat.beq i 80 then [pledgeref01_Add.sig] else bif Nat.beq i 100 then [pledgeref01_Sub.sig] else [], n := 23, mp := mpT }
def pledgeref17_times.Q : Cuts := { np := 0, loops := fun i => none, seqs := fun i => none, splits := fun i => none }
def pledgeref17_times.sig : Sig := { args := .tc (.val (.int .i64)) (.tc (.val (.int .i64)) (.tc (.val (.int .i64)) .tn)), objs := [], ret := .tup (.tc (.val (.int .i64)) (.tc (.val .bool) .tn)), outs := [], F := fun x => pledgeref17_times x.1.1 x.1.2.1 x.1.2.2.1 }
theorem pledgeref17_times.eq : (fun x => body pledgeref17_times.C pledgeref17_times.Q Go.Proofs.Try.f81 pledgeref17_times.sig.args pledgeref17_times.sig.objs pledgeref17_times.sig.ret pledgeref17_times.sig.outs x) = pledgeref17_times.sig.F := by
  kernel_rfl
set_option maxRecDepth 100000 in
theorem pledgeref17_times.ctx : CtxOk Go.Proofs.Try.prog pledgeref17_times.C := ⟨tyOk, mpOk, Nat.le_of_ble_eq_true (by kernel_rfl), fun f sg => fun h => sigs_if h (allS_cons pledgeref01_Add.ok allS_nil) (fun h => sigs_if h (allS_cons pledgeref01_Sub.ok allS_nil) ((fun h => by cases h)))⟩
set_option maxRecDepth 100000 in
theorem pledgeref17_times.ok : Sound Go.Proofs.Try.prog 81 pledgeref17_times.sig := body_sound (C := pledgeref17_times.C) (q := pledgeref17_times.Q) (fn := Go.Proofs.Try.f81) (sg := pledgeref17_times.sig) (n := 3) pledgeref17_times.ctx follows Go.Proofs.Try.func81 (by kernel_rfl) (by kernel_rfl) (by kernel_rfl) (by kernel_rfl) (Nat.le_of_ble_eq_true (by kernel_rfl)) (by kernel_rfl) pledgeref17_times.eq

def pledgeref17_Do (x0 : Int × Int × Int × Int × Int × Int × Unit) (x1 : Int) (x2 : Int × Int × Int × Int × Unit) : Option ((Int × Int × Int × Int × Int × Int × Unit) × Int × Unit) :=
  (pledgeref17_first x0 x1).bind fun r9 => bif (r9 : Int) != 0 then some (x0, (r9, ())) else (bif decide (x1 < 0) then some (((x1, ((), ((), ((), ((), (x2.2.2.2.1, x2.2.2.1)))))), (x0, (x2, ((0, (0, (0, (0, (0, (0, ())))))), (x0, ())))))) else some (((x1, ((), ((), ((), ((), (x2.2.2.1, x2.2.2.2.1)))))), (x0, (x2, ((0, (0, (0, (0, (0, (0, ())))))), (x0, ())))))) : Option ((Int × Unit × Unit × Unit × Unit × Int × Int) × (Int × Int × Int × Int × Int × Int × Unit) × (Int × Int × Int × Int × Unit) × (Int × Int × Int × Int × Int × Int × Unit) × (Int × Int × Int × Int × Int × Int × Unit) × Unit)).bind fun y10 => (pledgeref17_times y10.2.1.2.2.2.2.2.1 y10.1.1 y10.2.2.1.1).bind fun r11 => (pledgeref17_times y10.2.1.2.2.1 y10.1.1 y10.2.2.1.2.1).bind fun r12 => (pledgeref17_times y10.2.1.2.2.2.1 y10.1.1 y10.1.2.2.2.2.2.1).bind fun r13 => (pledgeref17_times y10.2.1.2.2.2.2.1 y10.1.1 y10.1.2.2.2.2.2.2).bind fun r14 => bif !r11.2.1 then some (y10.2.1, (12, ())) else bif !r12.2.1 then some (y10.2.1, (12, ())) else bif !r13.2.1 then some (y10.2.1, (12, ())) else bif !r14.2.1 then some (y10.2.1, (12, ())) else (pledgeref17_Good (y10.2.2.2.2.1.1, (y10.2.2.2.2.1.2.1, (r12.1, (r13.1, (r14.1, (r11.1, y10.2.2.2.2.1.2.2.2.2.2.2))))))).bind fun r15 => bif !r15 then some (y10.2.1, (12, ())) else some ((y10.2.2.2.2.1.1, (y10.2.2.2.2.1.2.1, (r12.1, (r13.1, (r14.1, (r11.1, y10.2.2.2.2.1.2.2.2.2.2.2)))))), (0, ()))
def pledgeref17_Do.C : Ctx := { ty := tyT, sigs := fun i => bif Nat.beq i 79 then [pledgeref17_first.sig] else bif Nat.beq i 81 then [pledgeref17_times.sig] else bif Nat.beq i 82 then [pledgeref17_Good.sig] else [], n := 101, mp := mpT }
def pledgeref17_Do.Q : Cuts := { np := 0, loops := fun i => none, seqs := fun i => bif Nat.beq i 10 then some [(.normal, { env := [(1, .val (.int .i64)), (3, .ptr 0), (5, .ptr 1), (6, .ptr 2), (9, .ptr 3), (10, .val (.int .i64)), (11, .val (.int .i64))], objs := [.cell kField (.val kField), .cell kMove (.val kMove), .cell kField (.val kField), .cell kField (.val kField)] })] else none, splits := fun i => none }
def pledgeref17_Do.sig : Sig := { args := .tc (.val kField) (.tc (.val (.int .i64)) (.tc (.val kMove) .tn)), objs := [], ret := .tup (.tc (.val kField) (.tc (.val (.int .i64)) .tn)), outs := [], F := fun x => pledgeref17_Do x.1.1 x.1.2.1 x.1.2.2.1 }
theorem pledgeref17_Do.eq : (fun x => body pledgeref17_Do.C pledgeref17_Do.Q Go.Proofs.Try.f49 pledgeref17_Do.sig.args pledgeref17_Do.sig.objs pledgeref17_Do.sig.ret pledgeref17_Do.sig.outs x) = pledgeref17_Do.sig.F := by
  kernel_rfl
set_option maxRecDepth 100000 in
theorem pledgeref17_Do.ctx : CtxOk Go.Proofs.Try.prog pledgeref17_Do.C := ⟨tyOk, mpOk, Nat.le_of_ble_eq_true (by kernel_rfl), fun f sg => fun h => sigs_if h (allS_cons pledgeref17_first.ok allS_nil) (fun h => sigs_if h (allS_cons pledgeref17_times.ok allS_nil) (fun h => sigs_if h (allS_cons pledgeref17_Good.ok allS_nil) ((fun h => by cases h))))⟩
set_option maxRecDepth 100000 in
theorem pledgeref17_Do.ok : Sound Go.Proofs.Try.prog 49 pledgeref17_Do.sig := body_sound (C := pledgeref17_Do.C) (q := pledgeref17_Do.Q) (fn := Go.Proofs.Try.f49) (sg := pledgeref17_Do.sig) (n := 3) pledgeref17_Do.ctx follows Go.Proofs.Try.func49 (by kernel_rfl) (by kernel_rfl) (by kernel_rfl) (by kernel_rfl) (Nat.le_of_ble_eq_true (by kernel_rfl)) (by kernel_rfl) pledgeref17_Do.eq

def pledgeref18_Do (x0 : List ((Int × Int × Int × Unit) × (Int × Int × Int × Int × Int × Int × Unit) × Unit)) (x1 : Int) (x2 : (Int × Int × Int × Unit) × Int × Unit) : Option ((List ((Int × Int × Int × Unit) × (Int × Int × Int × Int × Int × Int × Unit) × Unit)) × Int × Unit) :=
  (pledgeref18_Get x0 x2.1).bind fun r6 => bif !r6.2.1 then some (x0, (10, ())) else (pledgeref17_Grant r6.1 x2.2.1).bind fun r7 => bif decide (x1 > 0) then (pledgeref17_Moved x1).bind fun r8 => (pledgeref17_Do r6.1 x2.2.1 r8).bind fun r9 => bif (r9.2.1 : Int) != 0 then some (x0, (r9.2.1, ())) else (pledgeref18_put x0 (x2.1, (r9.1, ()))).bind fun r10 => some (r10, (0, ())) else bif (r7.2.1 : Int) != 0 then some (x0, (r7.2.1, ())) else (pledgeref18_put x0 (x2.1, (r7.1, ()))).bind fun r11 => some (r11, (0, ()))
def pledgeref18_Do.C : Ctx := { ty := tyT, sigs := fun i => bif Nat.beq i 44 then [pledgeref18_put.sig] else bif Nat.beq i 47 then [pledgeref18_Get.sig] else bif Nat.beq i 48 then [pledgeref17_Grant.sig] else bif Nat.beq i 49 then [pledgeref17_Do.sig] else bif Nat.beq i 50 then [pledgeref17_Moved.sig] else [], n := 50, mp := mpT }
def pledgeref18_Do.Q : Cuts := { np := 0, loops := fun i => none, seqs := fun i => none, splits := fun i => none }
def pledgeref18_Do.sig : Sig := { args := .tc (.val (.slice kRow)) (.tc (.val (.int .i64)) (.tc (.val kOp) .tn)), objs := [], ret := .tup (.tc (.val (.slice kRow)) (.tc (.val (.int .i64)) .tn)), outs := [], F := fun x => pledgeref18_Do x.1.1 x.1.2.1 x.1.2.2.1 }
theorem pledgeref18_Do.eq : (fun x => body pledgeref18_Do.C pledgeref18_Do.Q Go.Proofs.Try.f15 pledgeref18_Do.sig.args pledgeref18_Do.sig.objs pledgeref18_Do.sig.ret pledgeref18_Do.sig.outs x) = pledgeref18_Do.sig.F := by
  kernel_rfl
set_option maxRecDepth 100000 in
theorem pledgeref18_Do.ctx : CtxOk Go.Proofs.Try.prog pledgeref18_Do.C := ⟨tyOk, mpOk, Nat.le_of_ble_eq_true (by kernel_rfl), fun f sg => fun h => sigs_if h (allS_cons pledgeref18_put.ok allS_nil) (fun h => sigs_if h (allS_cons pledgeref18_Get.ok allS_nil) (fun h => sigs_if h (allS_cons pledgeref17_Grant.ok allS_nil) (fun h => sigs_if h (allS_cons pledgeref17_Do.ok allS_nil) (fun h => sigs_if h (allS_cons pledgeref17_Moved.ok allS_nil) ((fun h => by cases h))))))⟩
set_option maxRecDepth 100000 in
theorem pledgeref18_Do.ok : Sound Go.Proofs.Try.prog 15 pledgeref18_Do.sig := body_sound (C := pledgeref18_Do.C) (q := pledgeref18_Do.Q) (fn := Go.Proofs.Try.f15) (sg := pledgeref18_Do.sig) (n := 3) pledgeref18_Do.ctx follows Go.Proofs.Try.func15 (by kernel_rfl) (by kernel_rfl) (by kernel_rfl) (by kernel_rfl) (Nat.le_of_ble_eq_true (by kernel_rfl)) (by kernel_rfl) pledgeref18_Do.eq

def fund_by (x0 : Unit) (x1 : Int) : Option ((Unit × Unit × Unit) × Unit × Int × Unit) :=
  some (((), ((), ())), ((), (x1, ())))
def fund_by.C : Ctx := { ty := tyT, sigs := fun i => [], n := 6, mp := mpT }
def fund_by.Q : Cuts := { np := 0, loops := fun i => none, seqs := fun i => none, splits := fun i => none }
def fund_by.sig : Sig := { args := .tc (.clo 41 .tn) (.tc (.val (.int .i64)) .tn), objs := [], ret := .clo 68 (.tc (.ptr 0) (.tc (.ptr 1) .tn)), outs := [.cell (.ref 2) (.clo 41 .tn), .cell (.int .i64) (.val (.int .i64))], F := fun x => fund_by x.1.1 x.1.2.1 }
theorem fund_by.eq : (fun x => body fund_by.C fund_by.Q Go.Proofs.Try.f39 fund_by.sig.args fund_by.sig.objs fund_by.sig.ret fund_by.sig.outs x) = fund_by.sig.F := by
  kernel_rfl
set_option maxRecDepth 100000 in
theorem fund_by.ctx : CtxOk Go.Proofs.Try.prog fund_by.C := ⟨tyOk, mpOk, Nat.le_of_ble_eq_true (by kernel_rfl), fun f sg => (fun h => by cases h)⟩
set_option maxRecDepth 100000 in
theorem fund_by.ok : Sound Go.Proofs.Try.prog 39 fund_by.sig := body_sound (C := fund_by.C) (q := fund_by.Q) (fn := Go.Proofs.Try.f39) (sg := fund_by.sig) (n := 2) fund_by.ctx follows Go.Proofs.Try.func39 (by kernel_rfl) (by kernel_rfl) (by kernel_rfl) (by kernel_rfl) (Nat.le_of_ble_eq_true (by kernel_rfl)) (by kernel_rfl) fund_by.eq

def field_wrong (x0 : Int × Int × Int × Int × Int × Int × Unit) (x1 : Int) : Option Int :=
  (field_Good x0).bind fun r10 => bif !r10 then some 12 else bif (x1 : Int) == 0 then some 1 else bif (x1 : Int) == (-9223372036854775808) then some 1 else some 0
def field_wrong.C : Ctx := { ty := tyT, sigs := fun i => bif Nat.beq i 67 then [field_Good.sig] else [], n := 16, mp := mpT }
def field_wrong.Q : Cuts := { np := 0, loops := fun i => none, seqs := fun i => none, splits := fun i => none }
def field_wrong.sig : Sig := { args := .tc (.val kField) (.tc (.val (.int .i64)) .tn), objs := [], ret := .val (.int .i64), outs := [], F := fun x => field_wrong x.1.1 x.1.2.1 }
theorem field_wrong.eq : (fun x => body field_wrong.C field_wrong.Q Go.Proofs.Try.f69 field_wrong.sig.args field_wrong.sig.objs field_wrong.sig.ret field_wrong.sig.outs x) = field_wrong.sig.F := by
  kernel_rfl
set_option maxRecDepth 100000 in
theorem field_wrong.ctx : CtxOk Go.Proofs.Try.prog field_wrong.C := ⟨tyOk, mpOk, Nat.le_of_ble_eq_true (by kernel_rfl), fun f sg => fun h => sigs_if h (allS_cons field_Good.ok allS_nil) ((fun h => by cases h))⟩
set_option maxRecDepth 100000 in
theorem field_wrong.ok : Sound Go.Proofs.Try.prog 69 field_wrong.sig := body_sound (C := field_wrong.C) (q := field_wrong.Q) (fn := Go.Proofs.Try.f69) (sg := field_wrong.sig) (n := 2) field_wrong.ctx follows Go.Proofs.Try.func69 (by kernel_rfl) (by kernel_rfl) (by kernel_rfl) (by kernel_rfl) (Nat.le_of_ble_eq_true (by kernel_rfl)) (by kernel_rfl) field_wrong.eq

def calc_Sub (x0 : Int) (x1 : Int) : Option (Int × Bool × Unit) :=
  bif decide ((bitsAnd .i64 (bitsXor .i64 x0 x1) (bitsXor .i64 x0 (IntKind.i64.wrap (x0 - x1)))) < 0) then some (0, (false, ())) else some (IntKind.i64.wrap (x0 - x1), (true, ()))
def calc_Sub.C : Ctx := { ty := tyT, sigs := fun i => [], n := 19, mp := mpT }
def calc_Sub.Q : Cuts := { np := 0, loops := fun i => none, seqs := fun i => none, splits := fun i => none }
def calc_Sub.sig : Sig := { args := .tc (.val (.int .i64)) (.tc (.val (.int .i64)) .tn), objs := [], ret := .tup (.tc (.val (.int .i64)) (.tc (.val .bool) .tn)), outs := [], F := fun x => calc_Sub x.1.1 x.1.2.1 }
theorem calc_Sub.eq : (fun x => body calc_Sub.C calc_Sub.Q Go.Proofs.Try.f96 calc_Sub.sig.args calc_Sub.sig.objs calc_Sub.sig.ret calc_Sub.sig.outs x) = calc_Sub.sig.F := by
  kernel_rfl
set_option maxRecDepth 100000 in
theorem calc_Sub.ctx : CtxOk Go.Proofs.Try.prog calc_Sub.C := ⟨tyOk, mpOk, Nat.le_of_ble_eq_true (by kernel_rfl), fun f sg => (fun h => by cases h)⟩
set_option maxRecDepth 100000 in
theorem calc_Sub.ok : Sound Go.Proofs.Try.prog 96 calc_Sub.sig := body_sound (C := calc_Sub.C) (q := calc_Sub.Q) (fn := Go.Proofs.Try.f96) (sg := calc_Sub.sig) (n := 2) calc_Sub.ctx follows Go.Proofs.Try.func96 (by kernel_rfl) (by kernel_rfl) (by kernel_rfl) (by kernel_rfl) (Nat.le_of_ble_eq_true (by kernel_rfl)) (by kernel_rfl) calc_Sub.eq

def field_part_less (x0 : Int × Bool × Unit) (x1 : Int) : Option (Int × Bool × Unit) :=
  (calc_Sub x0.1 x1).bind fun r11 => bif r11.2.1 then some (r11.1, (x0.2.1, ())) else some (r11.1, (false, ()))
def field_part_less.C : Ctx := { ty := tyT, sigs := fun i => bif Nat.beq i 96 then [calc_Sub.sig] else [], n := 21, mp := mpT }
def field_part_less.Q : Cuts := { np := 0, loops := fun i => none, seqs := fun i => none, splits := fun i => none }
def field_part_less.sig : Sig := { args := .tc (.val kpart) (.tc (.val (.int .i64)) .tn), objs := [], ret := .val kpart, outs := [], F := fun x => field_part_less x.1.1 x.1.2.1 }
theorem field_part_less.eq : (fun x => body field_part_less.C field_part_less.Q Go.Proofs.Try.f72 field_part_less.sig.args field_part_less.sig.objs field_part_less.sig.ret field_part_less.sig.outs x) = field_part_less.sig.F := by
  kernel_rfl
set_option maxRecDepth 100000 in
theorem field_part_less.ctx : CtxOk Go.Proofs.Try.prog field_part_less.C := ⟨tyOk, mpOk, Nat.le_of_ble_eq_true (by kernel_rfl), fun f sg => fun h => sigs_if h (allS_cons calc_Sub.ok allS_nil) ((fun h => by cases h))⟩
set_option maxRecDepth 100000 in
theorem field_part_less.ok : Sound Go.Proofs.Try.prog 72 field_part_less.sig := body_sound (C := field_part_less.C) (q := field_part_less.Q) (fn := Go.Proofs.Try.f72) (sg := field_part_less.sig) (n := 2) field_part_less.ctx follows Go.Proofs.Try.func72 (by kernel_rfl) (by kernel_rfl) (by kernel_rfl) (by kernel_rfl) (Nat.le_of_ble_eq_true (by kernel_rfl)) (by kernel_rfl) field_part_less.eq

def field_part_still (x0 : Int × Bool × Unit) (x1 : Int) : Option (Int × Bool × Unit) :=
  some x0
def field_part_still.C : Ctx := { ty := tyT, sigs := fun i => [], n := 6, mp := mpT }
def field_part_still.Q : Cuts := { np := 0, loops := fun i => none, seqs := fun i => none, splits := fun i => none }
def field_part_still.sig : Sig := { args := .tc (.val kpart) (.tc (.val (.int .i64)) .tn), objs := [], ret := .val kpart, outs := [], F := fun x => field_part_still x.1.1 x.1.2.1 }
theorem field_part_still.eq : (fun x => body field_part_still.C field_part_still.Q Go.Proofs.Try.f73 field_part_still.sig.args field_part_still.sig.objs field_part_still.sig.ret field_part_still.sig.outs x) = field_part_still.sig.F := by
  kernel_rfl
set_option maxRecDepth 100000 in
theorem field_part_still.ctx : CtxOk Go.Proofs.Try.prog field_part_still.C := ⟨tyOk, mpOk, Nat.le_of_ble_eq_true (by kernel_rfl), fun f sg => (fun h => by cases h)⟩
set_option maxRecDepth 100000 in
theorem field_part_still.ok : Sound Go.Proofs.Try.prog 73 field_part_still.sig := body_sound (C := field_part_still.C) (q := field_part_still.Q) (fn := Go.Proofs.Try.f73) (sg := field_part_still.sig) (n := 2) field_part_still.ctx follows Go.Proofs.Try.func73 (by kernel_rfl) (by kernel_rfl) (by kernel_rfl) (by kernel_rfl) (Nat.le_of_ble_eq_true (by kernel_rfl)) (by kernel_rfl) field_part_still.eq

def field_move (x0 : Int × Int × Int × Int × Int × Int × Unit) (x1 : Int) (x2 : Unit) (x3 : Unit) (x4 : Unit) (x5 : Unit) : Option ((Int × Int × Int × Int × Int × Int × Unit) × Int × Unit) :=
  (field_wrong x0 x1).bind fun r10 => bif (r10 : Int) != 0 then some (x0, (r10, ())) else bif decide (x1 < 0) then (field_part_less (x0.2.2.2.2.2.1, (true, ())) x1).bind fun r11 => (field_part_still (x0.2.2.1, (true, ())) x1).bind fun r12 => (field_part_less (x0.2.2.2.1, (true, ())) x1).bind fun r13 => (field_part_still (x0.2.2.2.2.1, (true, ())) x1).bind fun r14 => bif !r11.2.1 then some (x0, (12, ())) else bif !r12.2.1 then some (x0, (12, ())) else bif !r13.2.1 then some (x0, (12, ())) else bif !r14.2.1 then some (x0, (12, ())) else (field_Good (x0.1, (x0.2.1, (r12.1, (r13.1, (r14.1, (r11.1, ()))))))).bind fun r15 => bif !r15 then some (x0, (12, ())) else some ((x0.1, (x0.2.1, (r12.1, (r13.1, (r14.1, (r11.1, ())))))), (0, ())) else (field_part_less (x0.2.2.2.2.2.1, (true, ())) x1).bind fun r16 => (field_part_still (x0.2.2.1, (true, ())) x1).bind fun r17 => (field_part_still (x0.2.2.2.1, (true, ())) x1).bind fun r18 => (field_part_less (x0.2.2.2.2.1, (true, ())) x1).bind fun r19 => bif !r16.2.1 then some (x0, (12, ())) else bif !r17.2.1 then some (x0, (12, ())) else bif !r18.2.1 then some (x0, (12, ())) else bif !r19.2.1 then some (x0, (12, ())) else (field_Good (x0.1, (x0.2.1, (r17.1, (r18.1, (r19.1, (r16.1, ()))))))).bind fun r20 => bif !r20 then some (x0, (12, ())) else some ((x0.1, (x0.2.1, (r17.1, (r18.1, (r19.1, (r16.1, ())))))), (0, ()))
def field_move.C : Ctx := { ty := tyT, sigs := fun i => bif Nat.beq i 67 then [field_Good.sig] else bif Nat.beq i 69 then [field_wrong.sig] else bif Nat.beq i 72 then [field_part_less.sig] else bif Nat.beq i 73 then [field_part_still.sig] else [], n := 93, mp := mpT }
def field_move.Q : Cuts := { np := 0, loops := fun i => none, seqs := fun i => none, splits := fun i => none }
def field_move.sig : Sig := { args := .tc (.val kField) (.tc (.val (.int .i64)) (.tc (.clo 72 .tn) (.tc (.clo 73 .tn) (.tc (.clo 73 .tn) (.tc (.clo 72 .tn) .tn))))), objs := [], ret := .tup (.tc (.val kField) (.tc (.val (.int .i64)) .tn)), outs := [], F := fun x => field_move x.1.1 x.1.2.1 x.1.2.2.1 x.1.2.2.2.1 x.1.2.2.2.2.1 x.1.2.2.2.2.2.1 }
theorem field_move.eq : (fun x => body field_move.C field_move.Q Go.Proofs.Try.f71 field_move.sig.args field_move.sig.objs field_move.sig.ret field_move.sig.outs x) = field_move.sig.F := by
  kernel_rfl
set_option maxRecDepth 100000 in
theorem field_move.ctx : CtxOk Go.Proofs.Try.prog field_move.C := ⟨tyOk, mpOk, Nat.le_of_ble_eq_true (by kernel_rfl), fun f sg => fun h => sigs_if h (allS_cons field_Good.ok allS_nil) (fun h => sigs_if h (allS_cons field_wrong.ok allS_nil) (fun h => sigs_if h (allS_cons field_part_less.ok allS_nil) (fun h => sigs_if h (allS_cons field_part_still.ok allS_nil) ((fun h => by cases h)))))⟩
set_option maxRecDepth 100000 in
theorem field_move.ok : Sound Go.Proofs.Try.prog 71 field_move.sig := body_sound (C := field_move.C) (q := field_move.Q) (fn := Go.Proofs.Try.f71) (sg := field_move.sig) (n := 6) field_move.ctx follows Go.Proofs.Try.func71 (by kernel_rfl) (by kernel_rfl) (by kernel_rfl) (by kernel_rfl) (Nat.le_of_ble_eq_true (by kernel_rfl)) (by kernel_rfl) field_move.eq

def field_Undo (x0 : Int × Int × Int × Int × Int × Int × Unit) (x1 : Int) : Option ((Int × Int × Int × Int × Int × Int × Unit) × Int × Unit) :=
  (field_move x0 x1 () () () ()).bind fun r10 => some (r10.1, (r10.2.1, ()))
def field_Undo.C : Ctx := { ty := tyT, sigs := fun i => bif Nat.beq i 71 then [field_move.sig] else [], n := 11, mp := mpT }
def field_Undo.Q : Cuts := { np := 0, loops := fun i => none, seqs := fun i => none, splits := fun i => none }
def field_Undo.sig : Sig := { args := .tc (.val kField) (.tc (.val (.int .i64)) .tn), objs := [], ret := .tup (.tc (.val kField) (.tc (.val (.int .i64)) .tn)), outs := [], F := fun x => field_Undo x.1.1 x.1.2.1 }
theorem field_Undo.eq : (fun x => body field_Undo.C field_Undo.Q Go.Proofs.Try.f41 field_Undo.sig.args field_Undo.sig.objs field_Undo.sig.ret field_Undo.sig.outs x) = field_Undo.sig.F := by
  kernel_rfl
set_option maxRecDepth 100000 in
theorem field_Undo.ctx : CtxOk Go.Proofs.Try.prog field_Undo.C := ⟨tyOk, mpOk, Nat.le_of_ble_eq_true (by kernel_rfl), fun f sg => fun h => sigs_if h (allS_cons field_move.ok allS_nil) ((fun h => by cases h))⟩
set_option maxRecDepth 100000 in
theorem field_Undo.ok : Sound Go.Proofs.Try.prog 41 field_Undo.sig := body_sound (C := field_Undo.C) (q := field_Undo.Q) (fn := Go.Proofs.Try.f41) (sg := field_Undo.sig) (n := 2) field_Undo.ctx follows Go.Proofs.Try.func41 (by kernel_rfl) (by kernel_rfl) (by kernel_rfl) (by kernel_rfl) (Nat.le_of_ble_eq_true (by kernel_rfl)) (by kernel_rfl) field_Undo.eq

def fund_by_1 (x0 : Int × Int × Int × Int × Int × Int × Unit) (x1 : Unit) (x2 : Unit) (o0 : Unit) (o1 : Int) : Option (((Int × Int × Int × Int × Int × Int × Unit) × Int × Unit) × Unit × Int × Unit) :=
  (field_Undo x0 o1).bind fun r10 => some ((r10.1, (r10.2.1, ())), ((), (o1, ())))
def fund_by_1.C : Ctx := { ty := tyT, sigs := fun i => bif Nat.beq i 41 then [field_Undo.sig] else [], n := 12, mp := mpT }
def fund_by_1.Q : Cuts := { np := 2, loops := fun i => none, seqs := fun i => none, splits := fun i => none }
def fund_by_1.sig : Sig := { args := .tc (.val kField) (.tc (.ptr 0) (.tc (.ptr 1) .tn)), objs := [.cell (.ref 2) (.clo 41 .tn), .cell (.int .i64) (.val (.int .i64))], ret := .tup (.tc (.val kField) (.tc (.val (.int .i64)) .tn)), outs := [.cell (.ref 2) (.clo 41 .tn), .cell (.int .i64) (.val (.int .i64))], F := fun x => fund_by_1 x.1.1 x.1.2.1 x.1.2.2.1 x.2.1 x.2.2.1 }
theorem fund_by_1.eq : (fun x => body fund_by_1.C fund_by_1.Q Go.Proofs.Try.f68 fund_by_1.sig.args fund_by_1.sig.objs fund_by_1.sig.ret fund_by_1.sig.outs x) = fund_by_1.sig.F := by
  kernel_rfl
set_option maxRecDepth 100000 in
theorem fund_by_1.ctx : CtxOk Go.Proofs.Try.prog fund_by_1.C := ⟨tyOk, mpOk, Nat.le_of_ble_eq_true (by kernel_rfl), fun f sg => fun h => sigs_if h (allS_cons field_Undo.ok allS_nil) ((fun h => by cases h))⟩
set_option maxRecDepth 100000 in
theorem fund_by_1.ok : Sound Go.Proofs.Try.prog 68 fund_by_1.sig := body_sound (C := fund_by_1.C) (q := fund_by_1.Q) (fn := Go.Proofs.Try.f68) (sg := fund_by_1.sig) (n := 3) fund_by_1.ctx follows Go.Proofs.Try.func68 (by kernel_rfl) (by kernel_rfl) (by kernel_rfl) (by kernel_rfl) (Nat.le_of_ble_eq_true (by kernel_rfl)) (by kernel_rfl) fund_by_1.eq

def fund_Fund_change (x0 : Unit) (x1 : Int × Int × Int × Unit) (x2 : Unit × Unit × Unit) (o0 : Unit × Unit) (o1 : Unit) (o2 : Int) (o3 : Unit × Unit) (o4 : List ((Int × Int × Int × Unit) × Int × Int × Int × Int × Int × Int × Unit)) : Option (Int × (Unit × Unit) × Unit × Int × (Unit × Unit) × (List ((Int × Int × Int × Unit) × Int × Int × Int × Int × Int × Int × Unit)) × Unit) :=
  (fund_Fund_Get () x1 ((), o0.2) ((), o3.2) o4).bind fun r9 => bif !r9.1.2.1 then some (10, (((), r9.2.1.2), ((), (o2, (((), r9.2.2.1.2), (r9.2.2.2.1, ())))))) else (fund_by_1 r9.1.1 () () () o2).bind fun r10 => bif (r10.1.2.1 : Int) == 0 then (table_Table_api_Field_Put () x1 r10.1.1 ((), r9.2.2.1.2) r9.2.2.2.1).bind fun r11 => some (r10.1.2.1, (((), r9.2.1.2), ((), (r10.2.2.1, (((), r11.2.1.2), (r11.2.2.1, ())))))) else some (r10.1.2.1, (((), r9.2.1.2), ((), (r10.2.2.1, (((), r9.2.2.1.2), (r9.2.2.2.1, ()))))))
def fund_Fund_change.C : Ctx := { ty := tyT, sigs := fun i => bif Nat.beq i 37 then [table_Table_api_Field_Put.sig] else bif Nat.beq i 46 then [fund_Fund_Get.sig] else bif Nat.beq i 68 then [fund_by_1.sig] else [], n := 35, mp := mpT }
def fund_Fund_change.Q : Cuts := { np := 5, loops := fun i => none, seqs := fun i => none, splits := fun i => none }
def fund_Fund_change.sig : Sig := { args := .tc (.ptr 0) (.tc (.val kKey) (.tc (.clo 68 (.tc (.ptr 1) (.tc (.ptr 2) .tn))) .tn)), objs := [.cell (.cons (.ref 0) .unit) (.pair (.ptr 3) (.val .unit)), .cell (.ref 2) (.clo 41 .tn), .cell (.int .i64) (.val (.int .i64)), .cell (.cons (.ref 1) .unit) (.pair (.mapr 4) (.val .unit)), .map kKey kField], ret := .val (.int .i64), outs := [.cell (.cons (.ref 0) .unit) (.pair (.ptr 3) (.val .unit)), .cell (.ref 2) (.clo 41 .tn), .cell (.int .i64) (.val (.int .i64)), .cell (.cons (.ref 1) .unit) (.pair (.mapr 4) (.val .unit)), .map kKey kField], F := fun x => fund_Fund_change x.1.1 x.1.2.1 x.1.2.2.1 x.2.1 x.2.2.1 x.2.2.2.1 x.2.2.2.2.1 x.2.2.2.2.2.1 }
theorem fund_Fund_change.eq : (fun x => body fund_Fund_change.C fund_Fund_change.Q Go.Proofs.Try.f38 fund_Fund_change.sig.args fund_Fund_change.sig.objs fund_Fund_change.sig.ret fund_Fund_change.sig.outs x) = fund_Fund_change.sig.F := by
  kernel_rfl
set_option maxRecDepth 100000 in
theorem fund_Fund_change.ctx : CtxOk Go.Proofs.Try.prog fund_Fund_change.C := ⟨tyOk, mpOk, Nat.le_of_ble_eq_true (by kernel_rfl), fun f sg => fun h => sigs_if h (allS_cons table_Table_api_Field_Put.ok allS_nil) (fun h => sigs_if h (allS_cons fund_Fund_Get.ok allS_nil) (fun h => sigs_if h (allS_cons fund_by_1.ok allS_nil) ((fun h => by cases h))))⟩
set_option maxRecDepth 100000 in
theorem fund_Fund_change.ok : Sound Go.Proofs.Try.prog 38 fund_Fund_change.sig := body_sound (C := fund_Fund_change.C) (q := fund_Fund_change.Q) (fn := Go.Proofs.Try.f38) (sg := fund_Fund_change.sig) (n := 3) fund_Fund_change.ctx follows Go.Proofs.Try.func38 (by kernel_rfl) (by kernel_rfl) (by kernel_rfl) (by kernel_rfl) (Nat.le_of_ble_eq_true (by kernel_rfl)) (by kernel_rfl) fund_Fund_change.eq

def fund_Fund_Undo (x0 : Unit) (x1 : (Int × Int × Int × Unit) × Int × Unit) (o0 : Unit × Unit) (o1 : Unit × Unit) (o2 : List ((Int × Int × Int × Unit) × Int × Int × Int × Int × Int × Int × Unit)) : Option (Int × (Unit × Unit) × (Unit × Unit) × (List ((Int × Int × Int × Unit) × Int × Int × Int × Int × Int × Int × Unit)) × Unit) :=
  (fund_by () x1.2.1).bind fun r8 => (fund_Fund_change () x1.1 ((), ((), ())) ((), o0.2) () r8.2.2.1 ((), o1.2) o2).bind fun r9 => some (r9.1, (((), r9.2.1.2), (((), r9.2.2.2.2.1.2), (r9.2.2.2.2.2.1, ()))))
def fund_Fund_Undo.C : Ctx := { ty := tyT, sigs := fun i => bif Nat.beq i 38 then [fund_Fund_change.sig] else bif Nat.beq i 39 then [fund_by.sig] else [], n := 12, mp := mpT }
def fund_Fund_Undo.Q : Cuts := { np := 3, loops := fun i => none, seqs := fun i => none, splits := fun i => none }
def fund_Fund_Undo.sig : Sig := { args := .tc (.ptr 0) (.tc (.val kOp) .tn), objs := [.cell (.cons (.ref 0) .unit) (.pair (.ptr 1) (.val .unit)), .cell (.cons (.ref 1) .unit) (.pair (.mapr 2) (.val .unit)), .map kKey kField], ret := .val (.int .i64), outs := [.cell (.cons (.ref 0) .unit) (.pair (.ptr 1) (.val .unit)), .cell (.cons (.ref 1) .unit) (.pair (.mapr 2) (.val .unit)), .map kKey kField], F := fun x => fund_Fund_Undo x.1.1 x.1.2.1 x.2.1 x.2.2.1 x.2.2.2.1 }
theorem fund_Fund_Undo.eq : (fun x => body fund_Fund_Undo.C fund_Fund_Undo.Q Go.Proofs.Try.f11 fund_Fund_Undo.sig.args fund_Fund_Undo.sig.objs fund_Fund_Undo.sig.ret fund_Fund_Undo.sig.outs x) = fund_Fund_Undo.sig.F := by
  kernel_rfl
set_option maxRecDepth 100000 in
theorem fund_Fund_Undo.ctx : CtxOk Go.Proofs.Try.prog fund_Fund_Undo.C := ⟨tyOk, mpOk, Nat.le_of_ble_eq_true (by kernel_rfl), fun f sg => fun h => sigs_if h (allS_cons fund_Fund_change.ok allS_nil) (fun h => sigs_if h (allS_cons fund_by.ok allS_nil) ((fun h => by cases h)))⟩
set_option maxRecDepth 100000 in
theorem fund_Fund_Undo.ok : Sound Go.Proofs.Try.prog 11 fund_Fund_Undo.sig := body_sound (C := fund_Fund_Undo.C) (q := fund_Fund_Undo.Q) (fn := Go.Proofs.Try.f11) (sg := fund_Fund_Undo.sig) (n := 2) fund_Fund_Undo.ctx follows Go.Proofs.Try.func11 (by kernel_rfl) (by kernel_rfl) (by kernel_rfl) (by kernel_rfl) (Nat.le_of_ble_eq_true (by kernel_rfl)) (by kernel_rfl) fund_Fund_Undo.eq

def fund_by_v2 (x0 : Unit) (x1 : Int) : Option ((Unit × Unit × Unit) × Unit × Int × Unit) :=
  some (((), ((), ())), ((), (x1, ())))
def fund_by_v2.C : Ctx := { ty := tyT, sigs := fun i => [], n := 6, mp := mpT }
def fund_by_v2.Q : Cuts := { np := 0, loops := fun i => none, seqs := fun i => none, splits := fun i => none }
def fund_by_v2.sig : Sig := { args := .tc (.clo 83 .tn) (.tc (.val (.int .i64)) .tn), objs := [], ret := .clo 68 (.tc (.ptr 0) (.tc (.ptr 1) .tn)), outs := [.cell (.ref 2) (.clo 83 .tn), .cell (.int .i64) (.val (.int .i64))], F := fun x => fund_by_v2 x.1.1 x.1.2.1 }
theorem fund_by_v2.eq : (fun x => body fund_by_v2.C fund_by_v2.Q Go.Proofs.Try.f39 fund_by_v2.sig.args fund_by_v2.sig.objs fund_by_v2.sig.ret fund_by_v2.sig.outs x) = fund_by_v2.sig.F := by
  kernel_rfl
set_option maxRecDepth 100000 in
theorem fund_by_v2.ctx : CtxOk Go.Proofs.Try.prog fund_by_v2.C := ⟨tyOk, mpOk, Nat.le_of_ble_eq_true (by kernel_rfl), fun f sg => (fun h => by cases h)⟩
set_option maxRecDepth 100000 in
theorem fund_by_v2.ok : Sound Go.Proofs.Try.prog 39 fund_by_v2.sig := body_sound (C := fund_by_v2.C) (q := fund_by_v2.Q) (fn := Go.Proofs.Try.f39) (sg := fund_by_v2.sig) (n := 2) fund_by_v2.ctx follows Go.Proofs.Try.func39 (by kernel_rfl) (by kernel_rfl) (by kernel_rfl) (by kernel_rfl) (Nat.le_of_ble_eq_true (by kernel_rfl)) (by kernel_rfl) fund_by_v2.eq

def calc_Add (x0 : Int) (x1 : Int) : Option (Int × Bool × Unit) :=
  bif decide ((bitsAnd .i64 (bitsXor .i64 x0 (IntKind.i64.wrap (x0 + x1))) (bitsXor .i64 x1 (IntKind.i64.wrap (x0 + x1)))) < 0) then some (0, (false, ())) else some (IntKind.i64.wrap (x0 + x1), (true, ()))
def calc_Add.C : Ctx := { ty := tyT, sigs := fun i => [], n := 19, mp := mpT }
def calc_Add.Q : Cuts := { np := 0, loops := fun i => none, seqs := fun i => none, splits := fun i => none }
def calc_Add.sig : Sig := { args := .tc (.val (.int .i64)) (.tc (.val (.int .i64)) .tn), objs := [], ret := .tup (.tc (.val (.int .i64)) (.tc (.val .bool) .tn)), outs := [], F := fun x => calc_Add x.1.1 x.1.2.1 }
theorem calc_Add.eq : (fun x => body calc_Add.C calc_Add.Q Go.Proofs.Try.f70 calc_Add.sig.args calc_Add.sig.objs calc_Add.sig.ret calc_Add.sig.outs x) = calc_Add.sig.F := by
  kernel_rfl
set_option maxRecDepth 100000 in
theorem calc_Add.ctx : CtxOk Go.Proofs.Try.prog calc_Add.C := ⟨tyOk, mpOk, Nat.le_of_ble_eq_true (by kernel_rfl), fun f sg => (fun h => by cases h)⟩
set_option maxRecDepth 100000 in
theorem calc_Add.ok : Sound Go.Proofs.Try.prog 70 calc_Add.sig := body_sound (C := calc_Add.C) (q := calc_Add.Q) (fn := Go.Proofs.Try.f70) (sg := calc_Add.sig) (n := 2) calc_Add.ctx follows Go.Proofs.Try.func70 (by kernel_rfl) (by kernel_rfl) (by kernel_rfl) (by kernel_rfl) (Nat.le_of_ble_eq_true (by kernel_rfl)) (by kernel_rfl) calc_Add.eq

def field_part_more (x0 : Int × Bool × Unit) (x1 : Int) : Option (Int × Bool × Unit) :=
  (calc_Add x0.1 x1).bind fun r15 => bif r15.2.1 then some (r15.1, (x0.2.1, ())) else some (r15.1, (false, ()))
def field_part_more.C : Ctx := { ty := tyT, sigs := fun i => bif Nat.beq i 70 then [calc_Add.sig] else [], n := 21, mp := mpT }
def field_part_more.Q : Cuts := { np := 0, loops := fun i => none, seqs := fun i => none, splits := fun i => none }
def field_part_more.sig : Sig := { args := .tc (.val kpart) (.tc (.val (.int .i64)) .tn), objs := [], ret := .val kpart, outs := [], F := fun x => field_part_more x.1.1 x.1.2.1 }
theorem field_part_more.eq : (fun x => body field_part_more.C field_part_more.Q Go.Proofs.Try.f101 field_part_more.sig.args field_part_more.sig.objs field_part_more.sig.ret field_part_more.sig.outs x) = field_part_more.sig.F := by
  kernel_rfl
set_option maxRecDepth 100000 in
theorem field_part_more.ctx : CtxOk Go.Proofs.Try.prog field_part_more.C := ⟨tyOk, mpOk, Nat.le_of_ble_eq_true (by kernel_rfl), fun f sg => fun h => sigs_if h (allS_cons calc_Add.ok allS_nil) ((fun h => by cases h))⟩
set_option maxRecDepth 100000 in
theorem field_part_more.ok : Sound Go.Proofs.Try.prog 101 field_part_more.sig := body_sound (C := field_part_more.C) (q := field_part_more.Q) (fn := Go.Proofs.Try.f101) (sg := field_part_more.sig) (n := 2) field_part_more.ctx follows Go.Proofs.Try.func101 (by kernel_rfl) (by kernel_rfl) (by kernel_rfl) (by kernel_rfl) (Nat.le_of_ble_eq_true (by kernel_rfl)) (by kernel_rfl) field_part_more.eq

def field_move_v2 (x0 : Int × Int × Int × Int × Int × Int × Unit) (x1 : Int) (x2 : Unit) (x3 : Unit) (x4 : Unit) (x5 : Unit) : Option ((Int × Int × Int × Int × Int × Int × Unit) × Int × Unit) :=
  (field_wrong x0 x1).bind fun r13 => bif (r13 : Int) != 0 then some (x0, (r13, ())) else bif decide (x1 < 0) then (field_part_still (x0.2.2.2.2.2.1, (true, ())) x1).bind fun r14 => (field_part_more (x0.2.2.1, (true, ())) x1).bind fun r15 => (field_part_still (x0.2.2.2.1, (true, ())) x1).bind fun r16 => (field_part_more (x0.2.2.2.2.1, (true, ())) x1).bind fun r17 => bif !r14.2.1 then some (x0, (12, ())) else bif !r15.2.1 then some (x0, (12, ())) else bif !r16.2.1 then some (x0, (12, ())) else bif !r17.2.1 then some (x0, (12, ())) else (field_Good (x0.1, (x0.2.1, (r15.1, (r16.1, (r17.1, (r14.1, ()))))))).bind fun r18 => bif !r18 then some (x0, (12, ())) else some ((x0.1, (x0.2.1, (r15.1, (r16.1, (r17.1, (r14.1, ())))))), (0, ())) else (field_part_still (x0.2.2.2.2.2.1, (true, ())) x1).bind fun r19 => (field_part_more (x0.2.2.1, (true, ())) x1).bind fun r20 => (field_part_more (x0.2.2.2.1, (true, ())) x1).bind fun r21 => (field_part_still (x0.2.2.2.2.1, (true, ())) x1).bind fun r22 => bif !r19.2.1 then some (x0, (12, ())) else bif !r20.2.1 then some (x0, (12, ())) else bif !r21.2.1 then some (x0, (12, ())) else bif !r22.2.1 then some (x0, (12, ())) else (field_Good (x0.1, (x0.2.1, (r20.1, (r21.1, (r22.1, (r19.1, ()))))))).bind fun r23 => bif !r23 then some (x0, (12, ())) else some ((x0.1, (x0.2.1, (r20.1, (r21.1, (r22.1, (r19.1, ())))))), (0, ()))
def field_move_v2.C : Ctx := { ty := tyT, sigs := fun i => bif Nat.beq i 67 then [field_Good.sig] else bif Nat.beq i 69 then [field_wrong.sig] else bif Nat.beq i 73 then [field_part_still.sig] else bif Nat.beq i 101 then [field_part_more.sig] else [], n := 93, mp := mpT }
def field_move_v2.Q : Cuts := { np := 0, loops := fun i => none, seqs := fun i => none, splits := fun i => none }
def field_move_v2.sig : Sig := { args := .tc (.val kField) (.tc (.val (.int .i64)) (.tc (.clo 73 .tn) (.tc (.clo 101 .tn) (.tc (.clo 101 .tn) (.tc (.clo 73 .tn) .tn))))), objs := [], ret := .tup (.tc (.val kField) (.tc (.val (.int .i64)) .tn)), outs := [], F := fun x => field_move_v2 x.1.1 x.1.2.1 x.1.2.2.1 x.1.2.2.2.1 x.1.2.2.2.2.1 x.1.2.2.2.2.2.1 }
theorem field_move_v2.eq : (fun x => body field_move_v2.C field_move_v2.Q Go.Proofs.Try.f71 field_move_v2.sig.args field_move_v2.sig.objs field_move_v2.sig.ret field_move_v2.sig.outs x) = field_move_v2.sig.F := by
  kernel_rfl
set_option maxRecDepth 100000 in
theorem field_move_v2.ctx : CtxOk Go.Proofs.Try.prog field_move_v2.C := ⟨tyOk, mpOk, Nat.le_of_ble_eq_true (by kernel_rfl), fun f sg => fun h => sigs_if h (allS_cons field_Good.ok allS_nil) (fun h => sigs_if h (allS_cons field_wrong.ok allS_nil) (fun h => sigs_if h (allS_cons field_part_still.ok allS_nil) (fun h => sigs_if h (allS_cons field_part_more.ok allS_nil) ((fun h => by cases h)))))⟩
set_option maxRecDepth 100000 in
theorem field_move_v2.ok : Sound Go.Proofs.Try.prog 71 field_move_v2.sig := body_sound (C := field_move_v2.C) (q := field_move_v2.Q) (fn := Go.Proofs.Try.f71) (sg := field_move_v2.sig) (n := 6) field_move_v2.ctx follows Go.Proofs.Try.func71 (by kernel_rfl) (by kernel_rfl) (by kernel_rfl) (by kernel_rfl) (Nat.le_of_ble_eq_true (by kernel_rfl)) (by kernel_rfl) field_move_v2.eq

def field_Settle (x0 : Int × Int × Int × Int × Int × Int × Unit) (x1 : Int) : Option ((Int × Int × Int × Int × Int × Int × Unit) × Int × Unit) :=
  (field_move_v2 x0 x1 () () () ()).bind fun r13 => some (r13.1, (r13.2.1, ()))
def field_Settle.C : Ctx := { ty := tyT, sigs := fun i => bif Nat.beq i 71 then [field_move_v2.sig] else [], n := 11, mp := mpT }
def field_Settle.Q : Cuts := { np := 0, loops := fun i => none, seqs := fun i => none, splits := fun i => none }
def field_Settle.sig : Sig := { args := .tc (.val kField) (.tc (.val (.int .i64)) .tn), objs := [], ret := .tup (.tc (.val kField) (.tc (.val (.int .i64)) .tn)), outs := [], F := fun x => field_Settle x.1.1 x.1.2.1 }
theorem field_Settle.eq : (fun x => body field_Settle.C field_Settle.Q Go.Proofs.Try.f83 field_Settle.sig.args field_Settle.sig.objs field_Settle.sig.ret field_Settle.sig.outs x) = field_Settle.sig.F := by
  kernel_rfl
set_option maxRecDepth 100000 in
theorem field_Settle.ctx : CtxOk Go.Proofs.Try.prog field_Settle.C := ⟨tyOk, mpOk, Nat.le_of_ble_eq_true (by kernel_rfl), fun f sg => fun h => sigs_if h (allS_cons field_move_v2.ok allS_nil) ((fun h => by cases h))⟩
set_option maxRecDepth 100000 in
theorem field_Settle.ok : Sound Go.Proofs.Try.prog 83 field_Settle.sig := body_sound (C := field_Settle.C) (q := field_Settle.Q) (fn := Go.Proofs.Try.f83) (sg := field_Settle.sig) (n := 2) field_Settle.ctx follows Go.Proofs.Try.func83 (by kernel_rfl) (by kernel_rfl) (by kernel_rfl) (by kernel_rfl) (Nat.le_of_ble_eq_true (by kernel_rfl)) (by kernel_rfl) field_Settle.eq

def fund_by_1_v2 (x0 : Int × Int × Int × Int × Int × Int × Unit) (x1 : Unit) (x2 : Unit) (o0 : Unit) (o1 : Int) : Option (((Int × Int × Int × Int × Int × Int × Unit) × Int × Unit) × Unit × Int × Unit) :=
  (field_Settle x0 o1).bind fun r13 => some ((r13.1, (r13.2.1, ())), ((), (o1, ())))
def fund_by_1_v2.C : Ctx := { ty := tyT, sigs := fun i => bif Nat.beq i 83 then [field_Settle.sig] else [], n := 12, mp := mpT }
def fund_by_1_v2.Q : Cuts := { np := 2, loops := fun i => none, seqs := fun i => none, splits := fun i => none }
def fund_by_1_v2.sig : Sig := { args := .tc (.val kField) (.tc (.ptr 0) (.tc (.ptr 1) .tn)), objs := [.cell (.ref 2) (.clo 83 .tn), .cell (.int .i64) (.val (.int .i64))], ret := .tup (.tc (.val kField) (.tc (.val (.int .i64)) .tn)), outs := [.cell (.ref 2) (.clo 83 .tn), .cell (.int .i64) (.val (.int .i64))], F := fun x => fund_by_1_v2 x.1.1 x.1.2.1 x.1.2.2.1 x.2.1 x.2.2.1 }
theorem fund_by_1_v2.eq : (fun x => body fund_by_1_v2.C fund_by_1_v2.Q Go.Proofs.Try.f68 fund_by_1_v2.sig.args fund_by_1_v2.sig.objs fund_by_1_v2.sig.ret fund_by_1_v2.sig.outs x) = fund_by_1_v2.sig.F := by
  kernel_rfl
set_option maxRecDepth 100000 in
theorem fund_by_1_v2.ctx : CtxOk Go.Proofs.Try.prog fund_by_1_v2.C := ⟨tyOk, mpOk, Nat.le_of_ble_eq_true (by kernel_rfl), fun f sg => fun h => sigs_if h (allS_cons field_Settle.ok allS_nil) ((fun h => by cases h))⟩
set_option maxRecDepth 100000 in
theorem fund_by_1_v2.ok : Sound Go.Proofs.Try.prog 68 fund_by_1_v2.sig := body_sound (C := fund_by_1_v2.C) (q := fund_by_1_v2.Q) (fn := Go.Proofs.Try.f68) (sg := fund_by_1_v2.sig) (n := 3) fund_by_1_v2.ctx follows Go.Proofs.Try.func68 (by kernel_rfl) (by kernel_rfl) (by kernel_rfl) (by kernel_rfl) (Nat.le_of_ble_eq_true (by kernel_rfl)) (by kernel_rfl) fund_by_1_v2.eq

def fund_Fund_change_v2 (x0 : Unit) (x1 : Int × Int × Int × Unit) (x2 : Unit × Unit × Unit) (o0 : Unit × Unit) (o1 : Unit) (o2 : Int) (o3 : Unit × Unit) (o4 : List ((Int × Int × Int × Unit) × Int × Int × Int × Int × Int × Int × Unit)) : Option (Int × (Unit × Unit) × Unit × Int × (Unit × Unit) × (List ((Int × Int × Int × Unit) × Int × Int × Int × Int × Int × Int × Unit)) × Unit) :=
  (fund_Fund_Get () x1 ((), o0.2) ((), o3.2) o4).bind fun r12 => bif !r12.1.2.1 then some (10, (((), r12.2.1.2), ((), (o2, (((), r12.2.2.1.2), (r12.2.2.2.1, ())))))) else (fund_by_1_v2 r12.1.1 () () () o2).bind fun r13 => bif (r13.1.2.1 : Int) == 0 then (table_Table_api_Field_Put () x1 r13.1.1 ((), r12.2.2.1.2) r12.2.2.2.1).bind fun r14 => some (r13.1.2.1, (((), r12.2.1.2), ((), (r13.2.2.1, (((), r14.2.1.2), (r14.2.2.1, ())))))) else some (r13.1.2.1, (((), r12.2.1.2), ((), (r13.2.2.1, (((), r12.2.2.1.2), (r12.2.2.2.1, ()))))))
def fund_Fund_change_v2.C : Ctx := { ty := tyT, sigs := fun i => bif Nat.beq i 37 then [table_Table_api_Field_Put.sig] else bif Nat.beq i 46 then [fund_Fund_Get.sig] else bif Nat.beq i 68 then [fund_by_1_v2.sig] else [], n := 35, mp := mpT }
def fund_Fund_change_v2.Q : Cuts := { np := 5, loops := fun i => none, seqs := fun i => none, splits := fun i => none }
def fund_Fund_change_v2.sig : Sig := { args := .tc (.ptr 0) (.tc (.val kKey) (.tc (.clo 68 (.tc (.ptr 1) (.tc (.ptr 2) .tn))) .tn)), objs := [.cell (.cons (.ref 0) .unit) (.pair (.ptr 3) (.val .unit)), .cell (.ref 2) (.clo 83 .tn), .cell (.int .i64) (.val (.int .i64)), .cell (.cons (.ref 1) .unit) (.pair (.mapr 4) (.val .unit)), .map kKey kField], ret := .val (.int .i64), outs := [.cell (.cons (.ref 0) .unit) (.pair (.ptr 3) (.val .unit)), .cell (.ref 2) (.clo 83 .tn), .cell (.int .i64) (.val (.int .i64)), .cell (.cons (.ref 1) .unit) (.pair (.mapr 4) (.val .unit)), .map kKey kField], F := fun x => fund_Fund_change_v2 x.1.1 x.1.2.1 x.1.2.2.1 x.2.1 x.2.2.1 x.2.2.2.1 x.2.2.2.2.1 x.2.2.2.2.2.1 }
theorem fund_Fund_change_v2.eq : (fun x => body fund_Fund_change_v2.C fund_Fund_change_v2.Q Go.Proofs.Try.f38 fund_Fund_change_v2.sig.args fund_Fund_change_v2.sig.objs fund_Fund_change_v2.sig.ret fund_Fund_change_v2.sig.outs x) = fund_Fund_change_v2.sig.F := by
  kernel_rfl
set_option maxRecDepth 100000 in
theorem fund_Fund_change_v2.ctx : CtxOk Go.Proofs.Try.prog fund_Fund_change_v2.C := ⟨tyOk, mpOk, Nat.le_of_ble_eq_true (by kernel_rfl), fun f sg => fun h => sigs_if h (allS_cons table_Table_api_Field_Put.ok allS_nil) (fun h => sigs_if h (allS_cons fund_Fund_Get.ok allS_nil) (fun h => sigs_if h (allS_cons fund_by_1_v2.ok allS_nil) ((fun h => by cases h))))⟩
set_option maxRecDepth 100000 in
theorem fund_Fund_change_v2.ok : Sound Go.Proofs.Try.prog 38 fund_Fund_change_v2.sig := body_sound (C := fund_Fund_change_v2.C) (q := fund_Fund_change_v2.Q) (fn := Go.Proofs.Try.f38) (sg := fund_Fund_change_v2.sig) (n := 3) fund_Fund_change_v2.ctx follows Go.Proofs.Try.func38 (by kernel_rfl) (by kernel_rfl) (by kernel_rfl) (by kernel_rfl) (Nat.le_of_ble_eq_true (by kernel_rfl)) (by kernel_rfl) fund_Fund_change_v2.eq

def fund_Fund_Settle (x0 : Unit) (x1 : (Int × Int × Int × Unit) × Int × Unit) (o0 : Unit × Unit) (o1 : Unit × Unit) (o2 : List ((Int × Int × Int × Unit) × Int × Int × Int × Int × Int × Int × Unit)) : Option (Int × (Unit × Unit) × (Unit × Unit) × (List ((Int × Int × Int × Unit) × Int × Int × Int × Int × Int × Int × Unit)) × Unit) :=
  (fund_by_v2 () x1.2.1).bind fun r11 => (fund_Fund_change_v2 () x1.1 ((), ((), ())) ((), o0.2) () r11.2.2.1 ((), o1.2) o2).bind fun r12 => some (r12.1, (((), r12.2.1.2), (((), r12.2.2.2.2.1.2), (r12.2.2.2.2.2.1, ()))))
def fund_Fund_Settle.C : Ctx := { ty := tyT, sigs := fun i => bif Nat.beq i 38 then [fund_Fund_change_v2.sig] else bif Nat.beq i 39 then [fund_by_v2.sig] else [], n := 12, mp := mpT }
def fund_Fund_Settle.Q : Cuts := { np := 3, loops := fun i => none, seqs := fun i => none, splits := fun i => none }
def fund_Fund_Settle.sig : Sig := { args := .tc (.ptr 0) (.tc (.val kOp) .tn), objs := [.cell (.cons (.ref 0) .unit) (.pair (.ptr 1) (.val .unit)), .cell (.cons (.ref 1) .unit) (.pair (.mapr 2) (.val .unit)), .map kKey kField], ret := .val (.int .i64), outs := [.cell (.cons (.ref 0) .unit) (.pair (.ptr 1) (.val .unit)), .cell (.cons (.ref 1) .unit) (.pair (.mapr 2) (.val .unit)), .map kKey kField], F := fun x => fund_Fund_Settle x.1.1 x.1.2.1 x.2.1 x.2.2.1 x.2.2.2.1 }
theorem fund_Fund_Settle.eq : (fun x => body fund_Fund_Settle.C fund_Fund_Settle.Q Go.Proofs.Try.f51 fund_Fund_Settle.sig.args fund_Fund_Settle.sig.objs fund_Fund_Settle.sig.ret fund_Fund_Settle.sig.outs x) = fund_Fund_Settle.sig.F := by
  kernel_rfl
set_option maxRecDepth 100000 in
theorem fund_Fund_Settle.ctx : CtxOk Go.Proofs.Try.prog fund_Fund_Settle.C := ⟨tyOk, mpOk, Nat.le_of_ble_eq_true (by kernel_rfl), fun f sg => fun h => sigs_if h (allS_cons fund_Fund_change_v2.ok allS_nil) (fun h => sigs_if h (allS_cons fund_by_v2.ok allS_nil) ((fun h => by cases h)))⟩
set_option maxRecDepth 100000 in
theorem fund_Fund_Settle.ok : Sound Go.Proofs.Try.prog 51 fund_Fund_Settle.sig := body_sound (C := fund_Fund_Settle.C) (q := fund_Fund_Settle.Q) (fn := Go.Proofs.Try.f51) (sg := fund_Fund_Settle.sig) (n := 2) fund_Fund_Settle.ctx follows Go.Proofs.Try.func51 (by kernel_rfl) (by kernel_rfl) (by kernel_rfl) (by kernel_rfl) (Nat.le_of_ble_eq_true (by kernel_rfl)) (by kernel_rfl) fund_Fund_Settle.eq

def fund_by_v3 (x0 : Unit) (x1 : Int) : Option ((Unit × Unit × Unit) × Unit × Int × Unit) :=
  some (((), ((), ())), ((), (x1, ())))
def fund_by_v3.C : Ctx := { ty := tyT, sigs := fun i => [], n := 6, mp := mpT }
def fund_by_v3.Q : Cuts := { np := 0, loops := fun i => none, seqs := fun i => none, splits := fun i => none }
def fund_by_v3.sig : Sig := { args := .tc (.clo 84 .tn) (.tc (.val (.int .i64)) .tn), objs := [], ret := .clo 68 (.tc (.ptr 0) (.tc (.ptr 1) .tn)), outs := [.cell (.ref 2) (.clo 84 .tn), .cell (.int .i64) (.val (.int .i64))], F := fun x => fund_by_v3 x.1.1 x.1.2.1 }
theorem fund_by_v3.eq : (fun x => body fund_by_v3.C fund_by_v3.Q Go.Proofs.Try.f39 fund_by_v3.sig.args fund_by_v3.sig.objs fund_by_v3.sig.ret fund_by_v3.sig.outs x) = fund_by_v3.sig.F := by
  kernel_rfl
set_option maxRecDepth 100000 in
theorem fund_by_v3.ctx : CtxOk Go.Proofs.Try.prog fund_by_v3.C := ⟨tyOk, mpOk, Nat.le_of_ble_eq_true (by kernel_rfl), fun f sg => (fun h => by cases h)⟩
set_option maxRecDepth 100000 in
theorem fund_by_v3.ok : Sound Go.Proofs.Try.prog 39 fund_by_v3.sig := body_sound (C := fund_by_v3.C) (q := fund_by_v3.Q) (fn := Go.Proofs.Try.f39) (sg := fund_by_v3.sig) (n := 2) fund_by_v3.ctx follows Go.Proofs.Try.func39 (by kernel_rfl) (by kernel_rfl) (by kernel_rfl) (by kernel_rfl) (Nat.le_of_ble_eq_true (by kernel_rfl)) (by kernel_rfl) fund_by_v3.eq

def field_move_v3 (x0 : Int × Int × Int × Int × Int × Int × Unit) (x1 : Int) (x2 : Unit) (x3 : Unit) (x4 : Unit) (x5 : Unit) : Option ((Int × Int × Int × Int × Int × Int × Unit) × Int × Unit) :=
  (field_wrong x0 x1).bind fun r16 => bif (r16 : Int) != 0 then some (x0, (r16, ())) else bif decide (x1 < 0) then (field_part_less (x0.2.2.2.2.2.1, (true, ())) x1).bind fun r17 => (field_part_still (x0.2.2.1, (true, ())) x1).bind fun r18 => (field_part_still (x0.2.2.2.1, (true, ())) x1).bind fun r19 => (field_part_still (x0.2.2.2.2.1, (true, ())) x1).bind fun r20 => bif !r17.2.1 then some (x0, (12, ())) else bif !r18.2.1 then some (x0, (12, ())) else bif !r19.2.1 then some (x0, (12, ())) else bif !r20.2.1 then some (x0, (12, ())) else (field_Good (x0.1, (x0.2.1, (r18.1, (r19.1, (r20.1, (r17.1, ()))))))).bind fun r21 => bif !r21 then some (x0, (12, ())) else some ((x0.1, (x0.2.1, (r18.1, (r19.1, (r20.1, (r17.1, ())))))), (0, ())) else (field_part_less (x0.2.2.2.2.2.1, (true, ())) x1).bind fun r22 => (field_part_still (x0.2.2.1, (true, ())) x1).bind fun r23 => (field_part_still (x0.2.2.2.1, (true, ())) x1).bind fun r24 => (field_part_still (x0.2.2.2.2.1, (true, ())) x1).bind fun r25 => bif !r22.2.1 then some (x0, (12, ())) else bif !r23.2.1 then some (x0, (12, ())) else bif !r24.2.1 then some (x0, (12, ())) else bif !r25.2.1 then some (x0, (12, ())) else (field_Good (x0.1, (x0.2.1, (r23.1, (r24.1, (r25.1, (r22.1, ()))))))).bind fun r26 => bif !r26 then some (x0, (12, ())) else some ((x0.1, (x0.2.1, (r23.1, (r24.1, (r25.1, (r22.1, ())))))), (0, ()))
def field_move_v3.C : Ctx := { ty := tyT, sigs := fun i => bif Nat.beq i 67 then [field_Good.sig] else bif Nat.beq i 69 then [field_wrong.sig] else bif Nat.beq i 72 then [field_part_less.sig] else bif Nat.beq i 73 then [field_part_still.sig] else [], n := 93, mp := mpT }
def field_move_v3.Q : Cuts := { np := 0, loops := fun i => none, seqs := fun i => none, splits := fun i => none }
def field_move_v3.sig : Sig := { args := .tc (.val kField) (.tc (.val (.int .i64)) (.tc (.clo 72 .tn) (.tc (.clo 73 .tn) (.tc (.clo 73 .tn) (.tc (.clo 73 .tn) .tn))))), objs := [], ret := .tup (.tc (.val kField) (.tc (.val (.int .i64)) .tn)), outs := [], F := fun x => field_move_v3 x.1.1 x.1.2.1 x.1.2.2.1 x.1.2.2.2.1 x.1.2.2.2.2.1 x.1.2.2.2.2.2.1 }
theorem field_move_v3.eq : (fun x => body field_move_v3.C field_move_v3.Q Go.Proofs.Try.f71 field_move_v3.sig.args field_move_v3.sig.objs field_move_v3.sig.ret field_move_v3.sig.outs x) = field_move_v3.sig.F := by
  kernel_rfl
set_option maxRecDepth 100000 in
theorem field_move_v3.ctx : CtxOk Go.Proofs.Try.prog field_move_v3.C := ⟨tyOk, mpOk, Nat.le_of_ble_eq_true (by kernel_rfl), fun f sg => fun h => sigs_if h (allS_cons field_Good.ok allS_nil) (fun h => sigs_if h (allS_cons field_wrong.ok allS_nil) (fun h => sigs_if h (allS_cons field_part_less.ok allS_nil) (fun h => sigs_if h (allS_cons field_part_still.ok allS_nil) ((fun h => by cases h)))))⟩
set_option maxRecDepth 100000 in
theorem field_move_v3.ok : Sound Go.Proofs.Try.prog 71 field_move_v3.sig := body_sound (C := field_move_v3.C) (q := field_move_v3.Q) (fn := Go.Proofs.Try.f71) (sg := field_move_v3.sig) (n := 6) field_move_v3.ctx follows Go.Proofs.Try.func71 (by kernel_rfl) (by kernel_rfl) (by kernel_rfl) (by kernel_rfl) (Nat.le_of_ble_eq_true (by kernel_rfl)) (by kernel_rfl) field_move_v3.eq

def field_Back (x0 : Int × Int × Int × Int × Int × Int × Unit) (x1 : Int) : Option ((Int × Int × Int × Int × Int × Int × Unit) × Int × Unit) :=
  (field_move_v3 x0 x1 () () () ()).bind fun r16 => some (r16.1, (r16.2.1, ()))
def field_Back.C : Ctx := { ty := tyT, sigs := fun i => bif Nat.beq i 71 then [field_move_v3.sig] else [], n := 11, mp := mpT }
def field_Back.Q : Cuts := { np := 0, loops := fun i => none, seqs := fun i => none, splits := fun i => none }
def field_Back.sig : Sig := { args := .tc (.val kField) (.tc (.val (.int .i64)) .tn), objs := [], ret := .tup (.tc (.val kField) (.tc (.val (.int .i64)) .tn)), outs := [], F := fun x => field_Back x.1.1 x.1.2.1 }
theorem field_Back.eq : (fun x => body field_Back.C field_Back.Q Go.Proofs.Try.f84 field_Back.sig.args field_Back.sig.objs field_Back.sig.ret field_Back.sig.outs x) = field_Back.sig.F := by
  kernel_rfl
set_option maxRecDepth 100000 in
theorem field_Back.ctx : CtxOk Go.Proofs.Try.prog field_Back.C := ⟨tyOk, mpOk, Nat.le_of_ble_eq_true (by kernel_rfl), fun f sg => fun h => sigs_if h (allS_cons field_move_v3.ok allS_nil) ((fun h => by cases h))⟩
set_option maxRecDepth 100000 in
theorem field_Back.ok : Sound Go.Proofs.Try.prog 84 field_Back.sig := body_sound (C := field_Back.C) (q := field_Back.Q) (fn := Go.Proofs.Try.f84) (sg := field_Back.sig) (n := 2) field_Back.ctx follows Go.Proofs.Try.func84 (by kernel_rfl) (by kernel_rfl) (by kernel_rfl) (by kernel_rfl) (Nat.le_of_ble_eq_true (by kernel_rfl)) (by kernel_rfl) field_Back.eq

def fund_by_1_v3 (x0 : Int × Int × Int × Int × Int × Int × Unit) (x1 : Unit) (x2 : Unit) (o0 : Unit) (o1 : Int) : Option (((Int × Int × Int × Int × Int × Int × Unit) × Int × Unit) × Unit × Int × Unit) :=
  (field_Back x0 o1).bind fun r16 => some ((r16.1, (r16.2.1, ())), ((), (o1, ())))
def fund_by_1_v3.C : Ctx := { ty := tyT, sigs := fun i => bif Nat.beq i 84 then [field_Back.sig] else [], n := 12, mp := mpT }
def fund_by_1_v3.Q : Cuts := { np := 2, loops := fun i => none, seqs := fun i => none, splits := fun i => none }
def fund_by_1_v3.sig : Sig := { args := .tc (.val kField) (.tc (.ptr 0) (.tc (.ptr 1) .tn)), objs := [.cell (.ref 2) (.clo 84 .tn), .cell (.int .i64) (.val (.int .i64))], ret := .tup (.tc (.val kField) (.tc (.val (.int .i64)) .tn)), outs := [.cell (.ref 2) (.clo 84 .tn), .cell (.int .i64) (.val (.int .i64))], F := fun x => fund_by_1_v3 x.1.1 x.1.2.1 x.1.2.2.1 x.2.1 x.2.2.1 }
theorem fund_by_1_v3.eq : (fun x => body fund_by_1_v3.C fund_by_1_v3.Q Go.Proofs.Try.f68 fund_by_1_v3.sig.args fund_by_1_v3.sig.objs fund_by_1_v3.sig.ret fund_by_1_v3.sig.outs x) = fund_by_1_v3.sig.F := by
  kernel_rfl
set_option maxRecDepth 100000 in
theorem fund_by_1_v3.ctx : CtxOk Go.Proofs.Try.prog fund_by_1_v3.C := ⟨tyOk, mpOk, Nat.le_of_ble_eq_true (by kernel_rfl), fun f sg => fun h => sigs_if h (allS_cons field_Back.ok allS_nil) ((fun h => by cases h))⟩
set_option maxRecDepth 100000 in
theorem fund_by_1_v3.ok : Sound Go.Proofs.Try.prog 68 fund_by_1_v3.sig := body_sound (C := fund_by_1_v3.C) (q := fund_by_1_v3.Q) (fn := Go.Proofs.Try.f68) (sg := fund_by_1_v3.sig) (n := 3) fund_by_1_v3.ctx follows Go.Proofs.Try.func68 (by kernel_rfl) (by kernel_rfl) (by kernel_rfl) (by kernel_rfl) (Nat.le_of_ble_eq_true (by kernel_rfl)) (by kernel_rfl) fund_by_1_v3.eq

def fund_Fund_change_v3 (x0 : Unit) (x1 : Int × Int × Int × Unit) (x2 : Unit × Unit × Unit) (o0 : Unit × Unit) (o1 : Unit) (o2 : Int) (o3 : Unit × Unit) (o4 : List ((Int × Int × Int × Unit) × Int × Int × Int × Int × Int × Int × Unit)) : Option (Int × (Unit × Unit) × Unit × Int × (Unit × Unit) × (List ((Int × Int × Int × Unit) × Int × Int × Int × Int × Int × Int × Unit)) × Unit) :=
  (fund_Fund_Get () x1 ((), o0.2) ((), o3.2) o4).bind fun r15 => bif !r15.1.2.1 then some (10, (((), r15.2.1.2), ((), (o2, (((), r15.2.2.1.2), (r15.2.2.2.1, ())))))) else (fund_by_1_v3 r15.1.1 () () () o2).bind fun r16 => bif (r16.1.2.1 : Int) == 0 then (table_Table_api_Field_Put () x1 r16.1.1 ((), r15.2.2.1.2) r15.2.2.2.1).bind fun r17 => some (r16.1.2.1, (((), r15.2.1.2), ((), (r16.2.2.1, (((), r17.2.1.2), (r17.2.2.1, ())))))) else some (r16.1.2.1, (((), r15.2.1.2), ((), (r16.2.2.1, (((), r15.2.2.1.2), (r15.2.2.2.1, ()))))))
def fund_Fund_change_v3.C : Ctx := { ty := tyT, sigs := fun i => bif Nat.beq i 37 then [table_Table_api_Field_Put.sig] else bif Nat.beq i 46 then [fund_Fund_Get.sig] else bif Nat.beq i 68 then [fund_by_1_v3.sig] else [], n := 35, mp := mpT }
def fund_Fund_change_v3.Q : Cuts := { np := 5, loops := fun i => none, seqs := fun i => none, splits := fun i => none }
def fund_Fund_change_v3.sig : Sig := { args := .tc (.ptr 0) (.tc (.val kKey) (.tc (.clo 68 (.tc (.ptr 1) (.tc (.ptr 2) .tn))) .tn)), objs := [.cell (.cons (.ref 0) .unit) (.pair (.ptr 3) (.val .unit)), .cell (.ref 2) (.clo 84 .tn), .cell (.int .i64) (.val (.int .i64)), .cell (.cons (.ref 1) .unit) (.pair (.mapr 4) (.val .unit)), .map kKey kField], ret := .val (.int .i64), outs := [.cell (.cons (.ref 0) .unit) (.pair (.ptr 3) (.val .unit)), .cell (.ref 2) (.clo 84 .tn), .cell (.int .i64) (.val (.int .i64)), .cell (.cons (.ref 1) .unit) (.pair (.mapr 4) (.val .unit)), .map kKey kField], F := fun x => fund_Fund_change_v3 x.1.1 x.1.2.1 x.1.2.2.1 x.2.1 x.2.2.1 x.2.2.2.1 x.2.2.2.2.1 x.2.2.2.2.2.1 }
theorem fund_Fund_change_v3.eq : (fun x => body fund_Fund_change_v3.C fund_Fund_change_v3.Q Go.Proofs.Try.f38 fund_Fund_change_v3.sig.args fund_Fund_change_v3.sig.objs fund_Fund_change_v3.sig.ret fund_Fund_change_v3.sig.outs x) = fund_Fund_change_v3.sig.F := by
  kernel_rfl
set_option maxRecDepth 100000 in
theorem fund_Fund_change_v3.ctx : CtxOk Go.Proofs.Try.prog fund_Fund_change_v3.C := ⟨tyOk, mpOk, Nat.le_of_ble_eq_true (by kernel_rfl), fun f sg => fun h => sigs_if h (allS_cons table_Table_api_Field_Put.ok allS_nil) (fun h => sigs_if h (allS_cons fund_Fund_Get.ok allS_nil) (fun h => sigs_if h (allS_cons fund_by_1_v3.ok allS_nil) ((fun h => by cases h))))⟩
set_option maxRecDepth 100000 in
theorem fund_Fund_change_v3.ok : Sound Go.Proofs.Try.prog 38 fund_Fund_change_v3.sig := body_sound (C := fund_Fund_change_v3.C) (q := fund_Fund_change_v3.Q) (fn := Go.Proofs.Try.f38) (sg := fund_Fund_change_v3.sig) (n := 3) fund_Fund_change_v3.ctx follows Go.Proofs.Try.func38 (by kernel_rfl) (by kernel_rfl) (by kernel_rfl) (by kernel_rfl) (Nat.le_of_ble_eq_true (by kernel_rfl)) (by kernel_rfl) fund_Fund_change_v3.eq

def fund_Fund_Back (x0 : Unit) (x1 : (Int × Int × Int × Unit) × Int × Unit) (o0 : Unit × Unit) (o1 : Unit × Unit) (o2 : List ((Int × Int × Int × Unit) × Int × Int × Int × Int × Int × Int × Unit)) : Option (Int × (Unit × Unit) × (Unit × Unit) × (List ((Int × Int × Int × Unit) × Int × Int × Int × Int × Int × Int × Unit)) × Unit) :=
  (fund_by_v3 () x1.2.1).bind fun r14 => (fund_Fund_change_v3 () x1.1 ((), ((), ())) ((), o0.2) () r14.2.2.1 ((), o1.2) o2).bind fun r15 => some (r15.1, (((), r15.2.1.2), (((), r15.2.2.2.2.1.2), (r15.2.2.2.2.2.1, ()))))
def fund_Fund_Back.C : Ctx := { ty := tyT, sigs := fun i => bif Nat.beq i 38 then [fund_Fund_change_v3.sig] else bif Nat.beq i 39 then [fund_by_v3.sig] else [], n := 12, mp := mpT }
def fund_Fund_Back.Q : Cuts := { np := 3, loops := fun i => none, seqs := fun i => none, splits := fun i => none }
def fund_Fund_Back.sig : Sig := { args := .tc (.ptr 0) (.tc (.val kOp) .tn), objs := [.cell (.cons (.ref 0) .unit) (.pair (.ptr 1) (.val .unit)), .cell (.cons (.ref 1) .unit) (.pair (.mapr 2) (.val .unit)), .map kKey kField], ret := .val (.int .i64), outs := [.cell (.cons (.ref 0) .unit) (.pair (.ptr 1) (.val .unit)), .cell (.cons (.ref 1) .unit) (.pair (.mapr 2) (.val .unit)), .map kKey kField], F := fun x => fund_Fund_Back x.1.1 x.1.2.1 x.2.1 x.2.2.1 x.2.2.2.1 }
theorem fund_Fund_Back.eq : (fun x => body fund_Fund_Back.C fund_Fund_Back.Q Go.Proofs.Try.f52 fund_Fund_Back.sig.args fund_Fund_Back.sig.objs fund_Fund_Back.sig.ret fund_Fund_Back.sig.outs x) = fund_Fund_Back.sig.F := by
  kernel_rfl
set_option maxRecDepth 100000 in
theorem fund_Fund_Back.ctx : CtxOk Go.Proofs.Try.prog fund_Fund_Back.C := ⟨tyOk, mpOk, Nat.le_of_ble_eq_true (by kernel_rfl), fun f sg => fun h => sigs_if h (allS_cons fund_Fund_change_v3.ok allS_nil) (fun h => sigs_if h (allS_cons fund_by_v3.ok allS_nil) ((fun h => by cases h)))⟩
set_option maxRecDepth 100000 in
theorem fund_Fund_Back.ok : Sound Go.Proofs.Try.prog 52 fund_Fund_Back.sig := body_sound (C := fund_Fund_Back.C) (q := fund_Fund_Back.Q) (fn := Go.Proofs.Try.f52) (sg := fund_Fund_Back.sig) (n := 2) fund_Fund_Back.ctx follows Go.Proofs.Try.func52 (by kernel_rfl) (by kernel_rfl) (by kernel_rfl) (by kernel_rfl) (Nat.le_of_ble_eq_true (by kernel_rfl)) (by kernel_rfl) fund_Fund_Back.eq

def fund_by_v4 (x0 : Unit) (x1 : Int) : Option ((Unit × Unit × Unit) × Unit × Int × Unit) :=
  some (((), ((), ())), ((), (x1, ())))
def fund_by_v4.C : Ctx := { ty := tyT, sigs := fun i => [], n := 6, mp := mpT }
def fund_by_v4.Q : Cuts := { np := 0, loops := fun i => none, seqs := fun i => none, splits := fun i => none }
def fund_by_v4.sig : Sig := { args := .tc (.clo 85 .tn) (.tc (.val (.int .i64)) .tn), objs := [], ret := .clo 68 (.tc (.ptr 0) (.tc (.ptr 1) .tn)), outs := [.cell (.ref 2) (.clo 85 .tn), .cell (.int .i64) (.val (.int .i64))], F := fun x => fund_by_v4 x.1.1 x.1.2.1 }
theorem fund_by_v4.eq : (fun x => body fund_by_v4.C fund_by_v4.Q Go.Proofs.Try.f39 fund_by_v4.sig.args fund_by_v4.sig.objs fund_by_v4.sig.ret fund_by_v4.sig.outs x) = fund_by_v4.sig.F := by
  kernel_rfl
set_option maxRecDepth 100000 in
theorem fund_by_v4.ctx : CtxOk Go.Proofs.Try.prog fund_by_v4.C := ⟨tyOk, mpOk, Nat.le_of_ble_eq_true (by kernel_rfl), fun f sg => (fun h => by cases h)⟩
set_option maxRecDepth 100000 in
theorem fund_by_v4.ok : Sound Go.Proofs.Try.prog 39 fund_by_v4.sig := body_sound (C := fund_by_v4.C) (q := fund_by_v4.Q) (fn := Go.Proofs.Try.f39) (sg := fund_by_v4.sig) (n := 2) fund_by_v4.ctx follows Go.Proofs.Try.func39 (by kernel_rfl) (by kernel_rfl) (by kernel_rfl) (by kernel_rfl) (Nat.le_of_ble_eq_true (by kernel_rfl)) (by kernel_rfl) fund_by_v4.eq

def field_move_v4 (x0 : Int × Int × Int × Int × Int × Int × Unit) (x1 : Int) (x2 : Unit) (x3 : Unit) (x4 : Unit) (x5 : Unit) : Option ((Int × Int × Int × Int × Int × Int × Unit) × Int × Unit) :=
  (field_wrong x0 x1).bind fun r19 => bif (r19 : Int) != 0 then some (x0, (r19, ())) else bif decide (x1 < 0) then (field_part_more (x0.2.2.2.2.2.1, (true, ())) x1).bind fun r20 => (field_part_still (x0.2.2.1, (true, ())) x1).bind fun r21 => (field_part_still (x0.2.2.2.1, (true, ())) x1).bind fun r22 => (field_part_still (x0.2.2.2.2.1, (true, ())) x1).bind fun r23 => bif !r20.2.1 then some (x0, (12, ())) else bif !r21.2.1 then some (x0, (12, ())) else bif !r22.2.1 then some (x0, (12, ())) else bif !r23.2.1 then some (x0, (12, ())) else (field_Good (x0.1, (x0.2.1, (r21.1, (r22.1, (r23.1, (r20.1, ()))))))).bind fun r24 => bif !r24 then some (x0, (12, ())) else some ((x0.1, (x0.2.1, (r21.1, (r22.1, (r23.1, (r20.1, ())))))), (0, ())) else (field_part_more (x0.2.2.2.2.2.1, (true, ())) x1).bind fun r25 => (field_part_still (x0.2.2.1, (true, ())) x1).bind fun r26 => (field_part_still (x0.2.2.2.1, (true, ())) x1).bind fun r27 => (field_part_still (x0.2.2.2.2.1, (true, ())) x1).bind fun r28 => bif !r25.2.1 then some (x0, (12, ())) else bif !r26.2.1 then some (x0, (12, ())) else bif !r27.2.1 then some (x0, (12, ())) else bif !r28.2.1 then some (x0, (12, ())) else (field_Good (x0.1, (x0.2.1, (r26.1, (r27.1, (r28.1, (r25.1, ()))))))).bind fun r29 => bif !r29 then some (x0, (12, ())) else some ((x0.1, (x0.2.1, (r26.1, (r27.1, (r28.1, (r25.1, ())))))), (0, ()))
def field_move_v4.C : Ctx := { ty := tyT, sigs := fun i => bif Nat.beq i 67 then [field_Good.sig] else bif Nat.beq i 69 then [field_wrong.sig] else bif Nat.beq i 73 then [field_part_still.sig] else bif Nat.beq i 101 then [field_part_more.sig] else [], n := 93, mp := mpT }
def field_move_v4.Q : Cuts := { np := 0, loops := fun i => none, seqs := fun i => none, splits := fun i => none }
def field_move_v4.sig : Sig := { args := .tc (.val kField) (.tc (.val (.int .i64)) (.tc (.clo 101 .tn) (.tc (.clo 73 .tn) (.tc (.clo 73 .tn) (.tc (.clo 73 .tn) .tn))))), objs := [], ret := .tup (.tc (.val kField) (.tc (.val (.int .i64)) .tn)), outs := [], F := fun x => field_move_v4 x.1.1 x.1.2.1 x.1.2.2.1 x.1.2.2.2.1 x.1.2.2.2.2.1 x.1.2.2.2.2.2.1 }
theorem field_move_v4.eq : (fun x => body field_move_v4.C field_move_v4.Q Go.Proofs.Try.f71 field_move_v4.sig.args field_move_v4.sig.objs field_move_v4.sig.ret field_move_v4.sig.outs x) = field_move_v4.sig.F := by
  kernel_rfl
set_option maxRecDepth 100000 in
theorem field_move_v4.ctx : CtxOk Go.Proofs.Try.prog field_move_v4.C := ⟨tyOk, mpOk, Nat.le_of_ble_eq_true (by kernel_rfl), fun f sg => fun h => sigs_if h (allS_cons field_Good.ok allS_nil) (fun h => sigs_if h (allS_cons field_wrong.ok allS_nil) (fun h => sigs_if h (allS_cons field_part_still.ok allS_nil) (fun h => sigs_if h (allS_cons field_part_more.ok allS_nil) ((fun h => by cases h)))))⟩
set_option maxRecDepth 100000 in
theorem field_move_v4.ok : Sound Go.Proofs.Try.prog 71 field_move_v4.sig := body_sound (C := field_move_v4.C) (q := field_move_v4.Q) (fn := Go.Proofs.Try.f71) (sg := field_move_v4.sig) (n := 6) field_move_v4.ctx follows Go.Proofs.Try.func71 (by kernel_rfl) (by kernel_rfl) (by kernel_rfl) (by kernel_rfl) (Nat.le_of_ble_eq_true (by kernel_rfl)) (by kernel_rfl) field_move_v4.eq

def field_Forth (x0 : Int × Int × Int × Int × Int × Int × Unit) (x1 : Int) : Option ((Int × Int × Int × Int × Int × Int × Unit) × Int × Unit) :=
  (field_move_v4 x0 x1 () () () ()).bind fun r19 => some (r19.1, (r19.2.1, ()))
def field_Forth.C : Ctx := { ty := tyT, sigs := fun i => bif Nat.beq i 71 then [field_move_v4.sig] else [], n := 11, mp := mpT }
def field_Forth.Q : Cuts := { np := 0, loops := fun i => none, seqs := fun i => none, splits := fun i => none }
def field_Forth.sig : Sig := { args := .tc (.val kField) (.tc (.val (.int .i64)) .tn), objs := [], ret := .tup (.tc (.val kField) (.tc (.val (.int .i64)) .tn)), outs := [], F := fun x => field_Forth x.1.1 x.1.2.1 }
theorem field_Forth.eq : (fun x => body field_Forth.C field_Forth.Q Go.Proofs.Try.f85 field_Forth.sig.args field_Forth.sig.objs field_Forth.sig.ret field_Forth.sig.outs x) = field_Forth.sig.F := by
  kernel_rfl
set_option maxRecDepth 100000 in
theorem field_Forth.ctx : CtxOk Go.Proofs.Try.prog field_Forth.C := ⟨tyOk, mpOk, Nat.le_of_ble_eq_true (by kernel_rfl), fun f sg => fun h => sigs_if h (allS_cons field_move_v4.ok allS_nil) ((fun h => by cases h))⟩
set_option maxRecDepth 100000 in
theorem field_Forth.ok : Sound Go.Proofs.Try.prog 85 field_Forth.sig := body_sound (C := field_Forth.C) (q := field_Forth.Q) (fn := Go.Proofs.Try.f85) (sg := field_Forth.sig) (n := 2) field_Forth.ctx follows Go.Proofs.Try.func85 (by kernel_rfl) (by kernel_rfl) (by kernel_rfl) (by kernel_rfl) (Nat.le_of_ble_eq_true (by kernel_rfl)) (by kernel_rfl) field_Forth.eq

def fund_by_1_v4 (x0 : Int × Int × Int × Int × Int × Int × Unit) (x1 : Unit) (x2 : Unit) (o0 : Unit) (o1 : Int) : Option (((Int × Int × Int × Int × Int × Int × Unit) × Int × Unit) × Unit × Int × Unit) :=
  (field_Forth x0 o1).bind fun r19 => some ((r19.1, (r19.2.1, ())), ((), (o1, ())))
def fund_by_1_v4.C : Ctx := { ty := tyT, sigs := fun i => bif Nat.beq i 85 then [field_Forth.sig] else [], n := 12, mp := mpT }
def fund_by_1_v4.Q : Cuts := { np := 2, loops := fun i => none, seqs := fun i => none, splits := fun i => none }
def fund_by_1_v4.sig : Sig := { args := .tc (.val kField) (.tc (.ptr 0) (.tc (.ptr 1) .tn)), objs := [.cell (.ref 2) (.clo 85 .tn), .cell (.int .i64) (.val (.int .i64))], ret := .tup (.tc (.val kField) (.tc (.val (.int .i64)) .tn)), outs := [.cell (.ref 2) (.clo 85 .tn), .cell (.int .i64) (.val (.int .i64))], F := fun x => fund_by_1_v4 x.1.1 x.1.2.1 x.1.2.2.1 x.2.1 x.2.2.1 }
theorem fund_by_1_v4.eq : (fun x => body fund_by_1_v4.C fund_by_1_v4.Q Go.Proofs.Try.f68 fund_by_1_v4.sig.args fund_by_1_v4.sig.objs fund_by_1_v4.sig.ret fund_by_1_v4.sig.outs x) = fund_by_1_v4.sig.F := by
  kernel_rfl
set_option maxRecDepth 100000 in
theorem fund_by_1_v4.ctx : CtxOk Go.Proofs.Try.prog fund_by_1_v4.C := ⟨tyOk, mpOk, Nat.le_of_ble_eq_true (by kernel_rfl), fun f sg => fun h => sigs_if h (allS_cons field_Forth.ok allS_nil) ((fun h => by cases h))⟩
set_option maxRecDepth 100000 in
theorem fund_by_1_v4.ok : Sound Go.Proofs.Try.prog 68 fund_by_1_v4.sig := body_sound (C := fund_by_1_v4.C) (q := fund_by_1_v4.Q) (fn := Go.Proofs.Try.f68) (sg := fund_by_1_v4.sig) (n := 3) fund_by_1_v4.ctx follows Go.Proofs.Try.func68 (by kernel_rfl) (by kernel_rfl) (by kernel_rfl) (by kernel_rfl) (Nat.le_of_ble_eq_true (by kernel_rfl)) (by kernel_rfl) fund_by_1_v4.eq

def fund_Fund_change_v4 (x0 : Unit) (x1 : Int × Int × Int × Unit) (x2 : Unit × Unit × Unit) (o0 : Unit × Unit) (o1 : Unit) (o2 : Int) (o3 : Unit × Unit) (o4 : List ((Int × Int × Int × Unit) × Int × Int × Int × Int × Int × Int × Unit)) : Option (Int × (Unit × Unit) × Unit × Int × (Unit × Unit) × (List ((Int × Int × Int × Unit) × Int × Int × Int × Int × Int × Int × Unit)) × Unit) :=
  (fund_Fund_Get () x1 ((), o0.2) ((), o3.2) o4).bind fun r18 => bif !r18.1.2.1 then some (10, (((), r18.2.1.2), ((), (o2, (((), r18.2.2.1.2), (r18.2.2.2.1, ())))))) else (fund_by_1_v4 r18.1.1 () () () o2).bind fun r19 => bif (r19.1.2.1 : Int) == 0 then (table_Table_api_Field_Put () x1 r19.1.1 ((), r18.2.2.1.2) r18.2.2.2.1).bind fun r20 => some (r19.1.2.1, (((), r18.2.1.2), ((), (r19.2.2.1, (((), r20.2.1.2), (r20.2.2.1, ())))))) else some (r19.1.2.1, (((), r18.2.1.2), ((), (r19.2.2.1, (((), r18.2.2.1.2), (r18.2.2.2.1, ()))))))
def fund_Fund_change_v4.C : Ctx := { ty := tyT, sigs := fun i => bif Nat.beq i 37 then [table_Table_api_Field_Put.sig] else bif Nat.beq i 46 then [fund_Fund_Get.sig] else bif Nat.beq i 68 then [fund_by_1_v4.sig] else [], n := 35, mp := mpT }
def fund_Fund_change_v4.Q : Cuts := { np := 5, loops := fun i => none, seqs := fun i => none, splits := fun i => none }
def fund_Fund_change_v4.sig : Sig := { args := .tc (.ptr 0) (.tc (.val kKey) (.tc (.clo 68 (.tc (.ptr 1) (.tc (.ptr 2) .tn))) .tn)), objs := [.cell (.cons (.ref 0) .unit) (.pair (.ptr 3) (.val .unit)), .cell (.ref 2) (.clo 85 .tn), .cell (.int .i64) (.val (.int .i64)), .cell (.cons (.ref 1) .unit) (.pair (.mapr 4) (.val .unit)), .map kKey kField], ret := .val (.int .i64), outs := [.cell (.cons (.ref 0) .unit) (.pair (.ptr 3) (.val .unit)), .cell (.ref 2) (.clo 85 .tn), .cell (.int .i64) (.val (.int .i64)), .cell (.cons (.ref 1) .unit) (.pair (.mapr 4) (.val .unit)), .map kKey kField], F := fun x => fund_Fund_change_v4 x.1.1 x.1.2.1 x.1.2.2.1 x.2.1 x.2.2.1 x.2.2.2.1 x.2.2.2.2.1 x.2.2.2.2.2.1 }
theorem fund_Fund_change_v4.eq : (fun x => body fund_Fund_change_v4.C fund_Fund_change_v4.Q Go.Proofs.Try.f38 fund_Fund_change_v4.sig.args fund_Fund_change_v4.sig.objs fund_Fund_change_v4.sig.ret fund_Fund_change_v4.sig.outs x) = fund_Fund_change_v4.sig.F := by
  kernel_rfl
set_option maxRecDepth 100000 in
theorem fund_Fund_change_v4.ctx : CtxOk Go.Proofs.Try.prog fund_Fund_change_v4.C := ⟨tyOk, mpOk, Nat.le_of_ble_eq_true (by kernel_rfl), fun f sg => fun h => sigs_if h (allS_cons table_Table_api_Field_Put.ok allS_nil) (fun h => sigs_if h (allS_cons fund_Fund_Get.ok allS_nil) (fun h => sigs_if h (allS_cons fund_by_1_v4.ok allS_nil) ((fun h => by cases h))))⟩
set_option maxRecDepth 100000 in
theorem fund_Fund_change_v4.ok : Sound Go.Proofs.Try.prog 38 fund_Fund_change_v4.sig := body_sound (C := fund_Fund_change_v4.C) (q := fund_Fund_change_v4.Q) (fn := Go.Proofs.Try.f38) (sg := fund_Fund_change_v4.sig) (n := 3) fund_Fund_change_v4.ctx follows Go.Proofs.Try.func38 (by kernel_rfl) (by kernel_rfl) (by kernel_rfl) (by kernel_rfl) (Nat.le_of_ble_eq_true (by kernel_rfl)) (by kernel_rfl) fund_Fund_change_v4.eq

def fund_Fund_Forth (x0 : Unit) (x1 : (Int × Int × Int × Unit) × Int × Unit) (o0 : Unit × Unit) (o1 : Unit × Unit) (o2 : List ((Int × Int × Int × Unit) × Int × Int × Int × Int × Int × Int × Unit)) : Option (Int × (Unit × Unit) × (Unit × Unit) × (List ((Int × Int × Int × Unit) × Int × Int × Int × Int × Int × Int × Unit)) × Unit) :=
  (fund_by_v4 () x1.2.1).bind fun r17 => (fund_Fund_change_v4 () x1.1 ((), ((), ())) ((), o0.2) () r17.2.2.1 ((), o1.2) o2).bind fun r18 => some (r18.1, (((), r18.2.1.2), (((), r18.2.2.2.2.1.2), (r18.2.2.2.2.2.1, ()))))
def fund_Fund_Forth.C : Ctx := { ty := tyT, sigs := fun i => bif Nat.beq i 38 then [fund_Fund_change_v4.sig] else bif Nat.beq i 39 then [fund_by_v4.sig] else [], n := 12, mp := mpT }
def fund_Fund_Forth.Q : Cuts := { np := 3, loops := fun i => none, seqs := fun i => none, splits := fun i => none }
def fund_Fund_Forth.sig : Sig := { args := .tc (.ptr 0) (.tc (.val kOp) .tn), objs := [.cell (.cons (.ref 0) .unit) (.pair (.ptr 1) (.val .unit)), .cell (.cons (.ref 1) .unit) (.pair (.mapr 2) (.val .unit)), .map kKey kField], ret := .val (.int .i64), outs := [.cell (.cons (.ref 0) .unit) (.pair (.ptr 1) (.val .unit)), .cell (.cons (.ref 1) .unit) (.pair (.mapr 2) (.val .unit)), .map kKey kField], F := fun x => fund_Fund_Forth x.1.1 x.1.2.1 x.2.1 x.2.2.1 x.2.2.2.1 }
theorem fund_Fund_Forth.eq : (fun x => body fund_Fund_Forth.C fund_Fund_Forth.Q Go.Proofs.Try.f53 fund_Fund_Forth.sig.args fund_Fund_Forth.sig.objs fund_Fund_Forth.sig.ret fund_Fund_Forth.sig.outs x) = fund_Fund_Forth.sig.F := by
  kernel_rfl
set_option maxRecDepth 100000 in
theorem fund_Fund_Forth.ctx : CtxOk Go.Proofs.Try.prog fund_Fund_Forth.C := ⟨tyOk, mpOk, Nat.le_of_ble_eq_true (by kernel_rfl), fun f sg => fun h => sigs_if h (allS_cons fund_Fund_change_v4.ok allS_nil) (fun h => sigs_if h (allS_cons fund_by_v4.ok allS_nil) ((fun h => by cases h)))⟩
set_option maxRecDepth 100000 in
theorem fund_Fund_Forth.ok : Sound Go.Proofs.Try.prog 53 fund_Fund_Forth.sig := body_sound (C := fund_Fund_Forth.C) (q := fund_Fund_Forth.Q) (fn := Go.Proofs.Try.f53) (sg := fund_Fund_Forth.sig) (n := 2) fund_Fund_Forth.ctx follows Go.Proofs.Try.func53 (by kernel_rfl) (by kernel_rfl) (by kernel_rfl) (by kernel_rfl) (Nat.le_of_ble_eq_true (by kernel_rfl)) (by kernel_rfl) fund_Fund_Forth.eq

def fund_by_v5 (x0 : Unit) (x1 : Int) : Option ((Unit × Unit × Unit) × Unit × Int × Unit) :=
  some (((), ((), ())), ((), (x1, ())))
def fund_by_v5.C : Ctx := { ty := tyT, sigs := fun i => [], n := 6, mp := mpT }
def fund_by_v5.Q : Cuts := { np := 0, loops := fun i => none, seqs := fun i => none, splits := fun i => none }
def fund_by_v5.sig : Sig := { args := .tc (.clo 86 .tn) (.tc (.val (.int .i64)) .tn), objs := [], ret := .clo 68 (.tc (.ptr 0) (.tc (.ptr 1) .tn)), outs := [.cell (.ref 2) (.clo 86 .tn), .cell (.int .i64) (.val (.int .i64))], F := fun x => fund_by_v5 x.1.1 x.1.2.1 }
theorem fund_by_v5.eq : (fun x => body fund_by_v5.C fund_by_v5.Q Go.Proofs.Try.f39 fund_by_v5.sig.args fund_by_v5.sig.objs fund_by_v5.sig.ret fund_by_v5.sig.outs x) = fund_by_v5.sig.F := by
  kernel_rfl
set_option maxRecDepth 100000 in
theorem fund_by_v5.ctx : CtxOk Go.Proofs.Try.prog fund_by_v5.C := ⟨tyOk, mpOk, Nat.le_of_ble_eq_true (by kernel_rfl), fun f sg => (fun h => by cases h)⟩
set_option maxRecDepth 100000 in
theorem fund_by_v5.ok : Sound Go.Proofs.Try.prog 39 fund_by_v5.sig := body_sound (C := fund_by_v5.C) (q := fund_by_v5.Q) (fn := Go.Proofs.Try.f39) (sg := fund_by_v5.sig) (n := 2) fund_by_v5.ctx follows Go.Proofs.Try.func39 (by kernel_rfl) (by kernel_rfl) (by kernel_rfl) (by kernel_rfl) (Nat.le_of_ble_eq_true (by kernel_rfl)) (by kernel_rfl) fund_by_v5.eq

def field_move_v5 (x0 : Int × Int × Int × Int × Int × Int × Unit) (x1 : Int) (x2 : Unit) (x3 : Unit) (x4 : Unit) (x5 : Unit) : Option ((Int × Int × Int × Int × Int × Int × Unit) × Int × Unit) :=
  (field_wrong x0 x1).bind fun r22 => bif (r22 : Int) != 0 then some (x0, (r22, ())) else bif decide (x1 < 0) then (field_part_still (x0.2.2.2.2.2.1, (true, ())) x1).bind fun r23 => (field_part_still (x0.2.2.1, (true, ())) x1).bind fun r24 => (field_part_less (x0.2.2.2.1, (true, ())) x1).bind fun r25 => (field_part_still (x0.2.2.2.2.1, (true, ())) x1).bind fun r26 => bif !r23.2.1 then some (x0, (12, ())) else bif !r24.2.1 then some (x0, (12, ())) else bif !r25.2.1 then some (x0, (12, ())) else bif !r26.2.1 then some (x0, (12, ())) else (field_Good (x0.1, (x0.2.1, (r24.1, (r25.1, (r26.1, (r23.1, ()))))))).bind fun r27 => bif !r27 then some (x0, (12, ())) else some ((x0.1, (x0.2.1, (r24.1, (r25.1, (r26.1, (r23.1, ())))))), (0, ())) else (field_part_still (x0.2.2.2.2.2.1, (true, ())) x1).bind fun r28 => (field_part_still (x0.2.2.1, (true, ())) x1).bind fun r29 => (field_part_still (x0.2.2.2.1, (true, ())) x1).bind fun r30 => (field_part_less (x0.2.2.2.2.1, (true, ())) x1).bind fun r31 => bif !r28.2.1 then some (x0, (12, ())) else bif !r29.2.1 then some (x0, (12, ())) else bif !r30.2.1 then some (x0, (12, ())) else bif !r31.2.1 then some (x0, (12, ())) else (field_Good (x0.1, (x0.2.1, (r29.1, (r30.1, (r31.1, (r28.1, ()))))))).bind fun r32 => bif !r32 then some (x0, (12, ())) else some ((x0.1, (x0.2.1, (r29.1, (r30.1, (r31.1, (r28.1, ())))))), (0, ()))
def field_move_v5.C : Ctx := { ty := tyT, sigs := fun i => bif Nat.beq i 67 then [field_Good.sig] else bif Nat.beq i 69 then [field_wrong.sig] else bif Nat.beq i 72 then [field_part_less.sig] else bif Nat.beq i 73 then [field_part_still.sig] else [], n := 93, mp := mpT }
def field_move_v5.Q : Cuts := { np := 0, loops := fun i => none, seqs := fun i => none, splits := fun i => none }
def field_move_v5.sig : Sig := { args := .tc (.val kField) (.tc (.val (.int .i64)) (.tc (.clo 73 .tn) (.tc (.clo 73 .tn) (.tc (.clo 73 .tn) (.tc (.clo 72 .tn) .tn))))), objs := [], ret := .tup (.tc (.val kField) (.tc (.val (.int .i64)) .tn)), outs := [], F := fun x => field_move_v5 x.1.1 x.1.2.1 x.1.2.2.1 x.1.2.2.2.1 x.1.2.2.2.2.1 x.1.2.2.2.2.2.1 }
theorem field_move_v5.eq : (fun x => body field_move_v5.C field_move_v5.Q Go.Proofs.Try.f71 field_move_v5.sig.args field_move_v5.sig.objs field_move_v5.sig.ret field_move_v5.sig.outs x) = field_move_v5.sig.F := by
  kernel_rfl
set_option maxRecDepth 100000 in
theorem field_move_v5.ctx : CtxOk Go.Proofs.Try.prog field_move_v5.C := ⟨tyOk, mpOk, Nat.le_of_ble_eq_true (by kernel_rfl), fun f sg => fun h => sigs_if h (allS_cons field_Good.ok allS_nil) (fun h => sigs_if h (allS_cons field_wrong.ok allS_nil) (fun h => sigs_if h (allS_cons field_part_less.ok allS_nil) (fun h => sigs_if h (allS_cons field_part_still.ok allS_nil) ((fun h => by cases h)))))⟩
set_option maxRecDepth 100000 in
theorem field_move_v5.ok : Sound Go.Proofs.Try.prog 71 field_move_v5.sig := body_sound (C := field_move_v5.C) (q := field_move_v5.Q) (fn := Go.Proofs.Try.f71) (sg := field_move_v5.sig) (n := 6) field_move_v5.ctx follows Go.Proofs.Try.func71 (by kernel_rfl) (by kernel_rfl) (by kernel_rfl) (by kernel_rfl) (Nat.le_of_ble_eq_true (by kernel_rfl)) (by kernel_rfl) field_move_v5.eq

def field_Drop (x0 : Int × Int × Int × Int × Int × Int × Unit) (x1 : Int) : Option ((Int × Int × Int × Int × Int × Int × Unit) × Int × Unit) :=
  (field_move_v5 x0 x1 () () () ()).bind fun r22 => some (r22.1, (r22.2.1, ()))
def field_Drop.C : Ctx := { ty := tyT, sigs := fun i => bif Nat.beq i 71 then [field_move_v5.sig] else [], n := 11, mp := mpT }
def field_Drop.Q : Cuts := { np := 0, loops := fun i => none, seqs := fun i => none, splits := fun i => none }
def field_Drop.sig : Sig := { args := .tc (.val kField) (.tc (.val (.int .i64)) .tn), objs := [], ret := .tup (.tc (.val kField) (.tc (.val (.int .i64)) .tn)), outs := [], F := fun x => field_Drop x.1.1 x.1.2.1 }
theorem field_Drop.eq : (fun x => body field_Drop.C field_Drop.Q Go.Proofs.Try.f86 field_Drop.sig.args field_Drop.sig.objs field_Drop.sig.ret field_Drop.sig.outs x) = field_Drop.sig.F := by
  kernel_rfl
set_option maxRecDepth 100000 in
theorem field_Drop.ctx : CtxOk Go.Proofs.Try.prog field_Drop.C := ⟨tyOk, mpOk, Nat.le_of_ble_eq_true (by kernel_rfl), fun f sg => fun h => sigs_if h (allS_cons field_move_v5.ok allS_nil) ((fun h => by cases h))⟩
set_option maxRecDepth 100000 in
theorem field_Drop.ok : Sound Go.Proofs.Try.prog 86 field_Drop.sig := body_sound (C := field_Drop.C) (q := field_Drop.Q) (fn := Go.Proofs.Try.f86) (sg := field_Drop.sig) (n := 2) field_Drop.ctx follows Go.Proofs.Try.func86 (by kernel_rfl) (by kernel_rfl) (by kernel_rfl) (by kernel_rfl) (Nat.le_of_ble_eq_true (by kernel_rfl)) (by kernel_rfl) field_Drop.eq

def fund_by_1_v5 (x0 : Int × Int × Int × Int × Int × Int × Unit) (x1 : Unit) (x2 : Unit) (o0 : Unit) (o1 : Int) : Option (((Int × Int × Int × Int × Int × Int × Unit) × Int × Unit) × Unit × Int × Unit) :=
  (field_Drop x0 o1).bind fun r22 => some ((r22.1, (r22.2.1, ())), ((), (o1, ())))
def fund_by_1_v5.C : Ctx := { ty := tyT, sigs := fun i => bif Nat.beq i 86 then [field_Drop.sig] else [], n := 12, mp := mpT }
def fund_by_1_v5.Q : Cuts := { np := 2, loops := fun i => none, seqs := fun i => none, splits := fun i => none }
def fund_by_1_v5.sig : Sig := { args := .tc (.val kField) (.tc (.ptr 0) (.tc (.ptr 1) .tn)), objs := [.cell (.ref 2) (.clo 86 .tn), .cell (.int .i64) (.val (.int .i64))], ret := .tup (.tc (.val kField) (.tc (.val (.int .i64)) .tn)), outs := [.cell (.ref 2) (.clo 86 .tn), .cell (.int .i64) (.val (.int .i64))], F := fun x => fund_by_1_v5 x.1.1 x.1.2.1 x.1.2.2.1 x.2.1 x.2.2.1 }
theorem fund_by_1_v5.eq : (fun x => body fund_by_1_v5.C fund_by_1_v5.Q Go.Proofs.Try.f68 fund_by_1_v5.sig.args fund_by_1_v5.sig.objs fund_by_1_v5.sig.ret fund_by_1_v5.sig.outs x) = fund_by_1_v5.sig.F := by
  kernel_rfl
set_option maxRecDepth 100000 in
theorem fund_by_1_v5.ctx : CtxOk Go.Proofs.Try.prog fund_by_1_v5.C := ⟨tyOk, mpOk, Nat.le_of_ble_eq_true (by kernel_rfl), fun f sg => fun h => sigs_if h (allS_cons field_Drop.ok allS_nil) ((fun h => by cases h))⟩
set_option maxRecDepth 100000 in
theorem fund_by_1_v5.ok : Sound Go.Proofs.Try.prog 68 fund_by_1_v5.sig := body_sound (C := fund_by_1_v5.C) (q := fund_by_1_v5.Q) (fn := Go.Proofs.Try.f68) (sg := fund_by_1_v5.sig) (n := 3) fund_by_1_v5.ctx follows Go.Proofs.Try.func68 (by kernel_rfl) (by kernel_rfl) (by kernel_rfl) (by kernel_rfl) (Nat.le_of_ble_eq_true (by kernel_rfl)) (by kernel_rfl) fund_by_1_v5.eq

def fund_Fund_change_v5 (x0 : Unit) (x1 : Int × Int × Int × Unit) (x2 : Unit × Unit × Unit) (o0 : Unit × Unit) (o1 : Unit) (o2 : Int) (o3 : Unit × Unit) (o4 : List ((Int × Int × Int × Unit) × Int × Int × Int × Int × Int × Int × Unit)) : Option (Int × (Unit × Unit) × Unit × Int × (Unit × Unit) × (List ((Int × Int × Int × Unit) × Int × Int × Int × Int × Int × Int × Unit)) × Unit) :=
  (fund_Fund_Get () x1 ((), o0.2) ((), o3.2) o4).bind fun r21 => bif !r21.1.2.1 then some (10, (((), r21.2.1.2), ((), (o2, (((), r21.2.2.1.2), (r21.2.2.2.1, ())))))) else (fund_by_1_v5 r21.1.1 () () () o2).bind fun r22 => bif (r22.1.2.1 : Int) == 0 then (table_Table_api_Field_Put () x1 r22.1.1 ((), r21.2.2.1.2) r21.2.2.2.1).bind fun r23 => some (r22.1.2.1, (((), r21.2.1.2), ((), (r22.2.2.1, (((), r23.2.1.2), (r23.2.2.1, ())))))) else some (r22.1.2.1, (((), r21.2.1.2), ((), (r22.2.2.1, (((), r21.2.2.1.2), (r21.2.2.2.1, ()))))))
def fund_Fund_change_v5.C : Ctx := { ty := tyT, sigs := fun i => bif Nat.beq i 37 then [table_Table_api_Field_Put.sig] else bif Nat.beq i 46 then [fund_Fund_Get.sig] else bif Nat.beq i 68 then [fund_by_1_v5.sig] else [], n := 35, mp := mpT }
def fund_Fund_change_v5.Q : Cuts := { np := 5, loops := fun i => none, seqs := fun i => none, splits := fun i => none }
def fund_Fund_change_v5.sig : Sig := { args := .tc (.ptr 0) (.tc (.val kKey) (.tc (.clo 68 (.tc (.ptr 1) (.tc (.ptr 2) .tn))) .tn)), objs := [.cell (.cons (.ref 0) .unit) (.pair (.ptr 3) (.val .unit)), .cell (.ref 2) (.clo 86 .tn), .cell (.int .i64) (.val (.int .i64)), .cell (.cons (.ref 1) .unit) (.pair (.mapr 4) (.val .unit)), .map kKey kField], ret := .val (.int .i64), outs := [.cell (.cons (.ref 0) .unit) (.pair (.ptr 3) (.val .unit)), .cell (.ref 2) (.clo 86 .tn), .cell (.int .i64) (.val (.int .i64)), .cell (.cons (.ref 1) .unit) (.pair (.mapr 4) (.val .unit)), .map kKey kField], F := fun x => fund_Fund_change_v5 x.1.1 x.1.2.1 x.1.2.2.1 x.2.1 x.2.2.1 x.2.2.2.1 x.2.2.2.2.1 x.2.2.2.2.2.1 }
theorem fund_Fund_change_v5.eq : (fun x => body fund_Fund_change_v5.C fund_Fund_change_v5.Q Go.Proofs.Try.f38 fund_Fund_change_v5.sig.args fund_Fund_change_v5.sig.objs fund_Fund_change_v5.sig.ret fund_Fund_change_v5.sig.outs x) = fund_Fund_change_v5.sig.F := by
  kernel_rfl
set_option maxRecDepth 100000 in
theorem fund_Fund_change_v5.ctx : CtxOk Go.Proofs.Try.prog fund_Fund_change_v5.C := ⟨tyOk, mpOk, Nat.le_of_ble_eq_true (by kernel_rfl), fun f sg => fun h => sigs_if h (allS_cons table_Table_api_Field_Put.ok allS_nil) (fun h => sigs_if h (allS_cons fund_Fund_Get.ok allS_nil) (fun h => sigs_if h (allS_cons fund_by_1_v5.ok allS_nil) ((fun h => by cases h))))⟩
set_option maxRecDepth 100000 in
theorem fund_Fund_change_v5.ok : Sound Go.Proofs.Try.prog 38 fund_Fund_change_v5.sig := body_sound (C := fund_Fund_change_v5.C) (q := fund_Fund_change_v5.Q) (fn := Go.Proofs.Try.f38) (sg := fund_Fund_change_v5.sig) (n := 3) fund_Fund_change_v5.ctx follows Go.Proofs.Try.func38 (by kernel_rfl) (by kernel_rfl) (by kernel_rfl) (by kernel_rfl) (Nat.le_of_ble_eq_true (by kernel_rfl)) (by kernel_rfl) fund_Fund_change_v5.eq

def fund_Fund_Drop (x0 : Unit) (x1 : (Int × Int × Int × Unit) × Int × Unit) (o0 : Unit × Unit) (o1 : Unit × Unit) (o2 : List ((Int × Int × Int × Unit) × Int × Int × Int × Int × Int × Int × Unit)) : Option (Int × (Unit × Unit) × (Unit × Unit) × (List ((Int × Int × Int × Unit) × Int × Int × Int × Int × Int × Int × Unit)) × Unit) :=
  (fund_by_v5 () x1.2.1).bind fun r20 => (fund_Fund_change_v5 () x1.1 ((), ((), ())) ((), o0.2) () r20.2.2.1 ((), o1.2) o2).bind fun r21 => some (r21.1, (((), r21.2.1.2), (((), r21.2.2.2.2.1.2), (r21.2.2.2.2.2.1, ()))))
def fund_Fund_Drop.C : Ctx := { ty := tyT, sigs := fun i => bif Nat.beq i 38 then [fund_Fund_change_v5.sig] else bif Nat.beq i 39 then [fund_by_v5.sig] else [], n := 12, mp := mpT }
def fund_Fund_Drop.Q : Cuts := { np := 3, loops := fun i => none, seqs := fun i => none, splits := fun i => none }
def fund_Fund_Drop.sig : Sig := { args := .tc (.ptr 0) (.tc (.val kOp) .tn), objs := [.cell (.cons (.ref 0) .unit) (.pair (.ptr 1) (.val .unit)), .cell (.cons (.ref 1) .unit) (.pair (.mapr 2) (.val .unit)), .map kKey kField], ret := .val (.int .i64), outs := [.cell (.cons (.ref 0) .unit) (.pair (.ptr 1) (.val .unit)), .cell (.cons (.ref 1) .unit) (.pair (.mapr 2) (.val .unit)), .map kKey kField], F := fun x => fund_Fund_Drop x.1.1 x.1.2.1 x.2.1 x.2.2.1 x.2.2.2.1 }
theorem fund_Fund_Drop.eq : (fun x => body fund_Fund_Drop.C fund_Fund_Drop.Q Go.Proofs.Try.f54 fund_Fund_Drop.sig.args fund_Fund_Drop.sig.objs fund_Fund_Drop.sig.ret fund_Fund_Drop.sig.outs x) = fund_Fund_Drop.sig.F := by
  kernel_rfl
set_option maxRecDepth 100000 in
theorem fund_Fund_Drop.ctx : CtxOk Go.Proofs.Try.prog fund_Fund_Drop.C := ⟨tyOk, mpOk, Nat.le_of_ble_eq_true (by kernel_rfl), fun f sg => fun h => sigs_if h (allS_cons fund_Fund_change_v5.ok allS_nil) (fun h => sigs_if h (allS_cons fund_by_v5.ok allS_nil) ((fun h => by cases h)))⟩
set_option maxRecDepth 100000 in
theorem fund_Fund_Drop.ok : Sound Go.Proofs.Try.prog 54 fund_Fund_Drop.sig := body_sound (C := fund_Fund_Drop.C) (q := fund_Fund_Drop.Q) (fn := Go.Proofs.Try.f54) (sg := fund_Fund_Drop.sig) (n := 2) fund_Fund_Drop.ctx follows Go.Proofs.Try.func54 (by kernel_rfl) (by kernel_rfl) (by kernel_rfl) (by kernel_rfl) (Nat.le_of_ble_eq_true (by kernel_rfl)) (by kernel_rfl) fund_Fund_Drop.eq

def fund_by_v6 (x0 : Unit) (x1 : Int) : Option ((Unit × Unit × Unit) × Unit × Int × Unit) :=
  some (((), ((), ())), ((), (x1, ())))
def fund_by_v6.C : Ctx := { ty := tyT, sigs := fun i => [], n := 6, mp := mpT }
def fund_by_v6.Q : Cuts := { np := 0, loops := fun i => none, seqs := fun i => none, splits := fun i => none }
def fund_by_v6.sig : Sig := { args := .tc (.clo 40 .tn) (.tc (.val (.int .i64)) .tn), objs := [], ret := .clo 68 (.tc (.ptr 0) (.tc (.ptr 1) .tn)), outs := [.cell (.ref 2) (.clo 40 .tn), .cell (.int .i64) (.val (.int .i64))], F := fun x => fund_by_v6 x.1.1 x.1.2.1 }
theorem fund_by_v6.eq : (fun x => body fund_by_v6.C fund_by_v6.Q Go.Proofs.Try.f39 fund_by_v6.sig.args fund_by_v6.sig.objs fund_by_v6.sig.ret fund_by_v6.sig.outs x) = fund_by_v6.sig.F := by
  kernel_rfl
set_option maxRecDepth 100000 in
theorem fund_by_v6.ctx : CtxOk Go.Proofs.Try.prog fund_by_v6.C := ⟨tyOk, mpOk, Nat.le_of_ble_eq_true (by kernel_rfl), fun f sg => (fun h => by cases h)⟩
set_option maxRecDepth 100000 in
theorem fund_by_v6.ok : Sound Go.Proofs.Try.prog 39 fund_by_v6.sig := body_sound (C := fund_by_v6.C) (q := fund_by_v6.Q) (fn := Go.Proofs.Try.f39) (sg := fund_by_v6.sig) (n := 2) fund_by_v6.ctx follows Go.Proofs.Try.func39 (by kernel_rfl) (by kernel_rfl) (by kernel_rfl) (by kernel_rfl) (Nat.le_of_ble_eq_true (by kernel_rfl)) (by kernel_rfl) fund_by_v6.eq

def field_Grant (x0 : Int × Int × Int × Int × Int × Int × Unit) (x1 : Int) : Option ((Int × Int × Int × Int × Int × Int × Unit) × Int × Unit) :=
  (field_wrong x0 x1).bind fun r15 => bif (r15 : Int) != 0 then some (x0, (r15, ())) else bif decide (x1 < 0) then (calc_Add x0.2.2.2.1 x1).bind fun r16 => bif !r16.2.1 then some (x0, (2, ())) else bif decide (r16.1 < x0.1) then some (x0, (3, ())) else bif decide (r16.1 > x0.2.1) then some (x0, (3, ())) else some ((x0.1, (x0.2.1, (x0.2.2.1, (r16.1, (x0.2.2.2.2.1, (IntKind.i64.wrap (x0.2.2.2.2.2.1 + x1), x0.2.2.2.2.2.2)))))), (0, ())) else (calc_Add x0.2.2.2.2.1 x1).bind fun r17 => bif !r17.2.1 then some (x0, (2, ())) else bif decide (r17.1 < x0.1) then some (x0, (3, ())) else bif decide (r17.1 > x0.2.1) then some (x0, (3, ())) else some ((x0.1, (x0.2.1, (x0.2.2.1, (x0.2.2.2.1, (r17.1, (IntKind.i64.wrap (x0.2.2.2.2.2.1 + x1), x0.2.2.2.2.2.2)))))), (0, ()))
def field_Grant.C : Ctx := { ty := tyT, sigs := fun i => bif Nat.beq i 69 then [field_wrong.sig] else bif Nat.beq i 70 then [calc_Add.sig] else [], n := 56, mp := mpT }
def field_Grant.Q : Cuts := { np := 0, loops := fun i => none, seqs := fun i => none, splits := fun i => none }
def field_Grant.sig : Sig := { args := .tc (.val kField) (.tc (.val (.int .i64)) .tn), objs := [], ret := .tup (.tc (.val kField) (.tc (.val (.int .i64)) .tn)), outs := [], F := fun x => field_Grant x.1.1 x.1.2.1 }
theorem field_Grant.eq : (fun x => body field_Grant.C field_Grant.Q Go.Proofs.Try.f40 field_Grant.sig.args field_Grant.sig.objs field_Grant.sig.ret field_Grant.sig.outs x) = field_Grant.sig.F := by
  kernel_rfl
set_option maxRecDepth 100000 in
theorem field_Grant.ctx : CtxOk Go.Proofs.Try.prog field_Grant.C := ⟨tyOk, mpOk, Nat.le_of_ble_eq_true (by kernel_rfl), fun f sg => fun h => sigs_if h (allS_cons field_wrong.ok allS_nil) (fun h => sigs_if h (allS_cons calc_Add.ok allS_nil) ((fun h => by cases h)))⟩
set_option maxRecDepth 100000 in
theorem field_Grant.ok : Sound Go.Proofs.Try.prog 40 field_Grant.sig := body_sound (C := field_Grant.C) (q := field_Grant.Q) (fn := Go.Proofs.Try.f40) (sg := field_Grant.sig) (n := 2) field_Grant.ctx follows Go.Proofs.Try.func40 (by kernel_rfl) (by kernel_rfl) (by kernel_rfl) (by kernel_rfl) (Nat.le_of_ble_eq_true (by kernel_rfl)) (by kernel_rfl) field_Grant.eq

def fund_by_1_v6 (x0 : Int × Int × Int × Int × Int × Int × Unit) (x1 : Unit) (x2 : Unit) (o0 : Unit) (o1 : Int) : Option (((Int × Int × Int × Int × Int × Int × Unit) × Int × Unit) × Unit × Int × Unit) :=
  (field_Grant x0 o1).bind fun r15 => some ((r15.1, (r15.2.1, ())), ((), (o1, ())))
def fund_by_1_v6.C : Ctx := { ty := tyT, sigs := fun i => bif Nat.beq i 40 then [field_Grant.sig] else [], n := 12, mp := mpT }
def fund_by_1_v6.Q : Cuts := { np := 2, loops := fun i => none, seqs := fun i => none, splits := fun i => none }
def fund_by_1_v6.sig : Sig := { args := .tc (.val kField) (.tc (.ptr 0) (.tc (.ptr 1) .tn)), objs := [.cell (.ref 2) (.clo 40 .tn), .cell (.int .i64) (.val (.int .i64))], ret := .tup (.tc (.val kField) (.tc (.val (.int .i64)) .tn)), outs := [.cell (.ref 2) (.clo 40 .tn), .cell (.int .i64) (.val (.int .i64))], F := fun x => fund_by_1_v6 x.1.1 x.1.2.1 x.1.2.2.1 x.2.1 x.2.2.1 }
theorem fund_by_1_v6.eq : (fun x => body fund_by_1_v6.C fund_by_1_v6.Q Go.Proofs.Try.f68 fund_by_1_v6.sig.args fund_by_1_v6.sig.objs fund_by_1_v6.sig.ret fund_by_1_v6.sig.outs x) = fund_by_1_v6.sig.F := by
  kernel_rfl
set_option maxRecDepth 100000 in
theorem fund_by_1_v6.ctx : CtxOk Go.Proofs.Try.prog fund_by_1_v6.C := ⟨tyOk, mpOk, Nat.le_of_ble_eq_true (by kernel_rfl), fun f sg => fun h => sigs_if h (allS_cons field_Grant.ok allS_nil) ((fun h => by cases h))⟩
set_option maxRecDepth 100000 in
theorem fund_by_1_v6.ok : Sound Go.Proofs.Try.prog 68 fund_by_1_v6.sig := body_sound (C := fund_by_1_v6.C) (q := fund_by_1_v6.Q) (fn := Go.Proofs.Try.f68) (sg := fund_by_1_v6.sig) (n := 3) fund_by_1_v6.ctx follows Go.Proofs.Try.func68 (by kernel_rfl) (by kernel_rfl) (by kernel_rfl) (by kernel_rfl) (Nat.le_of_ble_eq_true (by kernel_rfl)) (by kernel_rfl) fund_by_1_v6.eq

def fund_Fund_change_v6 (x0 : Unit) (x1 : Int × Int × Int × Unit) (x2 : Unit × Unit × Unit) (o0 : Unit × Unit) (o1 : Unit) (o2 : Int) (o3 : Unit × Unit) (o4 : List ((Int × Int × Int × Unit) × Int × Int × Int × Int × Int × Int × Unit)) : Option (Int × (Unit × Unit) × Unit × Int × (Unit × Unit) × (List ((Int × Int × Int × Unit) × Int × Int × Int × Int × Int × Int × Unit)) × Unit) :=
  (fund_Fund_Get () x1 ((), o0.2) ((), o3.2) o4).bind fun r14 => bif !r14.1.2.1 then some (10, (((), r14.2.1.2), ((), (o2, (((), r14.2.2.1.2), (r14.2.2.2.1, ())))))) else (fund_by_1_v6 r14.1.1 () () () o2).bind fun r15 => bif (r15.1.2.1 : Int) == 0 then (table_Table_api_Field_Put () x1 r15.1.1 ((), r14.2.2.1.2) r14.2.2.2.1).bind fun r16 => some (r15.1.2.1, (((), r14.2.1.2), ((), (r15.2.2.1, (((), r16.2.1.2), (r16.2.2.1, ())))))) else some (r15.1.2.1, (((), r14.2.1.2), ((), (r15.2.2.1, (((), r14.2.2.1.2), (r14.2.2.2.1, ()))))))
def fund_Fund_change_v6.C : Ctx := { ty := tyT, sigs := fun i => bif Nat.beq i 37 then [table_Table_api_Field_Put.sig] else bif Nat.beq i 46 then [fund_Fund_Get.sig] else bif Nat.beq i 68 then [fund_by_1_v6.sig] else [], n := 35, mp := mpT }
def fund_Fund_change_v6.Q : Cuts := { np := 5, loops := fun i => none, seqs := fun i => none, splits := fun i => none }
def fund_Fund_change_v6.sig : Sig := { args := .tc (.ptr 0) (.tc (.val kKey) (.tc (.clo 68 (.tc (.ptr 1) (.tc (.ptr 2) .tn))) .tn)), objs := [.cell (.cons (.ref 0) .unit) (.pair (.ptr 3) (.val .unit)), .cell (.ref 2) (.clo 40 .tn), .cell (.int .i64) (.val (.int .i64)), .cell (.cons (.ref 1) .unit) (.pair (.mapr 4) (.val .unit)), .map kKey kField], ret := .val (.int .i64), outs := [.cell (.cons (.ref 0) .unit) (.pair (.ptr 3) (.val .unit)), .cell (.ref 2) (.clo 40 .tn), .cell (.int .i64) (.val (.int .i64)), .cell (.cons (.ref 1) .unit) (.pair (.mapr 4) (.val .unit)), .map kKey kField], F := fun x => fund_Fund_change_v6 x.1.1 x.1.2.1 x.1.2.2.1 x.2.1 x.2.2.1 x.2.2.2.1 x.2.2.2.2.1 x.2.2.2.2.2.1 }
theorem fund_Fund_change_v6.eq : (fun x => body fund_Fund_change_v6.C fund_Fund_change_v6.Q Go.Proofs.Try.f38 fund_Fund_change_v6.sig.args fund_Fund_change_v6.sig.objs fund_Fund_change_v6.sig.ret fund_Fund_change_v6.sig.outs x) = fund_Fund_change_v6.sig.F := by
  kernel_rfl
set_option maxRecDepth 100000 in
theorem fund_Fund_change_v6.ctx : CtxOk Go.Proofs.Try.prog fund_Fund_change_v6.C := ⟨tyOk, mpOk, Nat.le_of_ble_eq_true (by kernel_rfl), fun f sg => fun h => sigs_if h (allS_cons table_Table_api_Field_Put.ok allS_nil) (fun h => sigs_if h (allS_cons fund_Fund_Get.ok allS_nil) (fun h => sigs_if h (allS_cons fund_by_1_v6.ok allS_nil) ((fun h => by cases h))))⟩
set_option maxRecDepth 100000 in
theorem fund_Fund_change_v6.ok : Sound Go.Proofs.Try.prog 38 fund_Fund_change_v6.sig := body_sound (C := fund_Fund_change_v6.C) (q := fund_Fund_change_v6.Q) (fn := Go.Proofs.Try.f38) (sg := fund_Fund_change_v6.sig) (n := 3) fund_Fund_change_v6.ctx follows Go.Proofs.Try.func38 (by kernel_rfl) (by kernel_rfl) (by kernel_rfl) (by kernel_rfl) (Nat.le_of_ble_eq_true (by kernel_rfl)) (by kernel_rfl) fund_Fund_change_v6.eq

def fund_Fund_Grant (x0 : Unit) (x1 : (Int × Int × Int × Unit) × Int × Unit) (o0 : Unit × Unit) (o1 : Unit × Unit) (o2 : List ((Int × Int × Int × Unit) × Int × Int × Int × Int × Int × Int × Unit)) : Option (Int × (Unit × Unit) × (Unit × Unit) × (List ((Int × Int × Int × Unit) × Int × Int × Int × Int × Int × Int × Unit)) × Unit) :=
  (fund_by_v6 () x1.2.1).bind fun r13 => (fund_Fund_change_v6 () x1.1 ((), ((), ())) ((), o0.2) () r13.2.2.1 ((), o1.2) o2).bind fun r14 => some (r14.1, (((), r14.2.1.2), (((), r14.2.2.2.2.1.2), (r14.2.2.2.2.2.1, ()))))
def fund_Fund_Grant.C : Ctx := { ty := tyT, sigs := fun i => bif Nat.beq i 38 then [fund_Fund_change_v6.sig] else bif Nat.beq i 39 then [fund_by_v6.sig] else [], n := 12, mp := mpT }
def fund_Fund_Grant.Q : Cuts := { np := 3, loops := fun i => none, seqs := fun i => none, splits := fun i => none }
def fund_Fund_Grant.sig : Sig := { args := .tc (.ptr 0) (.tc (.val kOp) .tn), objs := [.cell (.cons (.ref 0) .unit) (.pair (.ptr 1) (.val .unit)), .cell (.cons (.ref 1) .unit) (.pair (.mapr 2) (.val .unit)), .map kKey kField], ret := .val (.int .i64), outs := [.cell (.cons (.ref 0) .unit) (.pair (.ptr 1) (.val .unit)), .cell (.cons (.ref 1) .unit) (.pair (.mapr 2) (.val .unit)), .map kKey kField], F := fun x => fund_Fund_Grant x.1.1 x.1.2.1 x.2.1 x.2.2.1 x.2.2.2.1 }
theorem fund_Fund_Grant.eq : (fun x => body fund_Fund_Grant.C fund_Fund_Grant.Q Go.Proofs.Try.f10 fund_Fund_Grant.sig.args fund_Fund_Grant.sig.objs fund_Fund_Grant.sig.ret fund_Fund_Grant.sig.outs x) = fund_Fund_Grant.sig.F := by
  kernel_rfl
set_option maxRecDepth 100000 in
theorem fund_Fund_Grant.ctx : CtxOk Go.Proofs.Try.prog fund_Fund_Grant.C := ⟨tyOk, mpOk, Nat.le_of_ble_eq_true (by kernel_rfl), fun f sg => fun h => sigs_if h (allS_cons fund_Fund_change_v6.ok allS_nil) (fun h => sigs_if h (allS_cons fund_by_v6.ok allS_nil) ((fun h => by cases h)))⟩
set_option maxRecDepth 100000 in
theorem fund_Fund_Grant.ok : Sound Go.Proofs.Try.prog 10 fund_Fund_Grant.sig := body_sound (C := fund_Fund_Grant.C) (q := fund_Fund_Grant.Q) (fn := Go.Proofs.Try.f10) (sg := fund_Fund_Grant.sig) (n := 2) fund_Fund_Grant.ctx follows Go.Proofs.Try.func10 (by kernel_rfl) (by kernel_rfl) (by kernel_rfl) (by kernel_rfl) (Nat.le_of_ble_eq_true (by kernel_rfl)) (by kernel_rfl) fund_Fund_Grant.eq

def pledgelaw18_do (x0 : Unit) (x1 : Int × ((Int × Int × Int × Unit) × Int × Unit) × Unit) (o0 : Unit × Unit) (o1 : Unit × Unit) (o2 : List ((Int × Int × Int × Unit) × Int × Int × Int × Int × Int × Int × Unit)) : Option (Int × (Unit × Unit) × (Unit × Unit) × (List ((Int × Int × Int × Unit) × Int × Int × Int × Int × Int × Int × Unit)) × Unit) :=
  bif (Int.tmod x1.1 6 : Int) == 1 then (fund_Fund_Undo () x1.2.1 ((), o0.2) ((), o1.2) o2).bind fun r8 => some (r8.1, (((), r8.2.1.2), (((), r8.2.2.1.2), (r8.2.2.2.1, ())))) else bif (Int.tmod x1.1 6 : Int) == 2 then (fund_Fund_Settle () x1.2.1 ((), o0.2) ((), o1.2) o2).bind fun r9 => some (r9.1, (((), r9.2.1.2), (((), r9.2.2.1.2), (r9.2.2.2.1, ())))) else bif (Int.tmod x1.1 6 : Int) == 3 then (fund_Fund_Back () x1.2.1 ((), o0.2) ((), o1.2) o2).bind fun r10 => some (r10.1, (((), r10.2.1.2), (((), r10.2.2.1.2), (r10.2.2.2.1, ())))) else bif (Int.tmod x1.1 6 : Int) == 4 then (fund_Fund_Forth () x1.2.1 ((), o0.2) ((), o1.2) o2).bind fun r11 => some (r11.1, (((), r11.2.1.2), (((), r11.2.2.1.2), (r11.2.2.2.1, ())))) else bif (Int.tmod x1.1 6 : Int) == 5 then (fund_Fund_Drop () x1.2.1 ((), o0.2) ((), o1.2) o2).bind fun r12 => some (r12.1, (((), r12.2.1.2), (((), r12.2.2.1.2), (r12.2.2.2.1, ())))) else (fund_Fund_Grant () x1.2.1 ((), o0.2) ((), o1.2) o2).bind fun r13 => some (r13.1, (((), r13.2.1.2), (((), r13.2.2.1.2), (r13.2.2.2.1, ()))))
def pledgelaw18_do.C : Ctx := { ty := tyT, sigs := fun i => bif Nat.beq i 10 then [fund_Fund_Grant.sig] else bif Nat.beq i 11 then [fund_Fund_Undo.sig] else bif Nat.beq i 51 then [fund_Fund_Settle.sig] else bif Nat.beq i 52 then [fund_Fund_Back.sig] else bif Nat.beq i 53 then [fund_Fund_Forth.sig] else bif Nat.beq i 54 then [fund_Fund_Drop.sig] else [], n := 42, mp := mpT }
def pledgelaw18_do.Q : Cuts := { np := 3, loops := fun i => none, seqs := fun i => none, splits := fun i => none }
def pledgelaw18_do.sig : Sig := { args := .tc (.ptr 0) (.tc (.val kAct) .tn), objs := [.cell (.cons (.ref 0) .unit) (.pair (.ptr 1) (.val .unit)), .cell (.cons (.ref 1) .unit) (.pair (.mapr 2) (.val .unit)), .map kKey kField], ret := .val (.int .i64), outs := [.cell (.cons (.ref 0) .unit) (.pair (.ptr 1) (.val .unit)), .cell (.cons (.ref 1) .unit) (.pair (.mapr 2) (.val .unit)), .map kKey kField], F := fun x => pledgelaw18_do x.1.1 x.1.2.1 x.2.1 x.2.2.1 x.2.2.2.1 }
theorem pledgelaw18_do.eq : (fun x => body pledgelaw18_do.C pledgelaw18_do.Q Go.Proofs.Try.f16 pledgelaw18_do.sig.args pledgelaw18_do.sig.objs pledgelaw18_do.sig.ret pledgelaw18_do.sig.outs x) = pledgelaw18_do.sig.F := by
  kernel_rfl
set_option maxRecDepth 100000 in
theorem pledgelaw18_do.ctx : CtxOk Go.Proofs.Try.prog pledgelaw18_do.C := ⟨tyOk, mpOk, Nat.le_of_ble_eq_true (by kernel_rfl), fun f sg => fun h => sigs_if h (allS_cons fund_Fund_Grant.ok allS_nil) (fun h => sigs_if h (allS_cons fund_Fund_Undo.ok allS_nil) (fun h => sigs_if h (allS_cons fund_Fund_Settle.ok allS_nil) (fun h => sigs_if h (allS_cons fund_Fund_Back.ok allS_nil) (fun h => sigs_if h (allS_cons fund_Fund_Forth.ok allS_nil) (fun h => sigs_if h (allS_cons fund_Fund_Drop.ok allS_nil) ((fun h => by cases h)))))))⟩
set_option maxRecDepth 100000 in
theorem pledgelaw18_do.ok : Sound Go.Proofs.Try.prog 16 pledgelaw18_do.sig := body_sound (C := pledgelaw18_do.C) (q := pledgelaw18_do.Q) (fn := Go.Proofs.Try.f16) (sg := pledgelaw18_do.sig) (n := 2) pledgelaw18_do.ctx follows Go.Proofs.Try.func16 (by kernel_rfl) (by kernel_rfl) (by kernel_rfl) (by kernel_rfl) (Nat.le_of_ble_eq_true (by kernel_rfl)) (by kernel_rfl) pledgelaw18_do.eq

def maps_Copy_map_api_Key_api_Field_map_api_Key_api_Field_api_Key_api_Field (d s : List ((Int × Int × Int × Unit) × Int × Int × Int × Int × Int × Int × Unit)) : Option (Unit × List ((Int × Int × Int × Unit) × Int × Int × Int × Int × Int × Int × Unit) × List ((Int × Int × Int × Unit) × Int × Int × Int × Int × Int × Int × Unit) × Unit) := copyF (kk := kKey) (vc := kField) d s
def maps_Copy_map_api_Key_api_Field_map_api_Key_api_Field_api_Key_api_Field.sig : Sig := { args := .tc (.mapr 0) (.tc (.mapr 1) .tn), objs := [.map kKey kField, .map kKey kField], ret := .tup .tn, outs := [.map kKey kField, .map kKey kField], F := fun x => maps_Copy_map_api_Key_api_Field_map_api_Key_api_Field_api_Key_api_Field x.2.1 x.2.2.1 }
def maps_Copy_map_api_Key_api_Field_map_api_Key_api_Field_api_Key_api_Field.CK : Ctx := { ty := tyT, sigs := fun _ => [], n := 16, mp := fun _ => none }
theorem maps_Copy_map_api_Key_api_Field_map_api_Key_api_Field_api_Key_api_Field.ctxK : CtxOk Go.Proofs.Try.prog maps_Copy_map_api_Key_api_Field_map_api_Key_api_Field_api_Key_api_Field.CK := ⟨tyOk, (fun t k v h => by cases h), Nat.le_of_ble_eq_true (by kernel_rfl), fun f sg h => by cases h⟩
theorem maps_Copy_map_api_Key_api_Field_map_api_Key_api_Field_api_Key_api_Field.kit : CpyFacts Go.Proofs.Try.prog maps_Copy_map_api_Key_api_Field_map_api_Key_api_Field_api_Key_api_Field.CK 121 Go.Proofs.Try.f121 true kKey kField 122 29 79 := { hf := Go.Proofs.Try.func121, h15 := (by show 15 < 16; omega), q2 := fun y z => by kernel_rfl, q3 := fun y z => by kernel_rfl, hname := by kernel_rfl, hb := by kernel_rfl, hres := by kernel_rfl, hn := by kernel_rfl, hm := by kernel_rfl, ht := by kernel_rfl, r0 := by kernel_rfl, r1 := by kernel_rfl, r2 := by kernel_rfl, r3 := by kernel_rfl, g := by kernel_rfl, o00 := by kernel_rfl, o01 := by kernel_rfl, o10 := by kernel_rfl, o11 := by kernel_rfl, o20 := by kernel_rfl, o21 := by kernel_rfl, o22 := by kernel_rfl, o30 := by kernel_rfl, o33 := by kernel_rfl, d := by kernel_rfl, k2 := by kernel_rfl, k3 := by kernel_rfl }
set_option maxRecDepth 100000 in
theorem maps_Copy_map_api_Key_api_Field_map_api_Key_api_Field_api_Key_api_Field.ok : Sound Go.Proofs.Try.prog 121 maps_Copy_map_api_Key_api_Field_map_api_Key_api_Field_api_Key_api_Field.sig := copy_sound (by kernel_rfl) maps_Copy_map_api_Key_api_Field_map_api_Key_api_Field_api_Key_api_Field.ctxK maps_Copy_map_api_Key_api_Field_map_api_Key_api_Field_api_Key_api_Field.kit rfl

def table_Table_api_Field_Copy (x0 : Unit) (o0 : Unit × Unit) (o1 : List ((Int × Int × Int × Unit) × Int × Int × Int × Int × Int × Int × Unit)) : Option (Unit × (Unit × Unit) × (List ((Int × Int × Int × Unit) × Int × Int × Int × Int × Int × Int × Unit)) × (Unit × Unit) × (List ((Int × Int × Int × Unit) × Int × Int × Int × Int × Int × Int × Unit)) × Unit) :=
  table_New_api_Field.bind fun r15 => (maps_Copy_map_api_Key_api_Field_map_api_Key_api_Field_api_Key_api_Field r15.2.2.1 o1).bind fun r16 => some ((), (((), o0.2), (r16.2.2.1, (((), r15.2.1.2), (r16.2.1, ())))))
def table_Table_api_Field_Copy.C : Ctx := { ty := tyT, sigs := fun i => bif Nat.beq i 35 then [table_New_api_Field.sig] else bif Nat.beq i 121 then [maps_Copy_map_api_Key_api_Field_map_api_Key_api_Field_api_Key_api_Field.sig] else [], n := 17, mp := mpT }
def table_Table_api_Field_Copy.Q : Cuts := { np := 2, loops := fun i => none, seqs := fun i => none, splits := fun i => none }
def table_Table_api_Field_Copy.sig : Sig := { args := .tc (.ptr 0) .tn, objs := [.cell (.cons (.ref 1) .unit) (.pair (.mapr 1) (.val .unit)), .map kKey kField], ret := .ptr 2, outs := [.cell (.cons (.ref 1) .unit) (.pair (.mapr 1) (.val .unit)), .map kKey kField, .cell (.cons (.ref 1) .unit) (.pair (.mapr 3) (.val .unit)), .map kKey kField], F := fun x => table_Table_api_Field_Copy x.1.1 x.2.1 x.2.2.1 }
theorem table_Table_api_Field_Copy.eq : (fun x => body table_Table_api_Field_Copy.C table_Table_api_Field_Copy.Q Go.Proofs.Try.f98 table_Table_api_Field_Copy.sig.args table_Table_api_Field_Copy.sig.objs table_Table_api_Field_Copy.sig.ret table_Table_api_Field_Copy.sig.outs x) = table_Table_api_Field_Copy.sig.F := by
  kernel_rfl
set_option maxRecDepth 100000 in
theorem table_Table_api_Field_Copy.ctx : CtxOk Go.Proofs.Try.prog table_Table_api_Field_Copy.C := ⟨tyOk, mpOk, Nat.le_of_ble_eq_true (by kernel_rfl), fun f sg => fun h => sigs_if h (allS_cons table_New_api_Field.ok allS_nil) (fun h => sigs_if h (allS_cons maps_Copy_map_api_Key_api_Field_map_api_Key_api_Field_api_Key_api_Field.ok allS_nil) ((fun h => by cases h)))⟩
set_option maxRecDepth 100000 in
theorem table_Table_api_Field_Copy.ok : Sound Go.Proofs.Try.prog 98 table_Table_api_Field_Copy.sig := body_sound (C := table_Table_api_Field_Copy.C) (q := table_Table_api_Field_Copy.Q) (fn := Go.Proofs.Try.f98) (sg := table_Table_api_Field_Copy.sig) (n := 1) table_Table_api_Field_Copy.ctx follows Go.Proofs.Try.func98 (by kernel_rfl) (by kernel_rfl) (by kernel_rfl) (by kernel_rfl) (Nat.le_of_ble_eq_true (by kernel_rfl)) (by kernel_rfl) table_Table_api_Field_Copy.eq

def fund_Fund_Copy (x0 : Unit) (o0 : Unit × Unit) (o1 : Unit × Unit) (o2 : List ((Int × Int × Int × Unit) × Int × Int × Int × Int × Int × Int × Unit)) : Option (Unit × (Unit × Unit) × (Unit × Unit) × (List ((Int × Int × Int × Unit) × Int × Int × Int × Int × Int × Int × Unit)) × (Unit × Unit) × (Unit × Unit) × (List ((Int × Int × Int × Unit) × Int × Int × Int × Int × Int × Int × Unit)) × Unit) :=
  (fund_Fund_all () ((), o0.2) ((), o1.2) o2).bind fun r14 => (table_Table_api_Field_Copy () ((), r14.2.2.1.2) r14.2.2.2.1).bind fun r15 => some ((), (((), r14.2.1.2), (((), r15.2.1.2), (r15.2.2.1, (((), ()), (((), r15.2.2.2.1.2), (r15.2.2.2.2.1, ())))))))
def fund_Fund_Copy.C : Ctx := { ty := tyT, sigs := fun i => bif Nat.beq i 77 then [fund_Fund_all.sig] else bif Nat.beq i 98 then [table_Table_api_Field_Copy.sig] else [], n := 8, mp := mpT }
def fund_Fund_Copy.Q : Cuts := { np := 3, loops := fun i => none, seqs := fun i => none, splits := fun i => none }
def fund_Fund_Copy.sig : Sig := { args := .tc (.ptr 0) .tn, objs := [.cell (.cons (.ref 0) .unit) (.pair (.ptr 1) (.val .unit)), .cell (.cons (.ref 1) .unit) (.pair (.mapr 2) (.val .unit)), .map kKey kField], ret := .ptr 3, outs := [.cell (.cons (.ref 0) .unit) (.pair (.ptr 1) (.val .unit)), .cell (.cons (.ref 1) .unit) (.pair (.mapr 2) (.val .unit)), .map kKey kField, .cell (.cons (.ref 0) .unit) (.pair (.ptr 4) (.val .unit)), .cell (.cons (.ref 1) .unit) (.pair (.mapr 5) (.val .unit)), .map kKey kField], F := fun x => fund_Fund_Copy x.1.1 x.2.1 x.2.2.1 x.2.2.2.1 }
theorem fund_Fund_Copy.eq : (fun x => body fund_Fund_Copy.C fund_Fund_Copy.Q Go.Proofs.Try.f76 fund_Fund_Copy.sig.args fund_Fund_Copy.sig.objs fund_Fund_Copy.sig.ret fund_Fund_Copy.sig.outs x) = fund_Fund_Copy.sig.F := by
  kernel_rfl
set_option maxRecDepth 100000 in
theorem fund_Fund_Copy.ctx : CtxOk Go.Proofs.Try.prog fund_Fund_Copy.C := ⟨tyOk, mpOk, Nat.le_of_ble_eq_true (by kernel_rfl), fun f sg => fun h => sigs_if h (allS_cons fund_Fund_all.ok allS_nil) (fun h => sigs_if h (allS_cons table_Table_api_Field_Copy.ok allS_nil) ((fun h => by cases h)))⟩
set_option maxRecDepth 100000 in
theorem fund_Fund_Copy.ok : Sound Go.Proofs.Try.prog 76 fund_Fund_Copy.sig := body_sound (C := fund_Fund_Copy.C) (q := fund_Fund_Copy.Q) (fn := Go.Proofs.Try.f76) (sg := fund_Fund_Copy.sig) (n := 1) fund_Fund_Copy.ctx follows Go.Proofs.Try.func76 (by kernel_rfl) (by kernel_rfl) (by kernel_rfl) (by kernel_rfl) (Nat.le_of_ble_eq_true (by kernel_rfl)) (by kernel_rfl) fund_Fund_Copy.eq

def fund_Fund_Try.l1 (v : (Unit × (List ((Int × Int × Int × Unit) × Int × Unit)) × Int × Int) × (Unit × Unit) × (Unit × Unit) × (List ((Int × Int × Int × Unit) × Int × Int × Int × Int × Int × Int × Unit)) × (Unit × Unit) × (Unit × Unit) × (List ((Int × Int × Int × Unit) × Int × Int × Int × Int × Int × Int × Unit)) × Unit) : Option (((Unit × (List ((Int × Int × Int × Unit) × Int × Unit)) × Int × Int) × (Unit × Unit) × (Unit × Unit) × (List ((Int × Int × Int × Unit) × Int × Int × Int × Int × Int × Int × Unit)) × (Unit × Unit) × (Unit × Unit) × (List ((Int × Int × Int × Unit) × Int × Int × Int × Int × Int × Int × Unit)) × Unit) ⊕ ((Unit × (Unit × Unit) × (Unit × Unit) × (List ((Int × Int × Int × Unit) × Int × Int × Int × Int × Int × Int × Unit)) × Unit) ⊕ (Int × (Unit × Unit) × (Unit × Unit) × (List ((Int × Int × Int × Unit) × Int × Int × Int × Int × Int × Int × Unit)) × Unit))) :=
  bif decide (v.1.2.2.2 < v.1.2.2.1) then nthK v.1.2.1 v.1.2.2.2 fun e15 => (fund_Fund_Grant () e15 ((), v.2.2.2.2.1.2) ((), v.2.2.2.2.2.1.2) v.2.2.2.2.2.2.1).bind fun r16 => bif (r16.1 : Int) != 0 then some (Sum.inr (Sum.inr (r16.1, (((), v.2.1.2), (((), v.2.2.1.2), (v.2.2.2.1, ())))))) else some (Sum.inl (((), (v.1.2.1, (v.1.2.2.1, IntKind.i64.wrap (v.1.2.2.2 + 1)))), (((), v.2.1.2), (((), v.2.2.1.2), (v.2.2.2.1, (((), r16.2.1.2), (((), r16.2.2.1.2), (r16.2.2.2.1, ())))))))) else some (Sum.inr (Sum.inl ((), (((), v.2.1.2), (((), v.2.2.1.2), (v.2.2.2.1, ()))))))
def fund_Fund_Try (x0 : Unit) (x1 : List ((Int × Int × Int × Unit) × Int × Unit)) (o0 : Unit × Unit) (o1 : Unit × Unit) (o2 : List ((Int × Int × Int × Unit) × Int × Int × Int × Int × Int × Int × Unit)) : Option (Int × (Unit × Unit) × (Unit × Unit) × (List ((Int × Int × Int × Unit) × Int × Int × Int × Int × Int × Int × Unit)) × Unit) :=
  (fund_Fund_Copy () ((), o0.2) ((), o1.2) o2).bind fun r14 => (iterL fund_Fund_Try.l1 loopN (((), (x1, ((x1.length : Int), 0))), (((), r14.2.1.2), (((), r14.2.2.1.2), (r14.2.2.2.1, (((), r14.2.2.2.2.1.2), (((), r14.2.2.2.2.2.1.2), (r14.2.2.2.2.2.2.1, ())))))))).bind fun y17 => (match y17 with | .inl y18 => some (0, (((), y18.2.1.2), (((), y18.2.2.1.2), (y18.2.2.2.1, ())))) | .inr y19 => some (y19.1, (((), y19.2.1.2), (((), y19.2.2.1.2), (y19.2.2.2.1, ())))))
def fund_Fund_Try.C : Ctx := { ty := tyT, sigs := fun i => bif Nat.beq i 10 then [fund_Fund_Grant.sig] else bif Nat.beq i 76 then [fund_Fund_Copy.sig] else [], n := 24, mp := mpT }
def fund_Fund_Try.Q : Cuts := { np := 3, loops := fun i => bif Nat.beq i 3 then some ({ env := [(5, .ptr 3), (11, .val (.slice kOp)), (12, .val (.int .i64)), (13, .val (.int .i64))], objs := [.cell (.cons (.ref 0) .unit) (.pair (.ptr 1) (.val .unit)), .cell (.cons (.ref 1) .unit) (.pair (.mapr 2) (.val .unit)), .map kKey kField, .cell (.cons (.ref 0) .unit) (.pair (.ptr 4) (.val .unit)), .cell (.cons (.ref 1) .unit) (.pair (.mapr 5) (.val .unit)), .map kKey kField] }, [(.exit 0, { env := [], objs := [.cell (.cons (.ref 0) .unit) (.pair (.ptr 1) (.val .unit)), .cell (.cons (.ref 1) .unit) (.pair (.mapr 2) (.val .unit)), .map kKey kField] }), (.ret, { env := [(4, .val (.int .i64))], objs := [.cell (.cons (.ref 0) .unit) (.pair (.ptr 1) (.val .unit)), .cell (.cons (.ref 1) .unit) (.pair (.mapr 2) (.val .unit)), .map kKey kField] })]) else none, seqs := fun i => none, splits := fun i => none }
def fund_Fund_Try.sig : Sig := { args := .tc (.ptr 0) (.tc (.val (.slice kOp)) .tn), objs := [.cell (.cons (.ref 0) .unit) (.pair (.ptr 1) (.val .unit)), .cell (.cons (.ref 1) .unit) (.pair (.mapr 2) (.val .unit)), .map kKey kField], ret := .val (.int .i64), outs := [.cell (.cons (.ref 0) .unit) (.pair (.ptr 1) (.val .unit)), .cell (.cons (.ref 1) .unit) (.pair (.mapr 2) (.val .unit)), .map kKey kField], F := fun x => fund_Fund_Try x.1.1 x.1.2.1 x.2.1 x.2.2.1 x.2.2.2.1 }
theorem fund_Fund_Try.eq : (fun x => body fund_Fund_Try.C fund_Fund_Try.Q Go.Proofs.Try.f45 fund_Fund_Try.sig.args fund_Fund_Try.sig.objs fund_Fund_Try.sig.ret fund_Fund_Try.sig.outs x) = fund_Fund_Try.sig.F := by
  kernel_rfl
set_option maxRecDepth 100000 in
theorem fund_Fund_Try.ctx : CtxOk Go.Proofs.Try.prog fund_Fund_Try.C := ⟨tyOk, mpOk, Nat.le_of_ble_eq_true (by kernel_rfl), fun f sg => fun h => sigs_if h (allS_cons fund_Fund_Grant.ok allS_nil) (fun h => sigs_if h (allS_cons fund_Fund_Copy.ok allS_nil) ((fun h => by cases h)))⟩
set_option maxRecDepth 100000 in
theorem fund_Fund_Try.ok : Sound Go.Proofs.Try.prog 45 fund_Fund_Try.sig := body_sound (C := fund_Fund_Try.C) (q := fund_Fund_Try.Q) (fn := Go.Proofs.Try.f45) (sg := fund_Fund_Try.sig) (n := 2) fund_Fund_Try.ctx follows Go.Proofs.Try.func45 (by kernel_rfl) (by kernel_rfl) (by kernel_rfl) (by kernel_rfl) (Nat.le_of_ble_eq_true (by kernel_rfl)) (by kernel_rfl) fund_Fund_Try.eq

def pledgelaw18_works  : Option Bool :=
  (fund_New [((4, (0, (0, ()))), (0, (0, (3, ()))))]).bind fun r13 => (fund_Fund_Try () [((4, (0, (0, ()))), (2, ())), ((4, (0, (0, ()))), (2, ()))] ((), r13.2.1.2) ((), r13.2.2.1.2) r13.2.2.2.1).bind fun r14 => (fund_Fund_Get () (4, (0, (0, ()))) ((), r14.2.1.2) ((), r14.2.2.1.2) r14.2.2.2.1).bind fun r15 => bif (r14.1 : Int) == 3 then bif r15.1.2.1 then bif (r15.1.1.2.2.2.2.1 : Int) == 0 then some ((r15.1.1.2.1 : Int) == 3) else some false else some false else some false
def pledgelaw18_works.C : Ctx := { ty := tyT, sigs := fun i => bif Nat.beq i 9 then [fund_New.sig] else bif Nat.beq i 45 then [fund_Fund_Try.sig] else bif Nat.beq i 46 then [fund_Fund_Get.sig] else [], n := 39, mp := mpT }
def pledgelaw18_works.Q : Cuts := { np := 0, loops := fun i => none, seqs := fun i => none, splits := fun i => none }
def pledgelaw18_works.sig : Sig := { args := .tn, objs := [], ret := .val .bool, outs := [], F := fun x => pledgelaw18_works }
theorem pledgelaw18_works.eq : (fun x => body pledgelaw18_works.C pledgelaw18_works.Q Go.Proofs.Try.f14 pledgelaw18_works.sig.args pledgelaw18_works.sig.objs pledgelaw18_works.sig.ret pledgelaw18_works.sig.outs x) = pledgelaw18_works.sig.F := by
  kernel_rfl
set_option maxRecDepth 100000 in
theorem pledgelaw18_works.ctx : CtxOk Go.Proofs.Try.prog pledgelaw18_works.C := ⟨tyOk, mpOk, Nat.le_of_ble_eq_true (by kernel_rfl), fun f sg => fun h => sigs_if h (allS_cons fund_New.ok allS_nil) (fun h => sigs_if h (allS_cons fund_Fund_Try.ok allS_nil) (fun h => sigs_if h (allS_cons fund_Fund_Get.ok allS_nil) ((fun h => by cases h))))⟩
set_option maxRecDepth 100000 in
theorem pledgelaw18_works.ok : Sound Go.Proofs.Try.prog 14 pledgelaw18_works.sig := body_sound (C := pledgelaw18_works.C) (q := pledgelaw18_works.Q) (fn := Go.Proofs.Try.f14) (sg := pledgelaw18_works.sig) (n := 0) pledgelaw18_works.ctx follows Go.Proofs.Try.func14 (by kernel_rfl) (by kernel_rfl) (by kernel_rfl) (by kernel_rfl) (Nat.le_of_ble_eq_true (by kernel_rfl)) (by kernel_rfl) pledgelaw18_works.eq

def pledgelaw18_FundPlays.l1 (v : ((List (Int × ((Int × Int × Int × Unit) × Int × Unit) × Unit)) × Unit × (List ((Int × Int × Int × Unit) × (Int × Int × Int × Int × Int × Int × Unit) × Unit)) × Int) × (Unit × Unit) × (Unit × Unit) × (List ((Int × Int × Int × Unit) × Int × Int × Int × Int × Int × Int × Unit)) × Unit) : Option ((((List (Int × ((Int × Int × Int × Unit) × Int × Unit) × Unit)) × Unit × (List ((Int × Int × Int × Unit) × (Int × Int × Int × Int × Int × Int × Unit) × Unit)) × Int) × (Unit × Unit) × (Unit × Unit) × (List ((Int × Int × Int × Unit) × Int × Int × Int × Int × Int × Int × Unit)) × Unit) ⊕ (Unit ⊕ Bool)) :=
  bif decide (v.1.2.2.2 < (v.1.1.length : Int)) then nthK v.1.1 v.1.2.2.2 fun e4 => nthK v.1.1 v.1.2.2.2 fun e5 => (pledgeref18_Do v.1.2.2.1 (IntKind.i64.wrap (Int.tmod e4.1 6)) e5.2.1).bind fun r6 => nthK v.1.1 v.1.2.2.2 fun e7 => (pledgelaw18_do () e7 ((), v.2.1.2) ((), v.2.2.1.2) v.2.2.2.1).bind fun r8 => bif (r8.1 : Int) != r6.2.1 then some (Sum.inr (Sum.inr false)) else (pledgelaw18_Same () r6.1 ((), r8.2.1.2) ((), r8.2.2.1.2) r8.2.2.2.1).bind fun r9 => bif (r9.1 : Int) == 0 then some (Sum.inr (Sum.inr false)) else some (Sum.inl ((v.1.1, ((), (r6.1, IntKind.i64.wrap (v.1.2.2.2 + 1)))), (((), r9.2.1.2), (((), r9.2.2.1.2), (r9.2.2.2.1, ()))))) else some (Sum.inr (Sum.inl ()))
def pledgelaw18_FundPlays (x0 : List ((Int × Int × Int × Unit) × Int × Int × Int × Unit)) (x1 : List (Int × ((Int × Int × Int × Unit) × Int × Unit) × Unit)) : Option Bool :=
  chk (decide (0 ≤ (if 20 < (x0.length : Int) then 20 else (x0.length : Int))) && decide ((if 20 < (x0.length : Int) then 20 else (x0.length : Int)) ≤ (x0.length : Int))) (chk (decide (0 ≤ (if 40 < (x1.length : Int) then 40 else (x1.length : Int))) && decide ((if 40 < (x1.length : Int) then 40 else (x1.length : Int)) ≤ (x1.length : Int))) ((fund_New ((x0.take (if 20 < (x0.length : Int) then 20 else (x0.length : Int) : Int).toNat).drop 0)).bind fun r1 => (pledgeref18_New ((x0.take (if 20 < (x0.length : Int) then 20 else (x0.length : Int) : Int).toNat).drop 0)).bind fun r2 => (pledgelaw18_Same () r2 ((), r1.2.1.2) ((), r1.2.2.1.2) r1.2.2.2.1).bind fun r3 => bif (r3.1 : Int) == 0 then some false else (iterL pledgelaw18_FundPlays.l1 loopN (((x1.take (if 40 < (x1.length : Int) then 40 else (x1.length : Int) : Int).toNat).drop 0, ((), (r2, 0))), (((), r3.2.1.2), (((), r3.2.2.1.2), (r3.2.2.2.1, ()))))).bind fun y10 => (match y10 with | .inl y11 => pledgelaw18_works.bind fun r13 => some r13 | .inr y12 => some y12)))
def pledgelaw18_FundPlays.C : Ctx := { ty := tyT, sigs := fun i => bif Nat.beq i 9 then [fund_New.sig] else bif Nat.beq i 12 then [pledgelaw18_Same.sig] else bif Nat.beq i 13 then [pledgeref18_New.sig] else bif Nat.beq i 14 then [pledgelaw18_works.sig] else bif Nat.beq i 15 then [pledgeref18_Do.sig] else bif Nat.beq i 16 then [pledgelaw18_do.sig] else [], n := 67, mp := mpT }
def pledgelaw18_FundPlays.Q : Cuts := { np := 0, loops := fun i => bif Nat.beq i 6 then some ({ env := [(1, .val (.slice kAct)), (5, .ptr 0), (6, .val (.slice kRow)), (7, .val (.int .i64))], objs := [.cell (.cons (.ref 0) .unit) (.pair (.ptr 1) (.val .unit)), .cell (.cons (.ref 1) .unit) (.pair (.mapr 2) (.val .unit)), .map kKey kField] }, [(.exit 0, { env := [], objs := [] }), (.ret, { env := [(4, .val .bool)], objs := [] })]) else none, seqs := fun i => none, splits := fun i => none }
def pledgelaw18_FundPlays.sig : Sig := { args := .tc (.val (.slice kDecl)) (.tc (.val (.slice kAct)) .tn), objs := [], ret := .val .bool, outs := [], F := fun x => pledgelaw18_FundPlays x.1.1 x.1.2.1 }
theorem pledgelaw18_FundPlays.eq : (fun x => body pledgelaw18_FundPlays.C pledgelaw18_FundPlays.Q Go.Proofs.Try.f4 pledgelaw18_FundPlays.sig.args pledgelaw18_FundPlays.sig.objs pledgelaw18_FundPlays.sig.ret pledgelaw18_FundPlays.sig.outs x) = pledgelaw18_FundPlays.sig.F := by
  kernel_rfl
set_option maxRecDepth 100000 in
theorem pledgelaw18_FundPlays.ctx : CtxOk Go.Proofs.Try.prog pledgelaw18_FundPlays.C := ⟨tyOk, mpOk, Nat.le_of_ble_eq_true (by kernel_rfl), fun f sg => fun h => sigs_if h (allS_cons fund_New.ok allS_nil) (fun h => sigs_if h (allS_cons pledgelaw18_Same.ok allS_nil) (fun h => sigs_if h (allS_cons pledgeref18_New.ok allS_nil) (fun h => sigs_if h (allS_cons pledgelaw18_works.ok allS_nil) (fun h => sigs_if h (allS_cons pledgeref18_Do.ok allS_nil) (fun h => sigs_if h (allS_cons pledgelaw18_do.ok allS_nil) ((fun h => by cases h)))))))⟩
set_option maxRecDepth 100000 in
theorem pledgelaw18_FundPlays.ok : Sound Go.Proofs.Try.prog 4 pledgelaw18_FundPlays.sig := body_sound (C := pledgelaw18_FundPlays.C) (q := pledgelaw18_FundPlays.Q) (fn := Go.Proofs.Try.f4) (sg := pledgelaw18_FundPlays.sig) (n := 2) pledgelaw18_FundPlays.ctx follows Go.Proofs.Try.func4 (by kernel_rfl) (by kernel_rfl) (by kernel_rfl) (by kernel_rfl) (Nat.le_of_ble_eq_true (by kernel_rfl)) (by kernel_rfl) pledgelaw18_FundPlays.eq

end Go.Proofs.F
