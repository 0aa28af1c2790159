import Derived.Test.YtlnnghmfncjbiaaDCopy
import Derived.Test.YtlnnghmfncjbiaaProg
import Derived.KernelRfl
set_option linter.unusedVariables false
namespace Go.Proofs.F
open Go.Proofs.D
def kpart : K := .cons (.int .i64) (.cons .bool .unit)
def kwide : K := .cons (.int .i64) (.cons (.int .i64) .unit)
def kKey : K := .cons (.int .u8) (.cons (.int .u8) (.cons (.int .u8) .unit))
def kOp : K := .cons kKey (.cons (.int .i64) .unit)
def kMove : K := .cons (.int .i64) (.cons (.int .i64) kwide)
def kAct : K := .cons kKey kpart
def kAct_72 : K := .cons (.int .u8) (.cons kOp .unit)
def kField : K := .cons (.int .i64) (.cons (.int .i64) kMove)
def kDecl : K := .cons kKey (.cons (.int .i64) kwide)
def kRow_106 : K := .cons kKey (.cons kField .unit)
def tyL : List (Nat × K) := [(1, .ref 2), (2, .int .i64), (3, .int .i64), (4, .bool), (5, .int .u8), (23, kKey), (24, kKey), (45, .slice kKey), (47, .slice kDecl), (48, .slice kOp), (49, .ref 0), (52, .int .i64), (55, kOp), (56, kOp), (58, .slice kRow_106), (61, kField), (62, kField), (84, .ref 2), (85, .ref 2), (87, .ref 2), (88, .ref 0), (90, .cons (.ref 0) .unit), (91, .cons (.ref 0) .unit), (92, kDecl), (93, kDecl), (98, .ref 2), (100, .ref 2), (105, kRow_106), (106, kRow_106), (115, .ref 1), (116, .cons (.ref 1) .unit), (117, .cons (.ref 1) .unit), (120, .ref 0), (124, kMove), (125, kMove), (132, .slice (.int .i64)), (154, .slice (.int .i64)), (162, kwide), (163, kwide)]
def tyT (t : Nat) : Option K := lookK tyL t
def mpL : List (Nat × K × K) := [(115, kKey, kField)]
def mpT (t : Nat) : Option (K × K) := lookM mpL t
theorem tyOk : ∀ t c, tyT t = some c → TyOk Go.Proofs.Try.prog tyT t c := tyOk_of (l := tyL) (fun _ => rfl) (by kernel_rfl) (by kernel_rfl)
theorem mpOk : ∀ t k v, mpT t = some (k, v) → ∃ tk tv, Go.Proofs.Try.prog.underlying t = some (.map tk tv) ∧ tyT tk = some k ∧ tyT tv = some v ∧ k.flat = true := mpOk_of (l := mpL) (fun _ => rfl) (by kernel_rfl)
theorem follows : Go.Proofs.Try.prog.follows .mixedOrders = true := by kernel_rfl
def table_New_api_Field  : Option (Unit × (Unit × Unit) × (List ((Int × Int × Int × Unit) × Int × Int × Int × Int × Int × Int × Unit)) × Unit) :=
  some ((), (((), ()), ([], ())))
def table_New_api_Field.C : Ctx := { ty := tyT, sigs := fun i => [], n := 4, mp := mpT }
def table_New_api_Field.Q : Cuts := { np := 0, loops := fun i => none, seqs := fun i => none, splits := fun i => none }
def table_New_api_Field.sig : Sig := { args := .tn, objs := [], ret := .ptr 0, outs := [.cell (.cons (.ref 1) .unit) (.pair (.mapr 1) (.val .unit)), .map kKey kField], F := fun x => table_New_api_Field }
theorem table_New_api_Field.eq : (fun x => body table_New_api_Field.C table_New_api_Field.Q Go.Proofs.Try.f41 table_New_api_Field.sig.args table_New_api_Field.sig.objs table_New_api_Field.sig.ret table_New_api_Field.sig.outs x) = table_New_api_Field.sig.F := by
  kernel_rfl
set_option maxRecDepth 100000 in
theorem table_New_api_Field.ctx : CtxOk Go.Proofs.Try.prog table_New_api_Field.C := ⟨tyOk, mpOk, Nat.le_of_ble_eq_true (by kernel_rfl), fun f sg => (fun h => by cases h)⟩
set_option maxRecDepth 100000 in
theorem table_New_api_Field.ok : Sound Go.Proofs.Try.prog 41 table_New_api_Field.sig := body_sound (C := table_New_api_Field.C) (q := table_New_api_Field.Q) (fn := Go.Proofs.Try.f41) (sg := table_New_api_Field.sig) (n := 0) table_New_api_Field.ctx follows Go.Proofs.Try.func41 (by kernel_rfl) (by kernel_rfl) (by kernel_rfl) (by kernel_rfl) (Nat.le_of_ble_eq_true (by kernel_rfl)) (by kernel_rfl) table_New_api_Field.eq

def field_Good (x0 : Int × Int × Int × Int × Int × Int × Unit) : Option Bool :=
  bif decide (x0.1 ≤ x0.2.2.2.1) then bif decide (x0.2.2.2.1 ≤ (if x0.2.2.2.2.2.1 < x0.2.2.1 then x0.2.2.2.2.2.1 else x0.2.2.1)) then bif decide ((if x0.2.2.2.2.2.1 > x0.2.2.1 then x0.2.2.2.2.2.1 else x0.2.2.1) ≤ x0.2.2.2.2.1) then some (decide (x0.2.2.2.2.1 ≤ x0.2.1)) else some false else some false else some false
def field_Good.C : Ctx := { ty := tyT, sigs := fun i => [], n := 35, mp := mpT }
def field_Good.Q : Cuts := { np := 0, loops := fun i => none, seqs := fun i => none, splits := fun i => none }
def field_Good.sig : Sig := { args := .tc (.val kField) .tn, objs := [], ret := .val .bool, outs := [], F := fun x => field_Good x.1.1 }
theorem field_Good.eq : (fun x => body field_Good.C field_Good.Q Go.Proofs.Try.f55 field_Good.sig.args field_Good.sig.objs field_Good.sig.ret field_Good.sig.outs x) = field_Good.sig.F := by
  kernel_rfl
set_option maxRecDepth 100000 in
theorem field_Good.ctx : CtxOk Go.Proofs.Try.prog field_Good.C := ⟨tyOk, mpOk, Nat.le_of_ble_eq_true (by kernel_rfl), fun f sg => (fun h => by cases h)⟩
set_option maxRecDepth 100000 in
theorem field_Good.ok : Sound Go.Proofs.Try.prog 55 field_Good.sig := body_sound (C := field_Good.C) (q := field_Good.Q) (fn := Go.Proofs.Try.f55) (sg := field_Good.sig) (n := 1) field_Good.ctx follows Go.Proofs.Try.func55 (by kernel_rfl) (by kernel_rfl) (by kernel_rfl) (by kernel_rfl) (Nat.le_of_ble_eq_true (by kernel_rfl)) (by kernel_rfl) field_Good.eq

def field_New (x0 : (Int × Int × Int × Unit) × Int × Int × Int × Unit) : Option ((Int × Int × Int × Int × Int × Int × Unit) × Int × Unit) :=
  (field_Good (x0.2.1, (x0.2.2.2.1, (x0.2.2.1, (x0.2.2.1, (x0.2.2.1, (x0.2.2.1, ()))))))).bind fun r3 => bif !r3 then some ((0, (0, (0, (0, (0, (0, ())))))), (3, ())) else some ((x0.2.1, (x0.2.2.2.1, (x0.2.2.1, (x0.2.2.1, (x0.2.2.1, (x0.2.2.1, ())))))), (0, ()))
def field_New.C : Ctx := { ty := tyT, sigs := fun i => bif Nat.beq i 55 then [field_Good.sig] else [], n := 23, mp := mpT }
def field_New.Q : Cuts := { np := 0, loops := fun i => none, seqs := fun i => none, splits := fun i => none }
def field_New.sig : Sig := { args := .tc (.val kDecl) .tn, objs := [], ret := .tup (.tc (.val kField) (.tc (.val (.int .i64)) .tn)), outs := [], F := fun x => field_New x.1.1 }
theorem field_New.eq : (fun x => body field_New.C field_New.Q Go.Proofs.Try.f42 field_New.sig.args field_New.sig.objs field_New.sig.ret field_New.sig.outs x) = field_New.sig.F := by
  kernel_rfl
set_option maxRecDepth 100000 in
theorem field_New.ctx : CtxOk Go.Proofs.Try.prog field_New.C := ⟨tyOk, mpOk, Nat.le_of_ble_eq_true (by kernel_rfl), fun f sg => fun h => sigs_if h (allS_cons field_Good.ok allS_nil) ((fun h => by cases h))⟩
set_option maxRecDepth 100000 in
theorem field_New.ok : Sound Go.Proofs.Try.prog 42 field_New.sig := body_sound (C := field_New.C) (q := field_New.Q) (fn := Go.Proofs.Try.f42) (sg := field_New.sig) (n := 1) field_New.ctx follows Go.Proofs.Try.func42 (by kernel_rfl) (by kernel_rfl) (by kernel_rfl) (by kernel_rfl) (Nat.le_of_ble_eq_true (by kernel_rfl)) (by kernel_rfl) field_New.eq

def table_Table_api_Field_Put (x0 : Unit) (x1 : Int × Int × Int × Unit) (x2 : Int × Int × Int × Int × Int × Int × Unit) (o0 : Unit × Unit) (o1 : List ((Int × Int × Int × Unit) × Int × Int × Int × Int × Int × Int × Unit)) : Option (Unit × (Unit × Unit) × (List ((Int × Int × Int × Unit) × Int × Int × Int × Int × Int × Int × Unit)) × Unit) :=
  some ((), (((), o0.2), (putM kKey kField o1 x1 x2, ())))
def table_Table_api_Field_Put.C : Ctx := { ty := tyT, sigs := fun i => [], n := 23, mp := mpT }
def table_Table_api_Field_Put.Q : Cuts := { np := 2, loops := fun i => none, seqs := fun i => none, splits := fun i => none }
def table_Table_api_Field_Put.sig : Sig := { args := .tc (.ptr 0) (.tc (.val kKey) (.tc (.val kField) .tn)), objs := [.cell (.cons (.ref 1) .unit) (.pair (.mapr 1) (.val .unit)), .map kKey kField], ret := .tup .tn, outs := [.cell (.cons (.ref 1) .unit) (.pair (.mapr 1) (.val .unit)), .map kKey kField], F := fun x => table_Table_api_Field_Put x.1.1 x.1.2.1 x.1.2.2.1 x.2.1 x.2.2.1 }
theorem table_Table_api_Field_Put.eq : (fun x => body table_Table_api_Field_Put.C table_Table_api_Field_Put.Q Go.Proofs.Try.f43 table_Table_api_Field_Put.sig.args table_Table_api_Field_Put.sig.objs table_Table_api_Field_Put.sig.ret table_Table_api_Field_Put.sig.outs x) = table_Table_api_Field_Put.sig.F := by
  kernel_rfl
set_option maxRecDepth 100000 in
theorem table_Table_api_Field_Put.ctx : CtxOk Go.Proofs.Try.prog table_Table_api_Field_Put.C := ⟨tyOk, mpOk, Nat.le_of_ble_eq_true (by kernel_rfl), fun f sg => (fun h => by cases h)⟩
set_option maxRecDepth 100000 in
theorem table_Table_api_Field_Put.ok : Sound Go.Proofs.Try.prog 43 table_Table_api_Field_Put.sig := body_sound (C := table_Table_api_Field_Put.C) (q := table_Table_api_Field_Put.Q) (fn := Go.Proofs.Try.f43) (sg := table_Table_api_Field_Put.sig) (n := 3) table_Table_api_Field_Put.ctx follows Go.Proofs.Try.func43 (by kernel_rfl) (by kernel_rfl) (by kernel_rfl) (by kernel_rfl) (Nat.le_of_ble_eq_true (by kernel_rfl)) (by kernel_rfl) table_Table_api_Field_Put.eq

def fund_New.l1 (v : (Unit × (List ((Int × Int × Int × Unit) × Int × Int × Int × Unit)) × Int × Int) × (Unit × Unit) × (Unit × Unit) × (List ((Int × Int × Int × Unit) × Int × Int × Int × Int × Int × Int × Unit)) × Unit) : Option (((Unit × (List ((Int × Int × Int × Unit) × Int × Int × Int × Unit)) × Int × Int) × (Unit × Unit) × (Unit × Unit) × (List ((Int × Int × Int × Unit) × Int × Int × Int × Int × Int × Int × Unit)) × Unit) ⊕ (Unit × (Unit × Unit) × (Unit × Unit) × (List ((Int × Int × Int × Unit) × Int × Int × Int × Int × Int × Int × Unit)) × Unit)) :=
  bif decide (v.1.2.2.2 < v.1.2.2.1) then nthK v.1.2.1 v.1.2.2.2 fun e2 => (field_New e2).bind fun r3 => bif (r3.2.1 : Int) == 0 then (table_Table_api_Field_Put () e2.1 r3.1 ((), v.2.2.1.2) v.2.2.2.1).bind fun r4 => some (Sum.inl (((), (v.1.2.1, (v.1.2.2.1, IntKind.i64.wrap (v.1.2.2.2 + 1)))), (((), v.2.1.2), (((), r4.2.1.2), (r4.2.2.1, ()))))) else some (Sum.inl (((), (v.1.2.1, (v.1.2.2.1, IntKind.i64.wrap (v.1.2.2.2 + 1)))), (((), v.2.1.2), (((), v.2.2.1.2), (v.2.2.2.1, ()))))) else some (Sum.inr ((), (((), v.2.1.2), (((), v.2.2.1.2), (v.2.2.2.1, ())))))
def fund_New (x0 : List ((Int × Int × Int × Unit) × Int × Int × Int × Unit)) : Option (Unit × (Unit × Unit) × (Unit × Unit) × (List ((Int × Int × Int × Unit) × Int × Int × Int × Int × Int × Int × Unit)) × Unit) :=
  table_New_api_Field.bind fun r1 => (iterL fund_New.l1 loopN (((), (x0, ((x0.length : Int), 0))), (((), ()), (((), r1.2.1.2), (r1.2.2.1, ()))))).bind fun y5 => some ((), (((), y5.2.1.2), (((), y5.2.2.1.2), (y5.2.2.2.1, ()))))
def fund_New.C : Ctx := { ty := tyT, sigs := fun i => bif Nat.beq i 41 then [table_New_api_Field.sig] else bif Nat.beq i 42 then [field_New.sig] else bif Nat.beq i 43 then [table_Table_api_Field_Put.sig] else [], n := 34, mp := mpT }
def fund_New.Q : Cuts := { np := 0, loops := fun i => bif Nat.beq i 3 then some ({ env := [(3, .ptr 0), (11, .val (.slice kDecl)), (12, .val (.int .i64)), (13, .val (.int .i64))], objs := [.cell (.cons (.ref 0) .unit) (.pair (.ptr 1) (.val .unit)), .cell (.cons (.ref 1) .unit) (.pair (.mapr 2) (.val .unit)), .map kKey kField] }, [(.exit 0, { env := [(3, .ptr 0)], objs := [.cell (.cons (.ref 0) .unit) (.pair (.ptr 1) (.val .unit)), .cell (.cons (.ref 1) .unit) (.pair (.mapr 2) (.val .unit)), .map kKey kField] })]) else none, seqs := fun i => none, splits := fun i => none }
def fund_New.sig : Sig := { args := .tc (.val (.slice kDecl)) .tn, objs := [], ret := .ptr 0, outs := [.cell (.cons (.ref 0) .unit) (.pair (.ptr 1) (.val .unit)), .cell (.cons (.ref 1) .unit) (.pair (.mapr 2) (.val .unit)), .map kKey kField], F := fun x => fund_New x.1.1 }
theorem fund_New.eq : (fun x => body fund_New.C fund_New.Q Go.Proofs.Try.f20 fund_New.sig.args fund_New.sig.objs fund_New.sig.ret fund_New.sig.outs x) = fund_New.sig.F := by
  kernel_rfl
set_option maxRecDepth 100000 in
theorem fund_New.ctx : CtxOk Go.Proofs.Try.prog fund_New.C := ⟨tyOk, mpOk, Nat.le_of_ble_eq_true (by kernel_rfl), fun f sg => fun h => sigs_if h (allS_cons table_New_api_Field.ok allS_nil) (fun h => sigs_if h (allS_cons field_New.ok allS_nil) (fun h => sigs_if h (allS_cons table_Table_api_Field_Put.ok allS_nil) ((fun h => by cases h))))⟩
set_option maxRecDepth 100000 in
theorem fund_New.ok : Sound Go.Proofs.Try.prog 20 fund_New.sig := body_sound (C := fund_New.C) (q := fund_New.Q) (fn := Go.Proofs.Try.f20) (sg := fund_New.sig) (n := 1) fund_New.ctx follows Go.Proofs.Try.func20 (by kernel_rfl) (by kernel_rfl) (by kernel_rfl) (by kernel_rfl) (Nat.le_of_ble_eq_true (by kernel_rfl)) (by kernel_rfl) fund_New.eq

def fund_Fund_all (x0 : Unit) (o0 : Unit × Unit) (o1 : Unit × Unit) (o2 : List ((Int × Int × Int × Unit) × Int × Int × Int × Int × Int × Int × Unit)) : Option (Unit × (Unit × Unit) × (Unit × Unit) × (List ((Int × Int × Int × Unit) × Int × Int × Int × Int × Int × Int × Unit)) × Unit) :=
  some ((), (((), o0.2), (((), o1.2), (o2, ()))))
def fund_Fund_all.C : Ctx := { ty := tyT, sigs := fun i => [], n := 9, mp := mpT }
def fund_Fund_all.Q : Cuts := { np := 3, loops := fun i => none, seqs := fun i => none, splits := fun i => none }
def fund_Fund_all.sig : Sig := { args := .tc (.ptr 0) .tn, objs := [.cell (.cons (.ref 0) .unit) (.pair (.ptr 1) (.val .unit)), .cell (.cons (.ref 1) .unit) (.pair (.mapr 2) (.val .unit)), .map kKey kField], ret := .ptr 1, outs := [.cell (.cons (.ref 0) .unit) (.pair (.ptr 1) (.val .unit)), .cell (.cons (.ref 1) .unit) (.pair (.mapr 2) (.val .unit)), .map kKey kField], F := fun x => fund_Fund_all x.1.1 x.2.1 x.2.2.1 x.2.2.2.1 }
theorem fund_Fund_all.eq : (fun x => body fund_Fund_all.C fund_Fund_all.Q Go.Proofs.Try.f44 fund_Fund_all.sig.args fund_Fund_all.sig.objs fund_Fund_all.sig.ret fund_Fund_all.sig.outs x) = fund_Fund_all.sig.F := by
  kernel_rfl
set_option maxRecDepth 100000 in
theorem fund_Fund_all.ctx : CtxOk Go.Proofs.Try.prog fund_Fund_all.C := ⟨tyOk, mpOk, Nat.le_of_ble_eq_true (by kernel_rfl), fun f sg => (fun h => by cases h)⟩
set_option maxRecDepth 100000 in
theorem fund_Fund_all.ok : Sound Go.Proofs.Try.prog 44 fund_Fund_all.sig := body_sound (C := fund_Fund_all.C) (q := fund_Fund_all.Q) (fn := Go.Proofs.Try.f44) (sg := fund_Fund_all.sig) (n := 1) fund_Fund_all.ctx follows Go.Proofs.Try.func44 (by kernel_rfl) (by kernel_rfl) (by kernel_rfl) (by kernel_rfl) (Nat.le_of_ble_eq_true (by kernel_rfl)) (by kernel_rfl) fund_Fund_all.eq

def maps_Copy_map_api_Key_api_Field_map_api_Key_api_Field_api_Key_api_Field (d s : List ((Int × Int × Int × Unit) × Int × Int × Int × Int × Int × Int × Unit)) : Option (Unit × List ((Int × Int × Int × Unit) × Int × Int × Int × Int × Int × Int × Unit) × List ((Int × Int × Int × Unit) × Int × Int × Int × Int × Int × Int × Unit) × Unit) := copyF (kk := kKey) (vc := kField) d s
def maps_Copy_map_api_Key_api_Field_map_api_Key_api_Field_api_Key_api_Field.sig : Sig := { args := .tc (.mapr 0) (.tc (.mapr 1) .tn), objs := [.map kKey kField, .map kKey kField], ret := .tup .tn, outs := [.map kKey kField, .map kKey kField], F := fun x => maps_Copy_map_api_Key_api_Field_map_api_Key_api_Field_api_Key_api_Field x.2.1 x.2.2.1 }
def maps_Copy_map_api_Key_api_Field_map_api_Key_api_Field_api_Key_api_Field.CK : Ctx := { ty := tyT, sigs := fun _ => [], n := 16, mp := fun _ => none }
theorem maps_Copy_map_api_Key_api_Field_map_api_Key_api_Field_api_Key_api_Field.ctxK : CtxOk Go.Proofs.Try.prog maps_Copy_map_api_Key_api_Field_map_api_Key_api_Field_api_Key_api_Field.CK := ⟨tyOk, (fun t k v h => by cases h), Nat.le_of_ble_eq_true (by kernel_rfl), fun f sg h => by cases h⟩
theorem maps_Copy_map_api_Key_api_Field_map_api_Key_api_Field_api_Key_api_Field.kit : CpyFacts Go.Proofs.Try.prog maps_Copy_map_api_Key_api_Field_map_api_Key_api_Field_api_Key_api_Field.CK 70 Go.Proofs.Try.f70 true kKey kField 115 24 62 := { hf := Go.Proofs.Try.func70, h15 := (by show 15 < 16; omega), q2 := fun y z => by kernel_rfl, q3 := fun y z => by kernel_rfl, hname := by kernel_rfl, hb := by kernel_rfl, hres := by kernel_rfl, hn := by kernel_rfl, hm := by kernel_rfl, ht := by kernel_rfl, r0 := by kernel_rfl, r1 := by kernel_rfl, r2 := by kernel_rfl, r3 := by kernel_rfl, g := by kernel_rfl, o00 := by kernel_rfl, o01 := by kernel_rfl, o10 := by kernel_rfl, o11 := by kernel_rfl, o20 := by kernel_rfl, o21 := by kernel_rfl, o22 := by kernel_rfl, o30 := by kernel_rfl, o33 := by kernel_rfl, d := by kernel_rfl, k2 := by kernel_rfl, k3 := by kernel_rfl }
set_option maxRecDepth 100000 in
theorem maps_Copy_map_api_Key_api_Field_map_api_Key_api_Field_api_Key_api_Field.ok : Sound Go.Proofs.Try.prog 70 maps_Copy_map_api_Key_api_Field_map_api_Key_api_Field_api_Key_api_Field.sig := copy_sound (by kernel_rfl) maps_Copy_map_api_Key_api_Field_map_api_Key_api_Field_api_Key_api_Field.ctxK maps_Copy_map_api_Key_api_Field_map_api_Key_api_Field_api_Key_api_Field.kit rfl

def table_Table_api_Field_Copy (x0 : Unit) (o0 : Unit × Unit) (o1 : List ((Int × Int × Int × Unit) × Int × Int × Int × Int × Int × Int × Unit)) : Option (Unit × (Unit × Unit) × (List ((Int × Int × Int × Unit) × Int × Int × Int × Int × Int × Int × Unit)) × (Unit × Unit) × (List ((Int × Int × Int × Unit) × Int × Int × Int × Int × Int × Int × Unit)) × Unit) :=
  table_New_api_Field.bind fun r3 => (maps_Copy_map_api_Key_api_Field_map_api_Key_api_Field_api_Key_api_Field r3.2.2.1 o1).bind fun r4 => some ((), (((), o0.2), (r4.2.2.1, (((), r3.2.1.2), (r4.2.1, ())))))
def table_Table_api_Field_Copy.C : Ctx := { ty := tyT, sigs := fun i => bif Nat.beq i 41 then [table_New_api_Field.sig] else bif Nat.beq i 70 then [maps_Copy_map_api_Key_api_Field_map_api_Key_api_Field_api_Key_api_Field.sig] else [], n := 17, mp := mpT }
def table_Table_api_Field_Copy.Q : Cuts := { np := 2, loops := fun i => none, seqs := fun i => none, splits := fun i => none }
def table_Table_api_Field_Copy.sig : Sig := { args := .tc (.ptr 0) .tn, objs := [.cell (.cons (.ref 1) .unit) (.pair (.mapr 1) (.val .unit)), .map kKey kField], ret := .ptr 2, outs := [.cell (.cons (.ref 1) .unit) (.pair (.mapr 1) (.val .unit)), .map kKey kField, .cell (.cons (.ref 1) .unit) (.pair (.mapr 3) (.val .unit)), .map kKey kField], F := fun x => table_Table_api_Field_Copy x.1.1 x.2.1 x.2.2.1 }
theorem table_Table_api_Field_Copy.eq : (fun x => body table_Table_api_Field_Copy.C table_Table_api_Field_Copy.Q Go.Proofs.Try.f45 table_Table_api_Field_Copy.sig.args table_Table_api_Field_Copy.sig.objs table_Table_api_Field_Copy.sig.ret table_Table_api_Field_Copy.sig.outs x) = table_Table_api_Field_Copy.sig.F := by
  kernel_rfl
set_option maxRecDepth 100000 in
theorem table_Table_api_Field_Copy.ctx : CtxOk Go.Proofs.Try.prog table_Table_api_Field_Copy.C := ⟨tyOk, mpOk, Nat.le_of_ble_eq_true (by kernel_rfl), fun f sg => fun h => sigs_if h (allS_cons table_New_api_Field.ok allS_nil) (fun h => sigs_if h (allS_cons maps_Copy_map_api_Key_api_Field_map_api_Key_api_Field_api_Key_api_Field.ok allS_nil) ((fun h => by cases h)))⟩
set_option maxRecDepth 100000 in
theorem table_Table_api_Field_Copy.ok : Sound Go.Proofs.Try.prog 45 table_Table_api_Field_Copy.sig := body_sound (C := table_Table_api_Field_Copy.C) (q := table_Table_api_Field_Copy.Q) (fn := Go.Proofs.Try.f45) (sg := table_Table_api_Field_Copy.sig) (n := 1) table_Table_api_Field_Copy.ctx follows Go.Proofs.Try.func45 (by kernel_rfl) (by kernel_rfl) (by kernel_rfl) (by kernel_rfl) (Nat.le_of_ble_eq_true (by kernel_rfl)) (by kernel_rfl) table_Table_api_Field_Copy.eq

def fund_Fund_Copy (x0 : Unit) (o0 : Unit × Unit) (o1 : Unit × Unit) (o2 : List ((Int × Int × Int × Unit) × Int × Int × Int × Int × Int × Int × Unit)) : Option (Unit × (Unit × Unit) × (Unit × Unit) × (List ((Int × Int × Int × Unit) × Int × Int × Int × Int × Int × Int × Unit)) × (Unit × Unit) × (Unit × Unit) × (List ((Int × Int × Int × Unit) × Int × Int × Int × Int × Int × Int × Unit)) × Unit) :=
  (fund_Fund_all () ((), o0.2) ((), o1.2) o2).bind fun r2 => (table_Table_api_Field_Copy () ((), r2.2.2.1.2) r2.2.2.2.1).bind fun r3 => some ((), (((), r2.2.1.2), (((), r3.2.1.2), (r3.2.2.1, (((), ()), (((), r3.2.2.2.1.2), (r3.2.2.2.2.1, ())))))))
def fund_Fund_Copy.C : Ctx := { ty := tyT, sigs := fun i => bif Nat.beq i 44 then [fund_Fund_all.sig] else bif Nat.beq i 45 then [table_Table_api_Field_Copy.sig] else [], n := 8, mp := mpT }
def fund_Fund_Copy.Q : Cuts := { np := 3, loops := fun i => none, seqs := fun i => none, splits := fun i => none }
def fund_Fund_Copy.sig : Sig := { args := .tc (.ptr 0) .tn, objs := [.cell (.cons (.ref 0) .unit) (.pair (.ptr 1) (.val .unit)), .cell (.cons (.ref 1) .unit) (.pair (.mapr 2) (.val .unit)), .map kKey kField], ret := .ptr 3, outs := [.cell (.cons (.ref 0) .unit) (.pair (.ptr 1) (.val .unit)), .cell (.cons (.ref 1) .unit) (.pair (.mapr 2) (.val .unit)), .map kKey kField, .cell (.cons (.ref 0) .unit) (.pair (.ptr 4) (.val .unit)), .cell (.cons (.ref 1) .unit) (.pair (.mapr 5) (.val .unit)), .map kKey kField], F := fun x => fund_Fund_Copy x.1.1 x.2.1 x.2.2.1 x.2.2.2.1 }
theorem fund_Fund_Copy.eq : (fun x => body fund_Fund_Copy.C fund_Fund_Copy.Q Go.Proofs.Try.f21 fund_Fund_Copy.sig.args fund_Fund_Copy.sig.objs fund_Fund_Copy.sig.ret fund_Fund_Copy.sig.outs x) = fund_Fund_Copy.sig.F := by
  kernel_rfl
set_option maxRecDepth 100000 in
theorem fund_Fund_Copy.ctx : CtxOk Go.Proofs.Try.prog fund_Fund_Copy.C := ⟨tyOk, mpOk, Nat.le_of_ble_eq_true (by kernel_rfl), fun f sg => fun h => sigs_if h (allS_cons fund_Fund_all.ok allS_nil) (fun h => sigs_if h (allS_cons table_Table_api_Field_Copy.ok allS_nil) ((fun h => by cases h)))⟩
set_option maxRecDepth 100000 in
theorem fund_Fund_Copy.ok : Sound Go.Proofs.Try.prog 21 fund_Fund_Copy.sig := body_sound (C := fund_Fund_Copy.C) (q := fund_Fund_Copy.Q) (fn := Go.Proofs.Try.f21) (sg := fund_Fund_Copy.sig) (n := 1) fund_Fund_Copy.ctx follows Go.Proofs.Try.func21 (by kernel_rfl) (by kernel_rfl) (by kernel_rfl) (by kernel_rfl) (Nat.le_of_ble_eq_true (by kernel_rfl)) (by kernel_rfl) fund_Fund_Copy.eq

def fund_by (x0 : Unit) (x1 : Int) : Option ((Unit × Unit × Unit) × Unit × Int × Unit) :=
  some (((), ((), ())), ((), (x1, ())))
def fund_by.C : Ctx := { ty := tyT, sigs := fun i => [], n := 6, mp := mpT }
def fund_by.Q : Cuts := { np := 0, loops := fun i => none, seqs := fun i => none, splits := fun i => none }
def fund_by.sig : Sig := { args := .tc (.clo 48 .tn) (.tc (.val (.int .i64)) .tn), objs := [], ret := .clo 71 (.tc (.ptr 0) (.tc (.ptr 1) .tn)), outs := [.cell (.ref 2) (.clo 48 .tn), .cell (.int .i64) (.val (.int .i64))], F := fun x => fund_by x.1.1 x.1.2.1 }
theorem fund_by.eq : (fun x => body fund_by.C fund_by.Q Go.Proofs.Try.f47 fund_by.sig.args fund_by.sig.objs fund_by.sig.ret fund_by.sig.outs x) = fund_by.sig.F := by
  kernel_rfl
set_option maxRecDepth 100000 in
theorem fund_by.ctx : CtxOk Go.Proofs.Try.prog fund_by.C := ⟨tyOk, mpOk, Nat.le_of_ble_eq_true (by kernel_rfl), fun f sg => (fun h => by cases h)⟩
set_option maxRecDepth 100000 in
theorem fund_by.ok : Sound Go.Proofs.Try.prog 47 fund_by.sig := body_sound (C := fund_by.C) (q := fund_by.Q) (fn := Go.Proofs.Try.f47) (sg := fund_by.sig) (n := 2) fund_by.ctx follows Go.Proofs.Try.func47 (by kernel_rfl) (by kernel_rfl) (by kernel_rfl) (by kernel_rfl) (Nat.le_of_ble_eq_true (by kernel_rfl)) (by kernel_rfl) fund_by.eq

def table_Table_api_Field_Get (x0 : Unit) (x1 : Int × Int × Int × Unit) (o0 : Unit × Unit) (o1 : List ((Int × Int × Int × Unit) × Int × Int × Int × Int × Int × Int × Unit)) : Option (((Int × Int × Int × Int × Int × Int × Unit) × Bool × Unit) × (Unit × Unit) × (List ((Int × Int × Int × Unit) × Int × Int × Int × Int × Int × Int × Unit)) × Unit) :=
  some ((getM kKey kField o1 x1, (hasM kKey kField o1 x1, ())), (((), o0.2), (o1, ())))
def table_Table_api_Field_Get.C : Ctx := { ty := tyT, sigs := fun i => [], n := 20, mp := mpT }
def table_Table_api_Field_Get.Q : Cuts := { np := 2, loops := fun i => none, seqs := fun i => none, splits := fun i => none }
def table_Table_api_Field_Get.sig : Sig := { args := .tc (.ptr 0) (.tc (.val kKey) .tn), objs := [.cell (.cons (.ref 1) .unit) (.pair (.mapr 1) (.val .unit)), .map kKey kField], ret := .tup (.tc (.val kField) (.tc (.val .bool) .tn)), outs := [.cell (.cons (.ref 1) .unit) (.pair (.mapr 1) (.val .unit)), .map kKey kField], F := fun x => table_Table_api_Field_Get x.1.1 x.1.2.1 x.2.1 x.2.2.1 }
theorem table_Table_api_Field_Get.eq : (fun x => body table_Table_api_Field_Get.C table_Table_api_Field_Get.Q Go.Proofs.Try.f57 table_Table_api_Field_Get.sig.args table_Table_api_Field_Get.sig.objs table_Table_api_Field_Get.sig.ret table_Table_api_Field_Get.sig.outs x) = table_Table_api_Field_Get.sig.F := by
  kernel_rfl
set_option maxRecDepth 100000 in
theorem table_Table_api_Field_Get.ctx : CtxOk Go.Proofs.Try.prog table_Table_api_Field_Get.C := ⟨tyOk, mpOk, Nat.le_of_ble_eq_true (by kernel_rfl), fun f sg => (fun h => by cases h)⟩
set_option maxRecDepth 100000 in
theorem table_Table_api_Field_Get.ok : Sound Go.Proofs.Try.prog 57 table_Table_api_Field_Get.sig := body_sound (C := table_Table_api_Field_Get.C) (q := table_Table_api_Field_Get.Q) (fn := Go.Proofs.Try.f57) (sg := table_Table_api_Field_Get.sig) (n := 2) table_Table_api_Field_Get.ctx follows Go.Proofs.Try.func57 (by kernel_rfl) (by kernel_rfl) (by kernel_rfl) (by kernel_rfl) (Nat.le_of_ble_eq_true (by kernel_rfl)) (by kernel_rfl) table_Table_api_Field_Get.eq

def fund_Fund_Get (x0 : Unit) (x1 : Int × Int × Int × Unit) (o0 : Unit × Unit) (o1 : Unit × Unit) (o2 : List ((Int × Int × Int × Unit) × Int × Int × Int × Int × Int × Int × Unit)) : Option (((Int × Int × Int × Int × Int × Int × Unit) × Bool × Unit) × (Unit × Unit) × (Unit × Unit) × (List ((Int × Int × Int × Unit) × Int × Int × Int × Int × Int × Int × Unit)) × Unit) :=
  (fund_Fund_all () ((), o0.2) ((), o1.2) o2).bind fun r8 => (table_Table_api_Field_Get () x1 ((), r8.2.2.1.2) r8.2.2.2.1).bind fun r9 => some ((r9.1.1, (r9.1.2.1, ())), (((), r8.2.1.2), (((), r9.2.1.2), (r9.2.2.1, ()))))
def fund_Fund_Get.C : Ctx := { ty := tyT, sigs := fun i => bif Nat.beq i 44 then [fund_Fund_all.sig] else bif Nat.beq i 57 then [table_Table_api_Field_Get.sig] else [], n := 12, mp := mpT }
def fund_Fund_Get.Q : Cuts := { np := 3, loops := fun i => none, seqs := fun i => none, splits := fun i => none }
def fund_Fund_Get.sig : Sig := { args := .tc (.ptr 0) (.tc (.val kKey) .tn), objs := [.cell (.cons (.ref 0) .unit) (.pair (.ptr 1) (.val .unit)), .cell (.cons (.ref 1) .unit) (.pair (.mapr 2) (.val .unit)), .map kKey kField], ret := .tup (.tc (.val kField) (.tc (.val .bool) .tn)), outs := [.cell (.cons (.ref 0) .unit) (.pair (.ptr 1) (.val .unit)), .cell (.cons (.ref 1) .unit) (.pair (.mapr 2) (.val .unit)), .map kKey kField], F := fun x => fund_Fund_Get x.1.1 x.1.2.1 x.2.1 x.2.2.1 x.2.2.2.1 }
theorem fund_Fund_Get.eq : (fun x => body fund_Fund_Get.C fund_Fund_Get.Q Go.Proofs.Try.f30 fund_Fund_Get.sig.args fund_Fund_Get.sig.objs fund_Fund_Get.sig.ret fund_Fund_Get.sig.outs x) = fund_Fund_Get.sig.F := by
  kernel_rfl
set_option maxRecDepth 100000 in
theorem fund_Fund_Get.ctx : CtxOk Go.Proofs.Try.prog fund_Fund_Get.C := ⟨tyOk, mpOk, Nat.le_of_ble_eq_true (by kernel_rfl), fun f sg => fun h => sigs_if h (allS_cons fund_Fund_all.ok allS_nil) (fun h => sigs_if h (allS_cons table_Table_api_Field_Get.ok allS_nil) ((fun h => by cases h)))⟩
set_option maxRecDepth 100000 in
theorem fund_Fund_Get.ok : Sound Go.Proofs.Try.prog 30 fund_Fund_Get.sig := body_sound (C := fund_Fund_Get.C) (q := fund_Fund_Get.Q) (fn := Go.Proofs.Try.f30) (sg := fund_Fund_Get.sig) (n := 2) fund_Fund_Get.ctx follows Go.Proofs.Try.func30 (by kernel_rfl) (by kernel_rfl) (by kernel_rfl) (by kernel_rfl) (Nat.le_of_ble_eq_true (by kernel_rfl)) (by kernel_rfl) fund_Fund_Get.eq

def field_wrong (x0 : Int × Int × Int × Int × Int × Int × Unit) (x1 : Int) : Option Int :=
  (field_Good x0).bind fun r9 => bif !r9 then some 12 else bif (x1 : Int) == 0 then some 1 else bif (x1 : Int) == (-9223372036854775808) then some 1 else some 0
def field_wrong.C : Ctx := { ty := tyT, sigs := fun i => bif Nat.beq i 55 then [field_Good.sig] else [], n := 16, mp := mpT }
def field_wrong.Q : Cuts := { np := 0, loops := fun i => none, seqs := fun i => none, splits := fun i => none }
def field_wrong.sig : Sig := { args := .tc (.val kField) (.tc (.val (.int .i64)) .tn), objs := [], ret := .val (.int .i64), outs := [], F := fun x => field_wrong x.1.1 x.1.2.1 }
theorem field_wrong.eq : (fun x => body field_wrong.C field_wrong.Q Go.Proofs.Try.f72 field_wrong.sig.args field_wrong.sig.objs field_wrong.sig.ret field_wrong.sig.outs x) = field_wrong.sig.F := by
  kernel_rfl
set_option maxRecDepth 100000 in
theorem field_wrong.ctx : CtxOk Go.Proofs.Try.prog field_wrong.C := ⟨tyOk, mpOk, Nat.le_of_ble_eq_true (by kernel_rfl), fun f sg => fun h => sigs_if h (allS_cons field_Good.ok allS_nil) ((fun h => by cases h))⟩
set_option maxRecDepth 100000 in
theorem field_wrong.ok : Sound Go.Proofs.Try.prog 72 field_wrong.sig := body_sound (C := field_wrong.C) (q := field_wrong.Q) (fn := Go.Proofs.Try.f72) (sg := field_wrong.sig) (n := 2) field_wrong.ctx follows Go.Proofs.Try.func72 (by kernel_rfl) (by kernel_rfl) (by kernel_rfl) (by kernel_rfl) (Nat.le_of_ble_eq_true (by kernel_rfl)) (by kernel_rfl) field_wrong.eq

def calc_Add (x0 : Int) (x1 : Int) : Option (Int × Bool × Unit) :=
  bif decide ((bitsAnd .i64 (bitsXor .i64 x0 (IntKind.i64.wrap (x0 + x1))) (bitsXor .i64 x1 (IntKind.i64.wrap (x0 + x1)))) < 0) then some (0, (false, ())) else some (IntKind.i64.wrap (x0 + x1), (true, ()))
def calc_Add.C : Ctx := { ty := tyT, sigs := fun i => [], n := 19, mp := mpT }
def calc_Add.Q : Cuts := { np := 0, loops := fun i => none, seqs := fun i => none, splits := fun i => none }
def calc_Add.sig : Sig := { args := .tc (.val (.int .i64)) (.tc (.val (.int .i64)) .tn), objs := [], ret := .tup (.tc (.val (.int .i64)) (.tc (.val .bool) .tn)), outs := [], F := fun x => calc_Add x.1.1 x.1.2.1 }
theorem calc_Add.eq : (fun x => body calc_Add.C calc_Add.Q Go.Proofs.Try.f73 calc_Add.sig.args calc_Add.sig.objs calc_Add.sig.ret calc_Add.sig.outs x) = calc_Add.sig.F := by
  kernel_rfl
set_option maxRecDepth 100000 in
theorem calc_Add.ctx : CtxOk Go.Proofs.Try.prog calc_Add.C := ⟨tyOk, mpOk, Nat.le_of_ble_eq_true (by kernel_rfl), fun f sg => (fun h => by cases h)⟩
set_option maxRecDepth 100000 in
theorem calc_Add.ok : Sound Go.Proofs.Try.prog 73 calc_Add.sig := body_sound (C := calc_Add.C) (q := calc_Add.Q) (fn := Go.Proofs.Try.f73) (sg := calc_Add.sig) (n := 2) calc_Add.ctx follows Go.Proofs.Try.func73 (by kernel_rfl) (by kernel_rfl) (by kernel_rfl) (by kernel_rfl) (Nat.le_of_ble_eq_true (by kernel_rfl)) (by kernel_rfl) calc_Add.eq

def field_Grant (x0 : Int × Int × Int × Int × Int × Int × Unit) (x1 : Int) : Option ((Int × Int × Int × Int × Int × Int × Unit) × Int × Unit) :=
  (field_wrong x0 x1).bind fun r9 => bif (r9 : Int) != 0 then some (x0, (r9, ())) else bif decide (x1 < 0) then (calc_Add x0.2.2.2.1 x1).bind fun r10 => bif !r10.2.1 then some (x0, (2, ())) else bif decide (r10.1 < x0.1) then some (x0, (3, ())) else bif decide (r10.1 > x0.2.1) then some (x0, (3, ())) else some ((x0.1, (x0.2.1, (x0.2.2.1, (r10.1, (x0.2.2.2.2.1, (IntKind.i64.wrap (x0.2.2.2.2.2.1 + x1), x0.2.2.2.2.2.2)))))), (0, ())) else (calc_Add x0.2.2.2.2.1 x1).bind fun r11 => bif !r11.2.1 then some (x0, (2, ())) else bif decide (r11.1 < x0.1) then some (x0, (3, ())) else bif decide (r11.1 > x0.2.1) then some (x0, (3, ())) else some ((x0.1, (x0.2.1, (x0.2.2.1, (x0.2.2.2.1, (r11.1, (IntKind.i64.wrap (x0.2.2.2.2.2.1 + x1), x0.2.2.2.2.2.2)))))), (0, ()))
def field_Grant.C : Ctx := { ty := tyT, sigs := fun i => bif Nat.beq i 72 then [field_wrong.sig] else bif Nat.beq i 73 then [calc_Add.sig] else [], n := 56, mp := mpT }
def field_Grant.Q : Cuts := { np := 0, loops := fun i => none, seqs := fun i => none, splits := fun i => none }
def field_Grant.sig : Sig := { args := .tc (.val kField) (.tc (.val (.int .i64)) .tn), objs := [], ret := .tup (.tc (.val kField) (.tc (.val (.int .i64)) .tn)), outs := [], F := fun x => field_Grant x.1.1 x.1.2.1 }
theorem field_Grant.eq : (fun x => body field_Grant.C field_Grant.Q Go.Proofs.Try.f48 field_Grant.sig.args field_Grant.sig.objs field_Grant.sig.ret field_Grant.sig.outs x) = field_Grant.sig.F := by
  kernel_rfl
set_option maxRecDepth 100000 in
theorem field_Grant.ctx : CtxOk Go.Proofs.Try.prog field_Grant.C := ⟨tyOk, mpOk, Nat.le_of_ble_eq_true (by kernel_rfl), fun f sg => fun h => sigs_if h (allS_cons field_wrong.ok allS_nil) (fun h => sigs_if h (allS_cons calc_Add.ok allS_nil) ((fun h => by cases h)))⟩
set_option maxRecDepth 100000 in
theorem field_Grant.ok : Sound Go.Proofs.Try.prog 48 field_Grant.sig := body_sound (C := field_Grant.C) (q := field_Grant.Q) (fn := Go.Proofs.Try.f48) (sg := field_Grant.sig) (n := 2) field_Grant.ctx follows Go.Proofs.Try.func48 (by kernel_rfl) (by kernel_rfl) (by kernel_rfl) (by kernel_rfl) (Nat.le_of_ble_eq_true (by kernel_rfl)) (by kernel_rfl) field_Grant.eq

def fund_by_1 (x0 : Int × Int × Int × Int × Int × Int × Unit) (x1 : Unit) (x2 : Unit) (o0 : Unit) (o1 : Int) : Option (((Int × Int × Int × Int × Int × Int × Unit) × Int × Unit) × Unit × Int × Unit) :=
  (field_Grant x0 o1).bind fun r9 => some ((r9.1, (r9.2.1, ())), ((), (o1, ())))
def fund_by_1.C : Ctx := { ty := tyT, sigs := fun i => bif Nat.beq i 48 then [field_Grant.sig] else [], n := 12, mp := mpT }
def fund_by_1.Q : Cuts := { np := 2, loops := fun i => none, seqs := fun i => none, splits := fun i => none }
def fund_by_1.sig : Sig := { args := .tc (.val kField) (.tc (.ptr 0) (.tc (.ptr 1) .tn)), objs := [.cell (.ref 2) (.clo 48 .tn), .cell (.int .i64) (.val (.int .i64))], ret := .tup (.tc (.val kField) (.tc (.val (.int .i64)) .tn)), outs := [.cell (.ref 2) (.clo 48 .tn), .cell (.int .i64) (.val (.int .i64))], F := fun x => fund_by_1 x.1.1 x.1.2.1 x.1.2.2.1 x.2.1 x.2.2.1 }
theorem fund_by_1.eq : (fun x => body fund_by_1.C fund_by_1.Q Go.Proofs.Try.f71 fund_by_1.sig.args fund_by_1.sig.objs fund_by_1.sig.ret fund_by_1.sig.outs x) = fund_by_1.sig.F := by
  kernel_rfl
set_option maxRecDepth 100000 in
theorem fund_by_1.ctx : CtxOk Go.Proofs.Try.prog fund_by_1.C := ⟨tyOk, mpOk, Nat.le_of_ble_eq_true (by kernel_rfl), fun f sg => fun h => sigs_if h (allS_cons field_Grant.ok allS_nil) ((fun h => by cases h))⟩
set_option maxRecDepth 100000 in
theorem fund_by_1.ok : Sound Go.Proofs.Try.prog 71 fund_by_1.sig := body_sound (C := fund_by_1.C) (q := fund_by_1.Q) (fn := Go.Proofs.Try.f71) (sg := fund_by_1.sig) (n := 3) fund_by_1.ctx follows Go.Proofs.Try.func71 (by kernel_rfl) (by kernel_rfl) (by kernel_rfl) (by kernel_rfl) (Nat.le_of_ble_eq_true (by kernel_rfl)) (by kernel_rfl) fund_by_1.eq

def fund_Fund_change (x0 : Unit) (x1 : Int × Int × Int × Unit) (x2 : Unit × Unit × Unit) (o0 : Unit × Unit) (o1 : Unit) (o2 : Int) (o3 : Unit × Unit) (o4 : List ((Int × Int × Int × Unit) × Int × Int × Int × Int × Int × Int × Unit)) : Option (Int × (Unit × Unit) × Unit × Int × (Unit × Unit) × (List ((Int × Int × Int × Unit) × Int × Int × Int × Int × Int × Int × Unit)) × Unit) :=
  (fund_Fund_Get () x1 ((), o0.2) ((), o3.2) o4).bind fun r8 => bif !r8.1.2.1 then some (10, (((), r8.2.1.2), ((), (o2, (((), r8.2.2.1.2), (r8.2.2.2.1, ())))))) else (fund_by_1 r8.1.1 () () () o2).bind fun r9 => bif (r9.1.2.1 : Int) == 0 then (table_Table_api_Field_Put () x1 r9.1.1 ((), r8.2.2.1.2) r8.2.2.2.1).bind fun r10 => some (r9.1.2.1, (((), r8.2.1.2), ((), (r9.2.2.1, (((), r10.2.1.2), (r10.2.2.1, ())))))) else some (r9.1.2.1, (((), r8.2.1.2), ((), (r9.2.2.1, (((), r8.2.2.1.2), (r8.2.2.2.1, ()))))))
def fund_Fund_change.C : Ctx := { ty := tyT, sigs := fun i => bif Nat.beq i 30 then [fund_Fund_Get.sig] else bif Nat.beq i 43 then [table_Table_api_Field_Put.sig] else bif Nat.beq i 71 then [fund_by_1.sig] else [], n := 35, mp := mpT }
def fund_Fund_change.Q : Cuts := { np := 5, loops := fun i => none, seqs := fun i => none, splits := fun i => none }
def fund_Fund_change.sig : Sig := { args := .tc (.ptr 0) (.tc (.val kKey) (.tc (.clo 71 (.tc (.ptr 1) (.tc (.ptr 2) .tn))) .tn)), objs := [.cell (.cons (.ref 0) .unit) (.pair (.ptr 3) (.val .unit)), .cell (.ref 2) (.clo 48 .tn), .cell (.int .i64) (.val (.int .i64)), .cell (.cons (.ref 1) .unit) (.pair (.mapr 4) (.val .unit)), .map kKey kField], ret := .val (.int .i64), outs := [.cell (.cons (.ref 0) .unit) (.pair (.ptr 3) (.val .unit)), .cell (.ref 2) (.clo 48 .tn), .cell (.int .i64) (.val (.int .i64)), .cell (.cons (.ref 1) .unit) (.pair (.mapr 4) (.val .unit)), .map kKey kField], F := fun x => fund_Fund_change x.1.1 x.1.2.1 x.1.2.2.1 x.2.1 x.2.2.1 x.2.2.2.1 x.2.2.2.2.1 x.2.2.2.2.2.1 }
theorem fund_Fund_change.eq : (fun x => body fund_Fund_change.C fund_Fund_change.Q Go.Proofs.Try.f46 fund_Fund_change.sig.args fund_Fund_change.sig.objs fund_Fund_change.sig.ret fund_Fund_change.sig.outs x) = fund_Fund_change.sig.F := by
  kernel_rfl
set_option maxRecDepth 100000 in
theorem fund_Fund_change.ctx : CtxOk Go.Proofs.Try.prog fund_Fund_change.C := ⟨tyOk, mpOk, Nat.le_of_ble_eq_true (by kernel_rfl), fun f sg => fun h => sigs_if h (allS_cons fund_Fund_Get.ok allS_nil) (fun h => sigs_if h (allS_cons table_Table_api_Field_Put.ok allS_nil) (fun h => sigs_if h (allS_cons fund_by_1.ok allS_nil) ((fun h => by cases h))))⟩
set_option maxRecDepth 100000 in
theorem fund_Fund_change.ok : Sound Go.Proofs.Try.prog 46 fund_Fund_change.sig := body_sound (C := fund_Fund_change.C) (q := fund_Fund_change.Q) (fn := Go.Proofs.Try.f46) (sg := fund_Fund_change.sig) (n := 3) fund_Fund_change.ctx follows Go.Proofs.Try.func46 (by kernel_rfl) (by kernel_rfl) (by kernel_rfl) (by kernel_rfl) (Nat.le_of_ble_eq_true (by kernel_rfl)) (by kernel_rfl) fund_Fund_change.eq

def fund_Fund_Grant (x0 : Unit) (x1 : (Int × Int × Int × Unit) × Int × Unit) (o0 : Unit × Unit) (o1 : Unit × Unit) (o2 : List ((Int × Int × Int × Unit) × Int × Int × Int × Int × Int × Int × Unit)) : Option (Int × (Unit × Unit) × (Unit × Unit) × (List ((Int × Int × Int × Unit) × Int × Int × Int × Int × Int × Int × Unit)) × Unit) :=
  (fund_by () x1.2.1).bind fun r7 => (fund_Fund_change () x1.1 ((), ((), ())) ((), o0.2) () r7.2.2.1 ((), o1.2) o2).bind fun r8 => some (r8.1, (((), r8.2.1.2), (((), r8.2.2.2.2.1.2), (r8.2.2.2.2.2.1, ()))))
def fund_Fund_Grant.C : Ctx := { ty := tyT, sigs := fun i => bif Nat.beq i 46 then [fund_Fund_change.sig] else bif Nat.beq i 47 then [fund_by.sig] else [], n := 12, mp := mpT }
def fund_Fund_Grant.Q : Cuts := { np := 3, loops := fun i => none, seqs := fun i => none, splits := fun i => none }
def fund_Fund_Grant.sig : Sig := { args := .tc (.ptr 0) (.tc (.val kOp) .tn), objs := [.cell (.cons (.ref 0) .unit) (.pair (.ptr 1) (.val .unit)), .cell (.cons (.ref 1) .unit) (.pair (.mapr 2) (.val .unit)), .map kKey kField], ret := .val (.int .i64), outs := [.cell (.cons (.ref 0) .unit) (.pair (.ptr 1) (.val .unit)), .cell (.cons (.ref 1) .unit) (.pair (.mapr 2) (.val .unit)), .map kKey kField], F := fun x => fund_Fund_Grant x.1.1 x.1.2.1 x.2.1 x.2.2.1 x.2.2.2.1 }
theorem fund_Fund_Grant.eq : (fun x => body fund_Fund_Grant.C fund_Fund_Grant.Q Go.Proofs.Try.f23 fund_Fund_Grant.sig.args fund_Fund_Grant.sig.objs fund_Fund_Grant.sig.ret fund_Fund_Grant.sig.outs x) = fund_Fund_Grant.sig.F := by
  kernel_rfl
set_option maxRecDepth 100000 in
theorem fund_Fund_Grant.ctx : CtxOk Go.Proofs.Try.prog fund_Fund_Grant.C := ⟨tyOk, mpOk, Nat.le_of_ble_eq_true (by kernel_rfl), fun f sg => fun h => sigs_if h (allS_cons fund_Fund_change.ok allS_nil) (fun h => sigs_if h (allS_cons fund_by.ok allS_nil) ((fun h => by cases h)))⟩
set_option maxRecDepth 100000 in
theorem fund_Fund_Grant.ok : Sound Go.Proofs.Try.prog 23 fund_Fund_Grant.sig := body_sound (C := fund_Fund_Grant.C) (q := fund_Fund_Grant.Q) (fn := Go.Proofs.Try.f23) (sg := fund_Fund_Grant.sig) (n := 2) fund_Fund_Grant.ctx follows Go.Proofs.Try.func23 (by kernel_rfl) (by kernel_rfl) (by kernel_rfl) (by kernel_rfl) (Nat.le_of_ble_eq_true (by kernel_rfl)) (by kernel_rfl) fund_Fund_Grant.eq

def fund_Fund_Try.l1 (v : (Unit × (List ((Int × Int × Int × Unit) × Int × Unit)) × Int × Int) × (Unit × Unit) × (Unit × Unit) × (List ((Int × Int × Int × Unit) × Int × Int × Int × Int × Int × Int × Unit)) × (Unit × Unit) × (Unit × Unit) × (List ((Int × Int × Int × Unit) × Int × Int × Int × Int × Int × Int × Unit)) × Unit) : Option (((Unit × (List ((Int × Int × Int × Unit) × Int × Unit)) × Int × Int) × (Unit × Unit) × (Unit × Unit) × (List ((Int × Int × Int × Unit) × Int × Int × Int × Int × Int × Int × Unit)) × (Unit × Unit) × (Unit × Unit) × (List ((Int × Int × Int × Unit) × Int × Int × Int × Int × Int × Int × Unit)) × Unit) ⊕ ((Unit × (Unit × Unit) × (Unit × Unit) × (List ((Int × Int × Int × Unit) × Int × Int × Int × Int × Int × Int × Unit)) × Unit) ⊕ (Int × (Unit × Unit) × (Unit × Unit) × (List ((Int × Int × Int × Unit) × Int × Int × Int × Int × Int × Int × Unit)) × Unit))) :=
  bif decide (v.1.2.2.2 < v.1.2.2.1) then nthK v.1.2.1 v.1.2.2.2 fun e6 => (fund_Fund_Grant () e6 ((), v.2.2.2.2.1.2) ((), v.2.2.2.2.2.1.2) v.2.2.2.2.2.2.1).bind fun r7 => bif (r7.1 : Int) != 0 then some (Sum.inr (Sum.inr (r7.1, (((), v.2.1.2), (((), v.2.2.1.2), (v.2.2.2.1, ())))))) else some (Sum.inl (((), (v.1.2.1, (v.1.2.2.1, IntKind.i64.wrap (v.1.2.2.2 + 1)))), (((), v.2.1.2), (((), v.2.2.1.2), (v.2.2.2.1, (((), r7.2.1.2), (((), r7.2.2.1.2), (r7.2.2.2.1, ())))))))) else some (Sum.inr (Sum.inl ((), (((), v.2.1.2), (((), v.2.2.1.2), (v.2.2.2.1, ()))))))
def fund_Fund_Try (x0 : Unit) (x1 : List ((Int × Int × Int × Unit) × Int × Unit)) (o0 : Unit × Unit) (o1 : Unit × Unit) (o2 : List ((Int × Int × Int × Unit) × Int × Int × Int × Int × Int × Int × Unit)) : Option (Int × (Unit × Unit) × (Unit × Unit) × (List ((Int × Int × Int × Unit) × Int × Int × Int × Int × Int × Int × Unit)) × Unit) :=
  (fund_Fund_Copy () ((), o0.2) ((), o1.2) o2).bind fun r5 => (iterL fund_Fund_Try.l1 loopN (((), (x1, ((x1.length : Int), 0))), (((), r5.2.1.2), (((), r5.2.2.1.2), (r5.2.2.2.1, (((), r5.2.2.2.2.1.2), (((), r5.2.2.2.2.2.1.2), (r5.2.2.2.2.2.2.1, ())))))))).bind fun y8 => (match y8 with | .inl y9 => some (0, (((), y9.2.1.2), (((), y9.2.2.1.2), (y9.2.2.2.1, ())))) | .inr y10 => some (y10.1, (((), y10.2.1.2), (((), y10.2.2.1.2), (y10.2.2.2.1, ())))))
def fund_Fund_Try.C : Ctx := { ty := tyT, sigs := fun i => bif Nat.beq i 21 then [fund_Fund_Copy.sig] else bif Nat.beq i 23 then [fund_Fund_Grant.sig] else [], n := 24, mp := mpT }
def fund_Fund_Try.Q : Cuts := { np := 3, loops := fun i => bif Nat.beq i 3 then some ({ env := [(5, .ptr 3), (11, .val (.slice kOp)), (12, .val (.int .i64)), (13, .val (.int .i64))], objs := [.cell (.cons (.ref 0) .unit) (.pair (.ptr 1) (.val .unit)), .cell (.cons (.ref 1) .unit) (.pair (.mapr 2) (.val .unit)), .map kKey kField, .cell (.cons (.ref 0) .unit) (.pair (.ptr 4) (.val .unit)), .cell (.cons (.ref 1) .unit) (.pair (.mapr 5) (.val .unit)), .map kKey kField] }, [(.exit 0, { env := [], objs := [.cell (.cons (.ref 0) .unit) (.pair (.ptr 1) (.val .unit)), .cell (.cons (.ref 1) .unit) (.pair (.mapr 2) (.val .unit)), .map kKey kField] }), (.ret, { env := [(4, .val (.int .i64))], objs := [.cell (.cons (.ref 0) .unit) (.pair (.ptr 1) (.val .unit)), .cell (.cons (.ref 1) .unit) (.pair (.mapr 2) (.val .unit)), .map kKey kField] })]) else none, seqs := fun i => none, splits := fun i => none }
def fund_Fund_Try.sig : Sig := { args := .tc (.ptr 0) (.tc (.val (.slice kOp)) .tn), objs := [.cell (.cons (.ref 0) .unit) (.pair (.ptr 1) (.val .unit)), .cell (.cons (.ref 1) .unit) (.pair (.mapr 2) (.val .unit)), .map kKey kField], ret := .val (.int .i64), outs := [.cell (.cons (.ref 0) .unit) (.pair (.ptr 1) (.val .unit)), .cell (.cons (.ref 1) .unit) (.pair (.mapr 2) (.val .unit)), .map kKey kField], F := fun x => fund_Fund_Try x.1.1 x.1.2.1 x.2.1 x.2.2.1 x.2.2.2.1 }
theorem fund_Fund_Try.eq : (fun x => body fund_Fund_Try.C fund_Fund_Try.Q Go.Proofs.Try.f22 fund_Fund_Try.sig.args fund_Fund_Try.sig.objs fund_Fund_Try.sig.ret fund_Fund_Try.sig.outs x) = fund_Fund_Try.sig.F := by
  kernel_rfl
set_option maxRecDepth 100000 in
theorem fund_Fund_Try.ctx : CtxOk Go.Proofs.Try.prog fund_Fund_Try.C := ⟨tyOk, mpOk, Nat.le_of_ble_eq_true (by kernel_rfl), fun f sg => fun h => sigs_if h (allS_cons fund_Fund_Copy.ok allS_nil) (fun h => sigs_if h (allS_cons fund_Fund_Grant.ok allS_nil) ((fun h => by cases h)))⟩
set_option maxRecDepth 100000 in
theorem fund_Fund_Try.ok : Sound Go.Proofs.Try.prog 22 fund_Fund_Try.sig := body_sound (C := fund_Fund_Try.C) (q := fund_Fund_Try.Q) (fn := Go.Proofs.Try.f22) (sg := fund_Fund_Try.sig) (n := 2) fund_Fund_Try.ctx follows Go.Proofs.Try.func22 (by kernel_rfl) (by kernel_rfl) (by kernel_rfl) (by kernel_rfl) (Nat.le_of_ble_eq_true (by kernel_rfl)) (by kernel_rfl) fund_Fund_Try.eq

def pledgeref17_New (x0 : (Int × Int × Int × Unit) × Int × Int × Int × Unit) : Option ((Int × Int × Int × Int × Int × Int × Unit) × Int × Unit) :=
  bif decide (x0.2.1 > x0.2.2.1) then some ((0, (0, (0, (0, (0, (0, ())))))), (3, ())) else bif decide (x0.2.2.1 > x0.2.2.2.1) then some ((0, (0, (0, (0, (0, (0, ())))))), (3, ())) else some ((x0.2.1, (x0.2.2.2.1, (x0.2.2.1, (x0.2.2.1, (x0.2.2.1, (x0.2.2.1, ())))))), (0, ()))
def pledgeref17_New.C : Ctx := { ty := tyT, sigs := fun i => [], n := 30, mp := mpT }
def pledgeref17_New.Q : Cuts := { np := 0, loops := fun i => none, seqs := fun i => none, splits := fun i => none }
def pledgeref17_New.sig : Sig := { args := .tc (.val kDecl) .tn, objs := [], ret := .tup (.tc (.val kField) (.tc (.val (.int .i64)) .tn)), outs := [], F := fun x => pledgeref17_New x.1.1 }
theorem pledgeref17_New.eq : (fun x => body pledgeref17_New.C pledgeref17_New.Q Go.Proofs.Try.f50 pledgeref17_New.sig.args pledgeref17_New.sig.objs pledgeref17_New.sig.ret pledgeref17_New.sig.outs x) = pledgeref17_New.sig.F := by
  kernel_rfl
set_option maxRecDepth 100000 in
theorem pledgeref17_New.ctx : CtxOk Go.Proofs.Try.prog pledgeref17_New.C := ⟨tyOk, mpOk, Nat.le_of_ble_eq_true (by kernel_rfl), fun f sg => (fun h => by cases h)⟩
set_option maxRecDepth 100000 in
theorem pledgeref17_New.ok : Sound Go.Proofs.Try.prog 50 pledgeref17_New.sig := body_sound (C := pledgeref17_New.C) (q := pledgeref17_New.Q) (fn := Go.Proofs.Try.f50) (sg := pledgeref17_New.sig) (n := 1) pledgeref17_New.ctx follows Go.Proofs.Try.func50 (by kernel_rfl) (by kernel_rfl) (by kernel_rfl) (by kernel_rfl) (Nat.le_of_ble_eq_true (by kernel_rfl)) (by kernel_rfl) pledgeref17_New.eq

def pledgeref04_Less (x0 : Int × Int × Int × Unit) (x1 : Int × Int × Int × Unit) : Option Bool :=
  bif (x0.1 : Int) != x1.1 then some (decide (x0.1 < x1.1)) else bif (x0.2.1 : Int) != x1.2.1 then some (decide (x0.2.1 < x1.2.1)) else some (decide (x0.2.2.1 < x1.2.2.1))
def pledgeref04_Less.C : Ctx := { ty := tyT, sigs := fun i => [], n := 30, mp := mpT }
def pledgeref04_Less.Q : Cuts := { np := 0, loops := fun i => none, seqs := fun i => none, splits := fun i => none }
def pledgeref04_Less.sig : Sig := { args := .tc (.val kKey) (.tc (.val kKey) .tn), objs := [], ret := .val .bool, outs := [], F := fun x => pledgeref04_Less x.1.1 x.1.2.1 }
theorem pledgeref04_Less.eq : (fun x => body pledgeref04_Less.C pledgeref04_Less.Q Go.Proofs.Try.f64 pledgeref04_Less.sig.args pledgeref04_Less.sig.objs pledgeref04_Less.sig.ret pledgeref04_Less.sig.outs x) = pledgeref04_Less.sig.F := by
  kernel_rfl
set_option maxRecDepth 100000 in
theorem pledgeref04_Less.ctx : CtxOk Go.Proofs.Try.prog pledgeref04_Less.C := ⟨tyOk, mpOk, Nat.le_of_ble_eq_true (by kernel_rfl), fun f sg => (fun h => by cases h)⟩
set_option maxRecDepth 100000 in
theorem pledgeref04_Less.ok : Sound Go.Proofs.Try.prog 64 pledgeref04_Less.sig := body_sound (C := pledgeref04_Less.C) (q := pledgeref04_Less.Q) (fn := Go.Proofs.Try.f64) (sg := pledgeref04_Less.sig) (n := 2) pledgeref04_Less.ctx follows Go.Proofs.Try.func64 (by kernel_rfl) (by kernel_rfl) (by kernel_rfl) (by kernel_rfl) (Nat.le_of_ble_eq_true (by kernel_rfl)) (by kernel_rfl) pledgeref04_Less.eq

def pledgeref18_put.l1 (v : ((List ((Int × Int × Int × Unit) × (Int × Int × Int × Int × Int × Int × Unit) × Unit)) × Unit × Unit × Bool × Int) × ((Int × Int × Int × Unit) × (Int × Int × Int × Int × Int × Int × Unit) × Unit) × (List ((Int × Int × Int × Unit) × (Int × Int × Int × Int × Int × Int × Unit) × Unit)) × Unit) : Option ((((List ((Int × Int × Int × Unit) × (Int × Int × Int × Int × Int × Int × Unit) × Unit)) × Unit × Unit × Bool × Int) × ((Int × Int × Int × Unit) × (Int × Int × Int × Int × Int × Int × Unit) × Unit) × (List ((Int × Int × Int × Unit) × (Int × Int × Int × Int × Int × Int × Unit) × Unit)) × Unit) ⊕ ((Unit × Unit × Bool) × ((Int × Int × Int × Unit) × (Int × Int × Int × Int × Int × Int × Unit) × Unit) × (List ((Int × Int × Int × Unit) × (Int × Int × Int × Int × Int × Int × Unit) × Unit)) × Unit)) :=
  bif decide (v.1.2.2.2.2 < (v.1.1.length : Int)) then (bif !v.1.2.2.2.1 then nthK v.1.1 v.1.2.2.2.2 fun e9 => (pledgeref04_Less e9.1 v.2.1.1).bind fun r10 => bif !r10 then room (v.2.2.1.length + [v.2.1].length) (some (((v.1.1, ((), ((), (true, v.1.2.2.2.2)))), (v.2.1, (v.2.2.1 ++ [v.2.1], ()))))) else some (((v.1.1, ((), ((), v.1.2.2.2))), (v.2.1, (v.2.2.1, ())))) else some (((v.1.1, ((), ((), v.1.2.2.2))), (v.2.1, (v.2.2.1, ())))) : Option (((List ((Int × Int × Int × Unit) × (Int × Int × Int × Int × Int × Int × Unit) × Unit)) × Unit × Unit × Bool × Int) × ((Int × Int × Int × Unit) × (Int × Int × Int × Int × Int × Int × Unit) × Unit) × (List ((Int × Int × Int × Unit) × (Int × Int × Int × Int × Int × Int × Unit) × Unit)) × Unit)).bind fun y11 => nthK y11.1.1 y11.1.2.2.2.2 fun e12 => bif !(eqE kKey e12.1 y11.2.1.1) then nthK y11.1.1 y11.1.2.2.2.2 fun e13 => room (y11.2.2.1.length + [e13].length) (some (Sum.inl ((y11.1.1, ((), ((), (y11.1.2.2.2.1, IntKind.i64.wrap (y11.1.2.2.2.2 + 1))))), (y11.2.1, (y11.2.2.1 ++ [e13], ()))))) else some (Sum.inl ((y11.1.1, ((), ((), (y11.1.2.2.2.1, IntKind.i64.wrap (y11.1.2.2.2.2 + 1))))), (y11.2.1, (y11.2.2.1, ())))) else some (Sum.inr (((), ((), v.1.2.2.2.1)), (v.2.1, (v.2.2.1, ()))))
def pledgeref18_put (x0 : List ((Int × Int × Int × Unit) × (Int × Int × Int × Int × Int × Int × Unit) × Unit)) (x1 : (Int × Int × Int × Unit) × (Int × Int × Int × Int × Int × Int × Unit) × Unit) : Option (List ((Int × Int × Int × Unit) × (Int × Int × Int × Int × Int × Int × Unit) × Unit)) :=
  (iterL pledgeref18_put.l1 loopN ((x0, ((), ((), (false, 0)))), (x1, ([], ())))).bind fun y14 => bif !y14.1.2.2 then room (y14.2.2.1.length + [y14.2.1].length) (some (y14.2.2.1 ++ [y14.2.1])) else some y14.2.2.1
def pledgeref18_put.C : Ctx := { ty := tyT, sigs := fun i => bif Nat.beq i 64 then [pledgeref04_Less.sig] else [], n := 53, mp := mpT }
def pledgeref18_put.Q : Cuts := { np := 0, loops := fun i => bif Nat.beq i 4 then some ({ env := [(0, .val (.slice kRow_106)), (3, .ptr 0), (5, .row 1), (6, .val .bool), (7, .val (.int .i64))], objs := [.cell kRow_106 (.val kRow_106), .row kRow_106 false] }, [(.exit 0, { env := [(3, .ptr 0), (5, .row 1), (6, .val .bool)], objs := [.cell kRow_106 (.val kRow_106), .row kRow_106 false] })]) else none, seqs := fun i => bif Nat.beq i 9 then some [(.normal, { env := [(0, .val (.slice kRow_106)), (3, .ptr 0), (5, .row 1), (6, .val .bool), (7, .val (.int .i64))], objs := [.cell kRow_106 (.val kRow_106), .row kRow_106 false] })] else none, splits := fun i => none }
def pledgeref18_put.sig : Sig := { args := .tc (.val (.slice kRow_106)) (.tc (.val kRow_106) .tn), objs := [], ret := .val (.slice kRow_106), outs := [], F := fun x => pledgeref18_put x.1.1 x.1.2.1 }
theorem pledgeref18_put.eq : (fun x => body pledgeref18_put.C pledgeref18_put.Q Go.Proofs.Try.f51 pledgeref18_put.sig.args pledgeref18_put.sig.objs pledgeref18_put.sig.ret pledgeref18_put.sig.outs x) = pledgeref18_put.sig.F := by
  kernel_rfl
set_option maxRecDepth 100000 in
theorem pledgeref18_put.ctx : CtxOk Go.Proofs.Try.prog pledgeref18_put.C := ⟨tyOk, mpOk, Nat.le_of_ble_eq_true (by kernel_rfl), fun f sg => fun h => sigs_if h (allS_cons pledgeref04_Less.ok allS_nil) ((fun h => by cases h))⟩
set_option maxRecDepth 100000 in
theorem pledgeref18_put.ok : Sound Go.Proofs.Try.prog 51 pledgeref18_put.sig := body_sound (C := pledgeref18_put.C) (q := pledgeref18_put.Q) (fn := Go.Proofs.Try.f51) (sg := pledgeref18_put.sig) (n := 2) pledgeref18_put.ctx follows Go.Proofs.Try.func51 (by kernel_rfl) (by kernel_rfl) (by kernel_rfl) (by kernel_rfl) (Nat.le_of_ble_eq_true (by kernel_rfl)) (by kernel_rfl) pledgeref18_put.eq

def pledgeref18_New.l1 (v : (List ((Int × Int × Int × Unit) × Int × Int × Int × Unit)) × (List ((Int × Int × Int × Unit) × (Int × Int × Int × Int × Int × Int × Unit) × Unit)) × Int) : Option (((List ((Int × Int × Int × Unit) × Int × Int × Int × Unit)) × (List ((Int × Int × Int × Unit) × (Int × Int × Int × Int × Int × Int × Unit) × Unit)) × Int) ⊕ (List ((Int × Int × Int × Unit) × (Int × Int × Int × Int × Int × Int × Unit) × Unit))) :=
  bif decide (v.2.2 < (v.1.length : Int)) then nthK v.1 v.2.2 fun e6 => (pledgeref17_New e6).bind fun r7 => bif (r7.2.1 : Int) == 0 then nthK v.1 v.2.2 fun e8 => (pledgeref18_put v.2.1 (e8.1, (r7.1, ()))).bind fun r9 => some (Sum.inl (v.1, (r9, IntKind.i64.wrap (v.2.2 + 1)))) else some (Sum.inl (v.1, (v.2.1, IntKind.i64.wrap (v.2.2 + 1)))) else some (Sum.inr v.2.1)
def pledgeref18_New (x0 : List ((Int × Int × Int × Unit) × Int × Int × Int × Unit)) : Option (List ((Int × Int × Int × Unit) × (Int × Int × Int × Int × Int × Int × Unit) × Unit)) :=
  (iterL pledgeref18_New.l1 loopN (x0, ([], 0))).bind fun y10 => some y10
def pledgeref18_New.C : Ctx := { ty := tyT, sigs := fun i => bif Nat.beq i 50 then [pledgeref17_New.sig] else bif Nat.beq i 51 then [pledgeref18_put.sig] else [], n := 33, mp := mpT }
def pledgeref18_New.Q : Cuts := { np := 0, loops := fun i => bif Nat.beq i 3 then some ({ env := [(0, .val (.slice kDecl)), (3, .val (.slice kRow_106)), (4, .val (.int .i64))], objs := [] }, [(.exit 0, { env := [(3, .val (.slice kRow_106))], objs := [] })]) else none, seqs := fun i => none, splits := fun i => none }
def pledgeref18_New.sig : Sig := { args := .tc (.val (.slice kDecl)) .tn, objs := [], ret := .val (.slice kRow_106), outs := [], F := fun x => pledgeref18_New x.1.1 }
theorem pledgeref18_New.eq : (fun x => body pledgeref18_New.C pledgeref18_New.Q Go.Proofs.Try.f25 pledgeref18_New.sig.args pledgeref18_New.sig.objs pledgeref18_New.sig.ret pledgeref18_New.sig.outs x) = pledgeref18_New.sig.F := by
  kernel_rfl
set_option maxRecDepth 100000 in
theorem pledgeref18_New.ctx : CtxOk Go.Proofs.Try.prog pledgeref18_New.C := ⟨tyOk, mpOk, Nat.le_of_ble_eq_true (by kernel_rfl), fun f sg => fun h => sigs_if h (allS_cons pledgeref17_New.ok allS_nil) (fun h => sigs_if h (allS_cons pledgeref18_put.ok allS_nil) ((fun h => by cases h)))⟩
set_option maxRecDepth 100000 in
theorem pledgeref18_New.ok : Sound Go.Proofs.Try.prog 25 pledgeref18_New.sig := body_sound (C := pledgeref18_New.C) (q := pledgeref18_New.Q) (fn := Go.Proofs.Try.f25) (sg := pledgeref18_New.sig) (n := 1) pledgeref18_New.ctx follows Go.Proofs.Try.func25 (by kernel_rfl) (by kernel_rfl) (by kernel_rfl) (by kernel_rfl) (Nat.le_of_ble_eq_true (by kernel_rfl)) (by kernel_rfl) pledgeref18_New.eq

def cmp_isNaN_uint8 (x0 : Int) : Option Bool :=
  some ((x0 : Int) != x0)
def cmp_isNaN_uint8.C : Ctx := { ty := tyT, sigs := fun i => [], n := 6, mp := mpT }
def cmp_isNaN_uint8.Q : Cuts := { np := 0, loops := fun i => none, seqs := fun i => none, splits := fun i => none }
def cmp_isNaN_uint8.sig : Sig := { args := .tc (.val (.int .u8)) .tn, objs := [], ret := .val .bool, outs := [], F := fun x => cmp_isNaN_uint8 x.1.1 }
theorem cmp_isNaN_uint8.eq : (fun x => body cmp_isNaN_uint8.C cmp_isNaN_uint8.Q Go.Proofs.Try.f86 cmp_isNaN_uint8.sig.args cmp_isNaN_uint8.sig.objs cmp_isNaN_uint8.sig.ret cmp_isNaN_uint8.sig.outs x) = cmp_isNaN_uint8.sig.F := by
  kernel_rfl
set_option maxRecDepth 100000 in
theorem cmp_isNaN_uint8.ctx : CtxOk Go.Proofs.Try.prog cmp_isNaN_uint8.C := ⟨tyOk, mpOk, Nat.le_of_ble_eq_true (by kernel_rfl), fun f sg => (fun h => by cases h)⟩
set_option maxRecDepth 100000 in
theorem cmp_isNaN_uint8.ok : Sound Go.Proofs.Try.prog 86 cmp_isNaN_uint8.sig := body_sound (C := cmp_isNaN_uint8.C) (q := cmp_isNaN_uint8.Q) (fn := Go.Proofs.Try.f86) (sg := cmp_isNaN_uint8.sig) (n := 1) cmp_isNaN_uint8.ctx follows Go.Proofs.Try.func86 (by kernel_rfl) (by kernel_rfl) (by kernel_rfl) (by kernel_rfl) (Nat.le_of_ble_eq_true (by kernel_rfl)) (by kernel_rfl) cmp_isNaN_uint8.eq

def cmp_Compare_uint8 (x0 : Int) (x1 : Int) : Option Int :=
  (cmp_isNaN_uint8 x0).bind fun r13 => (cmp_isNaN_uint8 x1).bind fun r14 => bif r13 then bif r14 then some 0 else some (-1) else bif r14 then some 1 else bif decide (x0 < x1) then some (-1) else bif decide (x0 > x1) then some 1 else some 0
def cmp_Compare_uint8.C : Ctx := { ty := tyT, sigs := fun i => bif Nat.beq i 86 then [cmp_isNaN_uint8.sig] else [], n := 20, mp := mpT }
def cmp_Compare_uint8.Q : Cuts := { np := 0, loops := fun i => none, seqs := fun i => none, splits := fun i => none }
def cmp_Compare_uint8.sig : Sig := { args := .tc (.val (.int .u8)) (.tc (.val (.int .u8)) .tn), objs := [], ret := .val (.int .i64), outs := [], F := fun x => cmp_Compare_uint8 x.1.1 x.1.2.1 }
theorem cmp_Compare_uint8.eq : (fun x => body cmp_Compare_uint8.C cmp_Compare_uint8.Q Go.Proofs.Try.f69 cmp_Compare_uint8.sig.args cmp_Compare_uint8.sig.objs cmp_Compare_uint8.sig.ret cmp_Compare_uint8.sig.outs x) = cmp_Compare_uint8.sig.F := by
  kernel_rfl
set_option maxRecDepth 100000 in
theorem cmp_Compare_uint8.ctx : CtxOk Go.Proofs.Try.prog cmp_Compare_uint8.C := ⟨tyOk, mpOk, Nat.le_of_ble_eq_true (by kernel_rfl), fun f sg => fun h => sigs_if h (allS_cons cmp_isNaN_uint8.ok allS_nil) ((fun h => by cases h))⟩
set_option maxRecDepth 100000 in
theorem cmp_Compare_uint8.ok : Sound Go.Proofs.Try.prog 69 cmp_Compare_uint8.sig := body_sound (C := cmp_Compare_uint8.C) (q := cmp_Compare_uint8.Q) (fn := Go.Proofs.Try.f69) (sg := cmp_Compare_uint8.sig) (n := 2) cmp_Compare_uint8.ctx follows Go.Proofs.Try.func69 (by kernel_rfl) (by kernel_rfl) (by kernel_rfl) (by kernel_rfl) (Nat.le_of_ble_eq_true (by kernel_rfl)) (by kernel_rfl) cmp_Compare_uint8.eq

def cmp_Or_int.l1 (v : Int × List Int × Int × Int) : Option ((Int × List Int × Int × Int) ⊕ (Int ⊕ Int)) :=
  bif decide (v.2.2.2 < v.2.2.1) then nthK v.2.1 v.2.2.2 fun e18 => bif (e18 : Int) != v.1 then some (Sum.inr (Sum.inr e18)) else some (Sum.inl (v.1, (v.2.1, (v.2.2.1, IntKind.i64.wrap (v.2.2.2 + 1))))) else some (Sum.inr (Sum.inl v.1))
def cmp_Or_int (x0 : List Int) : Option Int :=
  (iterL cmp_Or_int.l1 loopN (0, (x0, ((x0.length : Int), 0)))).bind fun y19 => (match y19 with | .inl y20 => some y20 | .inr y21 => some y21)
def cmp_Or_int.C : Ctx := { ty := tyT, sigs := fun i => [], n := 18, mp := mpT }
def cmp_Or_int.Q : Cuts := { np := 0, loops := fun i => bif Nat.beq i 3 then some ({ env := [(3, .val (.int .i64)), (6, .val (.slice (.int .i64))), (7, .val (.int .i64)), (8, .val (.int .i64))], objs := [] }, [(.exit 0, { env := [(3, .val (.int .i64))], objs := [] }), (.ret, { env := [(2, .val (.int .i64))], objs := [] })]) else none, seqs := fun i => none, splits := fun i => none }
def cmp_Or_int.sig : Sig := { args := .tc (.val (.slice (.int .i64))) .tn, objs := [], ret := .val (.int .i64), outs := [], F := fun x => cmp_Or_int x.1.1 }
theorem cmp_Or_int.eq : (fun x => body cmp_Or_int.C cmp_Or_int.Q Go.Proofs.Try.f68 cmp_Or_int.sig.args cmp_Or_int.sig.objs cmp_Or_int.sig.ret cmp_Or_int.sig.outs x) = cmp_Or_int.sig.F := by
  kernel_rfl
set_option maxRecDepth 100000 in
theorem cmp_Or_int.ctx : CtxOk Go.Proofs.Try.prog cmp_Or_int.C := ⟨tyOk, mpOk, Nat.le_of_ble_eq_true (by kernel_rfl), fun f sg => (fun h => by cases h)⟩
set_option maxRecDepth 100000 in
theorem cmp_Or_int.ok : Sound Go.Proofs.Try.prog 68 cmp_Or_int.sig := body_sound (C := cmp_Or_int.C) (q := cmp_Or_int.Q) (fn := Go.Proofs.Try.f68) (sg := cmp_Or_int.sig) (n := 1) cmp_Or_int.ctx follows Go.Proofs.Try.func68 (by kernel_rfl) (by kernel_rfl) (by kernel_rfl) (by kernel_rfl) (Nat.le_of_ble_eq_true (by kernel_rfl)) (by kernel_rfl) cmp_Or_int.eq

def key_Compare (x0 : Int × Int × Int × Unit) (x1 : Int × Int × Int × Unit) : Option Int :=
  (cmp_Compare_uint8 x0.1 x1.1).bind fun r13 => (cmp_Compare_uint8 x0.2.1 x1.2.1).bind fun r14 => (cmp_Compare_uint8 x0.2.2.1 x1.2.2.1).bind fun r15 => (cmp_Or_int [r13, r14, r15]).bind fun r16 => some r16
def key_Compare.C : Ctx := { ty := tyT, sigs := fun i => bif Nat.beq i 68 then [cmp_Or_int.sig] else bif Nat.beq i 69 then [cmp_Compare_uint8.sig] else [], n := 22, mp := mpT }
def key_Compare.Q : Cuts := { np := 0, loops := fun i => none, seqs := fun i => none, splits := fun i => none }
def key_Compare.sig : Sig := { args := .tc (.val kKey) (.tc (.val kKey) .tn), objs := [], ret := .val (.int .i64), outs := [], F := fun x => key_Compare x.1.1 x.1.2.1 }
theorem key_Compare.eq : (fun x => body key_Compare.C key_Compare.Q Go.Proofs.Try.f40 key_Compare.sig.args key_Compare.sig.objs key_Compare.sig.ret key_Compare.sig.outs x) = key_Compare.sig.F := by
  kernel_rfl
set_option maxRecDepth 100000 in
theorem key_Compare.ctx : CtxOk Go.Proofs.Try.prog key_Compare.C := ⟨tyOk, mpOk, Nat.le_of_ble_eq_true (by kernel_rfl), fun f sg => fun h => sigs_if h (allS_cons cmp_Or_int.ok allS_nil) (fun h => sigs_if h (allS_cons cmp_Compare_uint8.ok allS_nil) ((fun h => by cases h)))⟩
set_option maxRecDepth 100000 in
theorem key_Compare.ok : Sound Go.Proofs.Try.prog 40 key_Compare.sig := body_sound (C := key_Compare.C) (q := key_Compare.Q) (fn := Go.Proofs.Try.f40) (sg := key_Compare.sig) (n := 2) key_Compare.ctx follows Go.Proofs.Try.func40 (by kernel_rfl) (by kernel_rfl) (by kernel_rfl) (by kernel_rfl) (Nat.le_of_ble_eq_true (by kernel_rfl)) (by kernel_rfl) key_Compare.eq

def table_Table_api_Field_Keys (es : List ((Int × Int × Int × Unit) × Int × Int × Int × Int × Int × Int × Unit)) : Option (List (Int × Int × Int × Unit) × (Unit × Unit) × List ((Int × Int × Int × Unit) × Int × Int × Int × Int × Int × Int × Unit) × Unit) := tabKeysF kKey kField (leOf cmp3) es
def table_Table_api_Field_Keys.sig : Sig := { args := .tc (.ptr 0) .tn, objs := [tabSk 1, .map kKey kField], ret := .val (.slice kKey), outs := [tabSk 1, .map kKey kField], F := fun x => table_Table_api_Field_Keys x.2.2.1 }
def table_Table_api_Field_Keys.CK : Ctx := { ty := tyT, sigs := fun _ => [], n := 14, mp := fun _ => none }
def table_Table_api_Field_Keys.CA : Ctx := { ty := tyT, sigs := fun _ => [], n := 13, mp := fun _ => none }
theorem table_Table_api_Field_Keys.ctxK : CtxOk Go.Proofs.Try.prog table_Table_api_Field_Keys.CK := ⟨tyOk, (fun t k v h => by cases h), Nat.le_of_ble_eq_true (by kernel_rfl), fun f sg h => by cases h⟩
theorem table_Table_api_Field_Keys.ctxA : CtxOk Go.Proofs.Try.prog table_Table_api_Field_Keys.CA := ⟨tyOk, (fun t k v h => by cases h), Nat.le_of_ble_eq_true (by kernel_rfl), fun f sg h => by cases h⟩
theorem table_Table_api_Field_Keys.kit : KitFacts Go.Proofs.Try.prog table_Table_api_Field_Keys.CK 94 Go.Proofs.Try.f94 kKey 115 24 62 #[24] := { hf := Go.Proofs.Try.func94, hname := by kernel_rfl, hb := by kernel_rfl, hres := by kernel_rfl, hn := by kernel_rfl, h13 := (by show 13 < 14; omega), hm := by kernel_rfl, hmt := by kernel_rfl, r0 := by kernel_rfl, r1 := by kernel_rfl, r2 := by kernel_rfl, r3 := by kernel_rfl, g := by kernel_rfl, o00 := by kernel_rfl, o01 := by kernel_rfl, o10 := by kernel_rfl, o11 := by kernel_rfl, o20 := by kernel_rfl, o21 := by kernel_rfl, o30 := by kernel_rfl, o32 := by kernel_rfl, d := by kernel_rfl, k2 := by kernel_rfl, k3 := by kernel_rfl, k7 := by kernel_rfl, q2 := fun y => by kernel_rfl, q3 := fun y => by kernel_rfl, q7 := fun b => by kernel_rfl }
theorem table_Table_api_Field_Keys.asq : AsFacts Go.Proofs.Try.prog table_Table_api_Field_Keys.CA 83 Go.Proofs.Try.f83 kKey := { hf := Go.Proofs.Try.func83, hb := by kernel_rfl, hres := by kernel_rfl, hn := by kernel_rfl, h12 := (by show 12 < 13; omega), r1 := by kernel_rfl, o1 := by kernel_rfl, o1d := by kernel_rfl, o1g := by kernel_rfl, k0 := by kernel_rfl, q0 := by kernel_rfl, q2 := fun ks x => by kernel_rfl, q3 := fun ks x => by kernel_rfl, q4 := fun ks => by kernel_rfl }
theorem table_Table_api_Field_Keys.isNaN (x : Int) : cmp_isNaN_uint8 x = some false := by
  show some ((x : Int) != x) = some false
  rw [bne_self_eq_false]
theorem table_Table_api_Field_Keys.cmp1 (x y : Int) : cmp_Compare_uint8 x y = some (cmpI x y) := by
  unfold cmp_Compare_uint8 cmpI
  rw [table_Table_api_Field_Keys.isNaN, table_Table_api_Field_Keys.isNaN]
  simp only [Option.bind_some, cond_false]
  by_cases h1 : x < y
  · simp [h1]
  · by_cases h2 : x > y <;> simp [h1, h2]
theorem table_Table_api_Field_Keys.orStep (a b c i : Int) (k : Nat) (hk : k < 3) (x : Int) (hx : [a, b, c][k]? = some x) (hi : i = k) : cmp_Or_int.l1 (0, ([a, b, c], (3, i))) = if x ≠ 0 then some (Sum.inr (Sum.inr x)) else some (Sum.inl (0, ([a, b, c], (3, ((k + 1 : Nat) : Int))))) := by
  subst hi
  unfold cmp_Or_int.l1
  simp only
  rw [show decide ((k : Int) < 3) = true by simp; omega, cond_true]
  rw [nthK_get hx]
  have hw : IntKind.i64.wrap ((k : Int) + 1) = ((k + 1 : Nat) : Int) := succ_i64 (by omega)
  rw [hw]
  by_cases h : x = 0
  · subst h; simp
  · have hb : ((x : Int) != 0) = true := by simpa using h
    rw [hb, cond_true, if_pos h]
theorem table_Table_api_Field_Keys.or3 (a b c : Int) : cmp_Or_int [a, b, c] = some (if a ≠ 0 then a else if b ≠ 0 then b else c) := by
  unfold cmp_Or_int
  show (iterL cmp_Or_int.l1 loopN (0, ([a, b, c], (3, 0)))).bind _ = _
  have s0 := table_Table_api_Field_Keys.orStep a b c 0 0 (by omega) a rfl rfl
  have s1 := table_Table_api_Field_Keys.orStep a b c ((0 + 1 : Nat) : Int) 1 (by omega) b rfl rfl
  have s2 := table_Table_api_Field_Keys.orStep a b c ((1 + 1 : Nat) : Int) 2 (by omega) c rfl rfl
  have s3 : cmp_Or_int.l1 (0, ([a, b, c], (3, ((2 + 1 : Nat) : Int)))) = some (Sum.inr (Sum.inl 0)) := rfl
  by_cases ha : a = 0
  · by_cases hb : b = 0
    · by_cases hc : c = 0
      · rw [if_neg (by simpa using ha)] at s0; rw [if_neg (by simpa using hb)] at s1; rw [if_neg (by simpa using hc)] at s2
        have := iterL_mono (m := loopN) ((iterL_next s0).trans ((iterL_next s1).trans ((iterL_next s2).trans (iterL_done (n := 0) s3)))) (by rw [loopN_eq]; omega)
        rw [this, Option.bind_some]
        simp [ha, hb, hc]
      · rw [if_neg (by simpa using ha)] at s0; rw [if_neg (by simpa using hb)] at s1; rw [if_pos (by simpa using hc)] at s2
        have := iterL_mono (m := loopN) ((iterL_next s0).trans ((iterL_next s1).trans (iterL_done (n := 0) s2))) (by rw [loopN_eq]; omega)
        rw [this, Option.bind_some]
        simp [ha, hb]
    · rw [if_neg (by simpa using ha)] at s0; rw [if_pos (by simpa using hb)] at s1
      have := iterL_mono (m := loopN) ((iterL_next s0).trans (iterL_done (n := 0) s1)) (by rw [loopN_eq]; omega)
      rw [this, Option.bind_some]
      simp [ha, hb]
  · rw [if_pos (by simpa using ha)] at s0
    have := iterL_mono (m := loopN) (iterL_done (n := 0) s0) (by rw [loopN_eq]; omega)
    rw [this, Option.bind_some]
    simp [ha]
theorem table_Table_api_Field_Keys.hcf (x y : Int × Int × Int × Unit) : key_Compare x y = some (cmp3 x y) := by
  unfold key_Compare
  rw [table_Table_api_Field_Keys.cmp1, table_Table_api_Field_Keys.cmp1, table_Table_api_Field_Keys.cmp1]
  simp only [Option.bind_some, table_Table_api_Field_Keys.or3]
  rfl
def table_Table_api_Field_Keys.ren : Go.Shelf.Ren := { f := fun x => match x with | 6 => 66 | 15 => 85 | 14 => 84 | 28 => 103 | 29 => 104 | 20 => 95 | 21 => 96 | 22 => 97 | 23 => 98 | 24 => 99 | 25 => 100 | 26 => 101 | 27 => 102 | 46 => 108 | 47 => 109 | 48 => 110 | 49 => 111 | 50 => 112 | 57 => 114 | n => n, t := fun x => match x with | 22 => 45 | 24 => 24 | 25 => 87 | 3 => 3 | 39 => 131 | 0 => 0 | 53 => 150 | 55 => 152 | 4 => 4 | 46 => 143 | 45 => 142 | 50 => 147 | 5 => 5 | 9 => 9 | 66 => 156 | 70 => 160 | 76 => 165 | 77 => 166 | n => n, g := fun x => x }
theorem table_Table_api_Field_Keys.lays : SlLaysF0.n6 Go.Proofs.Try.prog table_Table_api_Field_Keys.ren := { mixed := follows, f6 := ⟨ "slices.SortFunc[[]pledge/api.Key,pledge/api.Key]", by kernel_rfl, Go.Proofs.Try.func66.trans (congrArg some (by kernel_rfl))⟩, f14 := ⟨ "slices.pdqsortCmpFunc[pledge/api.Key]", by kernel_rfl, Go.Proofs.Try.func84.trans (congrArg some (by kernel_rfl))⟩, f15 := Go.Proofs.Try.func85.trans (congrArg some (by kernel_rfl)), f20 := ⟨ "slices.insertionSortCmpFunc[pledge/api.Key]", by kernel_rfl, Go.Proofs.Try.func95.trans (congrArg some (by kernel_rfl))⟩, f21 := ⟨ "slices.heapSortCmpFunc[pledge/api.Key]", by kernel_rfl, Go.Proofs.Try.func96.trans (congrArg some (by kernel_rfl))⟩, f22 := ⟨ "slices.breakPatternsCmpFunc[pledge/api.Key]", by kernel_rfl, Go.Proofs.Try.func97.trans (congrArg some (by kernel_rfl))⟩, f23 := ⟨ "slices.choosePivotCmpFunc[pledge/api.Key]", by kernel_rfl, Go.Proofs.Try.func98.trans (congrArg some (by kernel_rfl))⟩, f24 := ⟨ "slices.reverseRangeCmpFunc[pledge/api.Key]", by kernel_rfl, Go.Proofs.Try.func99.trans (congrArg some (by kernel_rfl))⟩, f25 := ⟨ "slices.partialInsertionSortCmpFunc[pledge/api.Key]", by kernel_rfl, Go.Proofs.Try.func100.trans (congrArg some (by kernel_rfl))⟩, f26 := ⟨ "slices.partitionEqualCmpFunc[pledge/api.Key]", by kernel_rfl, Go.Proofs.Try.func101.trans (congrArg some (by kernel_rfl))⟩, f27 := ⟨ "slices.partitionCmpFunc[pledge/api.Key]", by kernel_rfl, Go.Proofs.Try.func102.trans (congrArg some (by kernel_rfl))⟩, f28 := Go.Proofs.Try.func103.trans (congrArg some (by kernel_rfl)), f29 := Go.Proofs.Try.func104.trans (congrArg some (by kernel_rfl)), f46 := ⟨ "slices.siftDownCmpFunc[pledge/api.Key]", by kernel_rfl, Go.Proofs.Try.func108.trans (congrArg some (by kernel_rfl))⟩, f47 := Go.Proofs.Try.func109.trans (congrArg some (by kernel_rfl)), f48 := Go.Proofs.Try.func110.trans (congrArg some (by kernel_rfl)), f49 := ⟨ "slices.medianAdjacentCmpFunc[pledge/api.Key]", by kernel_rfl, Go.Proofs.Try.func111.trans (congrArg some (by kernel_rfl))⟩, f50 := ⟨ "slices.medianCmpFunc[pledge/api.Key]", by kernel_rfl, Go.Proofs.Try.func112.trans (congrArg some (by kernel_rfl))⟩, f57 := ⟨ "slices.order2CmpFunc[pledge/api.Key]", by kernel_rfl, Go.Proofs.Try.func114.trans (congrArg some (by kernel_rfl))⟩, t0 := Go.Proofs.Try.underlying0, a0 := Go.Proofs.Try.isAgg0, z0 := Go.Proofs.Try.sizeOf0, v0 := Go.Proofs.Try.zeroValue0, t3 := Go.Proofs.Try.underlying3, a3 := Go.Proofs.Try.isAgg3, z3 := Go.Proofs.Try.sizeOf3, v3 := Go.Proofs.Try.zeroValue3, t4 := Go.Proofs.Try.underlying4, a4 := Go.Proofs.Try.isAgg4, z4 := Go.Proofs.Try.sizeOf4, v4 := Go.Proofs.Try.zeroValue4, t5 := Go.Proofs.Try.underlying5, a5 := Go.Proofs.Try.isAgg5, z5 := Go.Proofs.Try.sizeOf5, v5 := Go.Proofs.Try.zeroValue5, t9 := Go.Proofs.Try.underlying9, a9 := Go.Proofs.Try.isAgg9, z9 := Go.Proofs.Try.sizeOf9, v9 := Go.Proofs.Try.zeroValue9, t22 := Go.Proofs.Try.underlying45, a22 := Go.Proofs.Try.isAgg45, z22 := Go.Proofs.Try.sizeOf45, v22 := Go.Proofs.Try.zeroValue45, t25 := Go.Proofs.Try.underlying87, a25 := Go.Proofs.Try.isAgg87, z25 := Go.Proofs.Try.sizeOf87, v25 := Go.Proofs.Try.zeroValue87, t39 := Go.Proofs.Try.underlying131, a39 := Go.Proofs.Try.isAgg131, z39 := Go.Proofs.Try.sizeOf131, v39 := Go.Proofs.Try.zeroValue131, t45 := Go.Proofs.Try.underlying142, a45 := Go.Proofs.Try.isAgg142, z45 := Go.Proofs.Try.sizeOf142, v45 := Go.Proofs.Try.zeroValue142, t46 := Go.Proofs.Try.underlying143, a46 := Go.Proofs.Try.isAgg143, z46 := Go.Proofs.Try.sizeOf143, v46 := Go.Proofs.Try.zeroValue143, t50 := Go.Proofs.Try.underlying147, a50 := Go.Proofs.Try.isAgg147, z50 := Go.Proofs.Try.sizeOf147, v50 := Go.Proofs.Try.zeroValue147, t53 := Go.Proofs.Try.underlying150, a53 := Go.Proofs.Try.isAgg150, z53 := Go.Proofs.Try.sizeOf150, v53 := Go.Proofs.Try.zeroValue150, t55 := Go.Proofs.Try.underlying152, a55 := Go.Proofs.Try.isAgg152, z55 := Go.Proofs.Try.sizeOf152, v55 := Go.Proofs.Try.zeroValue152, t66 := Go.Proofs.Try.underlying156, a66 := Go.Proofs.Try.isAgg156, z66 := Go.Proofs.Try.sizeOf156, v66 := Go.Proofs.Try.zeroValue156, t70 := Go.Proofs.Try.underlying160, a70 := Go.Proofs.Try.isAgg160, z70 := Go.Proofs.Try.sizeOf160, v70 := Go.Proofs.Try.zeroValue160, t76 := Go.Proofs.Try.underlying165, a76 := Go.Proofs.Try.isAgg165, z76 := Go.Proofs.Try.sizeOf165, v76 := Go.Proofs.Try.zeroValue165, t77 := Go.Proofs.Try.underlying166, a77 := Go.Proofs.Try.isAgg166, z77 := Go.Proofs.Try.sizeOf166, v77 := Go.Proofs.Try.zeroValue166 }
set_option maxRecDepth 100000 in
open Go.RowKit Go.Sort Go.Shelf Go.Proofs in
theorem table_Table_api_Field_Keys.sortC (w : World) (S : Cells) (m : Nat → Option MB) (ks : List (El kKey)) (v : Value) (hl : ks.length < 4611686018427387904) (hr : StoRel (mkS [] [(1, .row kKey false ks)] []).sto w S m) (hv : RepV w S m (.row 1) v) :
    Calls Go.Proofs.Try.prog 66 #[v, .func (.func 40) #[] #[]] w fun e w' => e = .returned (.tuple #[]) ∧ ∃ S', RepV w' S' (fun _ => none) (.val (.slice kKey) (ks.mergeSort (leOf cmp3))) v ∧ Ext (OwnSt (mkS [] [(1, .row kKey false ks)] []).sto m) w S m w' S' m (fun _ _ => False) ∧ ∀ b x, S' b x → b < w'.heap.size :=
  sort_row (kk := kKey) table_Table_api_Field_Keys.lays Go.Proofs.Try.isAgg24 Go.Proofs.Try.sizeOf24 rfl (by decide) cmp3 swo3 tot3 (enters_of Go.Proofs.Try.func40 (by kernel_rfl) rfl) (cmp_calls (kk := kKey) key_Compare.ok Go.Proofs.Try.func40 (by kernel_rfl) (by kernel_rfl) rfl rfl cmp3 (fun x y => table_Table_api_Field_Keys.hcf x y)) hl hr hv
open Go.RowKit Go.Sort Go.Shelf Go.Proofs in
theorem table_Table_api_Field_Keys.keysC : KeysCall Go.Proofs.Try.prog 82 94 115 := by
  intro mb w
  go_enter Go.Proofs.Try.func82, Go.Proofs.Try.ntmps82
  go_wp2
  go_ret
  exact ⟨rfl, rfl⟩
open Go.RowKit Go.Sort Go.Shelf Go.Proofs in
theorem table_Table_api_Field_Keys.collect {w : World} {S : Cells} (hl : ∀ b x, S b x → b < w.heap.size) {bx : Value} {ok : List (El kKey) → Prop} {N : Nat} (hN : N ≤ 4294967296) (hG : KGives Go.Proofs.Try.prog 94 bx kKey ok N w) :
    Calls Go.Proofs.Try.prog 65 #[.func (.func 94) #[] #[bx]] w fun e w' => ∃ v ks S' m', e = .returned v ∧ ok ks ∧ RepV w' S' m' (.row 1) v ∧ StoRel (mkS [] [(1, .row kKey false ks)] []).sto w' S' m' ∧ Ext (fun _ _ => False) w S (fun _ => none) w' S' (fun _ => none) (OwnSt (mkS [] [(1, .row kKey false ks)] []).sto m') := by
  have h := appseq table_Table_api_Field_Keys.ctxA table_Table_api_Field_Keys.asq rfl hl (Go.Proofs.Try.func94 : _) (by kernel_rfl) (by kernel_rfl) hN hG
  clear hG hl
  go_enter Go.Proofs.Try.func65, Go.Proofs.Try.ntmps65
  go_wp2_with (go_at_call 83; refine h.mono ?_; rintro e w' ⟨v, ks, S1, m1, rfl, h1, h2, h3, h4⟩)
  go_ret
  exact ⟨v, ks, S1, m1, rfl, h1, h2, h3, h4⟩
open Go.RowKit Go.Sort Go.Shelf Go.Proofs in
theorem table_Table_api_Field_Keys.sortedC : SortedCall Go.Proofs.Try.prog 38 94 40 kKey (leOf cmp3) := by
  intro w S bx ok N hG hl hN hok
  have h := table_Table_api_Field_Keys.collect hl hN hG
  clear hG hl
  have hsort := table_Table_api_Field_Keys.sortC
  go_enter Go.Proofs.Try.func38, Go.Proofs.Try.ntmps38
  go_wp2_with (first
    | (go_at_call 65; refine h.mono ?_; rintro e w' ⟨v, ks, S1, m1, rfl, h1, h2, h3, h4⟩)
    | (go_at_call 66; refine (hsort _ S1 m1 ks v (by have := hok ks h1; omega) h3 h2).mono ?_; rintro e w' ⟨rfl, S2, g1, g2, g3⟩))
  go_ret
  exact ⟨v, ks, S2, rfl, h1, g1, h4.trans g2.drop, g3⟩
set_option maxRecDepth 100000 in
open Go.RowKit Go.Sort Go.Shelf Go.Proofs in
theorem table_Table_api_Field_Keys.run : TabRun Go.Proofs.Try.prog 63 94 115 kKey (leOf cmp3) := by
  intro w S b o r ok N hc hG hl hN hok
  have hk := table_Table_api_Field_Keys.keysC (some r) w
  have hs := table_Table_api_Field_Keys.sortedC _ S _ ok N hG hl hN hok
  clear hG hl
  go_enter Go.Proofs.Try.func63, Go.Proofs.Try.ntmps63
  go_wp2_with (first
    | (go_at_call 82; refine hk.mono ?_; rintro e w' ⟨rfl, rfl⟩)
    | (go_at_call 38; refine hs.mono ?_; rintro e w' ⟨v, ks, S1, rfl, h1, h2, h3, h4⟩))
  go_ret
  exact ⟨v, ks, S1, rfl, h1, h2, h3, h4⟩
set_option maxRecDepth 100000 in
theorem table_Table_api_Field_Keys.ok : Sound Go.Proofs.Try.prog 63 table_Table_api_Field_Keys.sig := tabkeys_sound Go.Proofs.Try.func63 (by kernel_rfl) (by kernel_rfl) table_Table_api_Field_Keys.ctxK table_Table_api_Field_Keys.kit rfl swo3 tot3 inferInstance table_Table_api_Field_Keys.run

def fund_Fund_Keys (x0 : Unit) (o0 : Unit × Unit) (o1 : Unit × Unit) (o2 : List ((Int × Int × Int × Unit) × Int × Int × Int × Int × Int × Int × Unit)) : Option ((List (Int × Int × Int × Unit)) × (Unit × Unit) × (Unit × Unit) × (List ((Int × Int × Int × Unit) × Int × Int × Int × Int × Int × Int × Unit)) × Unit) :=
  (fund_Fund_all () ((), o0.2) ((), o1.2) o2).bind fun r12 => (table_Table_api_Field_Keys r12.2.2.2.1).bind fun r13 => some (r13.1, (((), r12.2.1.2), (((), r13.2.1.2), (r13.2.2.1, ()))))
def fund_Fund_Keys.C : Ctx := { ty := tyT, sigs := fun i => bif Nat.beq i 44 then [fund_Fund_all.sig] else bif Nat.beq i 63 then [table_Table_api_Field_Keys.sig] else [], n := 6, mp := mpT }
def fund_Fund_Keys.Q : Cuts := { np := 3, loops := fun i => none, seqs := fun i => none, splits := fun i => none }
def fund_Fund_Keys.sig : Sig := { args := .tc (.ptr 0) .tn, objs := [.cell (.cons (.ref 0) .unit) (.pair (.ptr 1) (.val .unit)), .cell (.cons (.ref 1) .unit) (.pair (.mapr 2) (.val .unit)), .map kKey kField], ret := .val (.slice kKey), outs := [.cell (.cons (.ref 0) .unit) (.pair (.ptr 1) (.val .unit)), .cell (.cons (.ref 1) .unit) (.pair (.mapr 2) (.val .unit)), .map kKey kField], F := fun x => fund_Fund_Keys x.1.1 x.2.1 x.2.2.1 x.2.2.2.1 }
theorem fund_Fund_Keys.eq : (fun x => body fund_Fund_Keys.C fund_Fund_Keys.Q Go.Proofs.Try.f32 fund_Fund_Keys.sig.args fund_Fund_Keys.sig.objs fund_Fund_Keys.sig.ret fund_Fund_Keys.sig.outs x) = fund_Fund_Keys.sig.F := by
  kernel_rfl
set_option maxRecDepth 100000 in
theorem fund_Fund_Keys.ctx : CtxOk Go.Proofs.Try.prog fund_Fund_Keys.C := ⟨tyOk, mpOk, Nat.le_of_ble_eq_true (by kernel_rfl), fun f sg => fun h => sigs_if h (allS_cons fund_Fund_all.ok allS_nil) (fun h => sigs_if h (allS_cons table_Table_api_Field_Keys.ok allS_nil) ((fun h => by cases h)))⟩
set_option maxRecDepth 100000 in
theorem fund_Fund_Keys.ok : Sound Go.Proofs.Try.prog 32 fund_Fund_Keys.sig := body_sound (C := fund_Fund_Keys.C) (q := fund_Fund_Keys.Q) (fn := Go.Proofs.Try.f32) (sg := fund_Fund_Keys.sig) (n := 1) fund_Fund_Keys.ctx follows Go.Proofs.Try.func32 (by kernel_rfl) (by kernel_rfl) (by kernel_rfl) (by kernel_rfl) (Nat.le_of_ble_eq_true (by kernel_rfl)) (by kernel_rfl) fund_Fund_Keys.eq

def pledgelaw18_sameRows.l1 (v : (Unit × (List ((Int × Int × Int × Unit) × (Int × Int × Int × Int × Int × Int × Unit) × Unit)) × (List (Int × Int × Int × Unit)) × Int) × (Unit × Unit) × (Unit × Unit) × (List ((Int × Int × Int × Unit) × Int × Int × Int × Int × Int × Int × Unit)) × Unit) : Option (((Unit × (List ((Int × Int × Int × Unit) × (Int × Int × Int × Int × Int × Int × Unit) × Unit)) × (List (Int × Int × Int × Unit)) × Int) × (Unit × Unit) × (Unit × Unit) × (List ((Int × Int × Int × Unit) × Int × Int × Int × Int × Int × Int × Unit)) × Unit) ⊕ ((Unit × (Unit × Unit) × (Unit × Unit) × (List ((Int × Int × Int × Unit) × Int × Int × Int × Int × Int × Int × Unit)) × Unit) ⊕ (Bool × (Unit × Unit) × (Unit × Unit) × (List ((Int × Int × Int × Unit) × Int × Int × Int × Int × Int × Int × Unit)) × Unit))) :=
  bif decide (v.1.2.2.2 < (v.1.2.1.length : Int)) then nthK v.1.2.1 v.1.2.2.2 fun e13 => (fund_Fund_Get () e13.1 ((), v.2.1.2) ((), v.2.2.1.2) v.2.2.2.1).bind fun r14 => nthK v.1.2.2.1 v.1.2.2.2 fun e15 => nthK v.1.2.1 v.1.2.2.2 fun e16 => bif !(eqE kKey e15 e16.1) then some (Sum.inr (Sum.inr (false, (((), r14.2.1.2), (((), r14.2.2.1.2), (r14.2.2.2.1, ())))))) else bif !r14.1.2.1 then some (Sum.inr (Sum.inr (false, (((), r14.2.1.2), (((), r14.2.2.1.2), (r14.2.2.2.1, ())))))) else nthK v.1.2.1 v.1.2.2.2 fun e17 => bif !(eqE kField r14.1.1 e17.2.1) then some (Sum.inr (Sum.inr (false, (((), r14.2.1.2), (((), r14.2.2.1.2), (r14.2.2.2.1, ())))))) else some (Sum.inl (((), (v.1.2.1, (v.1.2.2.1, IntKind.i64.wrap (v.1.2.2.2 + 1)))), (((), r14.2.1.2), (((), r14.2.2.1.2), (r14.2.2.2.1, ()))))) else some (Sum.inr (Sum.inl ((), (((), v.2.1.2), (((), v.2.2.1.2), (v.2.2.2.1, ()))))))
def pledgelaw18_sameRows (x0 : Unit) (x1 : List ((Int × Int × Int × Unit) × (Int × Int × Int × Int × Int × Int × Unit) × Unit)) (o0 : Unit × Unit) (o1 : Unit × Unit) (o2 : List ((Int × Int × Int × Unit) × Int × Int × Int × Int × Int × Int × Unit)) : Option (Bool × (Unit × Unit) × (Unit × Unit) × (List ((Int × Int × Int × Unit) × Int × Int × Int × Int × Int × Int × Unit)) × Unit) :=
  (fund_Fund_Keys () ((), o0.2) ((), o1.2) o2).bind fun r12 => bif ((r12.1.length : Int) : Int) != (x1.length : Int) then some (false, (((), r12.2.1.2), (((), r12.2.2.1.2), (r12.2.2.2.1, ())))) else (iterL pledgelaw18_sameRows.l1 loopN (((), (x1, (r12.1, 0))), (((), r12.2.1.2), (((), r12.2.2.1.2), (r12.2.2.2.1, ()))))).bind fun y18 => (match y18 with | .inl y19 => some (true, (((), y19.2.1.2), (((), y19.2.2.1.2), (y19.2.2.2.1, ())))) | .inr y20 => some (y20.1, (((), y20.2.1.2), (((), y20.2.2.1.2), (y20.2.2.2.1, ())))))
def pledgelaw18_sameRows.C : Ctx := { ty := tyT, sigs := fun i => bif Nat.beq i 30 then [fund_Fund_Get.sig] else bif Nat.beq i 32 then [fund_Fund_Keys.sig] else [], n := 55, mp := mpT }
def pledgelaw18_sameRows.Q : Cuts := { np := 3, loops := fun i => bif Nat.beq i 5 then some ({ env := [(0, .ptr 0), (1, .val (.slice kRow_106)), (5, .val (.slice kKey)), (6, .val (.int .i64))], objs := [.cell (.cons (.ref 0) .unit) (.pair (.ptr 1) (.val .unit)), .cell (.cons (.ref 1) .unit) (.pair (.mapr 2) (.val .unit)), .map kKey kField] }, [(.exit 0, { env := [], objs := [.cell (.cons (.ref 0) .unit) (.pair (.ptr 1) (.val .unit)), .cell (.cons (.ref 1) .unit) (.pair (.mapr 2) (.val .unit)), .map kKey kField] }), (.ret, { env := [(4, .val .bool)], objs := [.cell (.cons (.ref 0) .unit) (.pair (.ptr 1) (.val .unit)), .cell (.cons (.ref 1) .unit) (.pair (.mapr 2) (.val .unit)), .map kKey kField] })]) else none, seqs := fun i => none, splits := fun i => none }
def pledgelaw18_sameRows.sig : Sig := { args := .tc (.ptr 0) (.tc (.val (.slice kRow_106)) .tn), objs := [.cell (.cons (.ref 0) .unit) (.pair (.ptr 1) (.val .unit)), .cell (.cons (.ref 1) .unit) (.pair (.mapr 2) (.val .unit)), .map kKey kField], ret := .val .bool, outs := [.cell (.cons (.ref 0) .unit) (.pair (.ptr 1) (.val .unit)), .cell (.cons (.ref 1) .unit) (.pair (.mapr 2) (.val .unit)), .map kKey kField], F := fun x => pledgelaw18_sameRows x.1.1 x.1.2.1 x.2.1 x.2.2.1 x.2.2.2.1 }
theorem pledgelaw18_sameRows.eq : (fun x => body pledgelaw18_sameRows.C pledgelaw18_sameRows.Q Go.Proofs.Try.f49 pledgelaw18_sameRows.sig.args pledgelaw18_sameRows.sig.objs pledgelaw18_sameRows.sig.ret pledgelaw18_sameRows.sig.outs x) = pledgelaw18_sameRows.sig.F := by
  kernel_rfl
set_option maxRecDepth 100000 in
theorem pledgelaw18_sameRows.ctx : CtxOk Go.Proofs.Try.prog pledgelaw18_sameRows.C := ⟨tyOk, mpOk, Nat.le_of_ble_eq_true (by kernel_rfl), fun f sg => fun h => sigs_if h (allS_cons fund_Fund_Get.ok allS_nil) (fun h => sigs_if h (allS_cons fund_Fund_Keys.ok allS_nil) ((fun h => by cases h)))⟩
set_option maxRecDepth 100000 in
theorem pledgelaw18_sameRows.ok : Sound Go.Proofs.Try.prog 49 pledgelaw18_sameRows.sig := body_sound (C := pledgelaw18_sameRows.C) (q := pledgelaw18_sameRows.Q) (fn := Go.Proofs.Try.f49) (sg := pledgelaw18_sameRows.sig) (n := 2) pledgelaw18_sameRows.ctx follows Go.Proofs.Try.func49 (by kernel_rfl) (by kernel_rfl) (by kernel_rfl) (by kernel_rfl) (Nat.le_of_ble_eq_true (by kernel_rfl)) (by kernel_rfl) pledgelaw18_sameRows.eq

def pledgelaw18_Same (x0 : Unit) (x1 : List ((Int × Int × Int × Unit) × (Int × Int × Int × Int × Int × Int × Unit) × Unit)) (o0 : Unit × Unit) (o1 : Unit × Unit) (o2 : List ((Int × Int × Int × Unit) × Int × Int × Int × Int × Int × Int × Unit)) : Option (Int × (Unit × Unit) × (Unit × Unit) × (List ((Int × Int × Int × Unit) × Int × Int × Int × Int × Int × Int × Unit)) × Unit) :=
  (pledgelaw18_sameRows () x1 ((), o0.2) ((), o1.2) o2).bind fun r12 => bif r12.1 then some (1, (((), r12.2.1.2), (((), r12.2.2.1.2), (r12.2.2.2.1, ())))) else some (0, (((), r12.2.1.2), (((), r12.2.2.1.2), (r12.2.2.2.1, ()))))
def pledgelaw18_Same.C : Ctx := { ty := tyT, sigs := fun i => bif Nat.beq i 49 then [pledgelaw18_sameRows.sig] else [], n := 8, mp := mpT }
def pledgelaw18_Same.Q : Cuts := { np := 3, loops := fun i => none, seqs := fun i => none, splits := fun i => none }
def pledgelaw18_Same.sig : Sig := { args := .tc (.ptr 0) (.tc (.val (.slice kRow_106)) .tn), objs := [.cell (.cons (.ref 0) .unit) (.pair (.ptr 1) (.val .unit)), .cell (.cons (.ref 1) .unit) (.pair (.mapr 2) (.val .unit)), .map kKey kField], ret := .val (.int .i64), outs := [.cell (.cons (.ref 0) .unit) (.pair (.ptr 1) (.val .unit)), .cell (.cons (.ref 1) .unit) (.pair (.mapr 2) (.val .unit)), .map kKey kField], F := fun x => pledgelaw18_Same x.1.1 x.1.2.1 x.2.1 x.2.2.1 x.2.2.2.1 }
theorem pledgelaw18_Same.eq : (fun x => body pledgelaw18_Same.C pledgelaw18_Same.Q Go.Proofs.Try.f24 pledgelaw18_Same.sig.args pledgelaw18_Same.sig.objs pledgelaw18_Same.sig.ret pledgelaw18_Same.sig.outs x) = pledgelaw18_Same.sig.F := by
  kernel_rfl
set_option maxRecDepth 100000 in
theorem pledgelaw18_Same.ctx : CtxOk Go.Proofs.Try.prog pledgelaw18_Same.C := ⟨tyOk, mpOk, Nat.le_of_ble_eq_true (by kernel_rfl), fun f sg => fun h => sigs_if h (allS_cons pledgelaw18_sameRows.ok allS_nil) ((fun h => by cases h))⟩
set_option maxRecDepth 100000 in
theorem pledgelaw18_Same.ok : Sound Go.Proofs.Try.prog 24 pledgelaw18_Same.sig := body_sound (C := pledgelaw18_Same.C) (q := pledgelaw18_Same.Q) (fn := Go.Proofs.Try.f24) (sg := pledgelaw18_Same.sig) (n := 2) pledgelaw18_Same.ctx follows Go.Proofs.Try.func24 (by kernel_rfl) (by kernel_rfl) (by kernel_rfl) (by kernel_rfl) (Nat.le_of_ble_eq_true (by kernel_rfl)) (by kernel_rfl) pledgelaw18_Same.eq

def pledgelaw18_works  : Option Bool :=
  (fund_New [((4, (0, (0, ()))), (0, (0, (3, ()))))]).bind fun r14 => (fund_Fund_Try () [((4, (0, (0, ()))), (2, ())), ((4, (0, (0, ()))), (2, ()))] ((), r14.2.1.2) ((), r14.2.2.1.2) r14.2.2.2.1).bind fun r15 => (fund_Fund_Get () (4, (0, (0, ()))) ((), r15.2.1.2) ((), r15.2.2.1.2) r15.2.2.2.1).bind fun r16 => bif (r15.1 : Int) == 3 then bif r16.1.2.1 then bif (r16.1.1.2.2.2.2.1 : Int) == 0 then some ((r16.1.1.2.1 : Int) == 3) else some false else some false else some false
def pledgelaw18_works.C : Ctx := { ty := tyT, sigs := fun i => bif Nat.beq i 20 then [fund_New.sig] else bif Nat.beq i 22 then [fund_Fund_Try.sig] else bif Nat.beq i 30 then [fund_Fund_Get.sig] else [], n := 39, mp := mpT }
def pledgelaw18_works.Q : Cuts := { np := 0, loops := fun i => none, seqs := fun i => none, splits := fun i => none }
def pledgelaw18_works.sig : Sig := { args := .tn, objs := [], ret := .val .bool, outs := [], F := fun x => pledgelaw18_works }
theorem pledgelaw18_works.eq : (fun x => body pledgelaw18_works.C pledgelaw18_works.Q Go.Proofs.Try.f26 pledgelaw18_works.sig.args pledgelaw18_works.sig.objs pledgelaw18_works.sig.ret pledgelaw18_works.sig.outs x) = pledgelaw18_works.sig.F := by
  kernel_rfl
set_option maxRecDepth 100000 in
theorem pledgelaw18_works.ctx : CtxOk Go.Proofs.Try.prog pledgelaw18_works.C := ⟨tyOk, mpOk, Nat.le_of_ble_eq_true (by kernel_rfl), fun f sg => fun h => sigs_if h (allS_cons fund_New.ok allS_nil) (fun h => sigs_if h (allS_cons fund_Fund_Try.ok allS_nil) (fun h => sigs_if h (allS_cons fund_Fund_Get.ok allS_nil) ((fun h => by cases h))))⟩
set_option maxRecDepth 100000 in
theorem pledgelaw18_works.ok : Sound Go.Proofs.Try.prog 26 pledgelaw18_works.sig := body_sound (C := pledgelaw18_works.C) (q := pledgelaw18_works.Q) (fn := Go.Proofs.Try.f26) (sg := pledgelaw18_works.sig) (n := 0) pledgelaw18_works.ctx follows Go.Proofs.Try.func26 (by kernel_rfl) (by kernel_rfl) (by kernel_rfl) (by kernel_rfl) (Nat.le_of_ble_eq_true (by kernel_rfl)) (by kernel_rfl) pledgelaw18_works.eq

def pledgelaw18_FundTries.l1 (v : ((List ((Int × Int × Int × Unit) × Int × Int × Int × Unit)) × (List ((Int × Int × Int × Unit) × Int × Unit)) × Unit × Unit × Int × Int) × (Unit × Unit) × (Unit × Unit) × (Unit × Unit) × (Unit × Unit) × (List ((Int × Int × Int × Unit) × Int × Int × Int × Int × Int × Int × Unit)) × (List ((Int × Int × Int × Unit) × Int × Int × Int × Int × Int × Int × Unit)) × Unit) : Option ((((List ((Int × Int × Int × Unit) × Int × Int × Int × Unit)) × (List ((Int × Int × Int × Unit) × Int × Unit)) × Unit × Unit × Int × Int) × (Unit × Unit) × (Unit × Unit) × (Unit × Unit) × (Unit × Unit) × (List ((Int × Int × Int × Unit) × Int × Int × Int × Int × Int × Int × Unit)) × (List ((Int × Int × Int × Unit) × Int × Int × Int × Int × Int × Int × Unit)) × Unit) ⊕ ((((List ((Int × Int × Int × Unit) × Int × Int × Int × Unit)) × Unit × Int) × (Unit × Unit) × (Unit × Unit) × (List ((Int × Int × Int × Unit) × Int × Int × Int × Int × Int × Int × Unit)) × Unit) ⊕ Bool)) :=
  bif decide (v.1.2.2.2.2.2 < (v.1.2.1.length : Int)) then nthK v.1.2.1 v.1.2.2.2.2.2 fun e4 => (fund_Fund_Grant () e4 ((), v.2.1.2) ((), v.2.2.2.1.2) v.2.2.2.2.2.1).bind fun r5 => bif (r5.1 : Int) != 0 then bif (r5.1 : Int) == v.1.2.2.2.2.1 then (pledgeref18_New v.1.1).bind fun r6 => (pledgelaw18_Same () r6 ((), v.2.2.1.2) ((), v.2.2.2.2.1.2) v.2.2.2.2.2.2.1).bind fun r7 => bif (r7.1 : Int) == 1 then pledgelaw18_works.bind fun r8 => some (Sum.inr (Sum.inr r8)) else some (Sum.inr (Sum.inr false)) else some (Sum.inr (Sum.inr false)) else some (Sum.inl ((v.1.1, (v.1.2.1, ((), ((), (v.1.2.2.2.2.1, IntKind.i64.wrap (v.1.2.2.2.2.2 + 1)))))), (((), r5.2.1.2), (((), v.2.2.1.2), (((), r5.2.2.1.2), (((), v.2.2.2.2.1.2), (r5.2.2.2.1, (v.2.2.2.2.2.2.1, ())))))))) else some (Sum.inr (Sum.inl ((v.1.1, ((), v.1.2.2.2.2.1)), (((), v.2.2.1.2), (((), v.2.2.2.2.1.2), (v.2.2.2.2.2.2.1, ()))))))
def pledgelaw18_FundTries (x0 : List ((Int × Int × Int × Unit) × Int × Int × Int × Unit)) (x1 : List ((Int × Int × Int × Unit) × Int × Unit)) : Option Bool :=
  chk (decide (0 ≤ (if 20 < (x0.length : Int) then 20 else (x0.length : Int))) && decide ((if 20 < (x0.length : Int) then 20 else (x0.length : Int)) ≤ (x0.length : Int))) (chk (decide (0 ≤ (if 40 < (x1.length : Int) then 40 else (x1.length : Int))) && decide ((if 40 < (x1.length : Int) then 40 else (x1.length : Int)) ≤ (x1.length : Int))) ((fund_New ((x0.take (if 20 < (x0.length : Int) then 20 else (x0.length : Int) : Int).toNat).drop 0)).bind fun r1 => (fund_Fund_Copy () ((), r1.2.1.2) ((), r1.2.2.1.2) r1.2.2.2.1).bind fun r2 => (fund_Fund_Try () ((x1.take (if 40 < (x1.length : Int) then 40 else (x1.length : Int) : Int).toNat).drop 0) ((), r2.2.1.2) ((), r2.2.2.1.2) r2.2.2.2.1).bind fun r3 => (iterL pledgelaw18_FundTries.l1 loopN (((x0.take (if 20 < (x0.length : Int) then 20 else (x0.length : Int) : Int).toNat).drop 0, ((x1.take (if 40 < (x1.length : Int) then 40 else (x1.length : Int) : Int).toNat).drop 0, ((), ((), (r3.1, 0))))), (((), r3.2.1.2), (((), r2.2.2.2.2.1.2), (((), r3.2.2.1.2), (((), r2.2.2.2.2.2.1.2), (r3.2.2.2.1, (r2.2.2.2.2.2.2.1, ())))))))).bind fun y9 => (match y9 with | .inl y10 => bif (y10.1.2.2 : Int) == 0 then (pledgeref18_New y10.1.1).bind fun r12 => (pledgelaw18_Same () r12 ((), y10.2.1.2) ((), y10.2.2.1.2) y10.2.2.2.1).bind fun r13 => bif (r13.1 : Int) == 1 then pledgelaw18_works.bind fun r14 => some r14 else some false else some false | .inr y11 => some y11)))
def pledgelaw18_FundTries.C : Ctx := { ty := tyT, sigs := fun i => bif Nat.beq i 20 then [fund_New.sig] else bif Nat.beq i 21 then [fund_Fund_Copy.sig] else bif Nat.beq i 22 then [fund_Fund_Try.sig] else bif Nat.beq i 23 then [fund_Fund_Grant.sig] else bif Nat.beq i 24 then [pledgelaw18_Same.sig] else bif Nat.beq i 25 then [pledgeref18_New.sig] else bif Nat.beq i 26 then [pledgelaw18_works.sig] else [], n := 66, mp := mpT }
def pledgelaw18_FundTries.Q : Cuts := { np := 0, loops := fun i => bif Nat.beq i 5 then some ({ env := [(0, .val (.slice kDecl)), (1, .val (.slice kOp)), (5, .ptr 0), (6, .ptr 1), (7, .val (.int .i64)), (8, .val (.int .i64))], objs := [.cell (.cons (.ref 0) .unit) (.pair (.ptr 2) (.val .unit)), .cell (.cons (.ref 0) .unit) (.pair (.ptr 3) (.val .unit)), .cell (.cons (.ref 1) .unit) (.pair (.mapr 4) (.val .unit)), .cell (.cons (.ref 1) .unit) (.pair (.mapr 5) (.val .unit)), .map kKey kField, .map kKey kField] }, [(.exit 0, { env := [(0, .val (.slice kDecl)), (6, .ptr 0), (7, .val (.int .i64))], objs := [.cell (.cons (.ref 0) .unit) (.pair (.ptr 1) (.val .unit)), .cell (.cons (.ref 1) .unit) (.pair (.mapr 2) (.val .unit)), .map kKey kField] }), (.ret, { env := [(4, .val .bool)], objs := [] })]) else none, seqs := fun i => none, splits := fun i => none }
def pledgelaw18_FundTries.sig : Sig := { args := .tc (.val (.slice kDecl)) (.tc (.val (.slice kOp)) .tn), objs := [], ret := .val .bool, outs := [], F := fun x => pledgelaw18_FundTries x.1.1 x.1.2.1 }
theorem pledgelaw18_FundTries.eq : (fun x => body pledgelaw18_FundTries.C pledgelaw18_FundTries.Q Go.Proofs.Try.f6 pledgelaw18_FundTries.sig.args pledgelaw18_FundTries.sig.objs pledgelaw18_FundTries.sig.ret pledgelaw18_FundTries.sig.outs x) = pledgelaw18_FundTries.sig.F := by
  kernel_rfl
set_option maxRecDepth 100000 in
theorem pledgelaw18_FundTries.ctx : CtxOk Go.Proofs.Try.prog pledgelaw18_FundTries.C := ⟨tyOk, mpOk, Nat.le_of_ble_eq_true (by kernel_rfl), fun f sg => fun h => sigs_if h (allS_cons fund_New.ok allS_nil) (fun h => sigs_if h (allS_cons fund_Fund_Copy.ok allS_nil) (fun h => sigs_if h (allS_cons fund_Fund_Try.ok allS_nil) (fun h => sigs_if h (allS_cons fund_Fund_Grant.ok allS_nil) (fun h => sigs_if h (allS_cons pledgelaw18_Same.ok allS_nil) (fun h => sigs_if h (allS_cons pledgeref18_New.ok allS_nil) (fun h => sigs_if h (allS_cons pledgelaw18_works.ok allS_nil) ((fun h => by cases h))))))))⟩
set_option maxRecDepth 100000 in
theorem pledgelaw18_FundTries.ok : Sound Go.Proofs.Try.prog 6 pledgelaw18_FundTries.sig := body_sound (C := pledgelaw18_FundTries.C) (q := pledgelaw18_FundTries.Q) (fn := Go.Proofs.Try.f6) (sg := pledgelaw18_FundTries.sig) (n := 2) pledgelaw18_FundTries.ctx follows Go.Proofs.Try.func6 (by kernel_rfl) (by kernel_rfl) (by kernel_rfl) (by kernel_rfl) (Nat.le_of_ble_eq_true (by kernel_rfl)) (by kernel_rfl) pledgelaw18_FundTries.eq

def pledgeref18_Get.l1 (v : ((List ((Int × Int × Int × Unit) × (Int × Int × Int × Int × Int × Int × Unit) × Unit)) × Unit × Unit × Int) × (Int × Int × Int × Unit) × (Int × Int × Int × Int × Int × Int × Unit) × Unit) : Option ((((List ((Int × Int × Int × Unit) × (Int × Int × Int × Int × Int × Int × Unit) × Unit)) × Unit × Unit × Int) × (Int × Int × Int × Unit) × (Int × Int × Int × Int × Int × Int × Unit) × Unit) ⊕ ((Unit × (Int × Int × Int × Int × Int × Int × Unit) × Unit) ⊕ ((Unit × Bool) × (Int × Int × Int × Int × Int × Int × Unit) × Unit))) :=
  bif decide (v.1.2.2.2 < (v.1.1.length : Int)) then nthK v.1.1 v.1.2.2.2 fun e19 => bif eqE kKey e19.1 v.2.1 then nthK v.1.1 v.1.2.2.2 fun e20 => some (Sum.inr (Sum.inr (((), true), (e20.2.1, ())))) else some (Sum.inl ((v.1.1, ((), ((), IntKind.i64.wrap (v.1.2.2.2 + 1)))), (v.2.1, (v.2.2.1, ())))) else some (Sum.inr (Sum.inl ((), (v.2.2.1, ()))))
def pledgeref18_Get (x0 : List ((Int × Int × Int × Unit) × (Int × Int × Int × Int × Int × Int × Unit) × Unit)) (x1 : Int × Int × Int × Unit) : Option ((Int × Int × Int × Int × Int × Int × Unit) × Bool × Unit) :=
  (iterL pledgeref18_Get.l1 loopN ((x0, ((), ((), 0))), (x1, ((0, (0, (0, (0, (0, (0, ())))))), ())))).bind fun y21 => (match y21 with | .inl y22 => some ((0, (0, (0, (0, (0, (0, ())))))), (false, ())) | .inr y23 => some (y23.2.1, (y23.1.2, ())))
def pledgeref18_Get.C : Ctx := { ty := tyT, sigs := fun i => [], n := 26, mp := mpT }
def pledgeref18_Get.Q : Cuts := { np := 0, loops := fun i => bif Nat.beq i 2 then some ({ env := [(0, .val (.slice kRow_106)), (3, .ptr 0), (4, .ptr 1), (6, .val (.int .i64))], objs := [.cell kKey (.val kKey), .cell kField (.val kField)] }, [(.exit 0, { env := [(4, .ptr 0)], objs := [.cell kField (.val kField)] }), (.ret, { env := [(4, .ptr 0), (5, .val .bool)], objs := [.cell kField (.val kField)] })]) else none, seqs := fun i => none, splits := fun i => none }
def pledgeref18_Get.sig : Sig := { args := .tc (.val (.slice kRow_106)) (.tc (.val kKey) .tn), objs := [], ret := .tup (.tc (.val kField) (.tc (.val .bool) .tn)), outs := [], F := fun x => pledgeref18_Get x.1.1 x.1.2.1 }
theorem pledgeref18_Get.eq : (fun x => body pledgeref18_Get.C pledgeref18_Get.Q Go.Proofs.Try.f52 pledgeref18_Get.sig.args pledgeref18_Get.sig.objs pledgeref18_Get.sig.ret pledgeref18_Get.sig.outs x) = pledgeref18_Get.sig.F := by
  kernel_rfl
set_option maxRecDepth 100000 in
theorem pledgeref18_Get.ctx : CtxOk Go.Proofs.Try.prog pledgeref18_Get.C := ⟨tyOk, mpOk, Nat.le_of_ble_eq_true (by kernel_rfl), fun f sg => (fun h => by cases h)⟩
set_option maxRecDepth 100000 in
theorem pledgeref18_Get.ok : Sound Go.Proofs.Try.prog 52 pledgeref18_Get.sig := body_sound (C := pledgeref18_Get.C) (q := pledgeref18_Get.Q) (fn := Go.Proofs.Try.f52) (sg := pledgeref18_Get.sig) (n := 2) pledgeref18_Get.ctx follows Go.Proofs.Try.func52 (by kernel_rfl) (by kernel_rfl) (by kernel_rfl) (by kernel_rfl) (Nat.le_of_ble_eq_true (by kernel_rfl)) (by kernel_rfl) pledgeref18_Get.eq

def pledgeref17_Good (x0 : Int × Int × Int × Int × Int × Int × Unit) : Option Bool :=
  bif decide (x0.1 ≤ x0.2.2.2.1) then bif decide (x0.2.2.2.1 ≤ x0.2.2.1) then bif decide (x0.2.2.2.1 ≤ x0.2.2.2.2.2.1) then bif decide (x0.2.2.1 ≤ x0.2.2.2.2.1) then bif decide (x0.2.2.2.2.2.1 ≤ x0.2.2.2.2.1) then some (decide (x0.2.2.2.2.1 ≤ x0.2.1)) else some false else some false else some false else some false else some false
def pledgeref17_Good.C : Ctx := { ty := tyT, sigs := fun i => [], n := 43, mp := mpT }
def pledgeref17_Good.Q : Cuts := { np := 0, loops := fun i => none, seqs := fun i => none, splits := fun i => none }
def pledgeref17_Good.sig : Sig := { args := .tc (.val kField) .tn, objs := [], ret := .val .bool, outs := [], F := fun x => pledgeref17_Good x.1.1 }
theorem pledgeref17_Good.eq : (fun x => body pledgeref17_Good.C pledgeref17_Good.Q Go.Proofs.Try.f53 pledgeref17_Good.sig.args pledgeref17_Good.sig.objs pledgeref17_Good.sig.ret pledgeref17_Good.sig.outs x) = pledgeref17_Good.sig.F := by
  kernel_rfl
set_option maxRecDepth 100000 in
theorem pledgeref17_Good.ctx : CtxOk Go.Proofs.Try.prog pledgeref17_Good.C := ⟨tyOk, mpOk, Nat.le_of_ble_eq_true (by kernel_rfl), fun f sg => (fun h => by cases h)⟩
set_option maxRecDepth 100000 in
theorem pledgeref17_Good.ok : Sound Go.Proofs.Try.prog 53 pledgeref17_Good.sig := body_sound (C := pledgeref17_Good.C) (q := pledgeref17_Good.Q) (fn := Go.Proofs.Try.f53) (sg := pledgeref17_Good.sig) (n := 1) pledgeref17_Good.ctx follows Go.Proofs.Try.func53 (by kernel_rfl) (by kernel_rfl) (by kernel_rfl) (by kernel_rfl) (Nat.le_of_ble_eq_true (by kernel_rfl)) (by kernel_rfl) pledgeref17_Good.eq

def pledgeref18_Set (x0 : List ((Int × Int × Int × Unit) × (Int × Int × Int × Int × Int × Int × Unit) × Unit)) (x1 : Int × Int × Int × Unit) (x2 : Int × Int × Int × Int × Int × Int × Unit) : Option ((List ((Int × Int × Int × Unit) × (Int × Int × Int × Int × Int × Int × Unit) × Unit)) × Int × Unit) :=
  (pledgeref18_Get x0 x1).bind fun r19 => bif !r19.2.1 then some (x0, (10, ())) else (pledgeref17_Good x2).bind fun r20 => bif !r20 then some (x0, (12, ())) else (pledgeref18_put x0 (x1, (x2, ()))).bind fun r21 => some (r21, (0, ()))
def pledgeref18_Set.C : Ctx := { ty := tyT, sigs := fun i => bif Nat.beq i 51 then [pledgeref18_put.sig] else bif Nat.beq i 52 then [pledgeref18_Get.sig] else bif Nat.beq i 53 then [pledgeref17_Good.sig] else [], n := 28, mp := mpT }
def pledgeref18_Set.Q : Cuts := { np := 0, loops := fun i => none, seqs := fun i => none, splits := fun i => none }
def pledgeref18_Set.sig : Sig := { args := .tc (.val (.slice kRow_106)) (.tc (.val kKey) (.tc (.val kField) .tn)), objs := [], ret := .tup (.tc (.val (.slice kRow_106)) (.tc (.val (.int .i64)) .tn)), outs := [], F := fun x => pledgeref18_Set x.1.1 x.1.2.1 x.1.2.2.1 }
theorem pledgeref18_Set.eq : (fun x => body pledgeref18_Set.C pledgeref18_Set.Q Go.Proofs.Try.f27 pledgeref18_Set.sig.args pledgeref18_Set.sig.objs pledgeref18_Set.sig.ret pledgeref18_Set.sig.outs x) = pledgeref18_Set.sig.F := by
  kernel_rfl
set_option maxRecDepth 100000 in
theorem pledgeref18_Set.ctx : CtxOk Go.Proofs.Try.prog pledgeref18_Set.C := ⟨tyOk, mpOk, Nat.le_of_ble_eq_true (by kernel_rfl), fun f sg => fun h => sigs_if h (allS_cons pledgeref18_put.ok allS_nil) (fun h => sigs_if h (allS_cons pledgeref18_Get.ok allS_nil) (fun h => sigs_if h (allS_cons pledgeref17_Good.ok allS_nil) ((fun h => by cases h))))⟩
set_option maxRecDepth 100000 in
theorem pledgeref18_Set.ok : Sound Go.Proofs.Try.prog 27 pledgeref18_Set.sig := body_sound (C := pledgeref18_Set.C) (q := pledgeref18_Set.Q) (fn := Go.Proofs.Try.f27) (sg := pledgeref18_Set.sig) (n := 3) pledgeref18_Set.ctx follows Go.Proofs.Try.func27 (by kernel_rfl) (by kernel_rfl) (by kernel_rfl) (by kernel_rfl) (Nat.le_of_ble_eq_true (by kernel_rfl)) (by kernel_rfl) pledgeref18_Set.eq

def fund_Fund_Set_1 (x0 : Int × Int × Int × Int × Int × Int × Unit) (x1 : Unit) (o0 : Int × Int × Int × Int × Int × Int × Unit) : Option (((Int × Int × Int × Int × Int × Int × Unit) × Int × Unit) × (Int × Int × Int × Int × Int × Int × Unit) × Unit) :=
  (field_Good o0).bind fun r21 => bif !r21 then some ((x0, (12, ())), (o0, ())) else some ((o0, (0, ())), (o0, ()))
def fund_Fund_Set_1.C : Ctx := { ty := tyT, sigs := fun i => bif Nat.beq i 55 then [field_Good.sig] else [], n := 10, mp := mpT }
def fund_Fund_Set_1.Q : Cuts := { np := 1, loops := fun i => none, seqs := fun i => none, splits := fun i => none }
def fund_Fund_Set_1.sig : Sig := { args := .tc (.val kField) (.tc (.ptr 0) .tn), objs := [.cell kField (.val kField)], ret := .tup (.tc (.val kField) (.tc (.val (.int .i64)) .tn)), outs := [.cell kField (.val kField)], F := fun x => fund_Fund_Set_1 x.1.1 x.1.2.1 x.2.1 }
theorem fund_Fund_Set_1.eq : (fun x => body fund_Fund_Set_1.C fund_Fund_Set_1.Q Go.Proofs.Try.f54 fund_Fund_Set_1.sig.args fund_Fund_Set_1.sig.objs fund_Fund_Set_1.sig.ret fund_Fund_Set_1.sig.outs x) = fund_Fund_Set_1.sig.F := by
  kernel_rfl
set_option maxRecDepth 100000 in
theorem fund_Fund_Set_1.ctx : CtxOk Go.Proofs.Try.prog fund_Fund_Set_1.C := ⟨tyOk, mpOk, Nat.le_of_ble_eq_true (by kernel_rfl), fun f sg => fun h => sigs_if h (allS_cons field_Good.ok allS_nil) ((fun h => by cases h))⟩
set_option maxRecDepth 100000 in
theorem fund_Fund_Set_1.ok : Sound Go.Proofs.Try.prog 54 fund_Fund_Set_1.sig := body_sound (C := fund_Fund_Set_1.C) (q := fund_Fund_Set_1.Q) (fn := Go.Proofs.Try.f54) (sg := fund_Fund_Set_1.sig) (n := 2) fund_Fund_Set_1.ctx follows Go.Proofs.Try.func54 (by kernel_rfl) (by kernel_rfl) (by kernel_rfl) (by kernel_rfl) (Nat.le_of_ble_eq_true (by kernel_rfl)) (by kernel_rfl) fund_Fund_Set_1.eq

def fund_Fund_change_v2 (x0 : Unit) (x1 : Int × Int × Int × Unit) (x2 : Unit × Unit) (o0 : Unit × Unit) (o1 : Int × Int × Int × Int × Int × Int × Unit) (o2 : Unit × Unit) (o3 : List ((Int × Int × Int × Unit) × Int × Int × Int × Int × Int × Int × Unit)) : Option (Int × (Unit × Unit) × (Int × Int × Int × Int × Int × Int × Unit) × (Unit × Unit) × (List ((Int × Int × Int × Unit) × Int × Int × Int × Int × Int × Int × Unit)) × Unit) :=
  (fund_Fund_Get () x1 ((), o0.2) ((), o2.2) o3).bind fun r20 => bif !r20.1.2.1 then some (10, (((), r20.2.1.2), (o1, (((), r20.2.2.1.2), (r20.2.2.2.1, ()))))) else (fund_Fund_Set_1 r20.1.1 () o1).bind fun r21 => bif (r21.1.2.1 : Int) == 0 then (table_Table_api_Field_Put () x1 r21.1.1 ((), r20.2.2.1.2) r20.2.2.2.1).bind fun r22 => some (r21.1.2.1, (((), r20.2.1.2), (r21.2.1, (((), r22.2.1.2), (r22.2.2.1, ()))))) else some (r21.1.2.1, (((), r20.2.1.2), (r21.2.1, (((), r20.2.2.1.2), (r20.2.2.2.1, ())))))
def fund_Fund_change_v2.C : Ctx := { ty := tyT, sigs := fun i => bif Nat.beq i 30 then [fund_Fund_Get.sig] else bif Nat.beq i 43 then [table_Table_api_Field_Put.sig] else bif Nat.beq i 54 then [fund_Fund_Set_1.sig] else [], n := 35, mp := mpT }
def fund_Fund_change_v2.Q : Cuts := { np := 4, loops := fun i => none, seqs := fun i => none, splits := fun i => none }
def fund_Fund_change_v2.sig : Sig := { args := .tc (.ptr 0) (.tc (.val kKey) (.tc (.clo 54 (.tc (.ptr 1) .tn)) .tn)), objs := [.cell (.cons (.ref 0) .unit) (.pair (.ptr 2) (.val .unit)), .cell kField (.val kField), .cell (.cons (.ref 1) .unit) (.pair (.mapr 3) (.val .unit)), .map kKey kField], ret := .val (.int .i64), outs := [.cell (.cons (.ref 0) .unit) (.pair (.ptr 2) (.val .unit)), .cell kField (.val kField), .cell (.cons (.ref 1) .unit) (.pair (.mapr 3) (.val .unit)), .map kKey kField], F := fun x => fund_Fund_change_v2 x.1.1 x.1.2.1 x.1.2.2.1 x.2.1 x.2.2.1 x.2.2.2.1 x.2.2.2.2.1 }
theorem fund_Fund_change_v2.eq : (fun x => body fund_Fund_change_v2.C fund_Fund_change_v2.Q Go.Proofs.Try.f46 fund_Fund_change_v2.sig.args fund_Fund_change_v2.sig.objs fund_Fund_change_v2.sig.ret fund_Fund_change_v2.sig.outs x) = fund_Fund_change_v2.sig.F := by
  kernel_rfl
set_option maxRecDepth 100000 in
theorem fund_Fund_change_v2.ctx : CtxOk Go.Proofs.Try.prog fund_Fund_change_v2.C := ⟨tyOk, mpOk, Nat.le_of_ble_eq_true (by kernel_rfl), fun f sg => fun h => sigs_if h (allS_cons fund_Fund_Get.ok allS_nil) (fun h => sigs_if h (allS_cons table_Table_api_Field_Put.ok allS_nil) (fun h => sigs_if h (allS_cons fund_Fund_Set_1.ok allS_nil) ((fun h => by cases h))))⟩
set_option maxRecDepth 100000 in
theorem fund_Fund_change_v2.ok : Sound Go.Proofs.Try.prog 46 fund_Fund_change_v2.sig := body_sound (C := fund_Fund_change_v2.C) (q := fund_Fund_change_v2.Q) (fn := Go.Proofs.Try.f46) (sg := fund_Fund_change_v2.sig) (n := 3) fund_Fund_change_v2.ctx follows Go.Proofs.Try.func46 (by kernel_rfl) (by kernel_rfl) (by kernel_rfl) (by kernel_rfl) (Nat.le_of_ble_eq_true (by kernel_rfl)) (by kernel_rfl) fund_Fund_change_v2.eq

def fund_Fund_Set (x0 : Unit) (x1 : Int × Int × Int × Unit) (x2 : Int × Int × Int × Int × Int × Int × Unit) (o0 : Unit × Unit) (o1 : Unit × Unit) (o2 : List ((Int × Int × Int × Unit) × Int × Int × Int × Int × Int × Int × Unit)) : Option (Int × (Unit × Unit) × (Unit × Unit) × (List ((Int × Int × Int × Unit) × Int × Int × Int × Int × Int × Int × Unit)) × Unit) :=
  (fund_Fund_change_v2 () x1 ((), ()) ((), o0.2) x2 ((), o1.2) o2).bind fun r20 => some (r20.1, (((), r20.2.1.2), (((), r20.2.2.2.1.2), (r20.2.2.2.2.1, ()))))
def fund_Fund_Set.C : Ctx := { ty := tyT, sigs := fun i => bif Nat.beq i 46 then [fund_Fund_change_v2.sig] else [], n := 11, mp := mpT }
def fund_Fund_Set.Q : Cuts := { np := 3, loops := fun i => none, seqs := fun i => none, splits := fun i => none }
def fund_Fund_Set.sig : Sig := { args := .tc (.ptr 0) (.tc (.val kKey) (.tc (.val kField) .tn)), objs := [.cell (.cons (.ref 0) .unit) (.pair (.ptr 1) (.val .unit)), .cell (.cons (.ref 1) .unit) (.pair (.mapr 2) (.val .unit)), .map kKey kField], ret := .val (.int .i64), outs := [.cell (.cons (.ref 0) .unit) (.pair (.ptr 1) (.val .unit)), .cell (.cons (.ref 1) .unit) (.pair (.mapr 2) (.val .unit)), .map kKey kField], F := fun x => fund_Fund_Set x.1.1 x.1.2.1 x.1.2.2.1 x.2.1 x.2.2.1 x.2.2.2.1 }
theorem fund_Fund_Set.eq : (fun x => body fund_Fund_Set.C fund_Fund_Set.Q Go.Proofs.Try.f28 fund_Fund_Set.sig.args fund_Fund_Set.sig.objs fund_Fund_Set.sig.ret fund_Fund_Set.sig.outs x) = fund_Fund_Set.sig.F := by
  kernel_rfl
set_option maxRecDepth 100000 in
theorem fund_Fund_Set.ctx : CtxOk Go.Proofs.Try.prog fund_Fund_Set.C := ⟨tyOk, mpOk, Nat.le_of_ble_eq_true (by kernel_rfl), fun f sg => fun h => sigs_if h (allS_cons fund_Fund_change_v2.ok allS_nil) ((fun h => by cases h))⟩
set_option maxRecDepth 100000 in
theorem fund_Fund_Set.ok : Sound Go.Proofs.Try.prog 28 fund_Fund_Set.sig := body_sound (C := fund_Fund_Set.C) (q := fund_Fund_Set.Q) (fn := Go.Proofs.Try.f28) (sg := fund_Fund_Set.sig) (n := 3) fund_Fund_Set.ctx follows Go.Proofs.Try.func28 (by kernel_rfl) (by kernel_rfl) (by kernel_rfl) (by kernel_rfl) (Nat.le_of_ble_eq_true (by kernel_rfl)) (by kernel_rfl) fund_Fund_Set.eq

def pledgeref17_first (x0 : Int × Int × Int × Int × Int × Int × Unit) (x1 : Int) : Option Int :=
  (pledgeref17_Good x0).bind fun r25 => bif !r25 then some 12 else bif (x1 : Int) == 0 then some 1 else bif decide (x1 < (-9223372036854775807)) then some 1 else some 0
def pledgeref17_first.C : Ctx := { ty := tyT, sigs := fun i => bif Nat.beq i 53 then [pledgeref17_Good.sig] else [], n := 14, mp := mpT }
def pledgeref17_first.Q : Cuts := { np := 0, loops := fun i => none, seqs := fun i => none, splits := fun i => none }
def pledgeref17_first.sig : Sig := { args := .tc (.val kField) (.tc (.val (.int .i64)) .tn), objs := [], ret := .val (.int .i64), outs := [], F := fun x => pledgeref17_first x.1.1 x.1.2.1 }
theorem pledgeref17_first.eq : (fun x => body pledgeref17_first.C pledgeref17_first.Q Go.Proofs.Try.f87 pledgeref17_first.sig.args pledgeref17_first.sig.objs pledgeref17_first.sig.ret pledgeref17_first.sig.outs x) = pledgeref17_first.sig.F := by
  kernel_rfl
set_option maxRecDepth 100000 in
theorem pledgeref17_first.ctx : CtxOk Go.Proofs.Try.prog pledgeref17_first.C := ⟨tyOk, mpOk, Nat.le_of_ble_eq_true (by kernel_rfl), fun f sg => fun h => sigs_if h (allS_cons pledgeref17_Good.ok allS_nil) ((fun h => by cases h))⟩
set_option maxRecDepth 100000 in
theorem pledgeref17_first.ok : Sound Go.Proofs.Try.prog 87 pledgeref17_first.sig := body_sound (C := pledgeref17_first.C) (q := pledgeref17_first.Q) (fn := Go.Proofs.Try.f87) (sg := pledgeref17_first.sig) (n := 2) pledgeref17_first.ctx follows Go.Proofs.Try.func87 (by kernel_rfl) (by kernel_rfl) (by kernel_rfl) (by kernel_rfl) (Nat.le_of_ble_eq_true (by kernel_rfl)) (by kernel_rfl) pledgeref17_first.eq

def pledgeref01_halves_v2 (x0 : Int) : Option (Int × Int × Unit) :=
  bif decide (x0 < 0) then none else some (IntKind.i64.wrap (Int.tdiv x0 4294967296), (Int.tmod x0 4294967296, ()))
def pledgeref01_halves_v2.C : Ctx := { ty := tyT, sigs := fun i => [], n := 22, mp := mpT }
def pledgeref01_halves_v2.Q : Cuts := { np := 0, loops := fun i => none, seqs := fun i => none, splits := fun i => none }
def pledgeref01_halves_v2.sig : Sig := { args := .tc (.val (.int .i64)) .tn, objs := [], ret := .val kwide, outs := [], F := fun x => pledgeref01_halves_v2 x.1.1 }
theorem pledgeref01_halves_v2.eq : (fun x => body pledgeref01_halves_v2.C pledgeref01_halves_v2.Q Go.Proofs.Try.f113 pledgeref01_halves_v2.sig.args pledgeref01_halves_v2.sig.objs pledgeref01_halves_v2.sig.ret pledgeref01_halves_v2.sig.outs x) = pledgeref01_halves_v2.sig.F := by
  kernel_rfl
set_option maxRecDepth 100000 in
theorem pledgeref01_halves_v2.ctx : CtxOk Go.Proofs.Try.prog pledgeref01_halves_v2.C := ⟨tyOk, mpOk, Nat.le_of_ble_eq_true (by kernel_rfl), fun f sg => (fun h => by cases h)⟩
set_option maxRecDepth 100000 in
theorem pledgeref01_halves_v2.ok : Sound Go.Proofs.Try.prog 113 pledgeref01_halves_v2.sig := body_sound (C := pledgeref01_halves_v2.C) (q := pledgeref01_halves_v2.Q) (fn := Go.Proofs.Try.f113) (sg := pledgeref01_halves_v2.sig) (n := 1) pledgeref01_halves_v2.ctx follows Go.Proofs.Try.func113 (by kernel_rfl) (by kernel_rfl) (by kernel_rfl) (by kernel_rfl) (Nat.le_of_ble_eq_true (by kernel_rfl)) (by kernel_rfl) pledgeref01_halves_v2.eq

def pledgeref01_halves (x0 : Int) : Option (Int × Int × Unit) :=
  bif decide (x0 < 0) then (pledgeref01_halves_v2 (IntKind.i64.wrap (0 - (IntKind.i64.wrap (x0 + 1))))).bind fun r28 => some (IntKind.i64.wrap ((-1) - r28.1), (IntKind.i64.wrap (4294967295 - r28.2.1), ())) else some (IntKind.i64.wrap (Int.tdiv x0 4294967296), (Int.tmod x0 4294967296, ()))
def pledgeref01_halves.C : Ctx := { ty := tyT, sigs := fun i => bif Nat.beq i 113 then [pledgeref01_halves_v2.sig] else [], n := 22, mp := mpT }
def pledgeref01_halves.Q : Cuts := { np := 0, loops := fun i => none, seqs := fun i => none, splits := fun i => none }
def pledgeref01_halves.sig : Sig := { args := .tc (.val (.int .i64)) .tn, objs := [], ret := .val kwide, outs := [], F := fun x => pledgeref01_halves x.1.1 }
theorem pledgeref01_halves.eq : (fun x => body pledgeref01_halves.C pledgeref01_halves.Q Go.Proofs.Try.f113 pledgeref01_halves.sig.args pledgeref01_halves.sig.objs pledgeref01_halves.sig.ret pledgeref01_halves.sig.outs x) = pledgeref01_halves.sig.F := by
  kernel_rfl
set_option maxRecDepth 100000 in
theorem pledgeref01_halves.ctx : CtxOk Go.Proofs.Try.prog pledgeref01_halves.C := ⟨tyOk, mpOk, Nat.le_of_ble_eq_true (by kernel_rfl), fun f sg => fun h => sigs_if h (allS_cons pledgeref01_halves_v2.ok allS_nil) ((fun h => by cases h))⟩
set_option maxRecDepth 100000 in
theorem pledgeref01_halves.ok : Sound Go.Proofs.Try.prog 113 pledgeref01_halves.sig := body_sound (C := pledgeref01_halves.C) (q := pledgeref01_halves.Q) (fn := Go.Proofs.Try.f113) (sg := pledgeref01_halves.sig) (n := 1) pledgeref01_halves.ctx follows Go.Proofs.Try.func113 (by kernel_rfl) (by kernel_rfl) (by kernel_rfl) (by kernel_rfl) (Nat.le_of_ble_eq_true (by kernel_rfl)) (by kernel_rfl) pledgeref01_halves.eq

def pledgeref01_Sum.l1 (v : (List Int × Unit × Int) × (Int × Int × Unit) × Unit) : Option (((List Int × Unit × Int) × (Int × Int × Unit) × Unit) ⊕ (Unit × (Int × Int × Unit) × Unit)) :=
  bif decide (v.1.2.2 < (v.1.1.length : Int)) then nthK v.1.1 v.1.2.2 fun e27 => (pledgeref01_halves e27).bind fun r28 => bif decide ((IntKind.i64.wrap (v.2.1.2.1 + r28.2.1)) ≥ 4294967296) then some (Sum.inl ((v.1.1, ((), IntKind.i64.wrap (v.1.2.2 + 1))), ((IntKind.i64.wrap ((IntKind.i64.wrap (v.2.1.1 + r28.1)) + 1), (IntKind.i64.wrap ((IntKind.i64.wrap (v.2.1.2.1 + r28.2.1)) - 4294967296), v.2.1.2.2)), ()))) else some (Sum.inl ((v.1.1, ((), IntKind.i64.wrap (v.1.2.2 + 1))), ((IntKind.i64.wrap (v.2.1.1 + r28.1), (IntKind.i64.wrap (v.2.1.2.1 + r28.2.1), v.2.1.2.2)), ()))) else some (Sum.inr ((), (v.2.1, ())))
def pledgeref01_Sum (x0 : List Int) : Option (Int × Bool × Unit) :=
  (iterL pledgeref01_Sum.l1 loopN ((x0, ((), 0)), ((0, (0, ())), ()))).bind fun y29 => bif decide (y29.2.1.1 < (-2147483648)) then some (0, (false, ())) else bif decide (y29.2.1.1 > 2147483647) then some (0, (false, ())) else some (IntKind.i64.wrap ((IntKind.i64.wrap (y29.2.1.1 * 4294967296)) + y29.2.1.2.1), (true, ()))
def pledgeref01_Sum.C : Ctx := { ty := tyT, sigs := fun i => bif Nat.beq i 113 then [pledgeref01_halves.sig] else [], n := 56, mp := mpT }
def pledgeref01_Sum.Q : Cuts := { np := 0, loops := fun i => bif Nat.beq i 3 then some ({ env := [(0, .val (.slice (.int .i64))), (4, .ptr 0), (5, .val (.int .i64))], objs := [.cell kwide (.val kwide)] }, [(.exit 0, { env := [(4, .ptr 0)], objs := [.cell kwide (.val kwide)] })]) else none, seqs := fun i => none, splits := fun i => none }
def pledgeref01_Sum.sig : Sig := { args := .tc (.val (.slice (.int .i64))) .tn, objs := [], ret := .tup (.tc (.val (.int .i64)) (.tc (.val .bool) .tn)), outs := [], F := fun x => pledgeref01_Sum x.1.1 }
theorem pledgeref01_Sum.eq : (fun x => body pledgeref01_Sum.C pledgeref01_Sum.Q Go.Proofs.Try.f105 pledgeref01_Sum.sig.args pledgeref01_Sum.sig.objs pledgeref01_Sum.sig.ret pledgeref01_Sum.sig.outs x) = pledgeref01_Sum.sig.F := by
  kernel_rfl
set_option maxRecDepth 100000 in
theorem pledgeref01_Sum.ctx : CtxOk Go.Proofs.Try.prog pledgeref01_Sum.C := ⟨tyOk, mpOk, Nat.le_of_ble_eq_true (by kernel_rfl), fun f sg => fun h => sigs_if h (allS_cons pledgeref01_halves.ok allS_nil) ((fun h => by cases h))⟩
set_option maxRecDepth 100000 in
theorem pledgeref01_Sum.ok : Sound Go.Proofs.Try.prog 105 pledgeref01_Sum.sig := body_sound (C := pledgeref01_Sum.C) (q := pledgeref01_Sum.Q) (fn := Go.Proofs.Try.f105) (sg := pledgeref01_Sum.sig) (n := 1) pledgeref01_Sum.ctx follows Go.Proofs.Try.func105 (by kernel_rfl) (by kernel_rfl) (by kernel_rfl) (by kernel_rfl) (Nat.le_of_ble_eq_true (by kernel_rfl)) (by kernel_rfl) pledgeref01_Sum.eq

def pledgeref01_Add (x0 : Int) (x1 : Int) : Option (Int × Bool × Unit) :=
  (pledgeref01_Sum [x0, x1]).bind fun r27 => some (r27.1, (r27.2.1, ()))
def pledgeref01_Add.C : Ctx := { ty := tyT, sigs := fun i => bif Nat.beq i 105 then [pledgeref01_Sum.sig] else [], n := 12, mp := mpT }
def pledgeref01_Add.Q : Cuts := { np := 0, loops := fun i => none, seqs := fun i => none, splits := fun i => none }
def pledgeref01_Add.sig : Sig := { args := .tc (.val (.int .i64)) (.tc (.val (.int .i64)) .tn), objs := [], ret := .tup (.tc (.val (.int .i64)) (.tc (.val .bool) .tn)), outs := [], F := fun x => pledgeref01_Add x.1.1 x.1.2.1 }
theorem pledgeref01_Add.eq : (fun x => body pledgeref01_Add.C pledgeref01_Add.Q Go.Proofs.Try.f88 pledgeref01_Add.sig.args pledgeref01_Add.sig.objs pledgeref01_Add.sig.ret pledgeref01_Add.sig.outs x) = pledgeref01_Add.sig.F := by
  kernel_rfl
set_option maxRecDepth 100000 in
theorem pledgeref01_Add.ctx : CtxOk Go.Proofs.Try.prog pledgeref01_Add.C := ⟨tyOk, mpOk, Nat.le_of_ble_eq_true (by kernel_rfl), fun f sg => fun h => sigs_if h (allS_cons pledgeref01_Sum.ok allS_nil) ((fun h => by cases h))⟩
set_option maxRecDepth 100000 in
theorem pledgeref01_Add.ok : Sound Go.Proofs.Try.prog 88 pledgeref01_Add.sig := body_sound (C := pledgeref01_Add.C) (q := pledgeref01_Add.Q) (fn := Go.Proofs.Try.f88) (sg := pledgeref01_Add.sig) (n := 2) pledgeref01_Add.ctx follows Go.Proofs.Try.func88 (by kernel_rfl) (by kernel_rfl) (by kernel_rfl) (by kernel_rfl) (Nat.le_of_ble_eq_true (by kernel_rfl)) (by kernel_rfl) pledgeref01_Add.eq

def pledgeref17_Grant (x0 : Int × Int × Int × Int × Int × Int × Unit) (x1 : Int) : Option ((Int × Int × Int × Int × Int × Int × Unit) × Int × Unit) :=
  (pledgeref17_first x0 x1).bind fun r25 => bif (r25 : Int) != 0 then some (x0, (r25, ())) else (bif decide (x1 < 0) then some (((x1, ((), ((), ((), x0.2.2.2.1)))), (x0, ((0, (0, (0, (0, (0, (0, ())))))), (x0, ()))))) else some (((x1, ((), ((), ((), x0.2.2.2.2.1)))), (x0, ((0, (0, (0, (0, (0, (0, ())))))), (x0, ()))))) : Option ((Int × Unit × Unit × Unit × Int) × (Int × Int × Int × Int × Int × Int × Unit) × (Int × Int × Int × Int × Int × Int × Unit) × (Int × Int × Int × Int × Int × Int × Unit) × Unit)).bind fun y26 => (pledgeref01_Add y26.1.2.2.2.2 y26.1.1).bind fun r27 => bif !r27.2.1 then some (y26.2.1, (2, ())) else bif decide (r27.1 < y26.2.1.1) then some (y26.2.1, (3, ())) else bif decide (r27.1 > y26.2.1.2.1) then some (y26.2.1, (3, ())) else bif decide (y26.1.1 > 0) then some ((y26.2.2.2.1.1, (y26.2.2.2.1.2.1, (y26.2.2.2.1.2.2.1, (y26.2.2.2.1.2.2.2.1, (r27.1, (IntKind.i64.wrap (y26.2.1.2.2.2.2.2.1 + y26.1.1), y26.2.2.2.1.2.2.2.2.2.2)))))), (0, ())) else some ((y26.2.2.2.1.1, (y26.2.2.2.1.2.1, (y26.2.2.2.1.2.2.1, (r27.1, (y26.2.2.2.1.2.2.2.2.1, (IntKind.i64.wrap (y26.2.1.2.2.2.2.2.1 + y26.1.1), y26.2.2.2.1.2.2.2.2.2.2)))))), (0, ()))
def pledgeref17_Grant.C : Ctx := { ty := tyT, sigs := fun i => bif Nat.beq i 87 then [pledgeref17_first.sig] else bif Nat.beq i 88 then [pledgeref01_Add.sig] else [], n := 57, mp := mpT }
def pledgeref17_Grant.Q : Cuts := { np := 0, loops := fun i => none, seqs := fun i => bif Nat.beq i 8 then some [(.normal, { env := [(1, .val (.int .i64)), (2, .ptr 0), (4, .ptr 1), (7, .ptr 2), (8, .val (.int .i64))], objs := [.cell kField (.val kField), .cell kField (.val kField), .cell kField (.val kField)] })] else none, splits := fun i => none }
def pledgeref17_Grant.sig : Sig := { args := .tc (.val kField) (.tc (.val (.int .i64)) .tn), objs := [], ret := .tup (.tc (.val kField) (.tc (.val (.int .i64)) .tn)), outs := [], F := fun x => pledgeref17_Grant x.1.1 x.1.2.1 }
theorem pledgeref17_Grant.eq : (fun x => body pledgeref17_Grant.C pledgeref17_Grant.Q Go.Proofs.Try.f74 pledgeref17_Grant.sig.args pledgeref17_Grant.sig.objs pledgeref17_Grant.sig.ret pledgeref17_Grant.sig.outs x) = pledgeref17_Grant.sig.F := by
  kernel_rfl
set_option maxRecDepth 100000 in
theorem pledgeref17_Grant.ctx : CtxOk Go.Proofs.Try.prog pledgeref17_Grant.C := ⟨tyOk, mpOk, Nat.le_of_ble_eq_true (by kernel_rfl), fun f sg => fun h => sigs_if h (allS_cons pledgeref17_first.ok allS_nil) (fun h => sigs_if h (allS_cons pledgeref01_Add.ok allS_nil) ((fun h => by cases h)))⟩
set_option maxRecDepth 100000 in
theorem pledgeref17_Grant.ok : Sound Go.Proofs.Try.prog 74 pledgeref17_Grant.sig := body_sound (C := pledgeref17_Grant.C) (q := pledgeref17_Grant.Q) (fn := Go.Proofs.Try.f74) (sg := pledgeref17_Grant.sig) (n := 2) pledgeref17_Grant.ctx follows Go.Proofs.Try.func74 (by kernel_rfl) (by kernel_rfl) (by kernel_rfl) (by kernel_rfl) (Nat.le_of_ble_eq_true (by kernel_rfl)) (by kernel_rfl) pledgeref17_Grant.eq

def pledgeref17_Moved (x0 : Int) : Option (Int × Int × Int × Int × Unit) :=
  bif (x0 : Int) == 1 then some ((-1), (0, (0, ((-1), ())))) else bif (x0 : Int) == 2 then some (0, (1, (1, (0, ())))) else bif (x0 : Int) == 3 then some ((-1), (0, (0, (0, ())))) else bif (x0 : Int) == 4 then some (1, (0, (0, (0, ())))) else some (0, (0, (0, ((-1), ()))))
def pledgeref17_Moved.C : Ctx := { ty := tyT, sigs := fun i => [], n := 17, mp := mpT }
def pledgeref17_Moved.Q : Cuts := { np := 0, loops := fun i => none, seqs := fun i => none, splits := fun i => none }
def pledgeref17_Moved.sig : Sig := { args := .tc (.val (.int .i64)) .tn, objs := [], ret := .val kMove, outs := [], F := fun x => pledgeref17_Moved x.1.1 }
theorem pledgeref17_Moved.eq : (fun x => body pledgeref17_Moved.C pledgeref17_Moved.Q Go.Proofs.Try.f76 pledgeref17_Moved.sig.args pledgeref17_Moved.sig.objs pledgeref17_Moved.sig.ret pledgeref17_Moved.sig.outs x) = pledgeref17_Moved.sig.F := by
  kernel_rfl
set_option maxRecDepth 100000 in
theorem pledgeref17_Moved.ctx : CtxOk Go.Proofs.Try.prog pledgeref17_Moved.C := ⟨tyOk, mpOk, Nat.le_of_ble_eq_true (by kernel_rfl), fun f sg => (fun h => by cases h)⟩
set_option maxRecDepth 100000 in
theorem pledgeref17_Moved.ok : Sound Go.Proofs.Try.prog 76 pledgeref17_Moved.sig := body_sound (C := pledgeref17_Moved.C) (q := pledgeref17_Moved.Q) (fn := Go.Proofs.Try.f76) (sg := pledgeref17_Moved.sig) (n := 1) pledgeref17_Moved.ctx follows Go.Proofs.Try.func76 (by kernel_rfl) (by kernel_rfl) (by kernel_rfl) (by kernel_rfl) (Nat.le_of_ble_eq_true (by kernel_rfl)) (by kernel_rfl) pledgeref17_Moved.eq

def pledgeref01_Sub (x0 : Int) (x1 : Int) : Option (Int × Bool × Unit) :=
  bif decide (x1 < (-9223372036854775807)) then (pledgeref01_Sum [x0, 9223372036854775807, 1]).bind fun r30 => some (r30.1, (r30.2.1, ())) else (pledgeref01_Sum [x0, IntKind.i64.wrap (0 - x1)]).bind fun r31 => some (r31.1, (r31.2.1, ()))
def pledgeref01_Sub.C : Ctx := { ty := tyT, sigs := fun i => bif Nat.beq i 105 then [pledgeref01_Sum.sig] else [], n := 20, mp := mpT }
def pledgeref01_Sub.Q : Cuts := { np := 0, loops := fun i => none, seqs := fun i => none, splits := fun i => none }
def pledgeref01_Sub.sig : Sig := { args := .tc (.val (.int .i64)) (.tc (.val (.int .i64)) .tn), objs := [], ret := .tup (.tc (.val (.int .i64)) (.tc (.val .bool) .tn)), outs := [], F := fun x => pledgeref01_Sub x.1.1 x.1.2.1 }
theorem pledgeref01_Sub.eq : (fun x => body pledgeref01_Sub.C pledgeref01_Sub.Q Go.Proofs.Try.f106 pledgeref01_Sub.sig.args pledgeref01_Sub.sig.objs pledgeref01_Sub.sig.ret pledgeref01_Sub.sig.outs x) = pledgeref01_Sub.sig.F := by
  kernel_rfl
set_option maxRecDepth 100000 in
theorem pledgeref01_Sub.ctx : CtxOk Go.Proofs.Try.prog pledgeref01_Sub.C := ⟨tyOk, mpOk, Nat.le_of_ble_eq_true (by kernel_rfl), fun f sg => fun h => sigs_if h (allS_cons pledgeref01_Sum.ok allS_nil) ((fun h => by cases h))⟩
set_option maxRecDepth 100000 in
theorem pledgeref01_Sub.ok : Sound Go.Proofs.Try.prog 106 pledgeref01_Sub.sig := body_sound (C := pledgeref01_Sub.C) (q := pledgeref01_Sub.Q) (fn := Go.Proofs.Try.f106) (sg := pledgeref01_Sub.sig) (n := 2) pledgeref01_Sub.ctx follows Go.Proofs.Try.func106 (by kernel_rfl) (by kernel_rfl) (by kernel_rfl) (by kernel_rfl) (Nat.le_of_ble_eq_true (by kernel_rfl)) (by kernel_rfl) pledgeref01_Sub.eq

def pledgeref17_times (x0 : Int) (x1 : Int) (x2 : Int) : Option (Int × Bool × Unit) :=
  bif (x2 : Int) == 0 then some (x0, (true, ())) else bif decide (x2 > 0) then (pledgeref01_Add x0 x1).bind fun r29 => some (r29.1, (r29.2.1, ())) else (pledgeref01_Sub x0 x1).bind fun r30 => some (r30.1, (r30.2.1, ()))
def pledgeref17_times.C : Ctx := { ty := tyT, sigs := fun i => bif Nat.beq i 88 then [pledgeref01_Add.sig] else bif Nat.beq i 106 then [pledgeref01_Sub.sig] else [], n := 23, mp := mpT }
def pledgeref17_times.Q : Cuts := { np := 0, loops := fun i => none, seqs := fun i => none, splits := fun i => none }
def pledgeref17_times.sig : Sig := { args := .tc (.val (.int .i64)) (.tc (.val (.int .i64)) (.tc (.val (.int .i64)) .tn)), objs := [], ret := .tup (.tc (.val (.int .i64)) (.tc (.val .bool) .tn)), outs := [], F := fun x => pledgeref17_times x.1.1 x.1.2.1 x.1.2.2.1 }
theorem pledgeref17_times.eq : (fun x => body pledgeref17_times.C pledgeref17_times.Q Go.Proofs.Try.f89 pledgeref17_times.sig.args pledgeref17_times.sig.objs pledgeref17_times.sig.ret pledgeref17_times.sig.outs x) = pledgeref17_times.sig.F := by
  kernel_rfl
set_option maxRecDepth 100000 in
theorem pledgeref17_times.ctx : CtxOk Go.Proofs.Try.prog pledgeref17_times.C := ⟨tyOk, mpOk, Nat.le_of_ble_eq_true (by kernel_rfl), fun f sg => fun h => sigs_if h (allS_cons pledgeref01_Add.ok allS_nil) (fun h => sigs_if h (allS_cons pledgeref01_Sub.ok allS_nil) ((fun h => by cases h)))⟩
set_option maxRecDepth 100000 in
theorem pledgeref17_times.ok : Sound Go.Proofs.Try.prog 89 pledgeref17_times.sig := body_sound (C := pledgeref17_times.C) (q := pledgeref17_times.Q) (fn := Go.Proofs.Try.f89) (sg := pledgeref17_times.sig) (n := 3) pledgeref17_times.ctx follows Go.Proofs.Try.func89 (by kernel_rfl) (by kernel_rfl) (by kernel_rfl) (by kernel_rfl) (Nat.le_of_ble_eq_true (by kernel_rfl)) (by kernel_rfl) pledgeref17_times.eq

def pledgeref17_Do (x0 : Int × Int × Int × Int × Int × Int × Unit) (x1 : Int) (x2 : Int × Int × Int × Int × Unit) : Option ((Int × Int × Int × Int × Int × Int × Unit) × Int × Unit) :=
  (pledgeref17_first x0 x1).bind fun r27 => bif (r27 : Int) != 0 then some (x0, (r27, ())) else (bif decide (x1 < 0) then some (((x1, ((), ((), ((), ((), (x2.2.2.2.1, x2.2.2.1)))))), (x0, (x2, ((0, (0, (0, (0, (0, (0, ())))))), (x0, ())))))) else some (((x1, ((), ((), ((), ((), (x2.2.2.1, x2.2.2.2.1)))))), (x0, (x2, ((0, (0, (0, (0, (0, (0, ())))))), (x0, ())))))) : Option ((Int × Unit × Unit × Unit × Unit × Int × Int) × (Int × Int × Int × Int × Int × Int × Unit) × (Int × Int × Int × Int × Unit) × (Int × Int × Int × Int × Int × Int × Unit) × (Int × Int × Int × Int × Int × Int × Unit) × Unit)).bind fun y28 => (pledgeref17_times y28.2.1.2.2.2.2.2.1 y28.1.1 y28.2.2.1.1).bind fun r29 => (pledgeref17_times y28.2.1.2.2.1 y28.1.1 y28.2.2.1.2.1).bind fun r30 => (pledgeref17_times y28.2.1.2.2.2.1 y28.1.1 y28.1.2.2.2.2.2.1).bind fun r31 => (pledgeref17_times y28.2.1.2.2.2.2.1 y28.1.1 y28.1.2.2.2.2.2.2).bind fun r32 => bif !r29.2.1 then some (y28.2.1, (12, ())) else bif !r30.2.1 then some (y28.2.1, (12, ())) else bif !r31.2.1 then some (y28.2.1, (12, ())) else bif !r32.2.1 then some (y28.2.1, (12, ())) else (pledgeref17_Good (y28.2.2.2.2.1.1, (y28.2.2.2.2.1.2.1, (r30.1, (r31.1, (r32.1, (r29.1, y28.2.2.2.2.1.2.2.2.2.2.2))))))).bind fun r33 => bif !r33 then some (y28.2.1, (12, ())) else some ((y28.2.2.2.2.1.1, (y28.2.2.2.2.1.2.1, (r30.1, (r31.1, (r32.1, (r29.1, y28.2.2.2.2.1.2.2.2.2.2.2)))))), (0, ()))
def pledgeref17_Do.C : Ctx := { ty := tyT, sigs := fun i => bif Nat.beq i 53 then [pledgeref17_Good.sig] else bif Nat.beq i 87 then [pledgeref17_first.sig] else bif Nat.beq i 89 then [pledgeref17_times.sig] else [], n := 101, mp := mpT }
def pledgeref17_Do.Q : Cuts := { np := 0, loops := fun i => none, seqs := fun i => bif Nat.beq i 10 then some [(.normal, { env := [(1, .val (.int .i64)), (3, .ptr 0), (5, .ptr 1), (6, .ptr 2), (9, .ptr 3), (10, .val (.int .i64)), (11, .val (.int .i64))], objs := [.cell kField (.val kField), .cell kMove (.val kMove), .cell kField (.val kField), .cell kField (.val kField)] })] else none, splits := fun i => none }
def pledgeref17_Do.sig : Sig := { args := .tc (.val kField) (.tc (.val (.int .i64)) (.tc (.val kMove) .tn)), objs := [], ret := .tup (.tc (.val kField) (.tc (.val (.int .i64)) .tn)), outs := [], F := fun x => pledgeref17_Do x.1.1 x.1.2.1 x.1.2.2.1 }
theorem pledgeref17_Do.eq : (fun x => body pledgeref17_Do.C pledgeref17_Do.Q Go.Proofs.Try.f75 pledgeref17_Do.sig.args pledgeref17_Do.sig.objs pledgeref17_Do.sig.ret pledgeref17_Do.sig.outs x) = pledgeref17_Do.sig.F := by
  kernel_rfl
set_option maxRecDepth 100000 in
theorem pledgeref17_Do.ctx : CtxOk Go.Proofs.Try.prog pledgeref17_Do.C := ⟨tyOk, mpOk, Nat.le_of_ble_eq_true (by kernel_rfl), fun f sg => fun h => sigs_if h (allS_cons pledgeref17_Good.ok allS_nil) (fun h => sigs_if h (allS_cons pledgeref17_first.ok allS_nil) (fun h => sigs_if h (allS_cons pledgeref17_times.ok allS_nil) ((fun h => by cases h))))⟩
set_option maxRecDepth 100000 in
theorem pledgeref17_Do.ok : Sound Go.Proofs.Try.prog 75 pledgeref17_Do.sig := body_sound (C := pledgeref17_Do.C) (q := pledgeref17_Do.Q) (fn := Go.Proofs.Try.f75) (sg := pledgeref17_Do.sig) (n := 3) pledgeref17_Do.ctx follows Go.Proofs.Try.func75 (by kernel_rfl) (by kernel_rfl) (by kernel_rfl) (by kernel_rfl) (Nat.le_of_ble_eq_true (by kernel_rfl)) (by kernel_rfl) pledgeref17_Do.eq

def pledgeref18_Do (x0 : List ((Int × Int × Int × Unit) × (Int × Int × Int × Int × Int × Int × Unit) × Unit)) (x1 : Int) (x2 : (Int × Int × Int × Unit) × Int × Unit) : Option ((List ((Int × Int × Int × Unit) × (Int × Int × Int × Int × Int × Int × Unit) × Unit)) × Int × Unit) :=
  (pledgeref18_Get x0 x2.1).bind fun r24 => bif !r24.2.1 then some (x0, (10, ())) else (pledgeref17_Grant r24.1 x2.2.1).bind fun r25 => bif decide (x1 > 0) then (pledgeref17_Moved x1).bind fun r26 => (pledgeref17_Do r24.1 x2.2.1 r26).bind fun r27 => bif (r27.2.1 : Int) != 0 then some (x0, (r27.2.1, ())) else (pledgeref18_put x0 (x2.1, (r27.1, ()))).bind fun r28 => some (r28, (0, ())) else bif (r25.2.1 : Int) != 0 then some (x0, (r25.2.1, ())) else (pledgeref18_put x0 (x2.1, (r25.1, ()))).bind fun r29 => some (r29, (0, ()))
def pledgeref18_Do.C : Ctx := { ty := tyT, sigs := fun i => bif Nat.beq i 51 then [pledgeref18_put.sig] else bif Nat.beq i 52 then [pledgeref18_Get.sig] else bif Nat.beq i 74 then [pledgeref17_Grant.sig] else bif Nat.beq i 75 then [pledgeref17_Do.sig] else bif Nat.beq i 76 then [pledgeref17_Moved.sig] else [], n := 50, mp := mpT }
def pledgeref18_Do.Q : Cuts := { np := 0, loops := fun i => none, seqs := fun i => none, splits := fun i => none }
def pledgeref18_Do.sig : Sig := { args := .tc (.val (.slice kRow_106)) (.tc (.val (.int .i64)) (.tc (.val kOp) .tn)), objs := [], ret := .tup (.tc (.val (.slice kRow_106)) (.tc (.val (.int .i64)) .tn)), outs := [], F := fun x => pledgeref18_Do x.1.1 x.1.2.1 x.1.2.2.1 }
theorem pledgeref18_Do.eq : (fun x => body pledgeref18_Do.C pledgeref18_Do.Q Go.Proofs.Try.f56 pledgeref18_Do.sig.args pledgeref18_Do.sig.objs pledgeref18_Do.sig.ret pledgeref18_Do.sig.outs x) = pledgeref18_Do.sig.F := by
  kernel_rfl
set_option maxRecDepth 100000 in
theorem pledgeref18_Do.ctx : CtxOk Go.Proofs.Try.prog pledgeref18_Do.C := ⟨tyOk, mpOk, Nat.le_of_ble_eq_true (by kernel_rfl), fun f sg => fun h => sigs_if h (allS_cons pledgeref18_put.ok allS_nil) (fun h => sigs_if h (allS_cons pledgeref18_Get.ok allS_nil) (fun h => sigs_if h (allS_cons pledgeref17_Grant.ok allS_nil) (fun h => sigs_if h (allS_cons pledgeref17_Do.ok allS_nil) (fun h => sigs_if h (allS_cons pledgeref17_Moved.ok allS_nil) ((fun h => by cases h))))))⟩
set_option maxRecDepth 100000 in
theorem pledgeref18_Do.ok : Sound Go.Proofs.Try.prog 56 pledgeref18_Do.sig := body_sound (C := pledgeref18_Do.C) (q := pledgeref18_Do.Q) (fn := Go.Proofs.Try.f56) (sg := pledgeref18_Do.sig) (n := 3) pledgeref18_Do.ctx follows Go.Proofs.Try.func56 (by kernel_rfl) (by kernel_rfl) (by kernel_rfl) (by kernel_rfl) (Nat.le_of_ble_eq_true (by kernel_rfl)) (by kernel_rfl) pledgeref18_Do.eq

def pledgeref18_Try.l1 (v : (List ((Int × Int × Int × Unit) × (Int × Int × Int × Int × Int × Int × Unit) × Unit)) × (List ((Int × Int × Int × Unit) × Int × Unit)) × Int) : Option (((List ((Int × Int × Int × Unit) × (Int × Int × Int × Int × Int × Int × Unit) × Unit)) × (List ((Int × Int × Int × Unit) × Int × Unit)) × Int) ⊕ (Unit ⊕ Int)) :=
  bif decide (v.2.2 < (v.2.1.length : Int)) then nthK v.2.1 v.2.2 fun e23 => (pledgeref18_Do v.1 0 e23).bind fun r24 => bif (r24.2.1 : Int) != 0 then some (Sum.inr (Sum.inr r24.2.1)) else some (Sum.inl (r24.1, (v.2.1, IntKind.i64.wrap (v.2.2 + 1)))) else some (Sum.inr (Sum.inl ()))
def pledgeref18_Try (x0 : List ((Int × Int × Int × Unit) × (Int × Int × Int × Int × Int × Int × Unit) × Unit)) (x1 : List ((Int × Int × Int × Unit) × Int × Unit)) : Option Int :=
  (iterL pledgeref18_Try.l1 loopN (x0, (x1, 0))).bind fun y25 => (match y25 with | .inl y26 => some 0 | .inr y27 => some y27)
def pledgeref18_Try.C : Ctx := { ty := tyT, sigs := fun i => bif Nat.beq i 56 then [pledgeref18_Do.sig] else [], n := 27, mp := mpT }
def pledgeref18_Try.Q : Cuts := { np := 0, loops := fun i => bif Nat.beq i 2 then some ({ env := [(0, .val (.slice kRow_106)), (1, .val (.slice kOp)), (5, .val (.int .i64))], objs := [] }, [(.exit 0, { env := [], objs := [] }), (.ret, { env := [(4, .val (.int .i64))], objs := [] })]) else none, seqs := fun i => none, splits := fun i => none }
def pledgeref18_Try.sig : Sig := { args := .tc (.val (.slice kRow_106)) (.tc (.val (.slice kOp)) .tn), objs := [], ret := .val (.int .i64), outs := [], F := fun x => pledgeref18_Try x.1.1 x.1.2.1 }
theorem pledgeref18_Try.eq : (fun x => body pledgeref18_Try.C pledgeref18_Try.Q Go.Proofs.Try.f29 pledgeref18_Try.sig.args pledgeref18_Try.sig.objs pledgeref18_Try.sig.ret pledgeref18_Try.sig.outs x) = pledgeref18_Try.sig.F := by
  kernel_rfl
set_option maxRecDepth 100000 in
theorem pledgeref18_Try.ctx : CtxOk Go.Proofs.Try.prog pledgeref18_Try.C := ⟨tyOk, mpOk, Nat.le_of_ble_eq_true (by kernel_rfl), fun f sg => fun h => sigs_if h (allS_cons pledgeref18_Do.ok allS_nil) ((fun h => by cases h))⟩
set_option maxRecDepth 100000 in
theorem pledgeref18_Try.ok : Sound Go.Proofs.Try.prog 29 pledgeref18_Try.sig := body_sound (C := pledgeref18_Try.C) (q := pledgeref18_Try.Q) (fn := Go.Proofs.Try.f29) (sg := pledgeref18_Try.sig) (n := 2) pledgeref18_Try.ctx follows Go.Proofs.Try.func29 (by kernel_rfl) (by kernel_rfl) (by kernel_rfl) (by kernel_rfl) (Nat.le_of_ble_eq_true (by kernel_rfl)) (by kernel_rfl) pledgeref18_Try.eq

def pledgelaw18_FundSets (x0 : List ((Int × Int × Int × Unit) × Int × Int × Int × Unit)) (x1 : Int × Int × Int × Int × Int × Int × Unit) (x2 : List ((Int × Int × Int × Unit) × Int × Unit)) : Option Bool :=
  chk (decide (0 ≤ (if 20 < (x0.length : Int) then 20 else (x0.length : Int))) && decide ((if 20 < (x0.length : Int) then 20 else (x0.length : Int)) ≤ (x0.length : Int))) (chk (decide (0 ≤ (if 40 < (x2.length : Int) then 40 else (x2.length : Int))) && decide ((if 40 < (x2.length : Int) then 40 else (x2.length : Int)) ≤ (x2.length : Int))) ((fund_New ((x0.take (if 20 < (x0.length : Int) then 20 else (x0.length : Int) : Int).toNat).drop 0)).bind fun r15 => (pledgeref18_New ((x0.take (if 20 < (x0.length : Int) then 20 else (x0.length : Int) : Int).toNat).drop 0)).bind fun r16 => (bif decide ((((x2.take (if 40 < (x2.length : Int) then 40 else (x2.length : Int) : Int).toNat).drop 0).length : Int) > 0) then nthK ((x2.take (if 40 < (x2.length : Int) then 40 else (x2.length : Int) : Int).toNat).drop 0) 0 fun e17 => some ((((x2.take (if 40 < (x2.length : Int) then 40 else (x2.length : Int) : Int).toNat).drop 0, ((), ((), (r16, ())))), (x1, (((), r15.2.1.2), (e17.1, (((), r15.2.2.1.2), (r15.2.2.2.1, ()))))))) else some ((((x2.take (if 40 < (x2.length : Int) then 40 else (x2.length : Int) : Int).toNat).drop 0, ((), ((), (r16, ())))), (x1, (((), r15.2.1.2), ((3, (0, (0, ()))), (((), r15.2.2.1.2), (r15.2.2.2.1, ()))))))) : Option (((List ((Int × Int × Int × Unit) × Int × Unit)) × Unit × Unit × (List ((Int × Int × Int × Unit) × (Int × Int × Int × Int × Int × Int × Unit) × Unit)) × Unit) × (Int × Int × Int × Int × Int × Int × Unit) × (Unit × Unit) × (Int × Int × Int × Unit) × (Unit × Unit) × (List ((Int × Int × Int × Unit) × Int × Int × Int × Int × Int × Int × Unit)) × Unit)).bind fun y18 => (pledgeref18_Set y18.1.2.2.2.1 y18.2.2.2.1 y18.2.1).bind fun r19 => (fund_Fund_Set () y18.2.2.2.1 y18.2.1 ((), y18.2.2.1.2) ((), y18.2.2.2.2.1.2) y18.2.2.2.2.2.1).bind fun r20 => bif (r20.1 : Int) != r19.2.1 then some false else (pledgelaw18_Same () r19.1 ((), r20.2.1.2) ((), r20.2.2.1.2) r20.2.2.2.1).bind fun r21 => bif (r21.1 : Int) == 0 then some false else (fund_Fund_Try () y18.1.1 ((), r21.2.1.2) ((), r21.2.2.1.2) r21.2.2.2.1).bind fun r22 => (pledgeref18_Try r19.1 y18.1.1).bind fun r23 => bif (r22.1 : Int) == r23 then (pledgelaw18_Same () r19.1 ((), r22.2.1.2) ((), r22.2.2.1.2) r22.2.2.2.1).bind fun r24 => bif (r24.1 : Int) == 1 then pledgelaw18_works.bind fun r25 => some r25 else some false else some false))
def pledgelaw18_FundSets.C : Ctx := { ty := tyT, sigs := fun i => bif Nat.beq i 20 then [fund_New.sig] else bif Nat.beq i 22 then [fund_Fund_Try.sig] else bif Nat.beq i 24 then [pledgelaw18_Same.sig] else bif Nat.beq i 25 then [pledgeref18_New.sig] else bif Nat.beq i 26 then [pledgelaw18_works.sig] else bif Nat.beq i 27 then [pledgeref18_Set.sig] else bif Nat.beq i 28 then [fund_Fund_Set.sig] else bif Nat.beq i 29 then [pledgeref18_Try.sig] else [], n := 69, mp := mpT }
def pledgelaw18_FundSets.Q : Cuts := { np := 0, loops := fun i => none, seqs := fun i => bif Nat.beq i 6 then some [(.normal, { env := [(2, .val (.slice kOp)), (4, .ptr 0), (7, .ptr 1), (8, .val (.slice kRow_106)), (9, .ptr 2)], objs := [.cell kField (.val kField), .cell (.cons (.ref 0) .unit) (.pair (.ptr 3) (.val .unit)), .cell kKey (.val kKey), .cell (.cons (.ref 1) .unit) (.pair (.mapr 4) (.val .unit)), .map kKey kField] })] else none, splits := fun i => none }
def pledgelaw18_FundSets.sig : Sig := { args := .tc (.val (.slice kDecl)) (.tc (.val kField) (.tc (.val (.slice kOp)) .tn)), objs := [], ret := .val .bool, outs := [], F := fun x => pledgelaw18_FundSets x.1.1 x.1.2.1 x.1.2.2.1 }
theorem pledgelaw18_FundSets.eq : (fun x => body pledgelaw18_FundSets.C pledgelaw18_FundSets.Q Go.Proofs.Try.f7 pledgelaw18_FundSets.sig.args pledgelaw18_FundSets.sig.objs pledgelaw18_FundSets.sig.ret pledgelaw18_FundSets.sig.outs x) = pledgelaw18_FundSets.sig.F := by
  kernel_rfl
set_option maxRecDepth 100000 in
theorem pledgelaw18_FundSets.ctx : CtxOk Go.Proofs.Try.prog pledgelaw18_FundSets.C := ⟨tyOk, mpOk, Nat.le_of_ble_eq_true (by kernel_rfl), fun f sg => fun h => sigs_if h (allS_cons fund_New.ok allS_nil) (fun h => sigs_if h (allS_cons fund_Fund_Try.ok allS_nil) (fun h => sigs_if h (allS_cons pledgelaw18_Same.ok allS_nil) (fun h => sigs_if h (allS_cons pledgeref18_New.ok allS_nil) (fun h => sigs_if h (allS_cons pledgelaw18_works.ok allS_nil) (fun h => sigs_if h (allS_cons pledgeref18_Set.ok allS_nil) (fun h => sigs_if h (allS_cons fund_Fund_Set.ok allS_nil) (fun h => sigs_if h (allS_cons pledgeref18_Try.ok allS_nil) ((fun h => by cases h)))))))))⟩
set_option maxRecDepth 100000 in
theorem pledgelaw18_FundSets.ok : Sound Go.Proofs.Try.prog 7 pledgelaw18_FundSets.sig := body_sound (C := pledgelaw18_FundSets.C) (q := pledgelaw18_FundSets.Q) (fn := Go.Proofs.Try.f7) (sg := pledgelaw18_FundSets.sig) (n := 3) pledgelaw18_FundSets.ctx follows Go.Proofs.Try.func7 (by kernel_rfl) (by kernel_rfl) (by kernel_rfl) (by kernel_rfl) (Nat.le_of_ble_eq_true (by kernel_rfl)) (by kernel_rfl) pledgelaw18_FundSets.eq

end Go.Proofs.F
