import Derived.Test.YtlnnghmfncjbiaaDCopy
import Derived.Test.YtlnnghmfncjbiaaProg
import Derived.KernelRfl
set_option linter.unusedVariables false
namespace Go.Proofs.F
open Go.Proofs.D
def kpart : K := .cons (.int .i64) (.cons .bool .unit)
def kwide : K := .cons (.int .i64) (.cons (.int .i64) .unit)
def kKey : K := .cons (.int .u8) (.cons (.int .u8) (.cons (.int .u8) .unit))
def kOp : K := .cons kKey (.cons (.int .i64) .unit)
def kMove : K := .cons (.int .i64) (.cons (.int .i64) kwide)
def kAct : K := .cons kKey kpart
def kAct_72 : K := .cons (.int .u8) (.cons kOp .unit)
def kField : K := .cons (.int .i64) (.cons (.int .i64) kMove)
def kDecl : K := .cons kKey (.cons (.int .i64) kwide)
def kRow_106 : K := .cons kKey (.cons kField .unit)
def tyL : List (Nat × K) := [(1, .ref 2), (2, .int .i64), (3, .int .i64), (4, .bool), (5, .int .u8), (23, kKey), (24, kKey), (45, .slice kKey), (47, .slice kDecl), (48, .slice kOp), (49, .ref 0), (52, .int .i64), (55, kOp), (56, kOp), (61, kField), (62, kField), (71, kAct_72), (72, kAct_72), (84, .ref 2), (85, .ref 2), (87, .ref 2), (88, .ref 0), (90, .cons (.ref 0) .unit), (91, .cons (.ref 0) .unit), (92, kDecl), (93, kDecl), (98, .ref 2), (100, .ref 2), (115, .ref 1), (116, .cons (.ref 1) .unit), (117, .cons (.ref 1) .unit), (120, .ref 0), (132, .slice (.int .i64)), (137, .ref 2), (139, kpart), (140, kpart), (155, .ref 2)]
def tyT (t : Nat) : Option K := lookK tyL t
def mpL : List (Nat × K × K) := [(115, kKey, kField)]
def mpT (t : Nat) : Option (K × K) := lookM mpL t
theorem tyOk : ∀ t c, tyT t = some c → TyOk Go.Proofs.Try.prog tyT t c := tyOk_of (l := tyL) (fun _ => rfl) (by kernel_rfl) (by kernel_rfl)
theorem mpOk : ∀ t k v, mpT t = some (k, v) → ∃ tk tv, Go.Proofs.Try.prog.underlying t = some (.map tk tv) ∧ tyT tk = some k ∧ tyT tv = some v ∧ k.flat = true := mpOk_of (l := mpL) (fun _ => rfl) (by kernel_rfl)
theorem follows : Go.Proofs.Try.prog.follows .mixedOrders = true := by kernel_rfl
def fund_Fund_all (x0 : Unit) : Option Unit :=
  some ()
def fund_Fund_all.C : Ctx := { ty := tyT, sigs := fun i => [], n := 9, mp := mpT }
def fund_Fund_all.Q : Cuts := { np := 0, loops := fun i => none, seqs := fun i => none, splits := fun i => none }
def fund_Fund_all.sig : Sig := { args := .tc (.nilr 0) .tn, objs := [], ret := .nilr 0, outs := [], F := fun x => fund_Fund_all x.1.1 }
theorem fund_Fund_all.eq : (fun x => body fund_Fund_all.C fund_Fund_all.Q Go.Proofs.Try.f44 fund_Fund_all.sig.args fund_Fund_all.sig.objs fund_Fund_all.sig.ret fund_Fund_all.sig.outs x) = fund_Fund_all.sig.F := by
  kernel_rfl
set_option maxRecDepth 100000 in
theorem fund_Fund_all.ctx : CtxOk Go.Proofs.Try.prog fund_Fund_all.C := ⟨tyOk, mpOk, Nat.le_of_ble_eq_true (by kernel_rfl), fun f sg => (fun h => by cases h)⟩
set_option maxRecDepth 100000 in
theorem fund_Fund_all.ok : Sound Go.Proofs.Try.prog 44 fund_Fund_all.sig := body_sound (C := fund_Fund_all.C) (q := fund_Fund_all.Q) (fn := Go.Proofs.Try.f44) (sg := fund_Fund_all.sig) (n := 1) fund_Fund_all.ctx follows Go.Proofs.Try.func44 (by kernel_rfl) (by kernel_rfl) (by kernel_rfl) (by kernel_rfl) (Nat.le_of_ble_eq_true (by kernel_rfl)) (by kernel_rfl) fund_Fund_all.eq

def table_Table_api_Field_Get (x0 : Unit) (x1 : Int × Int × Int × Unit) : Option ((Int × Int × Int × Int × Int × Int × Unit) × Bool × Unit) :=
  some ((0, (0, (0, (0, (0, (0, ())))))), (false, ()))
def table_Table_api_Field_Get.C : Ctx := { ty := tyT, sigs := fun i => [], n := 20, mp := mpT }
def table_Table_api_Field_Get.Q : Cuts := { np := 0, loops := fun i => none, seqs := fun i => none, splits := fun i => none }
def table_Table_api_Field_Get.sig : Sig := { args := .tc (.nilr 0) (.tc (.val kKey) .tn), objs := [], ret := .tup (.tc (.val kField) (.tc (.val .bool) .tn)), outs := [], F := fun x => table_Table_api_Field_Get x.1.1 x.1.2.1 }
theorem table_Table_api_Field_Get.eq : (fun x => body table_Table_api_Field_Get.C table_Table_api_Field_Get.Q Go.Proofs.Try.f57 table_Table_api_Field_Get.sig.args table_Table_api_Field_Get.sig.objs table_Table_api_Field_Get.sig.ret table_Table_api_Field_Get.sig.outs x) = table_Table_api_Field_Get.sig.F := by
  kernel_rfl
set_option maxRecDepth 100000 in
theorem table_Table_api_Field_Get.ctx : CtxOk Go.Proofs.Try.prog table_Table_api_Field_Get.C := ⟨tyOk, mpOk, Nat.le_of_ble_eq_true (by kernel_rfl), fun f sg => (fun h => by cases h)⟩
set_option maxRecDepth 100000 in
theorem table_Table_api_Field_Get.ok : Sound Go.Proofs.Try.prog 57 table_Table_api_Field_Get.sig := body_sound (C := table_Table_api_Field_Get.C) (q := table_Table_api_Field_Get.Q) (fn := Go.Proofs.Try.f57) (sg := table_Table_api_Field_Get.sig) (n := 2) table_Table_api_Field_Get.ctx follows Go.Proofs.Try.func57 (by kernel_rfl) (by kernel_rfl) (by kernel_rfl) (by kernel_rfl) (Nat.le_of_ble_eq_true (by kernel_rfl)) (by kernel_rfl) table_Table_api_Field_Get.eq

def fund_Fund_Get (x0 : Unit) (x1 : Int × Int × Int × Unit) : Option ((Int × Int × Int × Int × Int × Int × Unit) × Bool × Unit) :=
  (fund_Fund_all ()).bind fun r1 => (table_Table_api_Field_Get () x1).bind fun r2 => some (r2.1, (r2.2.1, ()))
def fund_Fund_Get.C : Ctx := { ty := tyT, sigs := fun i => bif Nat.beq i 44 then [fund_Fund_all.sig] else bif Nat.beq i 57 then [table_Table_api_Field_Get.sig] else [], n := 12, mp := mpT }
def fund_Fund_Get.Q : Cuts := { np := 0, loops := fun i => none, seqs := fun i => none, splits := fun i => none }
def fund_Fund_Get.sig : Sig := { args := .tc (.nilr 0) (.tc (.val kKey) .tn), objs := [], ret := .tup (.tc (.val kField) (.tc (.val .bool) .tn)), outs := [], F := fun x => fund_Fund_Get x.1.1 x.1.2.1 }
theorem fund_Fund_Get.eq : (fun x => body fund_Fund_Get.C fund_Fund_Get.Q Go.Proofs.Try.f30 fund_Fund_Get.sig.args fund_Fund_Get.sig.objs fund_Fund_Get.sig.ret fund_Fund_Get.sig.outs x) = fund_Fund_Get.sig.F := by
  kernel_rfl
set_option maxRecDepth 100000 in
theorem fund_Fund_Get.ctx : CtxOk Go.Proofs.Try.prog fund_Fund_Get.C := ⟨tyOk, mpOk, Nat.le_of_ble_eq_true (by kernel_rfl), fun f sg => fun h => sigs_if h (allS_cons fund_Fund_all.ok allS_nil) (fun h => sigs_if h (allS_cons table_Table_api_Field_Get.ok allS_nil) ((fun h => by cases h)))⟩
set_option maxRecDepth 100000 in
theorem fund_Fund_Get.ok : Sound Go.Proofs.Try.prog 30 fund_Fund_Get.sig := body_sound (C := fund_Fund_Get.C) (q := fund_Fund_Get.Q) (fn := Go.Proofs.Try.f30) (sg := fund_Fund_Get.sig) (n := 2) fund_Fund_Get.ctx follows Go.Proofs.Try.func30 (by kernel_rfl) (by kernel_rfl) (by kernel_rfl) (by kernel_rfl) (Nat.le_of_ble_eq_true (by kernel_rfl)) (by kernel_rfl) fund_Fund_Get.eq

def fund_by (x0 : Unit) (x1 : Int) : Option ((Unit × Unit × Unit) × Unit × Int × Unit) :=
  some (((), ((), ())), ((), (x1, ())))
def fund_by.C : Ctx := { ty := tyT, sigs := fun i => [], n := 6, mp := mpT }
def fund_by.Q : Cuts := { np := 0, loops := fun i => none, seqs := fun i => none, splits := fun i => none }
def fund_by.sig : Sig := { args := .tc (.clo 77 .tn) (.tc (.val (.int .i64)) .tn), objs := [], ret := .clo 71 (.tc (.ptr 0) (.tc (.ptr 1) .tn)), outs := [.cell (.ref 2) (.clo 77 .tn), .cell (.int .i64) (.val (.int .i64))], F := fun x => fund_by x.1.1 x.1.2.1 }
theorem fund_by.eq : (fun x => body fund_by.C fund_by.Q Go.Proofs.Try.f47 fund_by.sig.args fund_by.sig.objs fund_by.sig.ret fund_by.sig.outs x) = fund_by.sig.F := by
  kernel_rfl
set_option maxRecDepth 100000 in
theorem fund_by.ctx : CtxOk Go.Proofs.Try.prog fund_by.C := ⟨tyOk, mpOk, Nat.le_of_ble_eq_true (by kernel_rfl), fun f sg => (fun h => by cases h)⟩
set_option maxRecDepth 100000 in
theorem fund_by.ok : Sound Go.Proofs.Try.prog 47 fund_by.sig := body_sound (C := fund_by.C) (q := fund_by.Q) (fn := Go.Proofs.Try.f47) (sg := fund_by.sig) (n := 2) fund_by.ctx follows Go.Proofs.Try.func47 (by kernel_rfl) (by kernel_rfl) (by kernel_rfl) (by kernel_rfl) (Nat.le_of_ble_eq_true (by kernel_rfl)) (by kernel_rfl) fund_by.eq

def field_Good (x0 : Int × Int × Int × Int × Int × Int × Unit) : Option Bool :=
  bif decide (x0.1 ≤ x0.2.2.2.1) then bif decide (x0.2.2.2.1 ≤ (if x0.2.2.2.2.2.1 < x0.2.2.1 then x0.2.2.2.2.2.1 else x0.2.2.1)) then bif decide ((if x0.2.2.2.2.2.1 > x0.2.2.1 then x0.2.2.2.2.2.1 else x0.2.2.1) ≤ x0.2.2.2.2.1) then some (decide (x0.2.2.2.2.1 ≤ x0.2.1)) else some false else some false else some false
def field_Good.C : Ctx := { ty := tyT, sigs := fun i => [], n := 35, mp := mpT }
def field_Good.Q : Cuts := { np := 0, loops := fun i => none, seqs := fun i => none, splits := fun i => none }
def field_Good.sig : Sig := { args := .tc (.val kField) .tn, objs := [], ret := .val .bool, outs := [], F := fun x => field_Good x.1.1 }
theorem field_Good.eq : (fun x => body field_Good.C field_Good.Q Go.Proofs.Try.f55 field_Good.sig.args field_Good.sig.objs field_Good.sig.ret field_Good.sig.outs x) = field_Good.sig.F := by
  kernel_rfl
set_option maxRecDepth 100000 in
theorem field_Good.ctx : CtxOk Go.Proofs.Try.prog field_Good.C := ⟨tyOk, mpOk, Nat.le_of_ble_eq_true (by kernel_rfl), fun f sg => (fun h => by cases h)⟩
set_option maxRecDepth 100000 in
theorem field_Good.ok : Sound Go.Proofs.Try.prog 55 field_Good.sig := body_sound (C := field_Good.C) (q := field_Good.Q) (fn := Go.Proofs.Try.f55) (sg := field_Good.sig) (n := 1) field_Good.ctx follows Go.Proofs.Try.func55 (by kernel_rfl) (by kernel_rfl) (by kernel_rfl) (by kernel_rfl) (Nat.le_of_ble_eq_true (by kernel_rfl)) (by kernel_rfl) field_Good.eq

def field_wrong (x0 : Int × Int × Int × Int × Int × Int × Unit) (x1 : Int) : Option Int :=
  (field_Good x0).bind fun r4 => bif !r4 then some 12 else bif (x1 : Int) == 0 then some 1 else bif (x1 : Int) == (-9223372036854775808) then some 1 else some 0
def field_wrong.C : Ctx := { ty := tyT, sigs := fun i => bif Nat.beq i 55 then [field_Good.sig] else [], n := 16, mp := mpT }
def field_wrong.Q : Cuts := { np := 0, loops := fun i => none, seqs := fun i => none, splits := fun i => none }
def field_wrong.sig : Sig := { args := .tc (.val kField) (.tc (.val (.int .i64)) .tn), objs := [], ret := .val (.int .i64), outs := [], F := fun x => field_wrong x.1.1 x.1.2.1 }
theorem field_wrong.eq : (fun x => body field_wrong.C field_wrong.Q Go.Proofs.Try.f72 field_wrong.sig.args field_wrong.sig.objs field_wrong.sig.ret field_wrong.sig.outs x) = field_wrong.sig.F := by
  kernel_rfl
set_option maxRecDepth 100000 in
theorem field_wrong.ctx : CtxOk Go.Proofs.Try.prog field_wrong.C := ⟨tyOk, mpOk, Nat.le_of_ble_eq_true (by kernel_rfl), fun f sg => fun h => sigs_if h (allS_cons field_Good.ok allS_nil) ((fun h => by cases h))⟩
set_option maxRecDepth 100000 in
theorem field_wrong.ok : Sound Go.Proofs.Try.prog 72 field_wrong.sig := body_sound (C := field_wrong.C) (q := field_wrong.Q) (fn := Go.Proofs.Try.f72) (sg := field_wrong.sig) (n := 2) field_wrong.ctx follows Go.Proofs.Try.func72 (by kernel_rfl) (by kernel_rfl) (by kernel_rfl) (by kernel_rfl) (Nat.le_of_ble_eq_true (by kernel_rfl)) (by kernel_rfl) field_wrong.eq

def calc_Sub (x0 : Int) (x1 : Int) : Option (Int × Bool × Unit) :=
  bif decide ((bitsAnd .i64 (bitsXor .i64 x0 x1) (bitsXor .i64 x0 (IntKind.i64.wrap (x0 - x1)))) < 0) then some (0, (false, ())) else some (IntKind.i64.wrap (x0 - x1), (true, ()))
def calc_Sub.C : Ctx := { ty := tyT, sigs := fun i => [], n := 19, mp := mpT }
def calc_Sub.Q : Cuts := { np := 0, loops := fun i => none, seqs := fun i => none, splits := fun i => none }
def calc_Sub.sig : Sig := { args := .tc (.val (.int .i64)) (.tc (.val (.int .i64)) .tn), objs := [], ret := .tup (.tc (.val (.int .i64)) (.tc (.val .bool) .tn)), outs := [], F := fun x => calc_Sub x.1.1 x.1.2.1 }
theorem calc_Sub.eq : (fun x => body calc_Sub.C calc_Sub.Q Go.Proofs.Try.f107 calc_Sub.sig.args calc_Sub.sig.objs calc_Sub.sig.ret calc_Sub.sig.outs x) = calc_Sub.sig.F := by
  kernel_rfl
set_option maxRecDepth 100000 in
theorem calc_Sub.ctx : CtxOk Go.Proofs.Try.prog calc_Sub.C := ⟨tyOk, mpOk, Nat.le_of_ble_eq_true (by kernel_rfl), fun f sg => (fun h => by cases h)⟩
set_option maxRecDepth 100000 in
theorem calc_Sub.ok : Sound Go.Proofs.Try.prog 107 calc_Sub.sig := body_sound (C := calc_Sub.C) (q := calc_Sub.Q) (fn := Go.Proofs.Try.f107) (sg := calc_Sub.sig) (n := 2) calc_Sub.ctx follows Go.Proofs.Try.func107 (by kernel_rfl) (by kernel_rfl) (by kernel_rfl) (by kernel_rfl) (Nat.le_of_ble_eq_true (by kernel_rfl)) (by kernel_rfl) calc_Sub.eq

def field_part_less (x0 : Int × Bool × Unit) (x1 : Int) : Option (Int × Bool × Unit) :=
  (calc_Sub x0.1 x1).bind fun r5 => bif r5.2.1 then some (r5.1, (x0.2.1, ())) else some (r5.1, (false, ()))
def field_part_less.C : Ctx := { ty := tyT, sigs := fun i => bif Nat.beq i 107 then [calc_Sub.sig] else [], n := 21, mp := mpT }
def field_part_less.Q : Cuts := { np := 0, loops := fun i => none, seqs := fun i => none, splits := fun i => none }
def field_part_less.sig : Sig := { args := .tc (.val kpart) (.tc (.val (.int .i64)) .tn), objs := [], ret := .val kpart, outs := [], F := fun x => field_part_less x.1.1 x.1.2.1 }
theorem field_part_less.eq : (fun x => body field_part_less.C field_part_less.Q Go.Proofs.Try.f91 field_part_less.sig.args field_part_less.sig.objs field_part_less.sig.ret field_part_less.sig.outs x) = field_part_less.sig.F := by
  kernel_rfl
set_option maxRecDepth 100000 in
theorem field_part_less.ctx : CtxOk Go.Proofs.Try.prog field_part_less.C := ⟨tyOk, mpOk, Nat.le_of_ble_eq_true (by kernel_rfl), fun f sg => fun h => sigs_if h (allS_cons calc_Sub.ok allS_nil) ((fun h => by cases h))⟩
set_option maxRecDepth 100000 in
theorem field_part_less.ok : Sound Go.Proofs.Try.prog 91 field_part_less.sig := body_sound (C := field_part_less.C) (q := field_part_less.Q) (fn := Go.Proofs.Try.f91) (sg := field_part_less.sig) (n := 2) field_part_less.ctx follows Go.Proofs.Try.func91 (by kernel_rfl) (by kernel_rfl) (by kernel_rfl) (by kernel_rfl) (Nat.le_of_ble_eq_true (by kernel_rfl)) (by kernel_rfl) field_part_less.eq

def field_part_still (x0 : Int × Bool × Unit) (x1 : Int) : Option (Int × Bool × Unit) :=
  some x0
def field_part_still.C : Ctx := { ty := tyT, sigs := fun i => [], n := 6, mp := mpT }
def field_part_still.Q : Cuts := { np := 0, loops := fun i => none, seqs := fun i => none, splits := fun i => none }
def field_part_still.sig : Sig := { args := .tc (.val kpart) (.tc (.val (.int .i64)) .tn), objs := [], ret := .val kpart, outs := [], F := fun x => field_part_still x.1.1 x.1.2.1 }
theorem field_part_still.eq : (fun x => body field_part_still.C field_part_still.Q Go.Proofs.Try.f92 field_part_still.sig.args field_part_still.sig.objs field_part_still.sig.ret field_part_still.sig.outs x) = field_part_still.sig.F := by
  kernel_rfl
set_option maxRecDepth 100000 in
theorem field_part_still.ctx : CtxOk Go.Proofs.Try.prog field_part_still.C := ⟨tyOk, mpOk, Nat.le_of_ble_eq_true (by kernel_rfl), fun f sg => (fun h => by cases h)⟩
set_option maxRecDepth 100000 in
theorem field_part_still.ok : Sound Go.Proofs.Try.prog 92 field_part_still.sig := body_sound (C := field_part_still.C) (q := field_part_still.Q) (fn := Go.Proofs.Try.f92) (sg := field_part_still.sig) (n := 2) field_part_still.ctx follows Go.Proofs.Try.func92 (by kernel_rfl) (by kernel_rfl) (by kernel_rfl) (by kernel_rfl) (Nat.le_of_ble_eq_true (by kernel_rfl)) (by kernel_rfl) field_part_still.eq

def field_move (x0 : Int × Int × Int × Int × Int × Int × Unit) (x1 : Int) (x2 : Unit) (x3 : Unit) (x4 : Unit) (x5 : Unit) : Option ((Int × Int × Int × Int × Int × Int × Unit) × Int × Unit) :=
  (field_wrong x0 x1).bind fun r4 => bif (r4 : Int) != 0 then some (x0, (r4, ())) else bif decide (x1 < 0) then (field_part_less (x0.2.2.2.2.2.1, (true, ())) x1).bind fun r5 => (field_part_still (x0.2.2.1, (true, ())) x1).bind fun r6 => (field_part_less (x0.2.2.2.1, (true, ())) x1).bind fun r7 => (field_part_still (x0.2.2.2.2.1, (true, ())) x1).bind fun r8 => bif !r5.2.1 then some (x0, (12, ())) else bif !r6.2.1 then some (x0, (12, ())) else bif !r7.2.1 then some (x0, (12, ())) else bif !r8.2.1 then some (x0, (12, ())) else (field_Good (x0.1, (x0.2.1, (r6.1, (r7.1, (r8.1, (r5.1, ()))))))).bind fun r9 => bif !r9 then some (x0, (12, ())) else some ((x0.1, (x0.2.1, (r6.1, (r7.1, (r8.1, (r5.1, ())))))), (0, ())) else (field_part_less (x0.2.2.2.2.2.1, (true, ())) x1).bind fun r10 => (field_part_still (x0.2.2.1, (true, ())) x1).bind fun r11 => (field_part_still (x0.2.2.2.1, (true, ())) x1).bind fun r12 => (field_part_less (x0.2.2.2.2.1, (true, ())) x1).bind fun r13 => bif !r10.2.1 then some (x0, (12, ())) else bif !r11.2.1 then some (x0, (12, ())) else bif !r12.2.1 then some (x0, (12, ())) else bif !r13.2.1 then some (x0, (12, ())) else (field_Good (x0.1, (x0.2.1, (r11.1, (r12.1, (r13.1, (r10.1, ()))))))).bind fun r14 => bif !r14 then some (x0, (12, ())) else some ((x0.1, (x0.2.1, (r11.1, (r12.1, (r13.1, (r10.1, ())))))), (0, ()))
def field_move.C : Ctx := { ty := tyT, sigs := fun i => bif Nat.beq i 55 then [field_Good.sig] else bif Nat.beq i 72 then [field_wrong.sig] else bif Nat.beq i 91 then [field_part_less.sig] else bif Nat.beq i 92 then [field_part_still.sig] else [], n := 93, mp := mpT }
def field_move.Q : Cuts := { np := 0, loops := fun i => none, seqs := fun i => none, splits := fun i => none }
def field_move.sig : Sig := { args := .tc (.val kField) (.tc (.val (.int .i64)) (.tc (.clo 91 .tn) (.tc (.clo 92 .tn) (.tc (.clo 92 .tn) (.tc (.clo 91 .tn) .tn))))), objs := [], ret := .tup (.tc (.val kField) (.tc (.val (.int .i64)) .tn)), outs := [], F := fun x => field_move x.1.1 x.1.2.1 x.1.2.2.1 x.1.2.2.2.1 x.1.2.2.2.2.1 x.1.2.2.2.2.2.1 }
theorem field_move.eq : (fun x => body field_move.C field_move.Q Go.Proofs.Try.f90 field_move.sig.args field_move.sig.objs field_move.sig.ret field_move.sig.outs x) = field_move.sig.F := by
  kernel_rfl
set_option maxRecDepth 100000 in
theorem field_move.ctx : CtxOk Go.Proofs.Try.prog field_move.C := ⟨tyOk, mpOk, Nat.le_of_ble_eq_true (by kernel_rfl), fun f sg => fun h => sigs_if h (allS_cons field_Good.ok allS_nil) (fun h => sigs_if h (allS_cons field_wrong.ok allS_nil) (fun h => sigs_if h (allS_cons field_part_less.ok allS_nil) (fun h => sigs_if h (allS_cons field_part_still.ok allS_nil) ((fun h => by cases h)))))⟩
set_option maxRecDepth 100000 in
theorem field_move.ok : Sound Go.Proofs.Try.prog 90 field_move.sig := body_sound (C := field_move.C) (q := field_move.Q) (fn := Go.Proofs.Try.f90) (sg := field_move.sig) (n := 6) field_move.ctx follows Go.Proofs.Try.func90 (by kernel_rfl) (by kernel_rfl) (by kernel_rfl) (by kernel_rfl) (Nat.le_of_ble_eq_true (by kernel_rfl)) (by kernel_rfl) field_move.eq

def field_Undo (x0 : Int × Int × Int × Int × Int × Int × Unit) (x1 : Int) : Option ((Int × Int × Int × Int × Int × Int × Unit) × Int × Unit) :=
  (field_move x0 x1 () () () ()).bind fun r4 => some (r4.1, (r4.2.1, ()))
def field_Undo.C : Ctx := { ty := tyT, sigs := fun i => bif Nat.beq i 90 then [field_move.sig] else [], n := 11, mp := mpT }
def field_Undo.Q : Cuts := { np := 0, loops := fun i => none, seqs := fun i => none, splits := fun i => none }
def field_Undo.sig : Sig := { args := .tc (.val kField) (.tc (.val (.int .i64)) .tn), objs := [], ret := .tup (.tc (.val kField) (.tc (.val (.int .i64)) .tn)), outs := [], F := fun x => field_Undo x.1.1 x.1.2.1 }
theorem field_Undo.eq : (fun x => body field_Undo.C field_Undo.Q Go.Proofs.Try.f77 field_Undo.sig.args field_Undo.sig.objs field_Undo.sig.ret field_Undo.sig.outs x) = field_Undo.sig.F := by
  kernel_rfl
set_option maxRecDepth 100000 in
theorem field_Undo.ctx : CtxOk Go.Proofs.Try.prog field_Undo.C := ⟨tyOk, mpOk, Nat.le_of_ble_eq_true (by kernel_rfl), fun f sg => fun h => sigs_if h (allS_cons field_move.ok allS_nil) ((fun h => by cases h))⟩
set_option maxRecDepth 100000 in
theorem field_Undo.ok : Sound Go.Proofs.Try.prog 77 field_Undo.sig := body_sound (C := field_Undo.C) (q := field_Undo.Q) (fn := Go.Proofs.Try.f77) (sg := field_Undo.sig) (n := 2) field_Undo.ctx follows Go.Proofs.Try.func77 (by kernel_rfl) (by kernel_rfl) (by kernel_rfl) (by kernel_rfl) (Nat.le_of_ble_eq_true (by kernel_rfl)) (by kernel_rfl) field_Undo.eq

def fund_by_1 (x0 : Int × Int × Int × Int × Int × Int × Unit) (x1 : Unit) (x2 : Unit) (o0 : Unit) (o1 : Int) : Option (((Int × Int × Int × Int × Int × Int × Unit) × Int × Unit) × Unit × Int × Unit) :=
  (field_Undo x0 o1).bind fun r4 => some ((r4.1, (r4.2.1, ())), ((), (o1, ())))
def fund_by_1.C : Ctx := { ty := tyT, sigs := fun i => bif Nat.beq i 77 then [field_Undo.sig] else [], n := 12, mp := mpT }
def fund_by_1.Q : Cuts := { np := 2, loops := fun i => none, seqs := fun i => none, splits := fun i => none }
def fund_by_1.sig : Sig := { args := .tc (.val kField) (.tc (.ptr 0) (.tc (.ptr 1) .tn)), objs := [.cell (.ref 2) (.clo 77 .tn), .cell (.int .i64) (.val (.int .i64))], ret := .tup (.tc (.val kField) (.tc (.val (.int .i64)) .tn)), outs := [.cell (.ref 2) (.clo 77 .tn), .cell (.int .i64) (.val (.int .i64))], F := fun x => fund_by_1 x.1.1 x.1.2.1 x.1.2.2.1 x.2.1 x.2.2.1 }
theorem fund_by_1.eq : (fun x => body fund_by_1.C fund_by_1.Q Go.Proofs.Try.f71 fund_by_1.sig.args fund_by_1.sig.objs fund_by_1.sig.ret fund_by_1.sig.outs x) = fund_by_1.sig.F := by
  kernel_rfl
set_option maxRecDepth 100000 in
theorem fund_by_1.ctx : CtxOk Go.Proofs.Try.prog fund_by_1.C := ⟨tyOk, mpOk, Nat.le_of_ble_eq_true (by kernel_rfl), fun f sg => fun h => sigs_if h (allS_cons field_Undo.ok allS_nil) ((fun h => by cases h))⟩
set_option maxRecDepth 100000 in
theorem fund_by_1.ok : Sound Go.Proofs.Try.prog 71 fund_by_1.sig := body_sound (C := fund_by_1.C) (q := fund_by_1.Q) (fn := Go.Proofs.Try.f71) (sg := fund_by_1.sig) (n := 3) fund_by_1.ctx follows Go.Proofs.Try.func71 (by kernel_rfl) (by kernel_rfl) (by kernel_rfl) (by kernel_rfl) (Nat.le_of_ble_eq_true (by kernel_rfl)) (by kernel_rfl) fund_by_1.eq

def fund_Fund_change (x0 : Unit) (x1 : Int × Int × Int × Unit) (x2 : Unit × Unit × Unit) (o0 : Unit) (o1 : Int) : Option (Int × Unit × Int × Unit) :=
  (fund_Fund_Get () x1).bind fun r3 => bif !r3.2.1 then some (10, ((), (o1, ()))) else (fund_by_1 r3.1 () () () o1).bind fun r4 => bif (r4.1.2.1 : Int) == 0 then none else some (r4.1.2.1, ((), (r4.2.2.1, ())))
def fund_Fund_change.C : Ctx := { ty := tyT, sigs := fun i => bif Nat.beq i 30 then [fund_Fund_Get.sig] else bif Nat.beq i 71 then [fund_by_1.sig] else [], n := 35, mp := mpT }
def fund_Fund_change.Q : Cuts := { np := 2, loops := fun i => none, seqs := fun i => none, splits := fun i => none }
def fund_Fund_change.sig : Sig := { args := .tc (.nilr 0) (.tc (.val kKey) (.tc (.clo 71 (.tc (.ptr 0) (.tc (.ptr 1) .tn))) .tn)), objs := [.cell (.ref 2) (.clo 77 .tn), .cell (.int .i64) (.val (.int .i64))], ret := .val (.int .i64), outs := [.cell (.ref 2) (.clo 77 .tn), .cell (.int .i64) (.val (.int .i64))], F := fun x => fund_Fund_change x.1.1 x.1.2.1 x.1.2.2.1 x.2.1 x.2.2.1 }
theorem fund_Fund_change.eq : (fun x => body fund_Fund_change.C fund_Fund_change.Q Go.Proofs.Try.f46 fund_Fund_change.sig.args fund_Fund_change.sig.objs fund_Fund_change.sig.ret fund_Fund_change.sig.outs x) = fund_Fund_change.sig.F := by
  kernel_rfl
set_option maxRecDepth 100000 in
theorem fund_Fund_change.ctx : CtxOk Go.Proofs.Try.prog fund_Fund_change.C := ⟨tyOk, mpOk, Nat.le_of_ble_eq_true (by kernel_rfl), fun f sg => fun h => sigs_if h (allS_cons fund_Fund_Get.ok allS_nil) (fun h => sigs_if h (allS_cons fund_by_1.ok allS_nil) ((fun h => by cases h)))⟩
set_option maxRecDepth 100000 in
theorem fund_Fund_change.ok : Sound Go.Proofs.Try.prog 46 fund_Fund_change.sig := body_sound (C := fund_Fund_change.C) (q := fund_Fund_change.Q) (fn := Go.Proofs.Try.f46) (sg := fund_Fund_change.sig) (n := 3) fund_Fund_change.ctx follows Go.Proofs.Try.func46 (by kernel_rfl) (by kernel_rfl) (by kernel_rfl) (by kernel_rfl) (Nat.le_of_ble_eq_true (by kernel_rfl)) (by kernel_rfl) fund_Fund_change.eq

def fund_Fund_Undo (x0 : Unit) (x1 : (Int × Int × Int × Unit) × Int × Unit) : Option Int :=
  (fund_by () x1.2.1).bind fun r2 => (fund_Fund_change () x1.1 ((), ((), ())) () r2.2.2.1).bind fun r3 => some r3.1
def fund_Fund_Undo.C : Ctx := { ty := tyT, sigs := fun i => bif Nat.beq i 46 then [fund_Fund_change.sig] else bif Nat.beq i 47 then [fund_by.sig] else [], n := 12, mp := mpT }
def fund_Fund_Undo.Q : Cuts := { np := 0, loops := fun i => none, seqs := fun i => none, splits := fun i => none }
def fund_Fund_Undo.sig : Sig := { args := .tc (.nilr 0) (.tc (.val kOp) .tn), objs := [], ret := .val (.int .i64), outs := [], F := fun x => fund_Fund_Undo x.1.1 x.1.2.1 }
theorem fund_Fund_Undo.eq : (fun x => body fund_Fund_Undo.C fund_Fund_Undo.Q Go.Proofs.Try.f58 fund_Fund_Undo.sig.args fund_Fund_Undo.sig.objs fund_Fund_Undo.sig.ret fund_Fund_Undo.sig.outs x) = fund_Fund_Undo.sig.F := by
  kernel_rfl
set_option maxRecDepth 100000 in
theorem fund_Fund_Undo.ctx : CtxOk Go.Proofs.Try.prog fund_Fund_Undo.C := ⟨tyOk, mpOk, Nat.le_of_ble_eq_true (by kernel_rfl), fun f sg => fun h => sigs_if h (allS_cons fund_Fund_change.ok allS_nil) (fun h => sigs_if h (allS_cons fund_by.ok allS_nil) ((fun h => by cases h)))⟩
set_option maxRecDepth 100000 in
theorem fund_Fund_Undo.ok : Sound Go.Proofs.Try.prog 58 fund_Fund_Undo.sig := body_sound (C := fund_Fund_Undo.C) (q := fund_Fund_Undo.Q) (fn := Go.Proofs.Try.f58) (sg := fund_Fund_Undo.sig) (n := 2) fund_Fund_Undo.ctx follows Go.Proofs.Try.func58 (by kernel_rfl) (by kernel_rfl) (by kernel_rfl) (by kernel_rfl) (Nat.le_of_ble_eq_true (by kernel_rfl)) (by kernel_rfl) fund_Fund_Undo.eq

def fund_by_v2 (x0 : Unit) (x1 : Int) : Option ((Unit × Unit × Unit) × Unit × Int × Unit) :=
  some (((), ((), ())), ((), (x1, ())))
def fund_by_v2.C : Ctx := { ty := tyT, sigs := fun i => [], n := 6, mp := mpT }
def fund_by_v2.Q : Cuts := { np := 0, loops := fun i => none, seqs := fun i => none, splits := fun i => none }
def fund_by_v2.sig : Sig := { args := .tc (.clo 78 .tn) (.tc (.val (.int .i64)) .tn), objs := [], ret := .clo 71 (.tc (.ptr 0) (.tc (.ptr 1) .tn)), outs := [.cell (.ref 2) (.clo 78 .tn), .cell (.int .i64) (.val (.int .i64))], F := fun x => fund_by_v2 x.1.1 x.1.2.1 }
theorem fund_by_v2.eq : (fun x => body fund_by_v2.C fund_by_v2.Q Go.Proofs.Try.f47 fund_by_v2.sig.args fund_by_v2.sig.objs fund_by_v2.sig.ret fund_by_v2.sig.outs x) = fund_by_v2.sig.F := by
  kernel_rfl
set_option maxRecDepth 100000 in
theorem fund_by_v2.ctx : CtxOk Go.Proofs.Try.prog fund_by_v2.C := ⟨tyOk, mpOk, Nat.le_of_ble_eq_true (by kernel_rfl), fun f sg => (fun h => by cases h)⟩
set_option maxRecDepth 100000 in
theorem fund_by_v2.ok : Sound Go.Proofs.Try.prog 47 fund_by_v2.sig := body_sound (C := fund_by_v2.C) (q := fund_by_v2.Q) (fn := Go.Proofs.Try.f47) (sg := fund_by_v2.sig) (n := 2) fund_by_v2.ctx follows Go.Proofs.Try.func47 (by kernel_rfl) (by kernel_rfl) (by kernel_rfl) (by kernel_rfl) (Nat.le_of_ble_eq_true (by kernel_rfl)) (by kernel_rfl) fund_by_v2.eq

def calc_Add (x0 : Int) (x1 : Int) : Option (Int × Bool × Unit) :=
  bif decide ((bitsAnd .i64 (bitsXor .i64 x0 (IntKind.i64.wrap (x0 + x1))) (bitsXor .i64 x1 (IntKind.i64.wrap (x0 + x1)))) < 0) then some (0, (false, ())) else some (IntKind.i64.wrap (x0 + x1), (true, ()))
def calc_Add.C : Ctx := { ty := tyT, sigs := fun i => [], n := 19, mp := mpT }
def calc_Add.Q : Cuts := { np := 0, loops := fun i => none, seqs := fun i => none, splits := fun i => none }
def calc_Add.sig : Sig := { args := .tc (.val (.int .i64)) (.tc (.val (.int .i64)) .tn), objs := [], ret := .tup (.tc (.val (.int .i64)) (.tc (.val .bool) .tn)), outs := [], F := fun x => calc_Add x.1.1 x.1.2.1 }
theorem calc_Add.eq : (fun x => body calc_Add.C calc_Add.Q Go.Proofs.Try.f73 calc_Add.sig.args calc_Add.sig.objs calc_Add.sig.ret calc_Add.sig.outs x) = calc_Add.sig.F := by
  kernel_rfl
set_option maxRecDepth 100000 in
theorem calc_Add.ctx : CtxOk Go.Proofs.Try.prog calc_Add.C := ⟨tyOk, mpOk, Nat.le_of_ble_eq_true (by kernel_rfl), fun f sg => (fun h => by cases h)⟩
set_option maxRecDepth 100000 in
theorem calc_Add.ok : Sound Go.Proofs.Try.prog 73 calc_Add.sig := body_sound (C := calc_Add.C) (q := calc_Add.Q) (fn := Go.Proofs.Try.f73) (sg := calc_Add.sig) (n := 2) calc_Add.ctx follows Go.Proofs.Try.func73 (by kernel_rfl) (by kernel_rfl) (by kernel_rfl) (by kernel_rfl) (Nat.le_of_ble_eq_true (by kernel_rfl)) (by kernel_rfl) calc_Add.eq

def field_part_more (x0 : Int × Bool × Unit) (x1 : Int) : Option (Int × Bool × Unit) :=
  (calc_Add x0.1 x1).bind fun r9 => bif r9.2.1 then some (r9.1, (x0.2.1, ())) else some (r9.1, (false, ()))
def field_part_more.C : Ctx := { ty := tyT, sigs := fun i => bif Nat.beq i 73 then [calc_Add.sig] else [], n := 21, mp := mpT }
def field_part_more.Q : Cuts := { np := 0, loops := fun i => none, seqs := fun i => none, splits := fun i => none }
def field_part_more.sig : Sig := { args := .tc (.val kpart) (.tc (.val (.int .i64)) .tn), objs := [], ret := .val kpart, outs := [], F := fun x => field_part_more x.1.1 x.1.2.1 }
theorem field_part_more.eq : (fun x => body field_part_more.C field_part_more.Q Go.Proofs.Try.f93 field_part_more.sig.args field_part_more.sig.objs field_part_more.sig.ret field_part_more.sig.outs x) = field_part_more.sig.F := by
  kernel_rfl
set_option maxRecDepth 100000 in
theorem field_part_more.ctx : CtxOk Go.Proofs.Try.prog field_part_more.C := ⟨tyOk, mpOk, Nat.le_of_ble_eq_true (by kernel_rfl), fun f sg => fun h => sigs_if h (allS_cons calc_Add.ok allS_nil) ((fun h => by cases h))⟩
set_option maxRecDepth 100000 in
theorem field_part_more.ok : Sound Go.Proofs.Try.prog 93 field_part_more.sig := body_sound (C := field_part_more.C) (q := field_part_more.Q) (fn := Go.Proofs.Try.f93) (sg := field_part_more.sig) (n := 2) field_part_more.ctx follows Go.Proofs.Try.func93 (by kernel_rfl) (by kernel_rfl) (by kernel_rfl) (by kernel_rfl) (Nat.le_of_ble_eq_true (by kernel_rfl)) (by kernel_rfl) field_part_more.eq

def field_move_v2 (x0 : Int × Int × Int × Int × Int × Int × Unit) (x1 : Int) (x2 : Unit) (x3 : Unit) (x4 : Unit) (x5 : Unit) : Option ((Int × Int × Int × Int × Int × Int × Unit) × Int × Unit) :=
  (field_wrong x0 x1).bind fun r7 => bif (r7 : Int) != 0 then some (x0, (r7, ())) else bif decide (x1 < 0) then (field_part_still (x0.2.2.2.2.2.1, (true, ())) x1).bind fun r8 => (field_part_more (x0.2.2.1, (true, ())) x1).bind fun r9 => (field_part_still (x0.2.2.2.1, (true, ())) x1).bind fun r10 => (field_part_more (x0.2.2.2.2.1, (true, ())) x1).bind fun r11 => bif !r8.2.1 then some (x0, (12, ())) else bif !r9.2.1 then some (x0, (12, ())) else bif !r10.2.1 then some (x0, (12, ())) else bif !r11.2.1 then some (x0, (12, ())) else (field_Good (x0.1, (x0.2.1, (r9.1, (r10.1, (r11.1, (r8.1, ()))))))).bind fun r12 => bif !r12 then some (x0, (12, ())) else some ((x0.1, (x0.2.1, (r9.1, (r10.1, (r11.1, (r8.1, ())))))), (0, ())) else (field_part_still (x0.2.2.2.2.2.1, (true, ())) x1).bind fun r13 => (field_part_more (x0.2.2.1, (true, ())) x1).bind fun r14 => (field_part_more (x0.2.2.2.1, (true, ())) x1).bind fun r15 => (field_part_still (x0.2.2.2.2.1, (true, ())) x1).bind fun r16 => bif !r13.2.1 then some (x0, (12, ())) else bif !r14.2.1 then some (x0, (12, ())) else bif !r15.2.1 then some (x0, (12, ())) else bif !r16.2.1 then some (x0, (12, ())) else (field_Good (x0.1, (x0.2.1, (r14.1, (r15.1, (r16.1, (r13.1, ()))))))).bind fun r17 => bif !r17 then some (x0, (12, ())) else some ((x0.1, (x0.2.1, (r14.1, (r15.1, (r16.1, (r13.1, ())))))), (0, ()))
def field_move_v2.C : Ctx := { ty := tyT, sigs := fun i => bif Nat.beq i 55 then [field_Good.sig] else bif Nat.beq i 72 then [field_wrong.sig] else bif Nat.beq i 92 then [field_part_still.sig] else bif Nat.beq i 93 then [field_part_more.sig] else [], n := 93, mp := mpT }
def field_move_v2.Q : Cuts := { np := 0, loops := fun i => none, seqs := fun i => none, splits := fun i => none }
def field_move_v2.sig : Sig := { args := .tc (.val kField) (.tc (.val (.int .i64)) (.tc (.clo 92 .tn) (.tc (.clo 93 .tn) (.tc (.clo 93 .tn) (.tc (.clo 92 .tn) .tn))))), objs := [], ret := .tup (.tc (.val kField) (.tc (.val (.int .i64)) .tn)), outs := [], F := fun x => field_move_v2 x.1.1 x.1.2.1 x.1.2.2.1 x.1.2.2.2.1 x.1.2.2.2.2.1 x.1.2.2.2.2.2.1 }
theorem field_move_v2.eq : (fun x => body field_move_v2.C field_move_v2.Q Go.Proofs.Try.f90 field_move_v2.sig.args field_move_v2.sig.objs field_move_v2.sig.ret field_move_v2.sig.outs x) = field_move_v2.sig.F := by
  kernel_rfl
set_option maxRecDepth 100000 in
theorem field_move_v2.ctx : CtxOk Go.Proofs.Try.prog field_move_v2.C := ⟨tyOk, mpOk, Nat.le_of_ble_eq_true (by kernel_rfl), fun f sg => fun h => sigs_if h (allS_cons field_Good.ok allS_nil) (fun h => sigs_if h (allS_cons field_wrong.ok allS_nil) (fun h => sigs_if h (allS_cons field_part_still.ok allS_nil) (fun h => sigs_if h (allS_cons field_part_more.ok allS_nil) ((fun h => by cases h)))))⟩
set_option maxRecDepth 100000 in
theorem field_move_v2.ok : Sound Go.Proofs.Try.prog 90 field_move_v2.sig := body_sound (C := field_move_v2.C) (q := field_move_v2.Q) (fn := Go.Proofs.Try.f90) (sg := field_move_v2.sig) (n := 6) field_move_v2.ctx follows Go.Proofs.Try.func90 (by kernel_rfl) (by kernel_rfl) (by kernel_rfl) (by kernel_rfl) (Nat.le_of_ble_eq_true (by kernel_rfl)) (by kernel_rfl) field_move_v2.eq

def field_Settle (x0 : Int × Int × Int × Int × Int × Int × Unit) (x1 : Int) : Option ((Int × Int × Int × Int × Int × Int × Unit) × Int × Unit) :=
  (field_move_v2 x0 x1 () () () ()).bind fun r7 => some (r7.1, (r7.2.1, ()))
def field_Settle.C : Ctx := { ty := tyT, sigs := fun i => bif Nat.beq i 90 then [field_move_v2.sig] else [], n := 11, mp := mpT }
def field_Settle.Q : Cuts := { np := 0, loops := fun i => none, seqs := fun i => none, splits := fun i => none }
def field_Settle.sig : Sig := { args := .tc (.val kField) (.tc (.val (.int .i64)) .tn), objs := [], ret := .tup (.tc (.val kField) (.tc (.val (.int .i64)) .tn)), outs := [], F := fun x => field_Settle x.1.1 x.1.2.1 }
theorem field_Settle.eq : (fun x => body field_Settle.C field_Settle.Q Go.Proofs.Try.f78 field_Settle.sig.args field_Settle.sig.objs field_Settle.sig.ret field_Settle.sig.outs x) = field_Settle.sig.F := by
  kernel_rfl
set_option maxRecDepth 100000 in
theorem field_Settle.ctx : CtxOk Go.Proofs.Try.prog field_Settle.C := ⟨tyOk, mpOk, Nat.le_of_ble_eq_true (by kernel_rfl), fun f sg => fun h => sigs_if h (allS_cons field_move_v2.ok allS_nil) ((fun h => by cases h))⟩
set_option maxRecDepth 100000 in
theorem field_Settle.ok : Sound Go.Proofs.Try.prog 78 field_Settle.sig := body_sound (C := field_Settle.C) (q := field_Settle.Q) (fn := Go.Proofs.Try.f78) (sg := field_Settle.sig) (n := 2) field_Settle.ctx follows Go.Proofs.Try.func78 (by kernel_rfl) (by kernel_rfl) (by kernel_rfl) (by kernel_rfl) (Nat.le_of_ble_eq_true (by kernel_rfl)) (by kernel_rfl) field_Settle.eq

def fund_by_1_v2 (x0 : Int × Int × Int × Int × Int × Int × Unit) (x1 : Unit) (x2 : Unit) (o0 : Unit) (o1 : Int) : Option (((Int × Int × Int × Int × Int × Int × Unit) × Int × Unit) × Unit × Int × Unit) :=
  (field_Settle x0 o1).bind fun r7 => some ((r7.1, (r7.2.1, ())), ((), (o1, ())))
def fund_by_1_v2.C : Ctx := { ty := tyT, sigs := fun i => bif Nat.beq i 78 then [field_Settle.sig] else [], n := 12, mp := mpT }
def fund_by_1_v2.Q : Cuts := { np := 2, loops := fun i => none, seqs := fun i => none, splits := fun i => none }
def fund_by_1_v2.sig : Sig := { args := .tc (.val kField) (.tc (.ptr 0) (.tc (.ptr 1) .tn)), objs := [.cell (.ref 2) (.clo 78 .tn), .cell (.int .i64) (.val (.int .i64))], ret := .tup (.tc (.val kField) (.tc (.val (.int .i64)) .tn)), outs := [.cell (.ref 2) (.clo 78 .tn), .cell (.int .i64) (.val (.int .i64))], F := fun x => fund_by_1_v2 x.1.1 x.1.2.1 x.1.2.2.1 x.2.1 x.2.2.1 }
theorem fund_by_1_v2.eq : (fun x => body fund_by_1_v2.C fund_by_1_v2.Q Go.Proofs.Try.f71 fund_by_1_v2.sig.args fund_by_1_v2.sig.objs fund_by_1_v2.sig.ret fund_by_1_v2.sig.outs x) = fund_by_1_v2.sig.F := by
  kernel_rfl
set_option maxRecDepth 100000 in
theorem fund_by_1_v2.ctx : CtxOk Go.Proofs.Try.prog fund_by_1_v2.C := ⟨tyOk, mpOk, Nat.le_of_ble_eq_true (by kernel_rfl), fun f sg => fun h => sigs_if h (allS_cons field_Settle.ok allS_nil) ((fun h => by cases h))⟩
set_option maxRecDepth 100000 in
theorem fund_by_1_v2.ok : Sound Go.Proofs.Try.prog 71 fund_by_1_v2.sig := body_sound (C := fund_by_1_v2.C) (q := fund_by_1_v2.Q) (fn := Go.Proofs.Try.f71) (sg := fund_by_1_v2.sig) (n := 3) fund_by_1_v2.ctx follows Go.Proofs.Try.func71 (by kernel_rfl) (by kernel_rfl) (by kernel_rfl) (by kernel_rfl) (Nat.le_of_ble_eq_true (by kernel_rfl)) (by kernel_rfl) fund_by_1_v2.eq

def fund_Fund_change_v2 (x0 : Unit) (x1 : Int × Int × Int × Unit) (x2 : Unit × Unit × Unit) (o0 : Unit) (o1 : Int) : Option (Int × Unit × Int × Unit) :=
  (fund_Fund_Get () x1).bind fun r6 => bif !r6.2.1 then some (10, ((), (o1, ()))) else (fund_by_1_v2 r6.1 () () () o1).bind fun r7 => bif (r7.1.2.1 : Int) == 0 then none else some (r7.1.2.1, ((), (r7.2.2.1, ())))
def fund_Fund_change_v2.C : Ctx := { ty := tyT, sigs := fun i => bif Nat.beq i 30 then [fund_Fund_Get.sig] else bif Nat.beq i 71 then [fund_by_1_v2.sig] else [], n := 35, mp := mpT }
def fund_Fund_change_v2.Q : Cuts := { np := 2, loops := fun i => none, seqs := fun i => none, splits := fun i => none }
def fund_Fund_change_v2.sig : Sig := { args := .tc (.nilr 0) (.tc (.val kKey) (.tc (.clo 71 (.tc (.ptr 0) (.tc (.ptr 1) .tn))) .tn)), objs := [.cell (.ref 2) (.clo 78 .tn), .cell (.int .i64) (.val (.int .i64))], ret := .val (.int .i64), outs := [.cell (.ref 2) (.clo 78 .tn), .cell (.int .i64) (.val (.int .i64))], F := fun x => fund_Fund_change_v2 x.1.1 x.1.2.1 x.1.2.2.1 x.2.1 x.2.2.1 }
theorem fund_Fund_change_v2.eq : (fun x => body fund_Fund_change_v2.C fund_Fund_change_v2.Q Go.Proofs.Try.f46 fund_Fund_change_v2.sig.args fund_Fund_change_v2.sig.objs fund_Fund_change_v2.sig.ret fund_Fund_change_v2.sig.outs x) = fund_Fund_change_v2.sig.F := by
  kernel_rfl
set_option maxRecDepth 100000 in
theorem fund_Fund_change_v2.ctx : CtxOk Go.Proofs.Try.prog fund_Fund_change_v2.C := ⟨tyOk, mpOk, Nat.le_of_ble_eq_true (by kernel_rfl), fun f sg => fun h => sigs_if h (allS_cons fund_Fund_Get.ok allS_nil) (fun h => sigs_if h (allS_cons fund_by_1_v2.ok allS_nil) ((fun h => by cases h)))⟩
set_option maxRecDepth 100000 in
theorem fund_Fund_change_v2.ok : Sound Go.Proofs.Try.prog 46 fund_Fund_change_v2.sig := body_sound (C := fund_Fund_change_v2.C) (q := fund_Fund_change_v2.Q) (fn := Go.Proofs.Try.f46) (sg := fund_Fund_change_v2.sig) (n := 3) fund_Fund_change_v2.ctx follows Go.Proofs.Try.func46 (by kernel_rfl) (by kernel_rfl) (by kernel_rfl) (by kernel_rfl) (Nat.le_of_ble_eq_true (by kernel_rfl)) (by kernel_rfl) fund_Fund_change_v2.eq

def fund_Fund_Settle (x0 : Unit) (x1 : (Int × Int × Int × Unit) × Int × Unit) : Option Int :=
  (fund_by_v2 () x1.2.1).bind fun r5 => (fund_Fund_change_v2 () x1.1 ((), ((), ())) () r5.2.2.1).bind fun r6 => some r6.1
def fund_Fund_Settle.C : Ctx := { ty := tyT, sigs := fun i => bif Nat.beq i 46 then [fund_Fund_change_v2.sig] else bif Nat.beq i 47 then [fund_by_v2.sig] else [], n := 12, mp := mpT }
def fund_Fund_Settle.Q : Cuts := { np := 0, loops := fun i => none, seqs := fun i => none, splits := fun i => none }
def fund_Fund_Settle.sig : Sig := { args := .tc (.nilr 0) (.tc (.val kOp) .tn), objs := [], ret := .val (.int .i64), outs := [], F := fun x => fund_Fund_Settle x.1.1 x.1.2.1 }
theorem fund_Fund_Settle.eq : (fun x => body fund_Fund_Settle.C fund_Fund_Settle.Q Go.Proofs.Try.f59 fund_Fund_Settle.sig.args fund_Fund_Settle.sig.objs fund_Fund_Settle.sig.ret fund_Fund_Settle.sig.outs x) = fund_Fund_Settle.sig.F := by
  kernel_rfl
set_option maxRecDepth 100000 in
theorem fund_Fund_Settle.ctx : CtxOk Go.Proofs.Try.prog fund_Fund_Settle.C := ⟨tyOk, mpOk, Nat.le_of_ble_eq_true (by kernel_rfl), fun f sg => fun h => sigs_if h (allS_cons fund_Fund_change_v2.ok allS_nil) (fun h => sigs_if h (allS_cons fund_by_v2.ok allS_nil) ((fun h => by cases h)))⟩
set_option maxRecDepth 100000 in
theorem fund_Fund_Settle.ok : Sound Go.Proofs.Try.prog 59 fund_Fund_Settle.sig := body_sound (C := fund_Fund_Settle.C) (q := fund_Fund_Settle.Q) (fn := Go.Proofs.Try.f59) (sg := fund_Fund_Settle.sig) (n := 2) fund_Fund_Settle.ctx follows Go.Proofs.Try.func59 (by kernel_rfl) (by kernel_rfl) (by kernel_rfl) (by kernel_rfl) (Nat.le_of_ble_eq_true (by kernel_rfl)) (by kernel_rfl) fund_Fund_Settle.eq

def fund_by_v3 (x0 : Unit) (x1 : Int) : Option ((Unit × Unit × Unit) × Unit × Int × Unit) :=
  some (((), ((), ())), ((), (x1, ())))
def fund_by_v3.C : Ctx := { ty := tyT, sigs := fun i => [], n := 6, mp := mpT }
def fund_by_v3.Q : Cuts := { np := 0, loops := fun i => none, seqs := fun i => none, splits := fun i => none }
def fund_by_v3.sig : Sig := { args := .tc (.clo 79 .tn) (.tc (.val (.int .i64)) .tn), objs := [], ret := .clo 71 (.tc (.ptr 0) (.tc (.ptr 1) .tn)), outs := [.cell (.ref 2) (.clo 79 .tn), .cell (.int .i64) (.val (.int .i64))], F := fun x => fund_by_v3 x.1.1 x.1.2.1 }
theorem fund_by_v3.eq : (fun x => body fund_by_v3.C fund_by_v3.Q Go.Proofs.Try.f47 fund_by_v3.sig.args fund_by_v3.sig.objs fund_by_v3.sig.ret fund_by_v3.sig.outs x) = fund_by_v3.sig.F := by
  kernel_rfl
set_option maxRecDepth 100000 in
theorem fund_by_v3.ctx : CtxOk Go.Proofs.Try.prog fund_by_v3.C := ⟨tyOk, mpOk, Nat.le_of_ble_eq_true (by kernel_rfl), fun f sg => (fun h => by cases h)⟩
set_option maxRecDepth 100000 in
theorem fund_by_v3.ok : Sound Go.Proofs.Try.prog 47 fund_by_v3.sig := body_sound (C := fund_by_v3.C) (q := fund_by_v3.Q) (fn := Go.Proofs.Try.f47) (sg := fund_by_v3.sig) (n := 2) fund_by_v3.ctx follows Go.Proofs.Try.func47 (by kernel_rfl) (by kernel_rfl) (by kernel_rfl) (by kernel_rfl) (Nat.le_of_ble_eq_true (by kernel_rfl)) (by kernel_rfl) fund_by_v3.eq

def field_move_v3 (x0 : Int × Int × Int × Int × Int × Int × Unit) (x1 : Int) (x2 : Unit) (x3 : Unit) (x4 : Unit) (x5 : Unit) : Option ((Int × Int × Int × Int × Int × Int × Unit) × Int × Unit) :=
  (field_wrong x0 x1).bind fun r10 => bif (r10 : Int) != 0 then some (x0, (r10, ())) else bif decide (x1 < 0) then (field_part_less (x0.2.2.2.2.2.1, (true, ())) x1).bind fun r11 => (field_part_still (x0.2.2.1, (true, ())) x1).bind fun r12 => (field_part_still (x0.2.2.2.1, (true, ())) x1).bind fun r13 => (field_part_still (x0.2.2.2.2.1, (true, ())) x1).bind fun r14 => bif !r11.2.1 then some (x0, (12, ())) else bif !r12.2.1 then some (x0, (12, ())) else bif !r13.2.1 then some (x0, (12, ())) else bif !r14.2.1 then some (x0, (12, ())) else (field_Good (x0.1, (x0.2.1, (r12.1, (r13.1, (r14.1, (r11.1, ()))))))).bind fun r15 => bif !r15 then some (x0, (12, ())) else some ((x0.1, (x0.2.1, (r12.1, (r13.1, (r14.1, (r11.1, ())))))), (0, ())) else (field_part_less (x0.2.2.2.2.2.1, (true, ())) x1).bind fun r16 => (field_part_still (x0.2.2.1, (true, ())) x1).bind fun r17 => (field_part_still (x0.2.2.2.1, (true, ())) x1).bind fun r18 => (field_part_still (x0.2.2.2.2.1, (true, ())) x1).bind fun r19 => bif !r16.2.1 then some (x0, (12, ())) else bif !r17.2.1 then some (x0, (12, ())) else bif !r18.2.1 then some (x0, (12, ())) else bif !r19.2.1 then some (x0, (12, ())) else (field_Good (x0.1, (x0.2.1, (r17.1, (r18.1, (r19.1, (r16.1, ()))))))).bind fun r20 => bif !r20 then some (x0, (12, ())) else some ((x0.1, (x0.2.1, (r17.1, (r18.1, (r19.1, (r16.1, ())))))), (0, ()))
def field_move_v3.C : Ctx := { ty := tyT, sigs := fun i => bif Nat.beq i 55 then [field_Good.sig] else bif Nat.beq i 72 then [field_wrong.sig] else bif Nat.beq i 91 then [field_part_less.sig] else bif Nat.beq i 92 then [field_part_still.sig] else [], n := 93, mp := mpT }
def field_move_v3.Q : Cuts := { np := 0, loops := fun i => none, seqs := fun i => none, splits := fun i => none }
def field_move_v3.sig : Sig := { args := .tc (.val kField) (.tc (.val (.int .i64)) (.tc (.clo 91 .tn) (.tc (.clo 92 .tn) (.tc (.clo 92 .tn) (.tc (.clo 92 .tn) .tn))))), objs := [], ret := .tup (.tc (.val kField) (.tc (.val (.int .i64)) .tn)), outs := [], F := fun x => field_move_v3 x.1.1 x.1.2.1 x.1.2.2.1 x.1.2.2.2.1 x.1.2.2.2.2.1 x.1.2.2.2.2.2.1 }
theorem field_move_v3.eq : (fun x => body field_move_v3.C field_move_v3.Q Go.Proofs.Try.f90 field_move_v3.sig.args field_move_v3.sig.objs field_move_v3.sig.ret field_move_v3.sig.outs x) = field_move_v3.sig.F := by
  kernel_rfl
set_option maxRecDepth 100000 in
theorem field_move_v3.ctx : CtxOk Go.Proofs.Try.prog field_move_v3.C := ⟨tyOk, mpOk, Nat.le_of_ble_eq_true (by kernel_rfl), fun f sg => fun h => sigs_if h (allS_cons field_Good.ok allS_nil) (fun h => sigs_if h (allS_cons field_wrong.ok allS_nil) (fun h => sigs_if h (allS_cons field_part_less.ok allS_nil) (fun h => sigs_if h (allS_cons field_part_still.ok allS_nil) ((fun h => by cases h)))))⟩
set_option maxRecDepth 100000 in
theorem field_move_v3.ok : Sound Go.Proofs.Try.prog 90 field_move_v3.sig := body_sound (C := field_move_v3.C) (q := field_move_v3.Q) (fn := Go.Proofs.Try.f90) (sg := field_move_v3.sig) (n := 6) field_move_v3.ctx follows Go.Proofs.Try.func90 (by kernel_rfl) (by kernel_rfl) (by kernel_rfl) (by kernel_rfl) (Nat.le_of_ble_eq_true (by kernel_rfl)) (by kernel_rfl) field_move_v3.eq

def field_Back (x0 : Int × Int × Int × Int × Int × Int × Unit) (x1 : Int) : Option ((Int × Int × Int × Int × Int × Int × Unit) × Int × Unit) :=
  (field_move_v3 x0 x1 () () () ()).bind fun r10 => some (r10.1, (r10.2.1, ()))
def field_Back.C : Ctx := { ty := tyT, sigs := fun i => bif Nat.beq i 90 then [field_move_v3.sig] else [], n := 11, mp := mpT }
def field_Back.Q : Cuts := { np := 0, loops := fun i => none, seqs := fun i => none, splits := fun i => none }
def field_Back.sig : Sig := { args := .tc (.val kField) (.tc (.val (.int .i64)) .tn), objs := [], ret := .tup (.tc (.val kField) (.tc (.val (.int .i64)) .tn)), outs := [], F := fun x => field_Back x.1.1 x.1.2.1 }
theorem field_Back.eq : (fun x => body field_Back.C field_Back.Q Go.Proofs.Try.f79 field_Back.sig.args field_Back.sig.objs field_Back.sig.ret field_Back.sig.outs x) = field_Back.sig.F := by
  kernel_rfl
set_option maxRecDepth 100000 in
theorem field_Back.ctx : CtxOk Go.Proofs.Try.prog field_Back.C := ⟨tyOk, mpOk, Nat.le_of_ble_eq_true (by kernel_rfl), fun f sg => fun h => sigs_if h (allS_cons field_move_v3.ok allS_nil) ((fun h => by cases h))⟩
set_option maxRecDepth 100000 in
theorem field_Back.ok : Sound Go.Proofs.Try.prog 79 field_Back.sig := body_sound (C := field_Back.C) (q := field_Back.Q) (fn := Go.Proofs.Try.f79) (sg := field_Back.sig) (n := 2) field_Back.ctx follows Go.Proofs.Try.func79 (by kernel_rfl) (by kernel_rfl) (by kernel_rfl) (by kernel_rfl) (Nat.le_of_ble_eq_true (by kernel_rfl)) (by kernel_rfl) field_Back.eq

def fund_by_1_v3 (x0 : Int × Int × Int × Int × Int × Int × Unit) (x1 : Unit) (x2 : Unit) (o0 : Unit) (o1 : Int) : Option (((Int × Int × Int × Int × Int × Int × Unit) × Int × Unit) × Unit × Int × Unit) :=
  (field_Back x0 o1).bind fun r10 => some ((r10.1, (r10.2.1, ())), ((), (o1, ())))
def fund_by_1_v3.C : Ctx := { ty := tyT, sigs := fun i => bif Nat.beq i 79 then [field_Back.sig] else [], n := 12, mp := mpT }
def fund_by_1_v3.Q : Cuts := { np := 2, loops := fun i => none, seqs := fun i => none, splits := fun i => none }
def fund_by_1_v3.sig : Sig := { args := .tc (.val kField) (.tc (.ptr 0) (.tc (.ptr 1) .tn)), objs := [.cell (.ref 2) (.clo 79 .tn), .cell (.int .i64) (.val (.int .i64))], ret := .tup (.tc (.val kField) (.tc (.val (.int .i64)) .tn)), outs := [.cell (.ref 2) (.clo 79 .tn), .cell (.int .i64) (.val (.int .i64))], F := fun x => fund_by_1_v3 x.1.1 x.1.2.1 x.1.2.2.1 x.2.1 x.2.2.1 }
theorem fund_by_1_v3.eq : (fun x => body fund_by_1_v3.C fund_by_1_v3.Q Go.Proofs.Try.f71 fund_by_1_v3.sig.args fund_by_1_v3.sig.objs fund_by_1_v3.sig.ret fund_by_1_v3.sig.outs x) = fund_by_1_v3.sig.F := by
  kernel_rfl
set_option maxRecDepth 100000 in
theorem fund_by_1_v3.ctx : CtxOk Go.Proofs.Try.prog fund_by_1_v3.C := ⟨tyOk, mpOk, Nat.le_of_ble_eq_true (by kernel_rfl), fun f sg => fun h => sigs_if h (allS_cons field_Back.ok allS_nil) ((fun h => by cases h))⟩
set_option maxRecDepth 100000 in
theorem fund_by_1_v3.ok : Sound Go.Proofs.Try.prog 71 fund_by_1_v3.sig := body_sound (C := fund_by_1_v3.C) (q := fund_by_1_v3.Q) (fn := Go.Proofs.Try.f71) (sg := fund_by_1_v3.sig) (n := 3) fund_by_1_v3.ctx follows Go.Proofs.Try.func71 (by kernel_rfl) (by kernel_rfl) (by kernel_rfl) (by kernel_rfl) (Nat.le_of_ble_eq_true (by kernel_rfl)) (by kernel_rfl) fund_by_1_v3.eq

def fund_Fund_change_v3 (x0 : Unit) (x1 : Int × Int × Int × Unit) (x2 : Unit × Unit × Unit) (o0 : Unit) (o1 : Int) : Option (Int × Unit × Int × Unit) :=
  (fund_Fund_Get () x1).bind fun r9 => bif !r9.2.1 then some (10, ((), (o1, ()))) else (fund_by_1_v3 r9.1 () () () o1).bind fun r10 => bif (r10.1.2.1 : Int) == 0 then none else some (r10.1.2.1, ((), (r10.2.2.1, ())))
def fund_Fund_change_v3.C : Ctx := { ty := tyT, sigs := fun i => bif Nat.beq i 30 then [fund_Fund_Get.sig] else bif Nat.beq i 71 then [fund_by_1_v3.sig] else [], n := 35, mp := mpT }
def fund_Fund_change_v3.Q : Cuts := { np := 2, loops := fun i => none, seqs := fun i => none, splits := fun i => none }
def fund_Fund_change_v3.sig : Sig := { args := .tc (.nilr 0) (.tc (.val kKey) (.tc (.clo 71 (.tc (.ptr 0) (.tc (.ptr 1) .tn))) .tn)), objs := [.cell (.ref 2) (.clo 79 .tn), .cell (.int .i64) (.val (.int .i64))], ret := .val (.int .i64), outs := [.cell (.ref 2) (.clo 79 .tn), .cell (.int .i64) (.val (.int .i64))], F := fun x => fund_Fund_change_v3 x.1.1 x.1.2.1 x.1.2.2.1 x.2.1 x.2.2.1 }
theorem fund_Fund_change_v3.eq : (fun x => body fund_Fund_change_v3.C fund_Fund_change_v3.Q Go.Proofs.Try.f46 fund_Fund_change_v3.sig.args fund_Fund_change_v3.sig.objs fund_Fund_change_v3.sig.ret fund_Fund_change_v3.sig.outs x) = fund_Fund_change_v3.sig.F := by
  kernel_rfl
set_option maxRecDepth 100000 in
theorem fund_Fund_change_v3.ctx : CtxOk Go.Proofs.Try.prog fund_Fund_change_v3.C := ⟨tyOk, mpOk, Nat.le_of_ble_eq_true (by kernel_rfl), fun f sg => fun h => sigs_if h (allS_cons fund_Fund_Get.ok allS_nil) (fun h => sigs_if h (allS_cons fund_by_1_v3.ok allS_nil) ((fun h => by cases h)))⟩
set_option maxRecDepth 100000 in
theorem fund_Fund_change_v3.ok : Sound Go.Proofs.Try.prog 46 fund_Fund_change_v3.sig := body_sound (C := fund_Fund_change_v3.C) (q := fund_Fund_change_v3.Q) (fn := Go.Proofs.Try.f46) (sg := fund_Fund_change_v3.sig) (n := 3) fund_Fund_change_v3.ctx follows Go.Proofs.Try.func46 (by kernel_rfl) (by kernel_rfl) (by kernel_rfl) (by kernel_rfl) (Nat.le_of_ble_eq_true (by kernel_rfl)) (by kernel_rfl) fund_Fund_change_v3.eq

def fund_Fund_Back (x0 : Unit) (x1 : (Int × Int × Int × Unit) × Int × Unit) : Option Int :=
  (fund_by_v3 () x1.2.1).bind fun r8 => (fund_Fund_change_v3 () x1.1 ((), ((), ())) () r8.2.2.1).bind fun r9 => some r9.1
def fund_Fund_Back.C : Ctx := { ty := tyT, sigs := fun i => bif Nat.beq i 46 then [fund_Fund_change_v3.sig] else bif Nat.beq i 47 then [fund_by_v3.sig] else [], n := 12, mp := mpT }
def fund_Fund_Back.Q : Cuts := { np := 0, loops := fun i => none, seqs := fun i => none, splits := fun i => none }
def fund_Fund_Back.sig : Sig := { args := .tc (.nilr 0) (.tc (.val kOp) .tn), objs := [], ret := .val (.int .i64), outs := [], F := fun x => fund_Fund_Back x.1.1 x.1.2.1 }
theorem fund_Fund_Back.eq : (fun x => body fund_Fund_Back.C fund_Fund_Back.Q Go.Proofs.Try.f60 fund_Fund_Back.sig.args fund_Fund_Back.sig.objs fund_Fund_Back.sig.ret fund_Fund_Back.sig.outs x) = fund_Fund_Back.sig.F := by
  kernel_rfl
set_option maxRecDepth 100000 in
theorem fund_Fund_Back.ctx : CtxOk Go.Proofs.Try.prog fund_Fund_Back.C := ⟨tyOk, mpOk, Nat.le_of_ble_eq_true (by kernel_rfl), fun f sg => fun h => sigs_if h (allS_cons fund_Fund_change_v3.ok allS_nil) (fun h => sigs_if h (allS_cons fund_by_v3.ok allS_nil) ((fun h => by cases h)))⟩
set_option maxRecDepth 100000 in
theorem fund_Fund_Back.ok : Sound Go.Proofs.Try.prog 60 fund_Fund_Back.sig := body_sound (C := fund_Fund_Back.C) (q := fund_Fund_Back.Q) (fn := Go.Proofs.Try.f60) (sg := fund_Fund_Back.sig) (n := 2) fund_Fund_Back.ctx follows Go.Proofs.Try.func60 (by kernel_rfl) (by kernel_rfl) (by kernel_rfl) (by kernel_rfl) (Nat.le_of_ble_eq_true (by kernel_rfl)) (by kernel_rfl) fund_Fund_Back.eq

def fund_by_v4 (x0 : Unit) (x1 : Int) : Option ((Unit × Unit × Unit) × Unit × Int × Unit) :=
  some (((), ((), ())), ((), (x1, ())))
def fund_by_v4.C : Ctx := { ty := tyT, sigs := fun i => [], n := 6, mp := mpT }
def fund_by_v4.Q : Cuts := { np := 0, loops := fun i => none, seqs := fun i => none, splits := fun i => none }
def fund_by_v4.sig : Sig := { args := .tc (.clo 80 .tn) (.tc (.val (.int .i64)) .tn), objs := [], ret := .clo 71 (.tc (.ptr 0) (.tc (.ptr 1) .tn)), outs := [.cell (.ref 2) (.clo 80 .tn), .cell (.int .i64) (.val (.int .i64))], F := fun x => fund_by_v4 x.1.1 x.1.2.1 }
theorem fund_by_v4.eq : (fun x => body fund_by_v4.C fund_by_v4.Q Go.Proofs.Try.f47 fund_by_v4.sig.args fund_by_v4.sig.objs fund_by_v4.sig.ret fund_by_v4.sig.outs x) = fund_by_v4.sig.F := by
  kernel_rfl
set_option maxRecDepth 100000 in
theorem fund_by_v4.ctx : CtxOk Go.Proofs.Try.prog fund_by_v4.C := ⟨tyOk, mpOk, Nat.le_of_ble_eq_true (by kernel_rfl), fun f sg => (fun h => by cases h)⟩
set_option maxRecDepth 100000 in
theorem fund_by_v4.ok : Sound Go.Proofs.Try.prog 47 fund_by_v4.sig := body_sound (C := fund_by_v4.C) (q := fund_by_v4.Q) (fn := Go.Proofs.Try.f47) (sg := fund_by_v4.sig) (n := 2) fund_by_v4.ctx follows Go.Proofs.Try.func47 (by kernel_rfl) (by kernel_rfl) (by kernel_rfl) (by kernel_rfl) (Nat.le_of_ble_eq_true (by kernel_rfl)) (by kernel_rfl) fund_by_v4.eq

def field_move_v4 (x0 : Int × Int × Int × Int × Int × Int × Unit) (x1 : Int) (x2 : Unit) (x3 : Unit) (x4 : Unit) (x5 : Unit) : Option ((Int × Int × Int × Int × Int × Int × Unit) × Int × Unit) :=
  (field_wrong x0 x1).bind fun r13 => bif (r13 : Int) != 0 then some (x0, (r13, ())) else bif decide (x1 < 0) then (field_part_more (x0.2.2.2.2.2.1, (true, ())) x1).bind fun r14 => (field_part_still (x0.2.2.1, (true, ())) x1).bind fun r15 => (field_part_still (x0.2.2.2.1, (true, ())) x1).bind fun r16 => (field_part_still (x0.2.2.2.2.1, (true, ())) x1).bind fun r17 => bif !r14.2.1 then some (x0, (12, ())) else bif !r15.2.1 then some (x0, (12, ())) else bif !r16.2.1 then some (x0, (12, ())) else bif !r17.2.1 then some (x0, (12, ())) else (field_Good (x0.1, (x0.2.1, (r15.1, (r16.1, (r17.1, (r14.1, ()))))))).bind fun r18 => bif !r18 then some (x0, (12, ())) else some ((x0.1, (x0.2.1, (r15.1, (r16.1, (r17.1, (r14.1, ())))))), (0, ())) else (field_part_more (x0.2.2.2.2.2.1, (true, ())) x1).bind fun r19 => (field_part_still (x0.2.2.1, (true, ())) x1).bind fun r20 => (field_part_still (x0.2.2.2.1, (true, ())) x1).bind fun r21 => (field_part_still (x0.2.2.2.2.1, (true, ())) x1).bind fun r22 => bif !r19.2.1 then some (x0, (12, ())) else bif !r20.2.1 then some (x0, (12, ())) else bif !r21.2.1 then some (x0, (12, ())) else bif !r22.2.1 then some (x0, (12, ())) else (field_Good (x0.1, (x0.2.1, (r20.1, (r21.1, (r22.1, (r19.1, ()))))))).bind fun r23 => bif !r23 then some (x0, (12, ())) else some ((x0.1, (x0.2.1, (r20.1, (r21.1, (r22.1, (r19.1, ())))))), (0, ()))
def field_move_v4.C : Ctx := { ty := tyT, sigs := fun i => bif Nat.beq i 55 then [field_Good.sig] else bif Nat.beq i 72 then [field_wrong.sig] else bif Nat.beq i 92 then [field_part_still.sig] else bif Nat.beq i 93 then [field_part_more.sig] else [], n := 93, mp := mpT }
def field_move_v4.Q : Cuts := { np := 0, loops := fun i => none, seqs := fun i => none, splits := fun i => none }
def field_move_v4.sig : Sig := { args := .tc (.val kField) (.tc (.val (.int .i64)) (.tc (.clo 93 .tn) (.tc (.clo 92 .tn) (.tc (.clo 92 .tn) (.tc (.clo 92 .tn) .tn))))), objs := [], ret := .tup (.tc (.val kField) (.tc (.val (.int .i64)) .tn)), outs := [], F := fun x => field_move_v4 x.1.1 x.1.2.1 x.1.2.2.1 x.1.2.2.2.1 x.1.2.2.2.2.1 x.1.2.2.2.2.2.1 }
theorem field_move_v4.eq : (fun x => body field_move_v4.C field_move_v4.Q Go.Proofs.Try.f90 field_move_v4.sig.args field_move_v4.sig.objs field_move_v4.sig.ret field_move_v4.sig.outs x) = field_move_v4.sig.F := by
  kernel_rfl
set_option maxRecDepth 100000 in
theorem field_move_v4.ctx : CtxOk Go.Proofs.Try.prog field_move_v4.C := ⟨tyOk, mpOk, Nat.le_of_ble_eq_true (by kernel_rfl), fun f sg => fun h => sigs_if h (allS_cons field_Good.ok allS_nil) (fun h => sigs_if h (allS_cons field_wrong.ok allS_nil) (fun h => sigs_if h (allS_cons field_part_still.ok allS_nil) (fun h => sigs_if h (allS_cons field_part_more.ok allS_nil) ((fun h => by cases h)))))⟩
set_option maxRecDepth 100000 in
theorem field_move_v4.ok : Sound Go.Proofs.Try.prog 90 field_move_v4.sig := body_sound (C := field_move_v4.C) (q := field_move_v4.Q) (fn := Go.Proofs.Try.f90) (sg := field_move_v4.sig) (n := 6) field_move_v4.ctx follows Go.Proofs.Try.func90 (by kernel_rfl) (by kernel_rfl) (by kernel_rfl) (by kernel_rfl) (Nat.le_of_ble_eq_true (by kernel_rfl)) (by kernel_rfl) field_move_v4.eq

def field_Forth (x0 : Int × Int × Int × Int × Int × Int × Unit) (x1 : Int) : Option ((Int × Int × Int × Int × Int × Int × Unit) × Int × Unit) :=
  (field_move_v4 x0 x1 () () () ()).bind fun r13 => some (r13.1, (r13.2.1, ()))
def field_Forth.C : Ctx := { ty := tyT, sigs := fun i => bif Nat.beq i 90 then [field_move_v4.sig] else [], n := 11, mp := mpT }
def field_Forth.Q : Cuts := { np := 0, loops := fun i => none, seqs := fun i => none, splits := fun i => none }
def field_Forth.sig : Sig := { args := .tc (.val kField) (.tc (.val (.int .i64)) .tn), objs := [], ret := .tup (.tc (.val kField) (.tc (.val (.int .i64)) .tn)), outs := [], F := fun x => field_Forth x.1.1 x.1.2.1 }
theorem field_Forth.eq : (fun x => body field_Forth.C field_Forth.Q Go.Proofs.Try.f80 field_Forth.sig.args field_Forth.sig.objs field_Forth.sig.ret field_Forth.sig.outs x) = field_Forth.sig.F := by
  kernel_rfl
set_option maxRecDepth 100000 in
theorem field_Forth.ctx : CtxOk Go.Proofs.Try.prog field_Forth.C := ⟨tyOk, mpOk, Nat.le_of_ble_eq_true (by kernel_rfl), fun f sg => fun h => sigs_if h (allS_cons field_move_v4.ok allS_nil) ((fun h => by cases h))⟩
set_option maxRecDepth 100000 in
theorem field_Forth.ok : Sound Go.Proofs.Try.prog 80 field_Forth.sig := body_sound (C := field_Forth.C) (q := field_Forth.Q) (fn := Go.Proofs.Try.f80) (sg := field_Forth.sig) (n := 2) field_Forth.ctx follows Go.Proofs.Try.func80 (by kernel_rfl) (by kernel_rfl) (by kernel_rfl) (by kernel_rfl) (Nat.le_of_ble_eq_true (by kernel_rfl)) (by kernel_rfl) field_Forth.eq

def fund_by_1_v4 (x0 : Int × Int × Int × Int × Int × Int × Unit) (x1 : Unit) (x2 : Unit) (o0 : Unit) (o1 : Int) : Option (((Int × Int × Int × Int × Int × Int × Unit) × Int × Unit) × Unit × Int × Unit) :=
  (field_Forth x0 o1).bind fun r13 => some ((r13.1, (r13.2.1, ())), ((), (o1, ())))
def fund_by_1_v4.C : Ctx := { ty := tyT, sigs := fun i => bif Nat.beq i 80 then [field_Forth.sig] else [], n := 12, mp := mpT }
def fund_by_1_v4.Q : Cuts := { np := 2, loops := fun i => none, seqs := fun i => none, splits := fun i => none }
def fund_by_1_v4.sig : Sig := { args := .tc (.val kField) (.tc (.ptr 0) (.tc (.ptr 1) .tn)), objs := [.cell (.ref 2) (.clo 80 .tn), .cell (.int .i64) (.val (.int .i64))], ret := .tup (.tc (.val kField) (.tc (.val (.int .i64)) .tn)), outs := [.cell (.ref 2) (.clo 80 .tn), .cell (.int .i64) (.val (.int .i64))], F := fun x => fund_by_1_v4 x.1.1 x.1.2.1 x.1.2.2.1 x.2.1 x.2.2.1 }
theorem fund_by_1_v4.eq : (fun x => body fund_by_1_v4.C fund_by_1_v4.Q Go.Proofs.Try.f71 fund_by_1_v4.sig.args fund_by_1_v4.sig.objs fund_by_1_v4.sig.ret fund_by_1_v4.sig.outs x) = fund_by_1_v4.sig.F := by
  kernel_rfl
set_option maxRecDepth 100000 in
theorem fund_by_1_v4.ctx : CtxOk Go.Proofs.Try.prog fund_by_1_v4.C := ⟨tyOk, mpOk, Nat.le_of_ble_eq_true (by kernel_rfl), fun f sg => fun h => sigs_if h (allS_cons field_Forth.ok allS_nil) ((fun h => by cases h))⟩
set_option maxRecDepth 100000 in
theorem fund_by_1_v4.ok : Sound Go.Proofs.Try.prog 71 fund_by_1_v4.sig := body_sound (C := fund_by_1_v4.C) (q := fund_by_1_v4.Q) (fn := Go.Proofs.Try.f71) (sg := fund_by_1_v4.sig) (n := 3) fund_by_1_v4.ctx follows Go.Proofs.Try.func71 (by kernel_rfl) (by kernel_rfl) (by kernel_rfl) (by kernel_rfl) (Nat.le_of_ble_eq_true (by kernel_rfl)) (by kernel_rfl) fund_by_1_v4.eq

def fund_Fund_change_v4 (x0 : Unit) (x1 : Int × Int × Int × Unit) (x2 : Unit × Unit × Unit) (o0 : Unit) (o1 : Int) : Option (Int × Unit × Int × Unit) :=
  (fund_Fund_Get () x1).bind fun r12 => bif !r12.2.1 then some (10, ((), (o1, ()))) else (fund_by_1_v4 r12.1 () () () o1).bind fun r13 => bif (r13.1.2.1 : Int) == 0 then none else some (r13.1.2.1, ((), (r13.2.2.1, ())))
def fund_Fund_change_v4.C : Ctx := { ty := tyT, sigs := fun i => bif Nat.beq i 30 then [fund_Fund_Get.sig] else bif Nat.beq i 71 then [fund_by_1_v4.sig] else [], n := 35, mp := mpT }
def fund_Fund_change_v4.Q : Cuts := { np := 2, loops := fun i => none, seqs := fun i => none, splits := fun i => none }
def fund_Fund_change_v4.sig : Sig := { args := .tc (.nilr 0) (.tc (.val kKey) (.tc (.clo 71 (.tc (.ptr 0) (.tc (.ptr 1) .tn))) .tn)), objs := [.cell (.ref 2) (.clo 80 .tn), .cell (.int .i64) (.val (.int .i64))], ret := .val (.int .i64), outs := [.cell (.ref 2) (.clo 80 .tn), .cell (.int .i64) (.val (.int .i64))], F := fun x => fund_Fund_change_v4 x.1.1 x.1.2.1 x.1.2.2.1 x.2.1 x.2.2.1 }
theorem fund_Fund_change_v4.eq : (fun x => body fund_Fund_change_v4.C fund_Fund_change_v4.Q Go.Proofs.Try.f46 fund_Fund_change_v4.sig.args fund_Fund_change_v4.sig.objs fund_Fund_change_v4.sig.ret fund_Fund_change_v4.sig.outs x) = fund_Fund_change_v4.sig.F := by
  kernel_rfl
set_option maxRecDepth 100000 in
theorem fund_Fund_change_v4.ctx : CtxOk Go.Proofs.Try.prog fund_Fund_change_v4.C := ⟨tyOk, mpOk, Nat.le_of_ble_eq_true (by kernel_rfl), fun f sg => fun h => sigs_if h (allS_cons fund_Fund_Get.ok allS_nil) (fun h => sigs_if h (allS_cons fund_by_1_v4.ok allS_nil) ((fun h => by cases h)))⟩
set_option maxRecDepth 100000 in
theorem fund_Fund_change_v4.ok : Sound Go.Proofs.Try.prog 46 fund_Fund_change_v4.sig := body_sound (C := fund_Fund_change_v4.C) (q := fund_Fund_change_v4.Q) (fn := Go.Proofs.Try.f46) (sg := fund_Fund_change_v4.sig) (n := 3) fund_Fund_change_v4.ctx follows Go.Proofs.Try.func46 (by kernel_rfl) (by kernel_rfl) (by kernel_rfl) (by kernel_rfl) (Nat.le_of_ble_eq_true (by kernel_rfl)) (by kernel_rfl) fund_Fund_change_v4.eq

def fund_Fund_Forth (x0 : Unit) (x1 : (Int × Int × Int × Unit) × Int × Unit) : Option Int :=
  (fund_by_v4 () x1.2.1).bind fun r11 => (fund_Fund_change_v4 () x1.1 ((), ((), ())) () r11.2.2.1).bind fun r12 => some r12.1
def fund_Fund_Forth.C : Ctx := { ty := tyT, sigs := fun i => bif Nat.beq i 46 then [fund_Fund_change_v4.sig] else bif Nat.beq i 47 then [fund_by_v4.sig] else [], n := 12, mp := mpT }
def fund_Fund_Forth.Q : Cuts := { np := 0, loops := fun i => none, seqs := fun i => none, splits := fun i => none }
def fund_Fund_Forth.sig : Sig := { args := .tc (.nilr 0) (.tc (.val kOp) .tn), objs := [], ret := .val (.int .i64), outs := [], F := fun x => fund_Fund_Forth x.1.1 x.1.2.1 }
theorem fund_Fund_Forth.eq : (fun x => body fund_Fund_Forth.C fund_Fund_Forth.Q Go.Proofs.Try.f61 fund_Fund_Forth.sig.args fund_Fund_Forth.sig.objs fund_Fund_Forth.sig.ret fund_Fund_Forth.sig.outs x) = fund_Fund_Forth.sig.F := by
  kernel_rfl
set_option maxRecDepth 100000 in
theorem fund_Fund_Forth.ctx : CtxOk Go.Proofs.Try.prog fund_Fund_Forth.C := ⟨tyOk, mpOk, Nat.le_of_ble_eq_true (by kernel_rfl), fun f sg => fun h => sigs_if h (allS_cons fund_Fund_change_v4.ok allS_nil) (fun h => sigs_if h (allS_cons fund_by_v4.ok allS_nil) ((fun h => by cases h)))⟩
set_option maxRecDepth 100000 in
theorem fund_Fund_Forth.ok : Sound Go.Proofs.Try.prog 61 fund_Fund_Forth.sig := body_sound (C := fund_Fund_Forth.C) (q := fund_Fund_Forth.Q) (fn := Go.Proofs.Try.f61) (sg := fund_Fund_Forth.sig) (n := 2) fund_Fund_Forth.ctx follows Go.Proofs.Try.func61 (by kernel_rfl) (by kernel_rfl) (by kernel_rfl) (by kernel_rfl) (Nat.le_of_ble_eq_true (by kernel_rfl)) (by kernel_rfl) fund_Fund_Forth.eq

def fund_by_v5 (x0 : Unit) (x1 : Int) : Option ((Unit × Unit × Unit) × Unit × Int × Unit) :=
  some (((), ((), ())), ((), (x1, ())))
def fund_by_v5.C : Ctx := { ty := tyT, sigs := fun i => [], n := 6, mp := mpT }
def fund_by_v5.Q : Cuts := { np := 0, loops := fun i => none, seqs := fun i => none, splits := fun i => none }
def fund_by_v5.sig : Sig := { args := .tc (.clo 81 .tn) (.tc (.val (.int .i64)) .tn), objs := [], ret := .clo 71 (.tc (.ptr 0) (.tc (.ptr 1) .tn)), outs := [.cell (.ref 2) (.clo 81 .tn), .cell (.int .i64) (.val (.int .i64))], F := fun x => fund_by_v5 x.1.1 x.1.2.1 }
theorem fund_by_v5.eq : (fun x => body fund_by_v5.C fund_by_v5.Q Go.Proofs.Try.f47 fund_by_v5.sig.args fund_by_v5.sig.objs fund_by_v5.sig.ret fund_by_v5.sig.outs x) = fund_by_v5.sig.F := by
  kernel_rfl
set_option maxRecDepth 100000 in
theorem fund_by_v5.ctx : CtxOk Go.Proofs.Try.prog fund_by_v5.C := ⟨tyOk, mpOk, Nat.le_of_ble_eq_true (by kernel_rfl), fun f sg => (fun h => by cases h)⟩
set_option maxRecDepth 100000 in
theorem fund_by_v5.ok : Sound Go.Proofs.Try.prog 47 fund_by_v5.sig := body_sound (C := fund_by_v5.C) (q := fund_by_v5.Q) (fn := Go.Proofs.Try.f47) (sg := fund_by_v5.sig) (n := 2) fund_by_v5.ctx follows Go.Proofs.Try.func47 (by kernel_rfl) (by kernel_rfl) (by kernel_rfl) (by kernel_rfl) (Nat.le_of_ble_eq_true (by kernel_rfl)) (by kernel_rfl) fund_by_v5.eq

def field_move_v5 (x0 : Int × Int × Int × Int × Int × Int × Unit) (x1 : Int) (x2 : Unit) (x3 : Unit) (x4 : Unit) (x5 : Unit) : Option ((Int × Int × Int × Int × Int × Int × Unit) × Int × Unit) :=
  (field_wrong x0 x1).bind fun r16 => bif (r16 : Int) != 0 then some (x0, (r16, ())) else bif decide (x1 < 0) then (field_part_still (x0.2.2.2.2.2.1, (true, ())) x1).bind fun r17 => (field_part_still (x0.2.2.1, (true, ())) x1).bind fun r18 => (field_part_less (x0.2.2.2.1, (true, ())) x1).bind fun r19 => (field_part_still (x0.2.2.2.2.1, (true, ())) x1).bind fun r20 => bif !r17.2.1 then some (x0, (12, ())) else bif !r18.2.1 then some (x0, (12, ())) else bif !r19.2.1 then some (x0, (12, ())) else bif !r20.2.1 then some (x0, (12, ())) else (field_Good (x0.1, (x0.2.1, (r18.1, (r19.1, (r20.1, (r17.1, ()))))))).bind fun r21 => bif !r21 then some (x0, (12, ())) else some ((x0.1, (x0.2.1, (r18.1, (r19.1, (r20.1, (r17.1, ())))))), (0, ())) else (field_part_still (x0.2.2.2.2.2.1, (true, ())) x1).bind fun r22 => (field_part_still (x0.2.2.1, (true, ())) x1).bind fun r23 => (field_part_still (x0.2.2.2.1, (true, ())) x1).bind fun r24 => (field_part_less (x0.2.2.2.2.1, (true, ())) x1).bind fun r25 => bif !r22.2.1 then some (x0, (12, ())) else bif !r23.2.1 then some (x0, (12, ())) else bif !r24.2.1 then some (x0, (12, ())) else bif !r25.2.1 then some (x0, (12, ())) else (field_Good (x0.1, (x0.2.1, (r23.1, (r24.1, (r25.1, (r22.1, ()))))))).bind fun r26 => bif !r26 then some (x0, (12, ())) else some ((x0.1, (x0.2.1, (r23.1, (r24.1, (r25.1, (r22.1, ())))))), (0, ()))
def field_move_v5.C : Ctx := { ty := tyT, sigs := fun i => bif Nat.beq i 55 then [field_Good.sig] else bif Nat.beq i 72 then [field_wrong.sig] else bif Nat.beq i 91 then [field_part_less.sig] else bif Nat.beq i 92 then [field_part_still.sig] else [], n := 93, mp := mpT }
def field_move_v5.Q : Cuts := { np := 0, loops := fun i => none, seqs := fun i => none, splits := fun i => none }
def field_move_v5.sig : Sig := { args := .tc (.val kField) (.tc (.val (.int .i64)) (.tc (.clo 92 .tn) (.tc (.clo 92 .tn) (.tc (.clo 92 .tn) (.tc (.clo 91 .tn) .tn))))), objs := [], ret := .tup (.tc (.val kField) (.tc (.val (.int .i64)) .tn)), outs := [], F := fun x => field_move_v5 x.1.1 x.1.2.1 x.1.2.2.1 x.1.2.2.2.1 x.1.2.2.2.2.1 x.1.2.2.2.2.2.1 }
theorem field_move_v5.eq : (fun x => body field_move_v5.C field_move_v5.Q Go.Proofs.Try.f90 field_move_v5.sig.args field_move_v5.sig.objs field_move_v5.sig.ret field_move_v5.sig.outs x) = field_move_v5.sig.F := by
  kernel_rfl
set_option maxRecDepth 100000 in
theorem field_move_v5.ctx : CtxOk Go.Proofs.Try.prog field_move_v5.C := ⟨tyOk, mpOk, Nat.le_of_ble_eq_true (by kernel_rfl), fun f sg => fun h => sigs_if h (allS_cons field_Good.ok allS_nil) (fun h => sigs_if h (allS_cons field_wrong.ok allS_nil) (fun h => sigs_if h (allS_cons field_part_less.ok allS_nil) (fun h => sigs_if h (allS_cons field_part_still.ok allS_nil) ((fun h => by cases h)))))⟩
set_option maxRecDepth 100000 in
theorem field_move_v5.ok : Sound Go.Proofs.Try.prog 90 field_move_v5.sig := body_sound (C := field_move_v5.C) (q := field_move_v5.Q) (fn := Go.Proofs.Try.f90) (sg := field_move_v5.sig) (n := 6) field_move_v5.ctx follows Go.Proofs.Try.func90 (by kernel_rfl) (by kernel_rfl) (by kernel_rfl) (by kernel_rfl) (Nat.le_of_ble_eq_true (by kernel_rfl)) (by kernel_rfl) field_move_v5.eq

def field_Drop (x0 : Int × Int × Int × Int × Int × Int × Unit) (x1 : Int) : Option ((Int × Int × Int × Int × Int × Int × Unit) × Int × Unit) :=
  (field_move_v5 x0 x1 () () () ()).bind fun r16 => some (r16.1, (r16.2.1, ()))
def field_Drop.C : Ctx := { ty := tyT, sigs := fun i => bif Nat.beq i 90 then [field_move_v5.sig] else [], n := 11, mp := mpT }
def field_Drop.Q : Cuts := { np := 0, loops := fun i => none, seqs := fun i => none, splits := fun i => none }
def field_Drop.sig : Sig := { args := .tc (.val kField) (.tc (.val (.int .i64)) .tn), objs := [], ret := .tup (.tc (.val kField) (.tc (.val (.int .i64)) .tn)), outs := [], F := fun x => field_Drop x.1.1 x.1.2.1 }
theorem field_Drop.eq : (fun x => body field_Drop.C field_Drop.Q Go.Proofs.Try.f81 field_Drop.sig.args field_Drop.sig.objs field_Drop.sig.ret field_Drop.sig.outs x) = field_Drop.sig.F := by
  kernel_rfl
set_option maxRecDepth 100000 in
theorem field_Drop.ctx : CtxOk Go.Proofs.Try.prog field_Drop.C := ⟨tyOk, mpOk, Nat.le_of_ble_eq_true (by kernel_rfl), fun f sg => fun h => sigs_if h (allS_cons field_move_v5.ok allS_nil) ((fun h => by cases h))⟩
set_option maxRecDepth 100000 in
theorem field_Drop.ok : Sound Go.Proofs.Try.prog 81 field_Drop.sig := body_sound (C := field_Drop.C) (q := field_Drop.Q) (fn := Go.Proofs.Try.f81) (sg := field_Drop.sig) (n := 2) field_Drop.ctx follows Go.Proofs.Try.func81 (by kernel_rfl) (by kernel_rfl) (by kernel_rfl) (by kernel_rfl) (Nat.le_of_ble_eq_true (by kernel_rfl)) (by kernel_rfl) field_Drop.eq

def fund_by_1_v5 (x0 : Int × Int × Int × Int × Int × Int × Unit) (x1 : Unit) (x2 : Unit) (o0 : Unit) (o1 : Int) : Option (((Int × Int × Int × Int × Int × Int × Unit) × Int × Unit) × Unit × Int × Unit) :=
  (field_Drop x0 o1).bind fun r16 => some ((r16.1, (r16.2.1, ())), ((), (o1, ())))
def fund_by_1_v5.C : Ctx := { ty := tyT, sigs := fun i => bif Nat.beq i 81 then [field_Drop.sig] else [], n := 12, mp := mpT }
def fund_by_1_v5.Q : Cuts := { np := 2, loops := fun i => none, seqs := fun i => none, splits := fun i => none }
def fund_by_1_v5.sig : Sig := { args := .tc (.val kField) (.tc (.ptr 0) (.tc (.ptr 1) .tn)), objs := [.cell (.ref 2) (.clo 81 .tn), .cell (.int .i64) (.val (.int .i64))], ret := .tup (.tc (.val kField) (.tc (.val (.int .i64)) .tn)), outs := [.cell (.ref 2) (.clo 81 .tn), .cell (.int .i64) (.val (.int .i64))], F := fun x => fund_by_1_v5 x.1.1 x.1.2.1 x.1.2.2.1 x.2.1 x.2.2.1 }
theorem fund_by_1_v5.eq : (fun x => body fund_by_1_v5.C fund_by_1_v5.Q Go.Proofs.Try.f71 fund_by_1_v5.sig.args fund_by_1_v5.sig.objs fund_by_1_v5.sig.ret fund_by_1_v5.sig.outs x) = fund_by_1_v5.sig.F := by
  kernel_rfl
set_option maxRecDepth 100000 in
theorem fund_by_1_v5.ctx : CtxOk Go.Proofs.Try.prog fund_by_1_v5.C := ⟨tyOk, mpOk, Nat.le_of_ble_eq_true (by kernel_rfl), fun f sg => fun h => sigs_if h (allS_cons field_Drop.ok allS_nil) ((fun h => by cases h))⟩
set_option maxRecDepth 100000 in
theorem fund_by_1_v5.ok : Sound Go.Proofs.Try.prog 71 fund_by_1_v5.sig := body_sound (C := fund_by_1_v5.C) (q := fund_by_1_v5.Q) (fn := Go.Proofs.Try.f71) (sg := fund_by_1_v5.sig) (n := 3) fund_by_1_v5.ctx follows Go.Proofs.Try.func71 (by kernel_rfl) (by kernel_rfl) (by kernel_rfl) (by kernel_rfl) (Nat.le_of_ble_eq_true (by kernel_rfl)) (by kernel_rfl) fund_by_1_v5.eq

def fund_Fund_change_v5 (x0 : Unit) (x1 : Int × Int × Int × Unit) (x2 : Unit × Unit × Unit) (o0 : Unit) (o1 : Int) : Option (Int × Unit × Int × Unit) :=
  (fund_Fund_Get () x1).bind fun r15 => bif !r15.2.1 then some (10, ((), (o1, ()))) else (fund_by_1_v5 r15.1 () () () o1).bind fun r16 => bif (r16.1.2.1 : Int) == 0 then none else some (r16.1.2.1, ((), (r16.2.2.1, ())))
def fund_Fund_change_v5.C : Ctx := { ty := tyT, sigs := fun i => bif Nat.beq i 30 then [fund_Fund_Get.sig] else bif Nat.beq i 71 then [fund_by_1_v5.sig] else [], n := 35, mp := mpT }
def fund_Fund_change_v5.Q : Cuts := { np := 2, loops := fun i => none, seqs := fun i => none, splits := fun i => none }
def fund_Fund_change_v5.sig : Sig := { args := .tc (.nilr 0) (.tc (.val kKey) (.tc (.clo 71 (.tc (.ptr 0) (.tc (.ptr 1) .tn))) .tn)), objs := [.cell (.ref 2) (.clo 81 .tn), .cell (.int .i64) (.val (.int .i64))], ret := .val (.int .i64), outs := [.cell (.ref 2) (.clo 81 .tn), .cell (.int .i64) (.val (.int .i64))], F := fun x => fund_Fund_change_v5 x.1.1 x.1.2.1 x.1.2.2.1 x.2.1 x.2.2.1 }
theorem fund_Fund_change_v5.eq : (fun x => body fund_Fund_change_v5.C fund_Fund_change_v5.Q Go.Proofs.Try.f46 fund_Fund_change_v5.sig.args fund_Fund_change_v5.sig.objs fund_Fund_change_v5.sig.ret fund_Fund_change_v5.sig.outs x) = fund_Fund_change_v5.sig.F := by
  kernel_rfl
set_option maxRecDepth 100000 in
theorem fund_Fund_change_v5.ctx : CtxOk Go.Proofs.Try.prog fund_Fund_change_v5.C := ⟨tyOk, mpOk, Nat.le_of_ble_eq_true (by kernel_rfl), fun f sg => fun h => sigs_if h (allS_cons fund_Fund_Get.ok allS_nil) (fun h => sigs_if h (allS_cons fund_by_1_v5.ok allS_nil) ((fun h => by cases h)))⟩
set_option maxRecDepth 100000 in
theorem fund_Fund_change_v5.ok : Sound Go.Proofs.Try.prog 46 fund_Fund_change_v5.sig := body_sound (C := fund_Fund_change_v5.C) (q := fund_Fund_change_v5.Q) (fn := Go.Proofs.Try.f46) (sg := fund_Fund_change_v5.sig) (n := 3) fund_Fund_change_v5.ctx follows Go.Proofs.Try.func46 (by kernel_rfl) (by kernel_rfl) (by kernel_rfl) (by kernel_rfl) (Nat.le_of_ble_eq_true (by kernel_rfl)) (by kernel_rfl) fund_Fund_change_v5.eq

def fund_Fund_Drop (x0 : Unit) (x1 : (Int × Int × Int × Unit) × Int × Unit) : Option Int :=
  (fund_by_v5 () x1.2.1).bind fun r14 => (fund_Fund_change_v5 () x1.1 ((), ((), ())) () r14.2.2.1).bind fun r15 => some r15.1
def fund_Fund_Drop.C : Ctx := { ty := tyT, sigs := fun i => bif Nat.beq i 46 then [fund_Fund_change_v5.sig] else bif Nat.beq i 47 then [fund_by_v5.sig] else [], n := 12, mp := mpT }
def fund_Fund_Drop.Q : Cuts := { np := 0, loops := fun i => none, seqs := fun i => none, splits := fun i => none }
def fund_Fund_Drop.sig : Sig := { args := .tc (.nilr 0) (.tc (.val kOp) .tn), objs := [], ret := .val (.int .i64), outs := [], F := fun x => fund_Fund_Drop x.1.1 x.1.2.1 }
theorem fund_Fund_Drop.eq : (fun x => body fund_Fund_Drop.C fund_Fund_Drop.Q Go.Proofs.Try.f62 fund_Fund_Drop.sig.args fund_Fund_Drop.sig.objs fund_Fund_Drop.sig.ret fund_Fund_Drop.sig.outs x) = fund_Fund_Drop.sig.F := by
  kernel_rfl
set_option maxRecDepth 100000 in
theorem fund_Fund_Drop.ctx : CtxOk Go.Proofs.Try.prog fund_Fund_Drop.C := ⟨tyOk, mpOk, Nat.le_of_ble_eq_true (by kernel_rfl), fun f sg => fun h => sigs_if h (allS_cons fund_Fund_change_v5.ok allS_nil) (fun h => sigs_if h (allS_cons fund_by_v5.ok allS_nil) ((fun h => by cases h)))⟩
set_option maxRecDepth 100000 in
theorem fund_Fund_Drop.ok : Sound Go.Proofs.Try.prog 62 fund_Fund_Drop.sig := body_sound (C := fund_Fund_Drop.C) (q := fund_Fund_Drop.Q) (fn := Go.Proofs.Try.f62) (sg := fund_Fund_Drop.sig) (n := 2) fund_Fund_Drop.ctx follows Go.Proofs.Try.func62 (by kernel_rfl) (by kernel_rfl) (by kernel_rfl) (by kernel_rfl) (Nat.le_of_ble_eq_true (by kernel_rfl)) (by kernel_rfl) fund_Fund_Drop.eq

def fund_by_v6 (x0 : Unit) (x1 : Int) : Option ((Unit × Unit × Unit) × Unit × Int × Unit) :=
  some (((), ((), ())), ((), (x1, ())))
def fund_by_v6.C : Ctx := { ty := tyT, sigs := fun i => [], n := 6, mp := mpT }
def fund_by_v6.Q : Cuts := { np := 0, loops := fun i => none, seqs := fun i => none, splits := fun i => none }
def fund_by_v6.sig : Sig := { args := .tc (.clo 48 .tn) (.tc (.val (.int .i64)) .tn), objs := [], ret := .clo 71 (.tc (.ptr 0) (.tc (.ptr 1) .tn)), outs := [.cell (.ref 2) (.clo 48 .tn), .cell (.int .i64) (.val (.int .i64))], F := fun x => fund_by_v6 x.1.1 x.1.2.1 }
theorem fund_by_v6.eq : (fun x => body fund_by_v6.C fund_by_v6.Q Go.Proofs.Try.f47 fund_by_v6.sig.args fund_by_v6.sig.objs fund_by_v6.sig.ret fund_by_v6.sig.outs x) = fund_by_v6.sig.F := by
  kernel_rfl
set_option maxRecDepth 100000 in
theorem fund_by_v6.ctx : CtxOk Go.Proofs.Try.prog fund_by_v6.C := ⟨tyOk, mpOk, Nat.le_of_ble_eq_true (by kernel_rfl), fun f sg => (fun h => by cases h)⟩
set_option maxRecDepth 100000 in
theorem fund_by_v6.ok : Sound Go.Proofs.Try.prog 47 fund_by_v6.sig := body_sound (C := fund_by_v6.C) (q := fund_by_v6.Q) (fn := Go.Proofs.Try.f47) (sg := fund_by_v6.sig) (n := 2) fund_by_v6.ctx follows Go.Proofs.Try.func47 (by kernel_rfl) (by kernel_rfl) (by kernel_rfl) (by kernel_rfl) (Nat.le_of_ble_eq_true (by kernel_rfl)) (by kernel_rfl) fund_by_v6.eq

def field_Grant (x0 : Int × Int × Int × Int × Int × Int × Unit) (x1 : Int) : Option ((Int × Int × Int × Int × Int × Int × Unit) × Int × Unit) :=
  (field_wrong x0 x1).bind fun r9 => bif (r9 : Int) != 0 then some (x0, (r9, ())) else bif decide (x1 < 0) then (calc_Add x0.2.2.2.1 x1).bind fun r10 => bif !r10.2.1 then some (x0, (2, ())) else bif decide (r10.1 < x0.1) then some (x0, (3, ())) else bif decide (r10.1 > x0.2.1) then some (x0, (3, ())) else some ((x0.1, (x0.2.1, (x0.2.2.1, (r10.1, (x0.2.2.2.2.1, (IntKind.i64.wrap (x0.2.2.2.2.2.1 + x1), x0.2.2.2.2.2.2)))))), (0, ())) else (calc_Add x0.2.2.2.2.1 x1).bind fun r11 => bif !r11.2.1 then some (x0, (2, ())) else bif decide (r11.1 < x0.1) then some (x0, (3, ())) else bif decide (r11.1 > x0.2.1) then some (x0, (3, ())) else some ((x0.1, (x0.2.1, (x0.2.2.1, (x0.2.2.2.1, (r11.1, (IntKind.i64.wrap (x0.2.2.2.2.2.1 + x1), x0.2.2.2.2.2.2)))))), (0, ()))
def field_Grant.C : Ctx := { ty := tyT, sigs := fun i => bif Nat.beq i 72 then [field_wrong.sig] else bif Nat.beq i 73 then [calc_Add.sig] else [], n := 56, mp := mpT }
def field_Grant.Q : Cuts := { np := 0, loops := fun i => none, seqs := fun i => none, splits := fun i => none }
def field_Grant.sig : Sig := { args := .tc (.val kField) (.tc (.val (.int .i64)) .tn), objs := [], ret := .tup (.tc (.val kField) (.tc (.val (.int .i64)) .tn)), outs := [], F := fun x => field_Grant x.1.1 x.1.2.1 }
theorem field_Grant.eq : (fun x => body field_Grant.C field_Grant.Q Go.Proofs.Try.f48 field_Grant.sig.args field_Grant.sig.objs field_Grant.sig.ret field_Grant.sig.outs x) = field_Grant.sig.F := by
  kernel_rfl
set_option maxRecDepth 100000 in
theorem field_Grant.ctx : CtxOk Go.Proofs.Try.prog field_Grant.C := ⟨tyOk, mpOk, Nat.le_of_ble_eq_true (by kernel_rfl), fun f sg => fun h => sigs_if h (allS_cons field_wrong.ok allS_nil) (fun h => sigs_if h (allS_cons calc_Add.ok allS_nil) ((fun h => by cases h)))⟩
set_option maxRecDepth 100000 in
theorem field_Grant.ok : Sound Go.Proofs.Try.prog 48 field_Grant.sig := body_sound (C := field_Grant.C) (q := field_Grant.Q) (fn := Go.Proofs.Try.f48) (sg := field_Grant.sig) (n := 2) field_Grant.ctx follows Go.Proofs.Try.func48 (by kernel_rfl) (by kernel_rfl) (by kernel_rfl) (by kernel_rfl) (Nat.le_of_ble_eq_true (by kernel_rfl)) (by kernel_rfl) field_Grant.eq

def fund_by_1_v6 (x0 : Int × Int × Int × Int × Int × Int × Unit) (x1 : Unit) (x2 : Unit) (o0 : Unit) (o1 : Int) : Option (((Int × Int × Int × Int × Int × Int × Unit) × Int × Unit) × Unit × Int × Unit) :=
  (field_Grant x0 o1).bind fun r9 => some ((r9.1, (r9.2.1, ())), ((), (o1, ())))
def fund_by_1_v6.C : Ctx := { ty := tyT, sigs := fun i => bif Nat.beq i 48 then [field_Grant.sig] else [], n := 12, mp := mpT }
def fund_by_1_v6.Q : Cuts := { np := 2, loops := fun i => none, seqs := fun i => none, splits := fun i => none }
def fund_by_1_v6.sig : Sig := { args := .tc (.val kField) (.tc (.ptr 0) (.tc (.ptr 1) .tn)), objs := [.cell (.ref 2) (.clo 48 .tn), .cell (.int .i64) (.val (.int .i64))], ret := .tup (.tc (.val kField) (.tc (.val (.int .i64)) .tn)), outs := [.cell (.ref 2) (.clo 48 .tn), .cell (.int .i64) (.val (.int .i64))], F := fun x => fund_by_1_v6 x.1.1 x.1.2.1 x.1.2.2.1 x.2.1 x.2.2.1 }
theorem fund_by_1_v6.eq : (fun x => body fund_by_1_v6.C fund_by_1_v6.Q Go.Proofs.Try.f71 fund_by_1_v6.sig.args fund_by_1_v6.sig.objs fund_by_1_v6.sig.ret fund_by_1_v6.sig.outs x) = fund_by_1_v6.sig.F := by
  kernel_rfl
set_option maxRecDepth 100000 in
theorem fund_by_1_v6.ctx : CtxOk Go.Proofs.Try.prog fund_by_1_v6.C := ⟨tyOk, mpOk, Nat.le_of_ble_eq_true (by kernel_rfl), fun f sg => fun h => sigs_if h (allS_cons field_Grant.ok allS_nil) ((fun h => by cases h))⟩
set_option maxRecDepth 100000 in
theorem fund_by_1_v6.ok : Sound Go.Proofs.Try.prog 71 fund_by_1_v6.sig := body_sound (C := fund_by_1_v6.C) (q := fund_by_1_v6.Q) (fn := Go.Proofs.Try.f71) (sg := fund_by_1_v6.sig) (n := 3) fund_by_1_v6.ctx follows Go.Proofs.Try.func71 (by kernel_rfl) (by kernel_rfl) (by kernel_rfl) (by kernel_rfl) (Nat.le_of_ble_eq_true (by kernel_rfl)) (by kernel_rfl) fund_by_1_v6.eq

def fund_Fund_change_v6 (x0 : Unit) (x1 : Int × Int × Int × Unit) (x2 : Unit × Unit × Unit) (o0 : Unit) (o1 : Int) : Option (Int × Unit × Int × Unit) :=
  (fund_Fund_Get () x1).bind fun r8 => bif !r8.2.1 then some (10, ((), (o1, ()))) else (fund_by_1_v6 r8.1 () () () o1).bind fun r9 => bif (r9.1.2.1 : Int) == 0 then none else some (r9.1.2.1, ((), (r9.2.2.1, ())))
def fund_Fund_change_v6.C : Ctx := { ty := tyT, sigs := fun i => bif Nat.beq i 30 then [fund_Fund_Get.sig] else bif Nat.beq i 71 then [fund_by_1_v6.sig] else [], n := 35, mp := mpT }
def fund_Fund_change_v6.Q : Cuts := { np := 2, loops := fun i => none, seqs := fun i => none, splits := fun i => none }
def fund_Fund_change_v6.sig : Sig := { args := .tc (.nilr 0) (.tc (.val kKey) (.tc (.clo 71 (.tc (.ptr 0) (.tc (.ptr 1) .tn))) .tn)), objs := [.cell (.ref 2) (.clo 48 .tn), .cell (.int .i64) (.val (.int .i64))], ret := .val (.int .i64), outs := [.cell (.ref 2) (.clo 48 .tn), .cell (.int .i64) (.val (.int .i64))], F := fun x => fund_Fund_change_v6 x.1.1 x.1.2.1 x.1.2.2.1 x.2.1 x.2.2.1 }
theorem fund_Fund_change_v6.eq : (fun x => body fund_Fund_change_v6.C fund_Fund_change_v6.Q Go.Proofs.Try.f46 fund_Fund_change_v6.sig.args fund_Fund_change_v6.sig.objs fund_Fund_change_v6.sig.ret fund_Fund_change_v6.sig.outs x) = fund_Fund_change_v6.sig.F := by
  kernel_rfl
set_option maxRecDepth 100000 in
theorem fund_Fund_change_v6.ctx : CtxOk Go.Proofs.Try.prog fund_Fund_change_v6.C := ⟨tyOk, mpOk, Nat.le_of_ble_eq_true (by kernel_rfl), fun f sg => fun h => sigs_if h (allS_cons fund_Fund_Get.ok allS_nil) (fun h => sigs_if h (allS_cons fund_by_1_v6.ok allS_nil) ((fun h => by cases h)))⟩
set_option maxRecDepth 100000 in
theorem fund_Fund_change_v6.ok : Sound Go.Proofs.Try.prog 46 fund_Fund_change_v6.sig := body_sound (C := fund_Fund_change_v6.C) (q := fund_Fund_change_v6.Q) (fn := Go.Proofs.Try.f46) (sg := fund_Fund_change_v6.sig) (n := 3) fund_Fund_change_v6.ctx follows Go.Proofs.Try.func46 (by kernel_rfl) (by kernel_rfl) (by kernel_rfl) (by kernel_rfl) (Nat.le_of_ble_eq_true (by kernel_rfl)) (by kernel_rfl) fund_Fund_change_v6.eq

def fund_Fund_Grant (x0 : Unit) (x1 : (Int × Int × Int × Unit) × Int × Unit) : Option Int :=
  (fund_by_v6 () x1.2.1).bind fun r7 => (fund_Fund_change_v6 () x1.1 ((), ((), ())) () r7.2.2.1).bind fun r8 => some r8.1
def fund_Fund_Grant.C : Ctx := { ty := tyT, sigs := fun i => bif Nat.beq i 46 then [fund_Fund_change_v6.sig] else bif Nat.beq i 47 then [fund_by_v6.sig] else [], n := 12, mp := mpT }
def fund_Fund_Grant.Q : Cuts := { np := 0, loops := fun i => none, seqs := fun i => none, splits := fun i => none }
def fund_Fund_Grant.sig : Sig := { args := .tc (.nilr 0) (.tc (.val kOp) .tn), objs := [], ret := .val (.int .i64), outs := [], F := fun x => fund_Fund_Grant x.1.1 x.1.2.1 }
theorem fund_Fund_Grant.eq : (fun x => body fund_Fund_Grant.C fund_Fund_Grant.Q Go.Proofs.Try.f23 fund_Fund_Grant.sig.args fund_Fund_Grant.sig.objs fund_Fund_Grant.sig.ret fund_Fund_Grant.sig.outs x) = fund_Fund_Grant.sig.F := by
  kernel_rfl
set_option maxRecDepth 100000 in
theorem fund_Fund_Grant.ctx : CtxOk Go.Proofs.Try.prog fund_Fund_Grant.C := ⟨tyOk, mpOk, Nat.le_of_ble_eq_true (by kernel_rfl), fun f sg => fun h => sigs_if h (allS_cons fund_Fund_change_v6.ok allS_nil) (fun h => sigs_if h (allS_cons fund_by_v6.ok allS_nil) ((fun h => by cases h)))⟩
set_option maxRecDepth 100000 in
theorem fund_Fund_Grant.ok : Sound Go.Proofs.Try.prog 23 fund_Fund_Grant.sig := body_sound (C := fund_Fund_Grant.C) (q := fund_Fund_Grant.Q) (fn := Go.Proofs.Try.f23) (sg := fund_Fund_Grant.sig) (n := 2) fund_Fund_Grant.ctx follows Go.Proofs.Try.func23 (by kernel_rfl) (by kernel_rfl) (by kernel_rfl) (by kernel_rfl) (Nat.le_of_ble_eq_true (by kernel_rfl)) (by kernel_rfl) fund_Fund_Grant.eq

def pledgelaw18_do (x0 : Unit) (x1 : Int × ((Int × Int × Int × Unit) × Int × Unit) × Unit) : Option Int :=
  bif (Int.tmod x1.1 6 : Int) == 1 then (fund_Fund_Undo () x1.2.1).bind fun r2 => some r2 else bif (Int.tmod x1.1 6 : Int) == 2 then (fund_Fund_Settle () x1.2.1).bind fun r3 => some r3 else bif (Int.tmod x1.1 6 : Int) == 3 then (fund_Fund_Back () x1.2.1).bind fun r4 => some r4 else bif (Int.tmod x1.1 6 : Int) == 4 then (fund_Fund_Forth () x1.2.1).bind fun r5 => some r5 else bif (Int.tmod x1.1 6 : Int) == 5 then (fund_Fund_Drop () x1.2.1).bind fun r6 => some r6 else (fund_Fund_Grant () x1.2.1).bind fun r7 => some r7
def pledgelaw18_do.C : Ctx := { ty := tyT, sigs := fun i => bif Nat.beq i 23 then [fund_Fund_Grant.sig] else bif Nat.beq i 58 then [fund_Fund_Undo.sig] else bif Nat.beq i 59 then [fund_Fund_Settle.sig] else bif Nat.beq i 60 then [fund_Fund_Back.sig] else bif Nat.beq i 61 then [fund_Fund_Forth.sig] else bif Nat.beq i 62 then [fund_Fund_Drop.sig] else [], n := 42, mp := mpT }
def pledgelaw18_do.Q : Cuts := { np := 0, loops := fun i => none, seqs := fun i => none, splits := fun i => none }
def pledgelaw18_do.sig : Sig := { args := .tc (.nilr 0) (.tc (.val kAct_72) .tn), objs := [], ret := .val (.int .i64), outs := [], F := fun x => pledgelaw18_do x.1.1 x.1.2.1 }
theorem pledgelaw18_do.eq : (fun x => body pledgelaw18_do.C pledgelaw18_do.Q Go.Proofs.Try.f31 pledgelaw18_do.sig.args pledgelaw18_do.sig.objs pledgelaw18_do.sig.ret pledgelaw18_do.sig.outs x) = pledgelaw18_do.sig.F := by
  kernel_rfl
set_option maxRecDepth 100000 in
theorem pledgelaw18_do.ctx : CtxOk Go.Proofs.Try.prog pledgelaw18_do.C := ⟨tyOk, mpOk, Nat.le_of_ble_eq_true (by kernel_rfl), fun f sg => fun h => sigs_if h (allS_cons fund_Fund_Grant.ok allS_nil) (fun h => sigs_if h (allS_cons fund_Fund_Undo.ok allS_nil) (fun h => sigs_if h (allS_cons fund_Fund_Settle.ok allS_nil) (fun h => sigs_if h (allS_cons fund_Fund_Back.ok allS_nil) (fun h => sigs_if h (allS_cons fund_Fund_Forth.ok allS_nil) (fun h => sigs_if h (allS_cons fund_Fund_Drop.ok allS_nil) ((fun h => by cases h)))))))⟩
set_option maxRecDepth 100000 in
theorem pledgelaw18_do.ok : Sound Go.Proofs.Try.prog 31 pledgelaw18_do.sig := body_sound (C := pledgelaw18_do.C) (q := pledgelaw18_do.Q) (fn := Go.Proofs.Try.f31) (sg := pledgelaw18_do.sig) (n := 2) pledgelaw18_do.ctx follows Go.Proofs.Try.func31 (by kernel_rfl) (by kernel_rfl) (by kernel_rfl) (by kernel_rfl) (Nat.le_of_ble_eq_true (by kernel_rfl)) (by kernel_rfl) pledgelaw18_do.eq

def fund_Fund_Set_1 (x0 : Int × Int × Int × Int × Int × Int × Unit) (x1 : Unit) (o0 : Int × Int × Int × Int × Int × Int × Unit) : Option (((Int × Int × Int × Int × Int × Int × Unit) × Int × Unit) × (Int × Int × Int × Int × Int × Int × Unit) × Unit) :=
  (field_Good o0).bind fun r7 => bif !r7 then some ((x0, (12, ())), (o0, ())) else some ((o0, (0, ())), (o0, ()))
def fund_Fund_Set_1.C : Ctx := { ty := tyT, sigs := fun i => bif Nat.beq i 55 then [field_Good.sig] else [], n := 10, mp := mpT }
def fund_Fund_Set_1.Q : Cuts := { np := 1, loops := fun i => none, seqs := fun i => none, splits := fun i => none }
def fund_Fund_Set_1.sig : Sig := { args := .tc (.val kField) (.tc (.ptr 0) .tn), objs := [.cell kField (.val kField)], ret := .tup (.tc (.val kField) (.tc (.val (.int .i64)) .tn)), outs := [.cell kField (.val kField)], F := fun x => fund_Fund_Set_1 x.1.1 x.1.2.1 x.2.1 }
theorem fund_Fund_Set_1.eq : (fun x => body fund_Fund_Set_1.C fund_Fund_Set_1.Q Go.Proofs.Try.f54 fund_Fund_Set_1.sig.args fund_Fund_Set_1.sig.objs fund_Fund_Set_1.sig.ret fund_Fund_Set_1.sig.outs x) = fund_Fund_Set_1.sig.F := by
  kernel_rfl
set_option maxRecDepth 100000 in
theorem fund_Fund_Set_1.ctx : CtxOk Go.Proofs.Try.prog fund_Fund_Set_1.C := ⟨tyOk, mpOk, Nat.le_of_ble_eq_true (by kernel_rfl), fun f sg => fun h => sigs_if h (allS_cons field_Good.ok allS_nil) ((fun h => by cases h))⟩
set_option maxRecDepth 100000 in
theorem fund_Fund_Set_1.ok : Sound Go.Proofs.Try.prog 54 fund_Fund_Set_1.sig := body_sound (C := fund_Fund_Set_1.C) (q := fund_Fund_Set_1.Q) (fn := Go.Proofs.Try.f54) (sg := fund_Fund_Set_1.sig) (n := 2) fund_Fund_Set_1.ctx follows Go.Proofs.Try.func54 (by kernel_rfl) (by kernel_rfl) (by kernel_rfl) (by kernel_rfl) (Nat.le_of_ble_eq_true (by kernel_rfl)) (by kernel_rfl) fund_Fund_Set_1.eq

def fund_Fund_change_v7 (x0 : Unit) (x1 : Int × Int × Int × Unit) (x2 : Unit × Unit) (o0 : Int × Int × Int × Int × Int × Int × Unit) : Option (Int × (Int × Int × Int × Int × Int × Int × Unit) × Unit) :=
  (fund_Fund_Get () x1).bind fun r6 => bif !r6.2.1 then some (10, (o0, ())) else (fund_Fund_Set_1 r6.1 () o0).bind fun r7 => bif (r7.1.2.1 : Int) == 0 then none else some (r7.1.2.1, (r7.2.1, ()))
def fund_Fund_change_v7.C : Ctx := { ty := tyT, sigs := fun i => bif Nat.beq i 30 then [fund_Fund_Get.sig] else bif Nat.beq i 54 then [fund_Fund_Set_1.sig] else [], n := 35, mp := mpT }
def fund_Fund_change_v7.Q : Cuts := { np := 1, loops := fun i => none, seqs := fun i => none, splits := fun i => none }
def fund_Fund_change_v7.sig : Sig := { args := .tc (.nilr 0) (.tc (.val kKey) (.tc (.clo 54 (.tc (.ptr 0) .tn)) .tn)), objs := [.cell kField (.val kField)], ret := .val (.int .i64), outs := [.cell kField (.val kField)], F := fun x => fund_Fund_change_v7 x.1.1 x.1.2.1 x.1.2.2.1 x.2.1 }
theorem fund_Fund_change_v7.eq : (fun x => body fund_Fund_change_v7.C fund_Fund_change_v7.Q Go.Proofs.Try.f46 fund_Fund_change_v7.sig.args fund_Fund_change_v7.sig.objs fund_Fund_change_v7.sig.ret fund_Fund_change_v7.sig.outs x) = fund_Fund_change_v7.sig.F := by
  kernel_rfl
set_option maxRecDepth 100000 in
theorem fund_Fund_change_v7.ctx : CtxOk Go.Proofs.Try.prog fund_Fund_change_v7.C := ⟨tyOk, mpOk, Nat.le_of_ble_eq_true (by kernel_rfl), fun f sg => fun h => sigs_if h (allS_cons fund_Fund_Get.ok allS_nil) (fun h => sigs_if h (allS_cons fund_Fund_Set_1.ok allS_nil) ((fun h => by cases h)))⟩
set_option maxRecDepth 100000 in
theorem fund_Fund_change_v7.ok : Sound Go.Proofs.Try.prog 46 fund_Fund_change_v7.sig := body_sound (C := fund_Fund_change_v7.C) (q := fund_Fund_change_v7.Q) (fn := Go.Proofs.Try.f46) (sg := fund_Fund_change_v7.sig) (n := 3) fund_Fund_change_v7.ctx follows Go.Proofs.Try.func46 (by kernel_rfl) (by kernel_rfl) (by kernel_rfl) (by kernel_rfl) (Nat.le_of_ble_eq_true (by kernel_rfl)) (by kernel_rfl) fund_Fund_change_v7.eq

def fund_Fund_Set (x0 : Unit) (x1 : Int × Int × Int × Unit) (x2 : Int × Int × Int × Int × Int × Int × Unit) : Option Int :=
  (fund_Fund_change_v7 () x1 ((), ()) x2).bind fun r6 => some r6.1
def fund_Fund_Set.C : Ctx := { ty := tyT, sigs := fun i => bif Nat.beq i 46 then [fund_Fund_change_v7.sig] else [], n := 11, mp := mpT }
def fund_Fund_Set.Q : Cuts := { np := 0, loops := fun i => none, seqs := fun i => none, splits := fun i => none }
def fund_Fund_Set.sig : Sig := { args := .tc (.nilr 0) (.tc (.val kKey) (.tc (.val kField) .tn)), objs := [], ret := .val (.int .i64), outs := [], F := fun x => fund_Fund_Set x.1.1 x.1.2.1 x.1.2.2.1 }
theorem fund_Fund_Set.eq : (fun x => body fund_Fund_Set.C fund_Fund_Set.Q Go.Proofs.Try.f28 fund_Fund_Set.sig.args fund_Fund_Set.sig.objs fund_Fund_Set.sig.ret fund_Fund_Set.sig.outs x) = fund_Fund_Set.sig.F := by
  kernel_rfl
set_option maxRecDepth 100000 in
theorem fund_Fund_Set.ctx : CtxOk Go.Proofs.Try.prog fund_Fund_Set.C := ⟨tyOk, mpOk, Nat.le_of_ble_eq_true (by kernel_rfl), fun f sg => fun h => sigs_if h (allS_cons fund_Fund_change_v7.ok allS_nil) ((fun h => by cases h))⟩
set_option maxRecDepth 100000 in
theorem fund_Fund_Set.ok : Sound Go.Proofs.Try.prog 28 fund_Fund_Set.sig := body_sound (C := fund_Fund_Set.C) (q := fund_Fund_Set.Q) (fn := Go.Proofs.Try.f28) (sg := fund_Fund_Set.sig) (n := 3) fund_Fund_Set.ctx follows Go.Proofs.Try.func28 (by kernel_rfl) (by kernel_rfl) (by kernel_rfl) (by kernel_rfl) (Nat.le_of_ble_eq_true (by kernel_rfl)) (by kernel_rfl) fund_Fund_Set.eq

def table_Table_api_Field_Keys (x0 : Unit) : Option (List (Int × Int × Int × Unit)) :=
  some []
def table_Table_api_Field_Keys.C : Ctx := { ty := tyT, sigs := fun i => [], n := 11, mp := mpT }
def table_Table_api_Field_Keys.Q : Cuts := { np := 0, loops := fun i => none, seqs := fun i => none, splits := fun i => none }
def table_Table_api_Field_Keys.sig : Sig := { args := .tc (.nilr 0) .tn, objs := [], ret := .val (.slice kKey), outs := [], F := fun x => table_Table_api_Field_Keys x.1.1 }
theorem table_Table_api_Field_Keys.eq : (fun x => body table_Table_api_Field_Keys.C table_Table_api_Field_Keys.Q Go.Proofs.Try.f63 table_Table_api_Field_Keys.sig.args table_Table_api_Field_Keys.sig.objs table_Table_api_Field_Keys.sig.ret table_Table_api_Field_Keys.sig.outs x) = table_Table_api_Field_Keys.sig.F := by
  kernel_rfl
set_option maxRecDepth 100000 in
theorem table_Table_api_Field_Keys.ctx : CtxOk Go.Proofs.Try.prog table_Table_api_Field_Keys.C := ⟨tyOk, mpOk, Nat.le_of_ble_eq_true (by kernel_rfl), fun f sg => (fun h => by cases h)⟩
set_option maxRecDepth 100000 in
theorem table_Table_api_Field_Keys.ok : Sound Go.Proofs.Try.prog 63 table_Table_api_Field_Keys.sig := body_sound (C := table_Table_api_Field_Keys.C) (q := table_Table_api_Field_Keys.Q) (fn := Go.Proofs.Try.f63) (sg := table_Table_api_Field_Keys.sig) (n := 1) table_Table_api_Field_Keys.ctx follows Go.Proofs.Try.func63 (by kernel_rfl) (by kernel_rfl) (by kernel_rfl) (by kernel_rfl) (Nat.le_of_ble_eq_true (by kernel_rfl)) (by kernel_rfl) table_Table_api_Field_Keys.eq

def fund_Fund_Keys (x0 : Unit) : Option (List (Int × Int × Int × Unit)) :=
  (fund_Fund_all ()).bind fun r8 => (table_Table_api_Field_Keys ()).bind fun r9 => some r9
def fund_Fund_Keys.C : Ctx := { ty := tyT, sigs := fun i => bif Nat.beq i 44 then [fund_Fund_all.sig] else bif Nat.beq i 63 then [table_Table_api_Field_Keys.sig] else [], n := 6, mp := mpT }
def fund_Fund_Keys.Q : Cuts := { np := 0, loops := fun i => none, seqs := fun i => none, splits := fun i => none }
def fund_Fund_Keys.sig : Sig := { args := .tc (.nilr 0) .tn, objs := [], ret := .val (.slice kKey), outs := [], F := fun x => fund_Fund_Keys x.1.1 }
theorem fund_Fund_Keys.eq : (fun x => body fund_Fund_Keys.C fund_Fund_Keys.Q Go.Proofs.Try.f32 fund_Fund_Keys.sig.args fund_Fund_Keys.sig.objs fund_Fund_Keys.sig.ret fund_Fund_Keys.sig.outs x) = fund_Fund_Keys.sig.F := by
  kernel_rfl
set_option maxRecDepth 100000 in
theorem fund_Fund_Keys.ctx : CtxOk Go.Proofs.Try.prog fund_Fund_Keys.C := ⟨tyOk, mpOk, Nat.le_of_ble_eq_true (by kernel_rfl), fun f sg => fun h => sigs_if h (allS_cons fund_Fund_all.ok allS_nil) (fun h => sigs_if h (allS_cons table_Table_api_Field_Keys.ok allS_nil) ((fun h => by cases h)))⟩
set_option maxRecDepth 100000 in
theorem fund_Fund_Keys.ok : Sound Go.Proofs.Try.prog 32 fund_Fund_Keys.sig := body_sound (C := fund_Fund_Keys.C) (q := fund_Fund_Keys.Q) (fn := Go.Proofs.Try.f32) (sg := fund_Fund_Keys.sig) (n := 1) fund_Fund_Keys.ctx follows Go.Proofs.Try.func32 (by kernel_rfl) (by kernel_rfl) (by kernel_rfl) (by kernel_rfl) (Nat.le_of_ble_eq_true (by kernel_rfl)) (by kernel_rfl) fund_Fund_Keys.eq

def table_New_api_Field  : Option (Unit × (Unit × Unit) × (List ((Int × Int × Int × Unit) × Int × Int × Int × Int × Int × Int × Unit)) × Unit) :=
  some ((), (((), ()), ([], ())))
def table_New_api_Field.C : Ctx := { ty := tyT, sigs := fun i => [], n := 4, mp := mpT }
def table_New_api_Field.Q : Cuts := { np := 0, loops := fun i => none, seqs := fun i => none, splits := fun i => none }
def table_New_api_Field.sig : Sig := { args := .tn, objs := [], ret := .ptr 0, outs := [.cell (.cons (.ref 1) .unit) (.pair (.mapr 1) (.val .unit)), .map kKey kField], F := fun x => table_New_api_Field }
theorem table_New_api_Field.eq : (fun x => body table_New_api_Field.C table_New_api_Field.Q Go.Proofs.Try.f41 table_New_api_Field.sig.args table_New_api_Field.sig.objs table_New_api_Field.sig.ret table_New_api_Field.sig.outs x) = table_New_api_Field.sig.F := by
  kernel_rfl
set_option maxRecDepth 100000 in
theorem table_New_api_Field.ctx : CtxOk Go.Proofs.Try.prog table_New_api_Field.C := ⟨tyOk, mpOk, Nat.le_of_ble_eq_true (by kernel_rfl), fun f sg => (fun h => by cases h)⟩
set_option maxRecDepth 100000 in
theorem table_New_api_Field.ok : Sound Go.Proofs.Try.prog 41 table_New_api_Field.sig := body_sound (C := table_New_api_Field.C) (q := table_New_api_Field.Q) (fn := Go.Proofs.Try.f41) (sg := table_New_api_Field.sig) (n := 0) table_New_api_Field.ctx follows Go.Proofs.Try.func41 (by kernel_rfl) (by kernel_rfl) (by kernel_rfl) (by kernel_rfl) (Nat.le_of_ble_eq_true (by kernel_rfl)) (by kernel_rfl) table_New_api_Field.eq

def table_Table_api_Field_Copy (x0 : Unit) : Option (Unit × (Unit × Unit) × (List ((Int × Int × Int × Unit) × Int × Int × Int × Int × Int × Int × Unit)) × Unit) :=
  table_New_api_Field.bind fun r12 => some ((), (((), r12.2.1.2), (r12.2.2.1, ())))
def table_Table_api_Field_Copy.C : Ctx := { ty := tyT, sigs := fun i => bif Nat.beq i 41 then [table_New_api_Field.sig] else [], n := 17, mp := mpT }
def table_Table_api_Field_Copy.Q : Cuts := { np := 0, loops := fun i => none, seqs := fun i => none, splits := fun i => none }
def table_Table_api_Field_Copy.sig : Sig := { args := .tc (.nilr 0) .tn, objs := [], ret := .ptr 0, outs := [.cell (.cons (.ref 1) .unit) (.pair (.mapr 1) (.val .unit)), .map kKey kField], F := fun x => table_Table_api_Field_Copy x.1.1 }
theorem table_Table_api_Field_Copy.eq : (fun x => body table_Table_api_Field_Copy.C table_Table_api_Field_Copy.Q Go.Proofs.Try.f45 table_Table_api_Field_Copy.sig.args table_Table_api_Field_Copy.sig.objs table_Table_api_Field_Copy.sig.ret table_Table_api_Field_Copy.sig.outs x) = table_Table_api_Field_Copy.sig.F := by
  kernel_rfl
set_option maxRecDepth 100000 in
theorem table_Table_api_Field_Copy.ctx : CtxOk Go.Proofs.Try.prog table_Table_api_Field_Copy.C := ⟨tyOk, mpOk, Nat.le_of_ble_eq_true (by kernel_rfl), fun f sg => fun h => sigs_if h (allS_cons table_New_api_Field.ok allS_nil) ((fun h => by cases h))⟩
set_option maxRecDepth 100000 in
theorem table_Table_api_Field_Copy.ok : Sound Go.Proofs.Try.prog 45 table_Table_api_Field_Copy.sig := body_sound (C := table_Table_api_Field_Copy.C) (q := table_Table_api_Field_Copy.Q) (fn := Go.Proofs.Try.f45) (sg := table_Table_api_Field_Copy.sig) (n := 1) table_Table_api_Field_Copy.ctx follows Go.Proofs.Try.func45 (by kernel_rfl) (by kernel_rfl) (by kernel_rfl) (by kernel_rfl) (Nat.le_of_ble_eq_true (by kernel_rfl)) (by kernel_rfl) table_Table_api_Field_Copy.eq

def fund_Fund_Copy (x0 : Unit) : Option (Unit × (Unit × Unit) × (Unit × Unit) × (List ((Int × Int × Int × Unit) × Int × Int × Int × Int × Int × Int × Unit)) × Unit) :=
  (fund_Fund_all ()).bind fun r11 => (table_Table_api_Field_Copy ()).bind fun r12 => some ((), (((), ()), (((), r12.2.1.2), (r12.2.2.1, ()))))
def fund_Fund_Copy.C : Ctx := { ty := tyT, sigs := fun i => bif Nat.beq i 44 then [fund_Fund_all.sig] else bif Nat.beq i 45 then [table_Table_api_Field_Copy.sig] else [], n := 8, mp := mpT }
def fund_Fund_Copy.Q : Cuts := { np := 0, loops := fun i => none, seqs := fun i => none, splits := fun i => none }
def fund_Fund_Copy.sig : Sig := { args := .tc (.nilr 0) .tn, objs := [], ret := .ptr 0, outs := [.cell (.cons (.ref 0) .unit) (.pair (.ptr 1) (.val .unit)), .cell (.cons (.ref 1) .unit) (.pair (.mapr 2) (.val .unit)), .map kKey kField], F := fun x => fund_Fund_Copy x.1.1 }
theorem fund_Fund_Copy.eq : (fun x => body fund_Fund_Copy.C fund_Fund_Copy.Q Go.Proofs.Try.f21 fund_Fund_Copy.sig.args fund_Fund_Copy.sig.objs fund_Fund_Copy.sig.ret fund_Fund_Copy.sig.outs x) = fund_Fund_Copy.sig.F := by
  kernel_rfl
set_option maxRecDepth 100000 in
theorem fund_Fund_Copy.ctx : CtxOk Go.Proofs.Try.prog fund_Fund_Copy.C := ⟨tyOk, mpOk, Nat.le_of_ble_eq_true (by kernel_rfl), fun f sg => fun h => sigs_if h (allS_cons fund_Fund_all.ok allS_nil) (fun h => sigs_if h (allS_cons table_Table_api_Field_Copy.ok allS_nil) ((fun h => by cases h)))⟩
set_option maxRecDepth 100000 in
theorem fund_Fund_Copy.ok : Sound Go.Proofs.Try.prog 21 fund_Fund_Copy.sig := body_sound (C := fund_Fund_Copy.C) (q := fund_Fund_Copy.Q) (fn := Go.Proofs.Try.f21) (sg := fund_Fund_Copy.sig) (n := 1) fund_Fund_Copy.ctx follows Go.Proofs.Try.func21 (by kernel_rfl) (by kernel_rfl) (by kernel_rfl) (by kernel_rfl) (Nat.le_of_ble_eq_true (by kernel_rfl)) (by kernel_rfl) fund_Fund_Copy.eq

def fund_Fund_all_v2 (x0 : Unit) (o0 : Unit × Unit) (o1 : Unit × Unit) (o2 : List ((Int × Int × Int × Unit) × Int × Int × Int × Int × Int × Int × Unit)) : Option (Unit × (Unit × Unit) × (Unit × Unit) × (List ((Int × Int × Int × Unit) × Int × Int × Int × Int × Int × Int × Unit)) × Unit) :=
  some ((), (((), o0.2), (((), o1.2), (o2, ()))))
def fund_Fund_all_v2.C : Ctx := { ty := tyT, sigs := fun i => [], n := 9, mp := mpT }
def fund_Fund_all_v2.Q : Cuts := { np := 3, loops := fun i => none, seqs := fun i => none, splits := fun i => none }
def fund_Fund_all_v2.sig : Sig := { args := .tc (.ptr 0) .tn, objs := [.cell (.cons (.ref 0) .unit) (.pair (.ptr 1) (.val .unit)), .cell (.cons (.ref 1) .unit) (.pair (.mapr 2) (.val .unit)), .map kKey kField], ret := .ptr 1, outs := [.cell (.cons (.ref 0) .unit) (.pair (.ptr 1) (.val .unit)), .cell (.cons (.ref 1) .unit) (.pair (.mapr 2) (.val .unit)), .map kKey kField], F := fun x => fund_Fund_all_v2 x.1.1 x.2.1 x.2.2.1 x.2.2.2.1 }
theorem fund_Fund_all_v2.eq : (fun x => body fund_Fund_all_v2.C fund_Fund_all_v2.Q Go.Proofs.Try.f44 fund_Fund_all_v2.sig.args fund_Fund_all_v2.sig.objs fund_Fund_all_v2.sig.ret fund_Fund_all_v2.sig.outs x) = fund_Fund_all_v2.sig.F := by
  kernel_rfl
set_option maxRecDepth 100000 in
theorem fund_Fund_all_v2.ctx : CtxOk Go.Proofs.Try.prog fund_Fund_all_v2.C := ⟨tyOk, mpOk, Nat.le_of_ble_eq_true (by kernel_rfl), fun f sg => (fun h => by cases h)⟩
set_option maxRecDepth 100000 in
theorem fund_Fund_all_v2.ok : Sound Go.Proofs.Try.prog 44 fund_Fund_all_v2.sig := body_sound (C := fund_Fund_all_v2.C) (q := fund_Fund_all_v2.Q) (fn := Go.Proofs.Try.f44) (sg := fund_Fund_all_v2.sig) (n := 1) fund_Fund_all_v2.ctx follows Go.Proofs.Try.func44 (by kernel_rfl) (by kernel_rfl) (by kernel_rfl) (by kernel_rfl) (Nat.le_of_ble_eq_true (by kernel_rfl)) (by kernel_rfl) fund_Fund_all_v2.eq

def table_Table_api_Field_Get_v2 (x0 : Unit) (x1 : Int × Int × Int × Unit) (o0 : Unit × Unit) (o1 : List ((Int × Int × Int × Unit) × Int × Int × Int × Int × Int × Int × Unit)) : Option (((Int × Int × Int × Int × Int × Int × Unit) × Bool × Unit) × (Unit × Unit) × (List ((Int × Int × Int × Unit) × Int × Int × Int × Int × Int × Int × Unit)) × Unit) :=
  some ((getM kKey kField o1 x1, (hasM kKey kField o1 x1, ())), (((), o0.2), (o1, ())))
def table_Table_api_Field_Get_v2.C : Ctx := { ty := tyT, sigs := fun i => [], n := 20, mp := mpT }
def table_Table_api_Field_Get_v2.Q : Cuts := { np := 2, loops := fun i => none, seqs := fun i => none, splits := fun i => none }
def table_Table_api_Field_Get_v2.sig : Sig := { args := .tc (.ptr 0) (.tc (.val kKey) .tn), objs := [.cell (.cons (.ref 1) .unit) (.pair (.mapr 1) (.val .unit)), .map kKey kField], ret := .tup (.tc (.val kField) (.tc (.val .bool) .tn)), outs := [.cell (.cons (.ref 1) .unit) (.pair (.mapr 1) (.val .unit)), .map kKey kField], F := fun x => table_Table_api_Field_Get_v2 x.1.1 x.1.2.1 x.2.1 x.2.2.1 }
theorem table_Table_api_Field_Get_v2.eq : (fun x => body table_Table_api_Field_Get_v2.C table_Table_api_Field_Get_v2.Q Go.Proofs.Try.f57 table_Table_api_Field_Get_v2.sig.args table_Table_api_Field_Get_v2.sig.objs table_Table_api_Field_Get_v2.sig.ret table_Table_api_Field_Get_v2.sig.outs x) = table_Table_api_Field_Get_v2.sig.F := by
  kernel_rfl
set_option maxRecDepth 100000 in
theorem table_Table_api_Field_Get_v2.ctx : CtxOk Go.Proofs.Try.prog table_Table_api_Field_Get_v2.C := ⟨tyOk, mpOk, Nat.le_of_ble_eq_true (by kernel_rfl), fun f sg => (fun h => by cases h)⟩
set_option maxRecDepth 100000 in
theorem table_Table_api_Field_Get_v2.ok : Sound Go.Proofs.Try.prog 57 table_Table_api_Field_Get_v2.sig := body_sound (C := table_Table_api_Field_Get_v2.C) (q := table_Table_api_Field_Get_v2.Q) (fn := Go.Proofs.Try.f57) (sg := table_Table_api_Field_Get_v2.sig) (n := 2) table_Table_api_Field_Get_v2.ctx follows Go.Proofs.Try.func57 (by kernel_rfl) (by kernel_rfl) (by kernel_rfl) (by kernel_rfl) (Nat.le_of_ble_eq_true (by kernel_rfl)) (by kernel_rfl) table_Table_api_Field_Get_v2.eq

def fund_Fund_Get_v2 (x0 : Unit) (x1 : Int × Int × Int × Unit) (o0 : Unit × Unit) (o1 : Unit × Unit) (o2 : List ((Int × Int × Int × Unit) × Int × Int × Int × Int × Int × Int × Unit)) : Option (((Int × Int × Int × Int × Int × Int × Unit) × Bool × Unit) × (Unit × Unit) × (Unit × Unit) × (List ((Int × Int × Int × Unit) × Int × Int × Int × Int × Int × Int × Unit)) × Unit) :=
  (fund_Fund_all_v2 () ((), o0.2) ((), o1.2) o2).bind fun r14 => (table_Table_api_Field_Get_v2 () x1 ((), r14.2.2.1.2) r14.2.2.2.1).bind fun r15 => some ((r15.1.1, (r15.1.2.1, ())), (((), r14.2.1.2), (((), r15.2.1.2), (r15.2.2.1, ()))))
def fund_Fund_Get_v2.C : Ctx := { ty := tyT, sigs := fun i => bif Nat.beq i 44 then [fund_Fund_all_v2.sig] else bif Nat.beq i 57 then [table_Table_api_Field_Get_v2.sig] else [], n := 12, mp := mpT }
def fund_Fund_Get_v2.Q : Cuts := { np := 3, loops := fun i => none, seqs := fun i => none, splits := fun i => none }
def fund_Fund_Get_v2.sig : Sig := { args := .tc (.ptr 0) (.tc (.val kKey) .tn), objs := [.cell (.cons (.ref 0) .unit) (.pair (.ptr 1) (.val .unit)), .cell (.cons (.ref 1) .unit) (.pair (.mapr 2) (.val .unit)), .map kKey kField], ret := .tup (.tc (.val kField) (.tc (.val .bool) .tn)), outs := [.cell (.cons (.ref 0) .unit) (.pair (.ptr 1) (.val .unit)), .cell (.cons (.ref 1) .unit) (.pair (.mapr 2) (.val .unit)), .map kKey kField], F := fun x => fund_Fund_Get_v2 x.1.1 x.1.2.1 x.2.1 x.2.2.1 x.2.2.2.1 }
theorem fund_Fund_Get_v2.eq : (fun x => body fund_Fund_Get_v2.C fund_Fund_Get_v2.Q Go.Proofs.Try.f30 fund_Fund_Get_v2.sig.args fund_Fund_Get_v2.sig.objs fund_Fund_Get_v2.sig.ret fund_Fund_Get_v2.sig.outs x) = fund_Fund_Get_v2.sig.F := by
  kernel_rfl
set_option maxRecDepth 100000 in
theorem fund_Fund_Get_v2.ctx : CtxOk Go.Proofs.Try.prog fund_Fund_Get_v2.C := ⟨tyOk, mpOk, Nat.le_of_ble_eq_true (by kernel_rfl), fun f sg => fun h => sigs_if h (allS_cons fund_Fund_all_v2.ok allS_nil) (fun h => sigs_if h (allS_cons table_Table_api_Field_Get_v2.ok allS_nil) ((fun h => by cases h)))⟩
set_option maxRecDepth 100000 in
theorem fund_Fund_Get_v2.ok : Sound Go.Proofs.Try.prog 30 fund_Fund_Get_v2.sig := body_sound (C := fund_Fund_Get_v2.C) (q := fund_Fund_Get_v2.Q) (fn := Go.Proofs.Try.f30) (sg := fund_Fund_Get_v2.sig) (n := 2) fund_Fund_Get_v2.ctx follows Go.Proofs.Try.func30 (by kernel_rfl) (by kernel_rfl) (by kernel_rfl) (by kernel_rfl) (Nat.le_of_ble_eq_true (by kernel_rfl)) (by kernel_rfl) fund_Fund_Get_v2.eq

def table_Table_api_Field_Put (x0 : Unit) (x1 : Int × Int × Int × Unit) (x2 : Int × Int × Int × Int × Int × Int × Unit) (o0 : Unit × Unit) (o1 : List ((Int × Int × Int × Unit) × Int × Int × Int × Int × Int × Int × Unit)) : Option (Unit × (Unit × Unit) × (List ((Int × Int × Int × Unit) × Int × Int × Int × Int × Int × Int × Unit)) × Unit) :=
  some ((), (((), o0.2), (putM kKey kField o1 x1 x2, ())))
def table_Table_api_Field_Put.C : Ctx := { ty := tyT, sigs := fun i => [], n := 23, mp := mpT }
def table_Table_api_Field_Put.Q : Cuts := { np := 2, loops := fun i => none, seqs := fun i => none, splits := fun i => none }
def table_Table_api_Field_Put.sig : Sig := { args := .tc (.ptr 0) (.tc (.val kKey) (.tc (.val kField) .tn)), objs := [.cell (.cons (.ref 1) .unit) (.pair (.mapr 1) (.val .unit)), .map kKey kField], ret := .tup .tn, outs := [.cell (.cons (.ref 1) .unit) (.pair (.mapr 1) (.val .unit)), .map kKey kField], F := fun x => table_Table_api_Field_Put x.1.1 x.1.2.1 x.1.2.2.1 x.2.1 x.2.2.1 }
theorem table_Table_api_Field_Put.eq : (fun x => body table_Table_api_Field_Put.C table_Table_api_Field_Put.Q Go.Proofs.Try.f43 table_Table_api_Field_Put.sig.args table_Table_api_Field_Put.sig.objs table_Table_api_Field_Put.sig.ret table_Table_api_Field_Put.sig.outs x) = table_Table_api_Field_Put.sig.F := by
  kernel_rfl
set_option maxRecDepth 100000 in
theorem table_Table_api_Field_Put.ctx : CtxOk Go.Proofs.Try.prog table_Table_api_Field_Put.C := ⟨tyOk, mpOk, Nat.le_of_ble_eq_true (by kernel_rfl), fun f sg => (fun h => by cases h)⟩
set_option maxRecDepth 100000 in
theorem table_Table_api_Field_Put.ok : Sound Go.Proofs.Try.prog 43 table_Table_api_Field_Put.sig := body_sound (C := table_Table_api_Field_Put.C) (q := table_Table_api_Field_Put.Q) (fn := Go.Proofs.Try.f43) (sg := table_Table_api_Field_Put.sig) (n := 3) table_Table_api_Field_Put.ctx follows Go.Proofs.Try.func43 (by kernel_rfl) (by kernel_rfl) (by kernel_rfl) (by kernel_rfl) (Nat.le_of_ble_eq_true (by kernel_rfl)) (by kernel_rfl) table_Table_api_Field_Put.eq

def fund_Fund_change_v8 (x0 : Unit) (x1 : Int × Int × Int × Unit) (x2 : Unit × Unit × Unit) (o0 : Unit × Unit) (o1 : Unit) (o2 : Int) (o3 : Unit × Unit) (o4 : List ((Int × Int × Int × Unit) × Int × Int × Int × Int × Int × Int × Unit)) : Option (Int × (Unit × Unit) × Unit × Int × (Unit × Unit) × (List ((Int × Int × Int × Unit) × Int × Int × Int × Int × Int × Int × Unit)) × Unit) :=
  (fund_Fund_Get_v2 () x1 ((), o0.2) ((), o3.2) o4).bind fun r14 => bif !r14.1.2.1 then some (10, (((), r14.2.1.2), ((), (o2, (((), r14.2.2.1.2), (r14.2.2.2.1, ())))))) else (fund_by_1_v6 r14.1.1 () () () o2).bind fun r15 => bif (r15.1.2.1 : Int) == 0 then (table_Table_api_Field_Put () x1 r15.1.1 ((), r14.2.2.1.2) r14.2.2.2.1).bind fun r16 => some (r15.1.2.1, (((), r14.2.1.2), ((), (r15.2.2.1, (((), r16.2.1.2), (r16.2.2.1, ())))))) else some (r15.1.2.1, (((), r14.2.1.2), ((), (r15.2.2.1, (((), r14.2.2.1.2), (r14.2.2.2.1, ()))))))
def fund_Fund_change_v8.C : Ctx := { ty := tyT, sigs := fun i => bif Nat.beq i 30 then [fund_Fund_Get_v2.sig] else bif Nat.beq i 43 then [table_Table_api_Field_Put.sig] else bif Nat.beq i 71 then [fund_by_1_v6.sig] else [], n := 35, mp := mpT }
def fund_Fund_change_v8.Q : Cuts := { np := 5, loops := fun i => none, seqs := fun i => none, splits := fun i => none }
def fund_Fund_change_v8.sig : Sig := { args := .tc (.ptr 0) (.tc (.val kKey) (.tc (.clo 71 (.tc (.ptr 1) (.tc (.ptr 2) .tn))) .tn)), objs := [.cell (.cons (.ref 0) .unit) (.pair (.ptr 3) (.val .unit)), .cell (.ref 2) (.clo 48 .tn), .cell (.int .i64) (.val (.int .i64)), .cell (.cons (.ref 1) .unit) (.pair (.mapr 4) (.val .unit)), .map kKey kField], ret := .val (.int .i64), outs := [.cell (.cons (.ref 0) .unit) (.pair (.ptr 3) (.val .unit)), .cell (.ref 2) (.clo 48 .tn), .cell (.int .i64) (.val (.int .i64)), .cell (.cons (.ref 1) .unit) (.pair (.mapr 4) (.val .unit)), .map kKey kField], F := fun x => fund_Fund_change_v8 x.1.1 x.1.2.1 x.1.2.2.1 x.2.1 x.2.2.1 x.2.2.2.1 x.2.2.2.2.1 x.2.2.2.2.2.1 }
theorem fund_Fund_change_v8.eq : (fun x => body fund_Fund_change_v8.C fund_Fund_change_v8.Q Go.Proofs.Try.f46 fund_Fund_change_v8.sig.args fund_Fund_change_v8.sig.objs fund_Fund_change_v8.sig.ret fund_Fund_change_v8.sig.outs x) = fund_Fund_change_v8.sig.F := by
  kernel_rfl
set_option maxRecDepth 100000 in
theorem fund_Fund_change_v8.ctx : CtxOk Go.Proofs.Try.prog fund_Fund_change_v8.C := ⟨tyOk, mpOk, Nat.le_of_ble_eq_true (by kernel_rfl), fun f sg => fun h => sigs_if h (allS_cons fund_Fund_Get_v2.ok allS_nil) (fun h => sigs_if h (allS_cons table_Table_api_Field_Put.ok allS_nil) (fun h => sigs_if h (allS_cons fund_by_1_v6.ok allS_nil) ((fun h => by cases h))))⟩
set_option maxRecDepth 100000 in
theorem fund_Fund_change_v8.ok : Sound Go.Proofs.Try.prog 46 fund_Fund_change_v8.sig := body_sound (C := fund_Fund_change_v8.C) (q := fund_Fund_change_v8.Q) (fn := Go.Proofs.Try.f46) (sg := fund_Fund_change_v8.sig) (n := 3) fund_Fund_change_v8.ctx follows Go.Proofs.Try.func46 (by kernel_rfl) (by kernel_rfl) (by kernel_rfl) (by kernel_rfl) (Nat.le_of_ble_eq_true (by kernel_rfl)) (by kernel_rfl) fund_Fund_change_v8.eq

def fund_Fund_Grant_v2 (x0 : Unit) (x1 : (Int × Int × Int × Unit) × Int × Unit) (o0 : Unit × Unit) (o1 : Unit × Unit) (o2 : List ((Int × Int × Int × Unit) × Int × Int × Int × Int × Int × Int × Unit)) : Option (Int × (Unit × Unit) × (Unit × Unit) × (List ((Int × Int × Int × Unit) × Int × Int × Int × Int × Int × Int × Unit)) × Unit) :=
  (fund_by_v6 () x1.2.1).bind fun r13 => (fund_Fund_change_v8 () x1.1 ((), ((), ())) ((), o0.2) () r13.2.2.1 ((), o1.2) o2).bind fun r14 => some (r14.1, (((), r14.2.1.2), (((), r14.2.2.2.2.1.2), (r14.2.2.2.2.2.1, ()))))
def fund_Fund_Grant_v2.C : Ctx := { ty := tyT, sigs := fun i => bif Nat.beq i 46 then [fund_Fund_change_v8.sig] else bif Nat.beq i 47 then [fund_by_v6.sig] else [], n := 12, mp := mpT }
def fund_Fund_Grant_v2.Q : Cuts := { np := 3, loops := fun i => none, seqs := fun i => none, splits := fun i => none }
def fund_Fund_Grant_v2.sig : Sig := { args := .tc (.ptr 0) (.tc (.val kOp) .tn), objs := [.cell (.cons (.ref 0) .unit) (.pair (.ptr 1) (.val .unit)), .cell (.cons (.ref 1) .unit) (.pair (.mapr 2) (.val .unit)), .map kKey kField], ret := .val (.int .i64), outs := [.cell (.cons (.ref 0) .unit) (.pair (.ptr 1) (.val .unit)), .cell (.cons (.ref 1) .unit) (.pair (.mapr 2) (.val .unit)), .map kKey kField], F := fun x => fund_Fund_Grant_v2 x.1.1 x.1.2.1 x.2.1 x.2.2.1 x.2.2.2.1 }
theorem fund_Fund_Grant_v2.eq : (fun x => body fund_Fund_Grant_v2.C fund_Fund_Grant_v2.Q Go.Proofs.Try.f23 fund_Fund_Grant_v2.sig.args fund_Fund_Grant_v2.sig.objs fund_Fund_Grant_v2.sig.ret fund_Fund_Grant_v2.sig.outs x) = fund_Fund_Grant_v2.sig.F := by
  kernel_rfl
set_option maxRecDepth 100000 in
theorem fund_Fund_Grant_v2.ctx : CtxOk Go.Proofs.Try.prog fund_Fund_Grant_v2.C := ⟨tyOk, mpOk, Nat.le_of_ble_eq_true (by kernel_rfl), fun f sg => fun h => sigs_if h (allS_cons fund_Fund_change_v8.ok allS_nil) (fun h => sigs_if h (allS_cons fund_by_v6.ok allS_nil) ((fun h => by cases h)))⟩
set_option maxRecDepth 100000 in
theorem fund_Fund_Grant_v2.ok : Sound Go.Proofs.Try.prog 23 fund_Fund_Grant_v2.sig := body_sound (C := fund_Fund_Grant_v2.C) (q := fund_Fund_Grant_v2.Q) (fn := Go.Proofs.Try.f23) (sg := fund_Fund_Grant_v2.sig) (n := 2) fund_Fund_Grant_v2.ctx follows Go.Proofs.Try.func23 (by kernel_rfl) (by kernel_rfl) (by kernel_rfl) (by kernel_rfl) (Nat.le_of_ble_eq_true (by kernel_rfl)) (by kernel_rfl) fund_Fund_Grant_v2.eq

def fund_Fund_Try.l1 (v : (Unit × (List ((Int × Int × Int × Unit) × Int × Unit)) × Int × Int) × (Unit × Unit) × (Unit × Unit) × (List ((Int × Int × Int × Unit) × Int × Int × Int × Int × Int × Int × Unit)) × Unit) : Option (((Unit × (List ((Int × Int × Int × Unit) × Int × Unit)) × Int × Int) × (Unit × Unit) × (Unit × Unit) × (List ((Int × Int × Int × Unit) × Int × Int × Int × Int × Int × Int × Unit)) × Unit) ⊕ (Unit ⊕ Int)) :=
  bif decide (v.1.2.2.2 < v.1.2.2.1) then nthK v.1.2.1 v.1.2.2.2 fun e12 => (fund_Fund_Grant_v2 () e12 ((), v.2.1.2) ((), v.2.2.1.2) v.2.2.2.1).bind fun r13 => bif (r13.1 : Int) != 0 then some (Sum.inr (Sum.inr r13.1)) else some (Sum.inl (((), (v.1.2.1, (v.1.2.2.1, IntKind.i64.wrap (v.1.2.2.2 + 1)))), (((), r13.2.1.2), (((), r13.2.2.1.2), (r13.2.2.2.1, ()))))) else some (Sum.inr (Sum.inl ()))
def fund_Fund_Try (x0 : Unit) (x1 : List ((Int × Int × Int × Unit) × Int × Unit)) : Option Int :=
  (fund_Fund_Copy ()).bind fun r11 => (iterL fund_Fund_Try.l1 loopN (((), (x1, ((x1.length : Int), 0))), (((), r11.2.1.2), (((), r11.2.2.1.2), (r11.2.2.2.1, ()))))).bind fun y14 => (match y14 with | .inl y15 => some 0 | .inr y16 => some y16)
def fund_Fund_Try.C : Ctx := { ty := tyT, sigs := fun i => bif Nat.beq i 21 then [fund_Fund_Copy.sig] else bif Nat.beq i 23 then [fund_Fund_Grant_v2.sig] else [], n := 24, mp := mpT }
def fund_Fund_Try.Q : Cuts := { np := 0, loops := fun i => bif Nat.beq i 3 then some ({ env := [(5, .ptr 0), (11, .val (.slice kOp)), (12, .val (.int .i64)), (13, .val (.int .i64))], objs := [.cell (.cons (.ref 0) .unit) (.pair (.ptr 1) (.val .unit)), .cell (.cons (.ref 1) .unit) (.pair (.mapr 2) (.val .unit)), .map kKey kField] }, [(.exit 0, { env := [], objs := [] }), (.ret, { env := [(4, .val (.int .i64))], objs := [] })]) else none, seqs := fun i => none, splits := fun i => none }
def fund_Fund_Try.sig : Sig := { args := .tc (.nilr 0) (.tc (.val (.slice kOp)) .tn), objs := [], ret := .val (.int .i64), outs := [], F := fun x => fund_Fund_Try x.1.1 x.1.2.1 }
theorem fund_Fund_Try.eq : (fun x => body fund_Fund_Try.C fund_Fund_Try.Q Go.Proofs.Try.f22 fund_Fund_Try.sig.args fund_Fund_Try.sig.objs fund_Fund_Try.sig.ret fund_Fund_Try.sig.outs x) = fund_Fund_Try.sig.F := by
  kernel_rfl
set_option maxRecDepth 100000 in
theorem fund_Fund_Try.ctx : CtxOk Go.Proofs.Try.prog fund_Fund_Try.C := ⟨tyOk, mpOk, Nat.le_of_ble_eq_true (by kernel_rfl), fun f sg => fun h => sigs_if h (allS_cons fund_Fund_Copy.ok allS_nil) (fun h => sigs_if h (allS_cons fund_Fund_Grant_v2.ok allS_nil) ((fun h => by cases h)))⟩
set_option maxRecDepth 100000 in
theorem fund_Fund_Try.ok : Sound Go.Proofs.Try.prog 22 fund_Fund_Try.sig := body_sound (C := fund_Fund_Try.C) (q := fund_Fund_Try.Q) (fn := Go.Proofs.Try.f22) (sg := fund_Fund_Try.sig) (n := 2) fund_Fund_Try.ctx follows Go.Proofs.Try.func22 (by kernel_rfl) (by kernel_rfl) (by kernel_rfl) (by kernel_rfl) (Nat.le_of_ble_eq_true (by kernel_rfl)) (by kernel_rfl) fund_Fund_Try.eq

def cmp_isNaN_uint8 (x0 : Int) : Option Bool :=
  some ((x0 : Int) != x0)
def cmp_isNaN_uint8.C : Ctx := { ty := tyT, sigs := fun i => [], n := 6, mp := mpT }
def cmp_isNaN_uint8.Q : Cuts := { np := 0, loops := fun i => none, seqs := fun i => none, splits := fun i => none }
def cmp_isNaN_uint8.sig : Sig := { args := .tc (.val (.int .u8)) .tn, objs := [], ret := .val .bool, outs := [], F := fun x => cmp_isNaN_uint8 x.1.1 }
theorem cmp_isNaN_uint8.eq : (fun x => body cmp_isNaN_uint8.C cmp_isNaN_uint8.Q Go.Proofs.Try.f86 cmp_isNaN_uint8.sig.args cmp_isNaN_uint8.sig.objs cmp_isNaN_uint8.sig.ret cmp_isNaN_uint8.sig.outs x) = cmp_isNaN_uint8.sig.F := by
  kernel_rfl
set_option maxRecDepth 100000 in
theorem cmp_isNaN_uint8.ctx : CtxOk Go.Proofs.Try.prog cmp_isNaN_uint8.C := ⟨tyOk, mpOk, Nat.le_of_ble_eq_true (by kernel_rfl), fun f sg => (fun h => by cases h)⟩
set_option maxRecDepth 100000 in
theorem cmp_isNaN_uint8.ok : Sound Go.Proofs.Try.prog 86 cmp_isNaN_uint8.sig := body_sound (C := cmp_isNaN_uint8.C) (q := cmp_isNaN_uint8.Q) (fn := Go.Proofs.Try.f86) (sg := cmp_isNaN_uint8.sig) (n := 1) cmp_isNaN_uint8.ctx follows Go.Proofs.Try.func86 (by kernel_rfl) (by kernel_rfl) (by kernel_rfl) (by kernel_rfl) (Nat.le_of_ble_eq_true (by kernel_rfl)) (by kernel_rfl) cmp_isNaN_uint8.eq

def cmp_Compare_uint8 (x0 : Int) (x1 : Int) : Option Int :=
  (cmp_isNaN_uint8 x0).bind fun r21 => (cmp_isNaN_uint8 x1).bind fun r22 => bif r21 then bif r22 then some 0 else some (-1) else bif r22 then some 1 else bif decide (x0 < x1) then some (-1) else bif decide (x0 > x1) then some 1 else some 0
def cmp_Compare_uint8.C : Ctx := { ty := tyT, sigs := fun i => bif Nat.beq i 86 then [cmp_isNaN_uint8.sig] else [], n := 20, mp := mpT }
def cmp_Compare_uint8.Q : Cuts := { np := 0, loops := fun i => none, seqs := fun i => none, splits := fun i => none }
def cmp_Compare_uint8.sig : Sig := { args := .tc (.val (.int .u8)) (.tc (.val (.int .u8)) .tn), objs := [], ret := .val (.int .i64), outs := [], F := fun x => cmp_Compare_uint8 x.1.1 x.1.2.1 }
theorem cmp_Compare_uint8.eq : (fun x => body cmp_Compare_uint8.C cmp_Compare_uint8.Q Go.Proofs.Try.f69 cmp_Compare_uint8.sig.args cmp_Compare_uint8.sig.objs cmp_Compare_uint8.sig.ret cmp_Compare_uint8.sig.outs x) = cmp_Compare_uint8.sig.F := by
  kernel_rfl
set_option maxRecDepth 100000 in
theorem cmp_Compare_uint8.ctx : CtxOk Go.Proofs.Try.prog cmp_Compare_uint8.C := ⟨tyOk, mpOk, Nat.le_of_ble_eq_true (by kernel_rfl), fun f sg => fun h => sigs_if h (allS_cons cmp_isNaN_uint8.ok allS_nil) ((fun h => by cases h))⟩
set_option maxRecDepth 100000 in
theorem cmp_Compare_uint8.ok : Sound Go.Proofs.Try.prog 69 cmp_Compare_uint8.sig := body_sound (C := cmp_Compare_uint8.C) (q := cmp_Compare_uint8.Q) (fn := Go.Proofs.Try.f69) (sg := cmp_Compare_uint8.sig) (n := 2) cmp_Compare_uint8.ctx follows Go.Proofs.Try.func69 (by kernel_rfl) (by kernel_rfl) (by kernel_rfl) (by kernel_rfl) (Nat.le_of_ble_eq_true (by kernel_rfl)) (by kernel_rfl) cmp_Compare_uint8.eq

def cmp_Or_int.l1 (v : Int × List Int × Int × Int) : Option ((Int × List Int × Int × Int) ⊕ (Int ⊕ Int)) :=
  bif decide (v.2.2.2 < v.2.2.1) then nthK v.2.1 v.2.2.2 fun e26 => bif (e26 : Int) != v.1 then some (Sum.inr (Sum.inr e26)) else some (Sum.inl (v.1, (v.2.1, (v.2.2.1, IntKind.i64.wrap (v.2.2.2 + 1))))) else some (Sum.inr (Sum.inl v.1))
def cmp_Or_int (x0 : List Int) : Option Int :=
  (iterL cmp_Or_int.l1 loopN (0, (x0, ((x0.length : Int), 0)))).bind fun y27 => (match y27 with | .inl y28 => some y28 | .inr y29 => some y29)
def cmp_Or_int.C : Ctx := { ty := tyT, sigs := fun i => [], n := 18, mp := mpT }
def cmp_Or_int.Q : Cuts := { np := 0, loops := fun i => bif Nat.beq i 3 then some ({ env := [(3, .val (.int .i64)), (6, .val (.slice (.int .i64))), (7, .val (.int .i64)), (8, .val (.int .i64))], objs := [] }, [(.exit 0, { env := [(3, .val (.int .i64))], objs := [] }), (.ret, { env := [(2, .val (.int .i64))], objs := [] })]) else none, seqs := fun i => none, splits := fun i => none }
def cmp_Or_int.sig : Sig := { args := .tc (.val (.slice (.int .i64))) .tn, objs := [], ret := .val (.int .i64), outs := [], F := fun x => cmp_Or_int x.1.1 }
theorem cmp_Or_int.eq : (fun x => body cmp_Or_int.C cmp_Or_int.Q Go.Proofs.Try.f68 cmp_Or_int.sig.args cmp_Or_int.sig.objs cmp_Or_int.sig.ret cmp_Or_int.sig.outs x) = cmp_Or_int.sig.F := by
  kernel_rfl
set_option maxRecDepth 100000 in
theorem cmp_Or_int.ctx : CtxOk Go.Proofs.Try.prog cmp_Or_int.C := ⟨tyOk, mpOk, Nat.le_of_ble_eq_true (by kernel_rfl), fun f sg => (fun h => by cases h)⟩
set_option maxRecDepth 100000 in
theorem cmp_Or_int.ok : Sound Go.Proofs.Try.prog 68 cmp_Or_int.sig := body_sound (C := cmp_Or_int.C) (q := cmp_Or_int.Q) (fn := Go.Proofs.Try.f68) (sg := cmp_Or_int.sig) (n := 1) cmp_Or_int.ctx follows Go.Proofs.Try.func68 (by kernel_rfl) (by kernel_rfl) (by kernel_rfl) (by kernel_rfl) (Nat.le_of_ble_eq_true (by kernel_rfl)) (by kernel_rfl) cmp_Or_int.eq

def key_Compare (x0 : Int × Int × Int × Unit) (x1 : Int × Int × Int × Unit) : Option Int :=
  (cmp_Compare_uint8 x0.1 x1.1).bind fun r21 => (cmp_Compare_uint8 x0.2.1 x1.2.1).bind fun r22 => (cmp_Compare_uint8 x0.2.2.1 x1.2.2.1).bind fun r23 => (cmp_Or_int [r21, r22, r23]).bind fun r24 => some r24
def key_Compare.C : Ctx := { ty := tyT, sigs := fun i => bif Nat.beq i 68 then [cmp_Or_int.sig] else bif Nat.beq i 69 then [cmp_Compare_uint8.sig] else [], n := 22, mp := mpT }
def key_Compare.Q : Cuts := { np := 0, loops := fun i => none, seqs := fun i => none, splits := fun i => none }
def key_Compare.sig : Sig := { args := .tc (.val kKey) (.tc (.val kKey) .tn), objs := [], ret := .val (.int .i64), outs := [], F := fun x => key_Compare x.1.1 x.1.2.1 }
theorem key_Compare.eq : (fun x => body key_Compare.C key_Compare.Q Go.Proofs.Try.f40 key_Compare.sig.args key_Compare.sig.objs key_Compare.sig.ret key_Compare.sig.outs x) = key_Compare.sig.F := by
  kernel_rfl
set_option maxRecDepth 100000 in
theorem key_Compare.ctx : CtxOk Go.Proofs.Try.prog key_Compare.C := ⟨tyOk, mpOk, Nat.le_of_ble_eq_true (by kernel_rfl), fun f sg => fun h => sigs_if h (allS_cons cmp_Or_int.ok allS_nil) (fun h => sigs_if h (allS_cons cmp_Compare_uint8.ok allS_nil) ((fun h => by cases h)))⟩
set_option maxRecDepth 100000 in
theorem key_Compare.ok : Sound Go.Proofs.Try.prog 40 key_Compare.sig := body_sound (C := key_Compare.C) (q := key_Compare.Q) (fn := Go.Proofs.Try.f40) (sg := key_Compare.sig) (n := 2) key_Compare.ctx follows Go.Proofs.Try.func40 (by kernel_rfl) (by kernel_rfl) (by kernel_rfl) (by kernel_rfl) (Nat.le_of_ble_eq_true (by kernel_rfl)) (by kernel_rfl) key_Compare.eq

def table_Table_api_Field_Keys_v2 (es : List ((Int × Int × Int × Unit) × Int × Int × Int × Int × Int × Int × Unit)) : Option (List (Int × Int × Int × Unit) × (Unit × Unit) × List ((Int × Int × Int × Unit) × Int × Int × Int × Int × Int × Int × Unit) × Unit) := tabKeysF kKey kField (leOf cmp3) es
def table_Table_api_Field_Keys_v2.sig : Sig := { args := .tc (.ptr 0) .tn, objs := [tabSk 1, .map kKey kField], ret := .val (.slice kKey), outs := [tabSk 1, .map kKey kField], F := fun x => table_Table_api_Field_Keys_v2 x.2.2.1 }
def table_Table_api_Field_Keys_v2.CK : Ctx := { ty := tyT, sigs := fun _ => [], n := 14, mp := fun _ => none }
def table_Table_api_Field_Keys_v2.CA : Ctx := { ty := tyT, sigs := fun _ => [], n := 13, mp := fun _ => none }
theorem table_Table_api_Field_Keys_v2.ctxK : CtxOk Go.Proofs.Try.prog table_Table_api_Field_Keys_v2.CK := ⟨tyOk, (fun t k v h => by cases h), Nat.le_of_ble_eq_true (by kernel_rfl), fun f sg h => by cases h⟩
theorem table_Table_api_Field_Keys_v2.ctxA : CtxOk Go.Proofs.Try.prog table_Table_api_Field_Keys_v2.CA := ⟨tyOk, (fun t k v h => by cases h), Nat.le_of_ble_eq_true (by kernel_rfl), fun f sg h => by cases h⟩
theorem table_Table_api_Field_Keys_v2.kit : KitFacts Go.Proofs.Try.prog table_Table_api_Field_Keys_v2.CK 94 Go.Proofs.Try.f94 kKey 115 24 62 #[24] := { hf := Go.Proofs.Try.func94, hname := by kernel_rfl, hb := by kernel_rfl, hres := by kernel_rfl, hn := by kernel_rfl, h13 := (by show 13 < 14; omega), hm := by kernel_rfl, hmt := by kernel_rfl, r0 := by kernel_rfl, r1 := by kernel_rfl, r2 := by kernel_rfl, r3 := by kernel_rfl, g := by kernel_rfl, o00 := by kernel_rfl, o01 := by kernel_rfl, o10 := by kernel_rfl, o11 := by kernel_rfl, o20 := by kernel_rfl, o21 := by kernel_rfl, o30 := by kernel_rfl, o32 := by kernel_rfl, d := by kernel_rfl, k2 := by kernel_rfl, k3 := by kernel_rfl, k7 := by kernel_rfl, q2 := fun y => by kernel_rfl, q3 := fun y => by kernel_rfl, q7 := fun b => by kernel_rfl }
theorem table_Table_api_Field_Keys_v2.asq : AsFacts Go.Proofs.Try.prog table_Table_api_Field_Keys_v2.CA 83 Go.Proofs.Try.f83 kKey := { hf := Go.Proofs.Try.func83, hb := by kernel_rfl, hres := by kernel_rfl, hn := by kernel_rfl, h12 := (by show 12 < 13; omega), r1 := by kernel_rfl, o1 := by kernel_rfl, o1d := by kernel_rfl, o1g := by kernel_rfl, k0 := by kernel_rfl, q0 := by kernel_rfl, q2 := fun ks x => by kernel_rfl, q3 := fun ks x => by kernel_rfl, q4 := fun ks => by kernel_rfl }
theorem table_Table_api_Field_Keys_v2.isNaN (x : Int) : cmp_isNaN_uint8 x = some false := by
  show some ((x : Int) != x) = some false
  rw [bne_self_eq_false]
theorem table_Table_api_Field_Keys_v2.cmp1 (x y : Int) : cmp_Compare_uint8 x y = some (cmpI x y) := by
  unfold cmp_Compare_uint8 cmpI
  rw [table_Table_api_Field_Keys_v2.isNaN, table_Table_api_Field_Keys_v2.isNaN]
  simp only [Option.bind_some, cond_false]
  by_cases h1 : x < y
  · simp [h1]
  · by_cases h2 : x > y <;> simp [h1, h2]
theorem table_Table_api_Field_Keys_v2.orStep (a b c i : Int) (k : Nat) (hk : k < 3) (x : Int) (hx : [a, b, c][k]? = some x) (hi : i = k) : cmp_Or_int.l1 (0, ([a, b, c], (3, i))) = if x ≠ 0 then some (Sum.inr (Sum.inr x)) else some (Sum.inl (0, ([a, b, c], (3, ((k + 1 : Nat) : Int))))) := by
  subst hi
  unfold cmp_Or_int.l1
  simp only
  rw [show decide ((k : Int) < 3) = true by simp; omega, cond_true]
  rw [nthK_get hx]
  have hw : IntKind.i64.wrap ((k : Int) + 1) = ((k + 1 : Nat) : Int) := succ_i64 (by omega)
  rw [hw]
  by_cases h : x = 0
  · subst h; simp
  · have hb : ((x : Int) != 0) = true := by simpa using h
    rw [hb, cond_true, if_pos h]
theorem table_Table_api_Field_Keys_v2.or3 (a b c : Int) : cmp_Or_int [a, b, c] = some (if a ≠ 0 then a else if b ≠ 0 then b else c) := by
  unfold cmp_Or_int
  show (iterL cmp_Or_int.l1 loopN (0, ([a, b, c], (3, 0)))).bind _ = _
  have s0 := table_Table_api_Field_Keys_v2.orStep a b c 0 0 (by omega) a rfl rfl
  have s1 := table_Table_api_Field_Keys_v2.orStep a b c ((0 + 1 : Nat) : Int) 1 (by omega) b rfl rfl
  have s2 := table_Table_api_Field_Keys_v2.orStep a b c ((1 + 1 : Nat) : Int) 2 (by omega) c rfl rfl
  have s3 : cmp_Or_int.l1 (0, ([a, b, c], (3, ((2 + 1 : Nat) : Int)))) = some (Sum.inr (Sum.inl 0)) := rfl
  by_cases ha : a = 0
  · by_cases hb : b = 0
    · by_cases hc : c = 0
      · rw [if_neg (by simpa using ha)] at s0; rw [if_neg (by simpa using hb)] at s1; rw [if_neg (by simpa using hc)] at s2
        have := iterL_mono (m := loopN) ((iterL_next s0).trans ((iterL_next s1).trans ((iterL_next s2).trans (iterL_done (n := 0) s3)))) (by rw [loopN_eq]; omega)
        rw [this, Option.bind_some]
        simp [ha, hb, hc]
      · rw [if_neg (by simpa using ha)] at s0; rw [if_neg (by simpa using hb)] at s1; rw [if_pos (by simpa using hc)] at s2
        have := iterL_mono (m := loopN) ((iterL_next s0).trans ((iterL_next s1).trans (iterL_done (n := 0) s2))) (by rw [loopN_eq]; omega)
        rw [this, Option.bind_some]
        simp [ha, hb]
    · rw [if_neg (by simpa using ha)] at s0; rw [if_pos (by simpa using hb)] at s1
      have := iterL_mono (m := loopN) ((iterL_next s0).trans (iterL_done (n := 0) s1)) (by rw [loopN_eq]; omega)
      rw [this, Option.bind_some]
      simp [ha, hb]
  · rw [if_pos (by simpa using ha)] at s0
    have := iterL_mono (m := loopN) (iterL_done (n := 0) s0) (by rw [loopN_eq]; omega)
    rw [this, Option.bind_some]
    simp [ha]
theorem table_Table_api_Field_Keys_v2.hcf (x y : Int × Int × Int × Unit) : key_Compare x y = some (cmp3 x y) := by
  unfold key_Compare
  rw [table_Table_api_Field_Keys_v2.cmp1, table_Table_api_Field_Keys_v2.cmp1, table_Table_api_Field_Keys_v2.cmp1]
  simp only [Option.bind_some, table_Table_api_Field_Keys_v2.or3]
  rfl
def table_Table_api_Field_Keys_v2.ren : Go.Shelf.Ren := { f := fun x => match x with | 6 => 66 | 15 => 85 | 14 => 84 | 28 => 103 | 29 => 104 | 20 => 95 | 21 => 96 | 22 => 97 | 23 => 98 | 24 => 99 | 25 => 100 | 26 => 101 | 27 => 102 | 46 => 108 | 47 => 109 | 48 => 110 | 49 => 111 | 50 => 112 | 57 => 114 | n => n, t := fun x => match x with | 22 => 45 | 24 => 24 | 25 => 87 | 3 => 3 | 39 => 131 | 0 => 0 | 53 => 150 | 55 => 152 | 4 => 4 | 46 => 143 | 45 => 142 | 50 => 147 | 5 => 5 | 9 => 9 | 66 => 156 | 70 => 160 | 76 => 165 | 77 => 166 | n => n, g := fun x => x }
theorem table_Table_api_Field_Keys_v2.lays : SlLaysF0.n6 Go.Proofs.Try.prog table_Table_api_Field_Keys_v2.ren := { mixed := follows, f6 := ⟨ "slices.SortFunc[[]pledge/api.Key,pledge/api.Key]", by kernel_rfl, Go.Proofs.Try.func66.trans (congrArg some (by kernel_rfl))⟩, f14 := ⟨ "slices.pdqsortCmpFunc[pledge/api.Key]", by kernel_rfl, Go.Proofs.Try.func84.trans (congrArg some (by kernel_rfl))⟩, f15 := Go.Proofs.Try.func85.trans (congrArg some (by kernel_rfl)), f20 := ⟨ "slices.insertionSortCmpFunc[pledge/api.Key]", by kernel_rfl, Go.Proofs.Try.func95.trans (congrArg some (by kernel_rfl))⟩, f21 := ⟨ "slices.heapSortCmpFunc[pledge/api.Key]", by kernel_rfl, Go.Proofs.Try.func96.trans (congrArg some (by kernel_rfl))⟩, f22 := ⟨ "slices.breakPatternsCmpFunc[pledge/api.Key]", by kernel_rfl, Go.Proofs.Try.func97.trans (congrArg some (by kernel_rfl))⟩, f23 := ⟨ "slices.choosePivotCmpFunc[pledge/api.Key]", by kernel_rfl, Go.Proofs.Try.func98.trans (congrArg some (by kernel_rfl))⟩, f24 := ⟨ "slices.reverseRangeCmpFunc[pledge/api.Key]", by kernel_rfl, Go.Proofs.Try.func99.trans (congrArg some (by kernel_rfl))⟩, f25 := ⟨ "slices.partialInsertionSortCmpFunc[pledge/api.Key]", by kernel_rfl, Go.Proofs.Try.func100.trans (congrArg some (by kernel_rfl))⟩, f26 := ⟨ "slices.partitionEqualCmpFunc[pledge/api.Key]", by kernel_rfl, Go.Proofs.Try.func101.trans (congrArg some (by kernel_rfl))⟩, f27 := ⟨ "slices.partitionCmpFunc[pledge/api.Key]", by kernel_rfl, Go.Proofs.Try.func102.trans (congrArg some (by kernel_rfl))⟩, f28 := Go.Proofs.Try.func103.trans (congrArg some (by kernel_rfl)), f29 := Go.Proofs.Try.func104.trans (congrArg some (by kernel_rfl)), f46 := ⟨ "slices.siftDownCmpFunc[pledge/api.Key]", by kernel_rfl, Go.Proofs.Try.func108.trans (congrArg some (by kernel_rfl))⟩, f47 := Go.Proofs.Try.func109.trans (congrArg some (by kernel_rfl)), f48 := Go.Proofs.Try.func110.trans (congrArg some (by kernel_rfl)), f49 := ⟨ "slices.medianAdjacentCmpFunc[pledge/api.Key]", by kernel_rfl, Go.Proofs.Try.func111.trans (congrArg some (by kernel_rfl))⟩, f50 := ⟨ "slices.medianCmpFunc[pledge/api.Key]", by kernel_rfl, Go.Proofs.Try.func112.trans (congrArg some (by kernel_rfl))⟩, f57 := ⟨ "slices.order2CmpFunc[pledge/api.Key]", by kernel_rfl, Go.Proofs.Try.func114.trans (congrArg some (by kernel_rfl))⟩, t0 := Go.Proofs.Try.underlying0, a0 := Go.Proofs.Try.isAgg0, z0 := Go.Proofs.Try.sizeOf0, v0 := Go.Proofs.Try.zeroValue0, t3 := Go.Proofs.Try.underlying3, a3 := Go.Proofs.Try.isAgg3, z3 := Go.Proofs.Try.sizeOf3, v3 := Go.Proofs.Try.zeroValue3, t4 := Go.Proofs.Try.underlying4, a4 := Go.Proofs.Try.isAgg4, z4 := Go.Proofs.Try.sizeOf4, v4 := Go.Proofs.Try.zeroValue4, t5 := Go.Proofs.Try.underlying5, a5 := Go.Proofs.Try.isAgg5, z5 := Go.Proofs.Try.sizeOf5, v5 := Go.Proofs.Try.zeroValue5, t9 := Go.Proofs.Try.underlying9, a9 := Go.Proofs.Try.isAgg9, z9 := Go.Proofs.Try.sizeOf9, v9 := Go.Proofs.Try.zeroValue9, t22 := Go.Proofs.Try.underlying45, a22 := Go.Proofs.Try.isAgg45, z22 := Go.Proofs.Try.sizeOf45, v22 := Go.Proofs.Try.zeroValue45, t25 := Go.Proofs.Try.underlying87, a25 := Go.Proofs.Try.isAgg87, z25 := Go.Proofs.Try.sizeOf87, v25 := Go.Proofs.Try.zeroValue87, t39 := Go.Proofs.Try.underlying131, a39 := Go.Proofs.Try.isAgg131, z39 := Go.Proofs.Try.sizeOf131, v39 := Go.Proofs.Try.zeroValue131, t45 := Go.Proofs.Try.underlying142, a45 := Go.Proofs.Try.isAgg142, z45 := Go.Proofs.Try.sizeOf142, v45 := Go.Proofs.Try.zeroValue142, t46 := Go.Proofs.Try.underlying143, a46 := Go.Proofs.Try.isAgg143, z46 := Go.Proofs.Try.sizeOf143, v46 := Go.Proofs.Try.zeroValue143, t50 := Go.Proofs.Try.underlying147, a50 := Go.Proofs.Try.isAgg147, z50 := Go.Proofs.Try.sizeOf147, v50 := Go.Proofs.Try.zeroValue147, t53 := Go.Proofs.Try.underlying150, a53 := Go.Proofs.Try.isAgg150, z53 := Go.Proofs.Try.sizeOf150, v53 := Go.Proofs.Try.zeroValue150, t55 := Go.Proofs.Try.underlying152, a55 := Go.Proofs.Try.isAgg152, z55 := Go.Proofs.Try.sizeOf152, v55 := Go.Proofs.Try.zeroValue152, t66 := Go.Proofs.Try.underlying156, a66 := Go.Proofs.Try.isAgg156, z66 := Go.Proofs.Try.sizeOf156, v66 := Go.Proofs.Try.zeroValue156, t70 := Go.Proofs.Try.underlying160, a70 := Go.Proofs.Try.isAgg160, z70 := Go.Proofs.Try.sizeOf160, v70 := Go.Proofs.Try.zeroValue160, t76 := Go.Proofs.Try.underlying165, a76 := Go.Proofs.Try.isAgg165, z76 := Go.Proofs.Try.sizeOf165, v76 := Go.Proofs.Try.zeroValue165, t77 := Go.Proofs.Try.underlying166, a77 := Go.Proofs.Try.isAgg166, z77 := Go.Proofs.Try.sizeOf166, v77 := Go.Proofs.Try.zeroValue166 }
set_option maxRecDepth 100000 in
open Go.RowKit Go.Sort Go.Shelf Go.Proofs in
theorem table_Table_api_Field_Keys_v2.sortC (w : World) (S : Cells) (m : Nat → Option MB) (ks : List (El kKey)) (v : Value) (hl : ks.length < 4611686018427387904) (hr : StoRel (mkS [] [(1, .row kKey false ks)] []).sto w S m) (hv : RepV w S m (.row 1) v) :
    Calls Go.Proofs.Try.prog 66 #[v, .func (.func 40) #[] #[]] w fun e w' => e = .returned (.tuple #[]) ∧ ∃ S', RepV w' S' (fun _ => none) (.val (.slice kKey) (ks.mergeSort (leOf cmp3))) v ∧ Ext (OwnSt (mkS [] [(1, .row kKey false ks)] []).sto m) w S m w' S' m (fun _ _ => False) ∧ ∀ b x, S' b x → b < w'.heap.size :=
  sort_row (kk := kKey) table_Table_api_Field_Keys_v2.lays Go.Proofs.Try.isAgg24 Go.Proofs.Try.sizeOf24 rfl (by decide) cmp3 swo3 tot3 (enters_of Go.Proofs.Try.func40 (by kernel_rfl) rfl) (cmp_calls (kk := kKey) key_Compare.ok Go.Proofs.Try.func40 (by kernel_rfl) (by kernel_rfl) rfl rfl cmp3 (fun x y => table_Table_api_Field_Keys_v2.hcf x y)) hl hr hv
open Go.RowKit Go.Sort Go.Shelf Go.Proofs in
theorem table_Table_api_Field_Keys_v2.keysC : KeysCall Go.Proofs.Try.prog 82 94 115 := by
  intro mb w
  go_enter Go.Proofs.Try.func82, Go.Proofs.Try.ntmps82
  go_wp2
  go_ret
  exact ⟨rfl, rfl⟩
open Go.RowKit Go.Sort Go.Shelf Go.Proofs in
theorem table_Table_api_Field_Keys_v2.collect {w : World} {S : Cells} (hl : ∀ b x, S b x → b < w.heap.size) {bx : Value} {ok : List (El kKey) → Prop} {N : Nat} (hN : N ≤ 4294967296) (hG : KGives Go.Proofs.Try.prog 94 bx kKey ok N w) :
    Calls Go.Proofs.Try.prog 65 #[.func (.func 94) #[] #[bx]] w fun e w' => ∃ v ks S' m', e = .returned v ∧ ok ks ∧ RepV w' S' m' (.row 1) v ∧ StoRel (mkS [] [(1, .row kKey false ks)] []).sto w' S' m' ∧ Ext (fun _ _ => False) w S (fun _ => none) w' S' (fun _ => none) (OwnSt (mkS [] [(1, .row kKey false ks)] []).sto m') := by
  have h := appseq table_Table_api_Field_Keys_v2.ctxA table_Table_api_Field_Keys_v2.asq rfl hl (Go.Proofs.Try.func94 : _) (by kernel_rfl) (by kernel_rfl) hN hG
  clear hG hl
  go_enter Go.Proofs.Try.func65, Go.Proofs.Try.ntmps65
  go_wp2_with (go_at_call 83; refine h.mono ?_; rintro e w' ⟨v, ks, S1, m1, rfl, h1, h2, h3, h4⟩)
  go_ret
  exact ⟨v, ks, S1, m1, rfl, h1, h2, h3, h4⟩
open Go.RowKit Go.Sort Go.Shelf Go.Proofs in
theorem table_Table_api_Field_Keys_v2.sortedC : SortedCall Go.Proofs.Try.prog 38 94 40 kKey (leOf cmp3) := by
  intro w S bx ok N hG hl hN hok
  have h := table_Table_api_Field_Keys_v2.collect hl hN hG
  clear hG hl
  have hsort := table_Table_api_Field_Keys_v2.sortC
  go_enter Go.Proofs.Try.func38, Go.Proofs.Try.ntmps38
  go_wp2_with (first
    | (go_at_call 65; refine h.mono ?_; rintro e w' ⟨v, ks, S1, m1, rfl, h1, h2, h3, h4⟩)
    | (go_at_call 66; refine (hsort _ S1 m1 ks v (by have := hok ks h1; omega) h3 h2).mono ?_; rintro e w' ⟨rfl, S2, g1, g2, g3⟩))
  go_ret
  exact ⟨v, ks, S2, rfl, h1, g1, h4.trans g2.drop, g3⟩
set_option maxRecDepth 100000 in
open Go.RowKit Go.Sort Go.Shelf Go.Proofs in
theorem table_Table_api_Field_Keys_v2.run : TabRun Go.Proofs.Try.prog 63 94 115 kKey (leOf cmp3) := by
  intro w S b o r ok N hc hG hl hN hok
  have hk := table_Table_api_Field_Keys_v2.keysC (some r) w
  have hs := table_Table_api_Field_Keys_v2.sortedC _ S _ ok N hG hl hN hok
  clear hG hl
  go_enter Go.Proofs.Try.func63, Go.Proofs.Try.ntmps63
  go_wp2_with (first
    | (go_at_call 82; refine hk.mono ?_; rintro e w' ⟨rfl, rfl⟩)
    | (go_at_call 38; refine hs.mono ?_; rintro e w' ⟨v, ks, S1, rfl, h1, h2, h3, h4⟩))
  go_ret
  exact ⟨v, ks, S1, rfl, h1, h2, h3, h4⟩
set_option maxRecDepth 100000 in
theorem table_Table_api_Field_Keys_v2.ok : Sound Go.Proofs.Try.prog 63 table_Table_api_Field_Keys_v2.sig := tabkeys_sound Go.Proofs.Try.func63 (by kernel_rfl) (by kernel_rfl) table_Table_api_Field_Keys_v2.ctxK table_Table_api_Field_Keys_v2.kit rfl swo3 tot3 inferInstance table_Table_api_Field_Keys_v2.run

def fund_Fund_Keys_v2 (x0 : Unit) (o0 : Unit × Unit) (o1 : Unit × Unit) (o2 : List ((Int × Int × Int × Unit) × Int × Int × Int × Int × Int × Int × Unit)) : Option ((List (Int × Int × Int × Unit)) × (Unit × Unit) × (Unit × Unit) × (List ((Int × Int × Int × Unit) × Int × Int × Int × Int × Int × Int × Unit)) × Unit) :=
  (fund_Fund_all_v2 () ((), o0.2) ((), o1.2) o2).bind fun r20 => (table_Table_api_Field_Keys_v2 r20.2.2.2.1).bind fun r21 => some (r21.1, (((), r20.2.1.2), (((), r21.2.1.2), (r21.2.2.1, ()))))
def fund_Fund_Keys_v2.C : Ctx := { ty := tyT, sigs := fun i => bif Nat.beq i 44 then [fund_Fund_all_v2.sig] else bif Nat.beq i 63 then [table_Table_api_Field_Keys_v2.sig] else [], n := 6, mp := mpT }
def fund_Fund_Keys_v2.Q : Cuts := { np := 3, loops := fun i => none, seqs := fun i => none, splits := fun i => none }
def fund_Fund_Keys_v2.sig : Sig := { args := .tc (.ptr 0) .tn, objs := [.cell (.cons (.ref 0) .unit) (.pair (.ptr 1) (.val .unit)), .cell (.cons (.ref 1) .unit) (.pair (.mapr 2) (.val .unit)), .map kKey kField], ret := .val (.slice kKey), outs := [.cell (.cons (.ref 0) .unit) (.pair (.ptr 1) (.val .unit)), .cell (.cons (.ref 1) .unit) (.pair (.mapr 2) (.val .unit)), .map kKey kField], F := fun x => fund_Fund_Keys_v2 x.1.1 x.2.1 x.2.2.1 x.2.2.2.1 }
theorem fund_Fund_Keys_v2.eq : (fun x => body fund_Fund_Keys_v2.C fund_Fund_Keys_v2.Q Go.Proofs.Try.f32 fund_Fund_Keys_v2.sig.args fund_Fund_Keys_v2.sig.objs fund_Fund_Keys_v2.sig.ret fund_Fund_Keys_v2.sig.outs x) = fund_Fund_Keys_v2.sig.F := by
  kernel_rfl
set_option maxRecDepth 100000 in
theorem fund_Fund_Keys_v2.ctx : CtxOk Go.Proofs.Try.prog fund_Fund_Keys_v2.C := ⟨tyOk, mpOk, Nat.le_of_ble_eq_true (by kernel_rfl), fun f sg => fun h => sigs_if h (allS_cons fund_Fund_all_v2.ok allS_nil) (fun h => sigs_if h (allS_cons table_Table_api_Field_Keys_v2.ok allS_nil) ((fun h => by cases h)))⟩
set_option maxRecDepth 100000 in
theorem fund_Fund_Keys_v2.ok : Sound Go.Proofs.Try.prog 32 fund_Fund_Keys_v2.sig := body_sound (C := fund_Fund_Keys_v2.C) (q := fund_Fund_Keys_v2.Q) (fn := Go.Proofs.Try.f32) (sg := fund_Fund_Keys_v2.sig) (n := 1) fund_Fund_Keys_v2.ctx follows Go.Proofs.Try.func32 (by kernel_rfl) (by kernel_rfl) (by kernel_rfl) (by kernel_rfl) (Nat.le_of_ble_eq_true (by kernel_rfl)) (by kernel_rfl) fund_Fund_Keys_v2.eq

def field_New (x0 : (Int × Int × Int × Unit) × Int × Int × Int × Unit) : Option ((Int × Int × Int × Int × Int × Int × Unit) × Int × Unit) :=
  (field_Good (x0.2.1, (x0.2.2.2.1, (x0.2.2.1, (x0.2.2.1, (x0.2.2.1, (x0.2.2.1, ()))))))).bind fun r25 => bif !r25 then some ((0, (0, (0, (0, (0, (0, ())))))), (3, ())) else some ((x0.2.1, (x0.2.2.2.1, (x0.2.2.1, (x0.2.2.1, (x0.2.2.1, (x0.2.2.1, ())))))), (0, ()))
def field_New.C : Ctx := { ty := tyT, sigs := fun i => bif Nat.beq i 55 then [field_Good.sig] else [], n := 23, mp := mpT }
def field_New.Q : Cuts := { np := 0, loops := fun i => none, seqs := fun i => none, splits := fun i => none }
def field_New.sig : Sig := { args := .tc (.val kDecl) .tn, objs := [], ret := .tup (.tc (.val kField) (.tc (.val (.int .i64)) .tn)), outs := [], F := fun x => field_New x.1.1 }
theorem field_New.eq : (fun x => body field_New.C field_New.Q Go.Proofs.Try.f42 field_New.sig.args field_New.sig.objs field_New.sig.ret field_New.sig.outs x) = field_New.sig.F := by
  kernel_rfl
set_option maxRecDepth 100000 in
theorem field_New.ctx : CtxOk Go.Proofs.Try.prog field_New.C := ⟨tyOk, mpOk, Nat.le_of_ble_eq_true (by kernel_rfl), fun f sg => fun h => sigs_if h (allS_cons field_Good.ok allS_nil) ((fun h => by cases h))⟩
set_option maxRecDepth 100000 in
theorem field_New.ok : Sound Go.Proofs.Try.prog 42 field_New.sig := body_sound (C := field_New.C) (q := field_New.Q) (fn := Go.Proofs.Try.f42) (sg := field_New.sig) (n := 1) field_New.ctx follows Go.Proofs.Try.func42 (by kernel_rfl) (by kernel_rfl) (by kernel_rfl) (by kernel_rfl) (Nat.le_of_ble_eq_true (by kernel_rfl)) (by kernel_rfl) field_New.eq

def fund_New.l1 (v : (Unit × (List ((Int × Int × Int × Unit) × Int × Int × Int × Unit)) × Int × Int) × (Unit × Unit) × (Unit × Unit) × (List ((Int × Int × Int × Unit) × Int × Int × Int × Int × Int × Int × Unit)) × Unit) : Option (((Unit × (List ((Int × Int × Int × Unit) × Int × Int × Int × Unit)) × Int × Int) × (Unit × Unit) × (Unit × Unit) × (List ((Int × Int × Int × Unit) × Int × Int × Int × Int × Int × Int × Unit)) × Unit) ⊕ (Unit × (Unit × Unit) × (Unit × Unit) × (List ((Int × Int × Int × Unit) × Int × Int × Int × Int × Int × Int × Unit)) × Unit)) :=
  bif decide (v.1.2.2.2 < v.1.2.2.1) then nthK v.1.2.1 v.1.2.2.2 fun e24 => (field_New e24).bind fun r25 => bif (r25.2.1 : Int) == 0 then (table_Table_api_Field_Put () e24.1 r25.1 ((), v.2.2.1.2) v.2.2.2.1).bind fun r26 => some (Sum.inl (((), (v.1.2.1, (v.1.2.2.1, IntKind.i64.wrap (v.1.2.2.2 + 1)))), (((), v.2.1.2), (((), r26.2.1.2), (r26.2.2.1, ()))))) else some (Sum.inl (((), (v.1.2.1, (v.1.2.2.1, IntKind.i64.wrap (v.1.2.2.2 + 1)))), (((), v.2.1.2), (((), v.2.2.1.2), (v.2.2.2.1, ()))))) else some (Sum.inr ((), (((), v.2.1.2), (((), v.2.2.1.2), (v.2.2.2.1, ())))))
def fund_New (x0 : List ((Int × Int × Int × Unit) × Int × Int × Int × Unit)) : Option (Unit × (Unit × Unit) × (Unit × Unit) × (List ((Int × Int × Int × Unit) × Int × Int × Int × Int × Int × Int × Unit)) × Unit) :=
  table_New_api_Field.bind fun r23 => (iterL fund_New.l1 loopN (((), (x0, ((x0.length : Int), 0))), (((), ()), (((), r23.2.1.2), (r23.2.2.1, ()))))).bind fun y27 => some ((), (((), y27.2.1.2), (((), y27.2.2.1.2), (y27.2.2.2.1, ()))))
def fund_New.C : Ctx := { ty := tyT, sigs := fun i => bif Nat.beq i 41 then [table_New_api_Field.sig] else bif Nat.beq i 42 then [field_New.sig] else bif Nat.beq i 43 then [table_Table_api_Field_Put.sig] else [], n := 34, mp := mpT }
def fund_New.Q : Cuts := { np := 0, loops := fun i => bif Nat.beq i 3 then some ({ env := [(3, .ptr 0), (11, .val (.slice kDecl)), (12, .val (.int .i64)), (13, .val (.int .i64))], objs := [.cell (.cons (.ref 0) .unit) (.pair (.ptr 1) (.val .unit)), .cell (.cons (.ref 1) .unit) (.pair (.mapr 2) (.val .unit)), .map kKey kField] }, [(.exit 0, { env := [(3, .ptr 0)], objs := [.cell (.cons (.ref 0) .unit) (.pair (.ptr 1) (.val .unit)), .cell (.cons (.ref 1) .unit) (.pair (.mapr 2) (.val .unit)), .map kKey kField] })]) else none, seqs := fun i => none, splits := fun i => none }
def fund_New.sig : Sig := { args := .tc (.val (.slice kDecl)) .tn, objs := [], ret := .ptr 0, outs := [.cell (.cons (.ref 0) .unit) (.pair (.ptr 1) (.val .unit)), .cell (.cons (.ref 1) .unit) (.pair (.mapr 2) (.val .unit)), .map kKey kField], F := fun x => fund_New x.1.1 }
theorem fund_New.eq : (fun x => body fund_New.C fund_New.Q Go.Proofs.Try.f20 fund_New.sig.args fund_New.sig.objs fund_New.sig.ret fund_New.sig.outs x) = fund_New.sig.F := by
  kernel_rfl
set_option maxRecDepth 100000 in
theorem fund_New.ctx : CtxOk Go.Proofs.Try.prog fund_New.C := ⟨tyOk, mpOk, Nat.le_of_ble_eq_true (by kernel_rfl), fun f sg => fun h => sigs_if h (allS_cons table_New_api_Field.ok allS_nil) (fun h => sigs_if h (allS_cons field_New.ok allS_nil) (fun h => sigs_if h (allS_cons table_Table_api_Field_Put.ok allS_nil) ((fun h => by cases h))))⟩
set_option maxRecDepth 100000 in
theorem fund_New.ok : Sound Go.Proofs.Try.prog 20 fund_New.sig := body_sound (C := fund_New.C) (q := fund_New.Q) (fn := Go.Proofs.Try.f20) (sg := fund_New.sig) (n := 1) fund_New.ctx follows Go.Proofs.Try.func20 (by kernel_rfl) (by kernel_rfl) (by kernel_rfl) (by kernel_rfl) (Nat.le_of_ble_eq_true (by kernel_rfl)) (by kernel_rfl) fund_New.eq

def maps_Copy_map_api_Key_api_Field_map_api_Key_api_Field_api_Key_api_Field (d s : List ((Int × Int × Int × Unit) × Int × Int × Int × Int × Int × Int × Unit)) : Option (Unit × List ((Int × Int × Int × Unit) × Int × Int × Int × Int × Int × Int × Unit) × List ((Int × Int × Int × Unit) × Int × Int × Int × Int × Int × Int × Unit) × Unit) := copyF (kk := kKey) (vc := kField) d s
def maps_Copy_map_api_Key_api_Field_map_api_Key_api_Field_api_Key_api_Field.sig : Sig := { args := .tc (.mapr 0) (.tc (.mapr 1) .tn), objs := [.map kKey kField, .map kKey kField], ret := .tup .tn, outs := [.map kKey kField, .map kKey kField], F := fun x => maps_Copy_map_api_Key_api_Field_map_api_Key_api_Field_api_Key_api_Field x.2.1 x.2.2.1 }
def maps_Copy_map_api_Key_api_Field_map_api_Key_api_Field_api_Key_api_Field.CK : Ctx := { ty := tyT, sigs := fun _ => [], n := 16, mp := fun _ => none }
theorem maps_Copy_map_api_Key_api_Field_map_api_Key_api_Field_api_Key_api_Field.ctxK : CtxOk Go.Proofs.Try.prog maps_Copy_map_api_Key_api_Field_map_api_Key_api_Field_api_Key_api_Field.CK := ⟨tyOk, (fun t k v h => by cases h), Nat.le_of_ble_eq_true (by kernel_rfl), fun f sg h => by cases h⟩
theorem maps_Copy_map_api_Key_api_Field_map_api_Key_api_Field_api_Key_api_Field.kit : CpyFacts Go.Proofs.Try.prog maps_Copy_map_api_Key_api_Field_map_api_Key_api_Field_api_Key_api_Field.CK 70 Go.Proofs.Try.f70 true kKey kField 115 24 62 := { hf := Go.Proofs.Try.func70, h15 := (by show 15 < 16; omega), q2 := fun y z => by kernel_rfl, q3 := fun y z => by kernel_rfl, hname := by kernel_rfl, hb := by kernel_rfl, hres := by kernel_rfl, hn := by kernel_rfl, hm := by kernel_rfl, ht := by kernel_rfl, r0 := by kernel_rfl, r1 := by kernel_rfl, r2 := by kernel_rfl, r3 := by kernel_rfl, g := by kernel_rfl, o00 := by kernel_rfl, o01 := by kernel_rfl, o10 := by kernel_rfl, o11 := by kernel_rfl, o20 := by kernel_rfl, o21 := by kernel_rfl, o22 := by kernel_rfl, o30 := by kernel_rfl, o33 := by kernel_rfl, d := by kernel_rfl, k2 := by kernel_rfl, k3 := by kernel_rfl }
set_option maxRecDepth 100000 in
theorem maps_Copy_map_api_Key_api_Field_map_api_Key_api_Field_api_Key_api_Field.ok : Sound Go.Proofs.Try.prog 70 maps_Copy_map_api_Key_api_Field_map_api_Key_api_Field_api_Key_api_Field.sig := copy_sound (by kernel_rfl) maps_Copy_map_api_Key_api_Field_map_api_Key_api_Field_api_Key_api_Field.ctxK maps_Copy_map_api_Key_api_Field_map_api_Key_api_Field_api_Key_api_Field.kit rfl

def table_Table_api_Field_Copy_v2 (x0 : Unit) (o0 : Unit × Unit) (o1 : List ((Int × Int × Int × Unit) × Int × Int × Int × Int × Int × Int × Unit)) : Option (Unit × (Unit × Unit) × (List ((Int × Int × Int × Unit) × Int × Int × Int × Int × Int × Int × Unit)) × (Unit × Unit) × (List ((Int × Int × Int × Unit) × Int × Int × Int × Int × Int × Int × Unit)) × Unit) :=
  table_New_api_Field.bind fun r25 => (maps_Copy_map_api_Key_api_Field_map_api_Key_api_Field_api_Key_api_Field r25.2.2.1 o1).bind fun r26 => some ((), (((), o0.2), (r26.2.2.1, (((), r25.2.1.2), (r26.2.1, ())))))
def table_Table_api_Field_Copy_v2.C : Ctx := { ty := tyT, sigs := fun i => bif Nat.beq i 41 then [table_New_api_Field.sig] else bif Nat.beq i 70 then [maps_Copy_map_api_Key_api_Field_map_api_Key_api_Field_api_Key_api_Field.sig] else [], n := 17, mp := mpT }
def table_Table_api_Field_Copy_v2.Q : Cuts := { np := 2, loops := fun i => none, seqs := fun i => none, splits := fun i => none }
def table_Table_api_Field_Copy_v2.sig : Sig := { args := .tc (.ptr 0) .tn, objs := [.cell (.cons (.ref 1) .unit) (.pair (.mapr 1) (.val .unit)), .map kKey kField], ret := .ptr 2, outs := [.cell (.cons (.ref 1) .unit) (.pair (.mapr 1) (.val .unit)), .map kKey kField, .cell (.cons (.ref 1) .unit) (.pair (.mapr 3) (.val .unit)), .map kKey kField], F := fun x => table_Table_api_Field_Copy_v2 x.1.1 x.2.1 x.2.2.1 }
theorem table_Table_api_Field_Copy_v2.eq : (fun x => body table_Table_api_Field_Copy_v2.C table_Table_api_Field_Copy_v2.Q Go.Proofs.Try.f45 table_Table_api_Field_Copy_v2.sig.args table_Table_api_Field_Copy_v2.sig.objs table_Table_api_Field_Copy_v2.sig.ret table_Table_api_Field_Copy_v2.sig.outs x) = table_Table_api_Field_Copy_v2.sig.F := by
  kernel_rfl
set_option maxRecDepth 100000 in
theorem table_Table_api_Field_Copy_v2.ctx : CtxOk Go.Proofs.Try.prog table_Table_api_Field_Copy_v2.C := ⟨tyOk, mpOk, Nat.le_of_ble_eq_true (by kernel_rfl), fun f sg => fun h => sigs_if h (allS_cons table_New_api_Field.ok allS_nil) (fun h => sigs_if h (allS_cons maps_Copy_map_api_Key_api_Field_map_api_Key_api_Field_api_Key_api_Field.ok allS_nil) ((fun h => by cases h)))⟩
set_option maxRecDepth 100000 in
theorem table_Table_api_Field_Copy_v2.ok : Sound Go.Proofs.Try.prog 45 table_Table_api_Field_Copy_v2.sig := body_sound (C := table_Table_api_Field_Copy_v2.C) (q := table_Table_api_Field_Copy_v2.Q) (fn := Go.Proofs.Try.f45) (sg := table_Table_api_Field_Copy_v2.sig) (n := 1) table_Table_api_Field_Copy_v2.ctx follows Go.Proofs.Try.func45 (by kernel_rfl) (by kernel_rfl) (by kernel_rfl) (by kernel_rfl) (Nat.le_of_ble_eq_true (by kernel_rfl)) (by kernel_rfl) table_Table_api_Field_Copy_v2.eq

def fund_Fund_Copy_v2 (x0 : Unit) (o0 : Unit × Unit) (o1 : Unit × Unit) (o2 : List ((Int × Int × Int × Unit) × Int × Int × Int × Int × Int × Int × Unit)) : Option (Unit × (Unit × Unit) × (Unit × Unit) × (List ((Int × Int × Int × Unit) × Int × Int × Int × Int × Int × Int × Unit)) × (Unit × Unit) × (Unit × Unit) × (List ((Int × Int × Int × Unit) × Int × Int × Int × Int × Int × Int × Unit)) × Unit) :=
  (fund_Fund_all_v2 () ((), o0.2) ((), o1.2) o2).bind fun r24 => (table_Table_api_Field_Copy_v2 () ((), r24.2.2.1.2) r24.2.2.2.1).bind fun r25 => some ((), (((), r24.2.1.2), (((), r25.2.1.2), (r25.2.2.1, (((), ()), (((), r25.2.2.2.1.2), (r25.2.2.2.2.1, ())))))))
def fund_Fund_Copy_v2.C : Ctx := { ty := tyT, sigs := fun i => bif Nat.beq i 44 then [fund_Fund_all_v2.sig] else bif Nat.beq i 45 then [table_Table_api_Field_Copy_v2.sig] else [], n := 8, mp := mpT }
def fund_Fund_Copy_v2.Q : Cuts := { np := 3, loops := fun i => none, seqs := fun i => none, splits := fun i => none }
def fund_Fund_Copy_v2.sig : Sig := { args := .tc (.ptr 0) .tn, objs := [.cell (.cons (.ref 0) .unit) (.pair (.ptr 1) (.val .unit)), .cell (.cons (.ref 1) .unit) (.pair (.mapr 2) (.val .unit)), .map kKey kField], ret := .ptr 3, outs := [.cell (.cons (.ref 0) .unit) (.pair (.ptr 1) (.val .unit)), .cell (.cons (.ref 1) .unit) (.pair (.mapr 2) (.val .unit)), .map kKey kField, .cell (.cons (.ref 0) .unit) (.pair (.ptr 4) (.val .unit)), .cell (.cons (.ref 1) .unit) (.pair (.mapr 5) (.val .unit)), .map kKey kField], F := fun x => fund_Fund_Copy_v2 x.1.1 x.2.1 x.2.2.1 x.2.2.2.1 }
theorem fund_Fund_Copy_v2.eq : (fun x => body fund_Fund_Copy_v2.C fund_Fund_Copy_v2.Q Go.Proofs.Try.f21 fund_Fund_Copy_v2.sig.args fund_Fund_Copy_v2.sig.objs fund_Fund_Copy_v2.sig.ret fund_Fund_Copy_v2.sig.outs x) = fund_Fund_Copy_v2.sig.F := by
  kernel_rfl
set_option maxRecDepth 100000 in
theorem fund_Fund_Copy_v2.ctx : CtxOk Go.Proofs.Try.prog fund_Fund_Copy_v2.C := ⟨tyOk, mpOk, Nat.le_of_ble_eq_true (by kernel_rfl), fun f sg => fun h => sigs_if h (allS_cons fund_Fund_all_v2.ok allS_nil) (fun h => sigs_if h (allS_cons table_Table_api_Field_Copy_v2.ok allS_nil) ((fun h => by cases h)))⟩
set_option maxRecDepth 100000 in
theorem fund_Fund_Copy_v2.ok : Sound Go.Proofs.Try.prog 21 fund_Fund_Copy_v2.sig := body_sound (C := fund_Fund_Copy_v2.C) (q := fund_Fund_Copy_v2.Q) (fn := Go.Proofs.Try.f21) (sg := fund_Fund_Copy_v2.sig) (n := 1) fund_Fund_Copy_v2.ctx follows Go.Proofs.Try.func21 (by kernel_rfl) (by kernel_rfl) (by kernel_rfl) (by kernel_rfl) (Nat.le_of_ble_eq_true (by kernel_rfl)) (by kernel_rfl) fund_Fund_Copy_v2.eq

def fund_Fund_Try_v2.l1 (v : (Unit × (List ((Int × Int × Int × Unit) × Int × Unit)) × Int × Int) × (Unit × Unit) × (Unit × Unit) × (List ((Int × Int × Int × Unit) × Int × Int × Int × Int × Int × Int × Unit)) × (Unit × Unit) × (Unit × Unit) × (List ((Int × Int × Int × Unit) × Int × Int × Int × Int × Int × Int × Unit)) × Unit) : Option (((Unit × (List ((Int × Int × Int × Unit) × Int × Unit)) × Int × Int) × (Unit × Unit) × (Unit × Unit) × (List ((Int × Int × Int × Unit) × Int × Int × Int × Int × Int × Int × Unit)) × (Unit × Unit) × (Unit × Unit) × (List ((Int × Int × Int × Unit) × Int × Int × Int × Int × Int × Int × Unit)) × Unit) ⊕ ((Unit × (Unit × Unit) × (Unit × Unit) × (List ((Int × Int × Int × Unit) × Int × Int × Int × Int × Int × Int × Unit)) × Unit) ⊕ (Int × (Unit × Unit) × (Unit × Unit) × (List ((Int × Int × Int × Unit) × Int × Int × Int × Int × Int × Int × Unit)) × Unit))) :=
  bif decide (v.1.2.2.2 < v.1.2.2.1) then nthK v.1.2.1 v.1.2.2.2 fun e25 => (fund_Fund_Grant_v2 () e25 ((), v.2.2.2.2.1.2) ((), v.2.2.2.2.2.1.2) v.2.2.2.2.2.2.1).bind fun r26 => bif (r26.1 : Int) != 0 then some (Sum.inr (Sum.inr (r26.1, (((), v.2.1.2), (((), v.2.2.1.2), (v.2.2.2.1, ())))))) else some (Sum.inl (((), (v.1.2.1, (v.1.2.2.1, IntKind.i64.wrap (v.1.2.2.2 + 1)))), (((), v.2.1.2), (((), v.2.2.1.2), (v.2.2.2.1, (((), r26.2.1.2), (((), r26.2.2.1.2), (r26.2.2.2.1, ())))))))) else some (Sum.inr (Sum.inl ((), (((), v.2.1.2), (((), v.2.2.1.2), (v.2.2.2.1, ()))))))
def fund_Fund_Try_v2 (x0 : Unit) (x1 : List ((Int × Int × Int × Unit) × Int × Unit)) (o0 : Unit × Unit) (o1 : Unit × Unit) (o2 : List ((Int × Int × Int × Unit) × Int × Int × Int × Int × Int × Int × Unit)) : Option (Int × (Unit × Unit) × (Unit × Unit) × (List ((Int × Int × Int × Unit) × Int × Int × Int × Int × Int × Int × Unit)) × Unit) :=
  (fund_Fund_Copy_v2 () ((), o0.2) ((), o1.2) o2).bind fun r24 => (iterL fund_Fund_Try_v2.l1 loopN (((), (x1, ((x1.length : Int), 0))), (((), r24.2.1.2), (((), r24.2.2.1.2), (r24.2.2.2.1, (((), r24.2.2.2.2.1.2), (((), r24.2.2.2.2.2.1.2), (r24.2.2.2.2.2.2.1, ())))))))).bind fun y27 => (match y27 with | .inl y28 => some (0, (((), y28.2.1.2), (((), y28.2.2.1.2), (y28.2.2.2.1, ())))) | .inr y29 => some (y29.1, (((), y29.2.1.2), (((), y29.2.2.1.2), (y29.2.2.2.1, ())))))
def fund_Fund_Try_v2.C : Ctx := { ty := tyT, sigs := fun i => bif Nat.beq i 21 then [fund_Fund_Copy_v2.sig] else bif Nat.beq i 23 then [fund_Fund_Grant_v2.sig] else [], n := 24, mp := mpT }
def fund_Fund_Try_v2.Q : Cuts := { np := 3, loops := fun i => bif Nat.beq i 3 then some ({ env := [(5, .ptr 3), (11, .val (.slice kOp)), (12, .val (.int .i64)), (13, .val (.int .i64))], objs := [.cell (.cons (.ref 0) .unit) (.pair (.ptr 1) (.val .unit)), .cell (.cons (.ref 1) .unit) (.pair (.mapr 2) (.val .unit)), .map kKey kField, .cell (.cons (.ref 0) .unit) (.pair (.ptr 4) (.val .unit)), .cell (.cons (.ref 1) .unit) (.pair (.mapr 5) (.val .unit)), .map kKey kField] }, [(.exit 0, { env := [], objs := [.cell (.cons (.ref 0) .unit) (.pair (.ptr 1) (.val .unit)), .cell (.cons (.ref 1) .unit) (.pair (.mapr 2) (.val .unit)), .map kKey kField] }), (.ret, { env := [(4, .val (.int .i64))], objs := [.cell (.cons (.ref 0) .unit) (.pair (.ptr 1) (.val .unit)), .cell (.cons (.ref 1) .unit) (.pair (.mapr 2) (.val .unit)), .map kKey kField] })]) else none, seqs := fun i => none, splits := fun i => none }
def fund_Fund_Try_v2.sig : Sig := { args := .tc (.ptr 0) (.tc (.val (.slice kOp)) .tn), objs := [.cell (.cons (.ref 0) .unit) (.pair (.ptr 1) (.val .unit)), .cell (.cons (.ref 1) .unit) (.pair (.mapr 2) (.val .unit)), .map kKey kField], ret := .val (.int .i64), outs := [.cell (.cons (.ref 0) .unit) (.pair (.ptr 1) (.val .unit)), .cell (.cons (.ref 1) .unit) (.pair (.mapr 2) (.val .unit)), .map kKey kField], F := fun x => fund_Fund_Try_v2 x.1.1 x.1.2.1 x.2.1 x.2.2.1 x.2.2.2.1 }
theorem fund_Fund_Try_v2.eq : (fun x => body fund_Fund_Try_v2.C fund_Fund_Try_v2.Q Go.Proofs.Try.f22 fund_Fund_Try_v2.sig.args fund_Fund_Try_v2.sig.objs fund_Fund_Try_v2.sig.ret fund_Fund_Try_v2.sig.outs x) = fund_Fund_Try_v2.sig.F := by
  kernel_rfl
set_option maxRecDepth 100000 in
theorem fund_Fund_Try_v2.ctx : CtxOk Go.Proofs.Try.prog fund_Fund_Try_v2.C := ⟨tyOk, mpOk, Nat.le_of_ble_eq_true (by kernel_rfl), fun f sg => fun h => sigs_if h (allS_cons fund_Fund_Copy_v2.ok allS_nil) (fun h => sigs_if h (allS_cons fund_Fund_Grant_v2.ok allS_nil) ((fun h => by cases h)))⟩
set_option maxRecDepth 100000 in
theorem fund_Fund_Try_v2.ok : Sound Go.Proofs.Try.prog 22 fund_Fund_Try_v2.sig := body_sound (C := fund_Fund_Try_v2.C) (q := fund_Fund_Try_v2.Q) (fn := Go.Proofs.Try.f22) (sg := fund_Fund_Try_v2.sig) (n := 2) fund_Fund_Try_v2.ctx follows Go.Proofs.Try.func22 (by kernel_rfl) (by kernel_rfl) (by kernel_rfl) (by kernel_rfl) (Nat.le_of_ble_eq_true (by kernel_rfl)) (by kernel_rfl) fund_Fund_Try_v2.eq

def pledgelaw18_works  : Option Bool :=
  (fund_New [((4, (0, (0, ()))), (0, (0, (3, ()))))]).bind fun r23 => (fund_Fund_Try_v2 () [((4, (0, (0, ()))), (2, ())), ((4, (0, (0, ()))), (2, ()))] ((), r23.2.1.2) ((), r23.2.2.1.2) r23.2.2.2.1).bind fun r24 => (fund_Fund_Get_v2 () (4, (0, (0, ()))) ((), r24.2.1.2) ((), r24.2.2.1.2) r24.2.2.2.1).bind fun r25 => bif (r24.1 : Int) == 3 then bif r25.1.2.1 then bif (r25.1.1.2.2.2.2.1 : Int) == 0 then some ((r25.1.1.2.1 : Int) == 3) else some false else some false else some false
def pledgelaw18_works.C : Ctx := { ty := tyT, sigs := fun i => bif Nat.beq i 20 then [fund_New.sig] else bif Nat.beq i 22 then [fund_Fund_Try_v2.sig] else bif Nat.beq i 30 then [fund_Fund_Get_v2.sig] else [], n := 39, mp := mpT }
def pledgelaw18_works.Q : Cuts := { np := 0, loops := fun i => none, seqs := fun i => none, splits := fun i => none }
def pledgelaw18_works.sig : Sig := { args := .tn, objs := [], ret := .val .bool, outs := [], F := fun x => pledgelaw18_works }
theorem pledgelaw18_works.eq : (fun x => body pledgelaw18_works.C pledgelaw18_works.Q Go.Proofs.Try.f26 pledgelaw18_works.sig.args pledgelaw18_works.sig.objs pledgelaw18_works.sig.ret pledgelaw18_works.sig.outs x) = pledgelaw18_works.sig.F := by
  kernel_rfl
set_option maxRecDepth 100000 in
theorem pledgelaw18_works.ctx : CtxOk Go.Proofs.Try.prog pledgelaw18_works.C := ⟨tyOk, mpOk, Nat.le_of_ble_eq_true (by kernel_rfl), fun f sg => fun h => sigs_if h (allS_cons fund_New.ok allS_nil) (fun h => sigs_if h (allS_cons fund_Fund_Try_v2.ok allS_nil) (fun h => sigs_if h (allS_cons fund_Fund_Get_v2.ok allS_nil) ((fun h => by cases h))))⟩
set_option maxRecDepth 100000 in
theorem pledgelaw18_works.ok : Sound Go.Proofs.Try.prog 26 pledgelaw18_works.sig := body_sound (C := pledgelaw18_works.C) (q := pledgelaw18_works.Q) (fn := Go.Proofs.Try.f26) (sg := pledgelaw18_works.sig) (n := 0) pledgelaw18_works.ctx follows Go.Proofs.Try.func26 (by kernel_rfl) (by kernel_rfl) (by kernel_rfl) (by kernel_rfl) (Nat.le_of_ble_eq_true (by kernel_rfl)) (by kernel_rfl) pledgelaw18_works.eq

def pledgelaw18_FundNil.l1 (v : (Unit × Unit × Unit × Bool × Int) × ((Int × Int × Int × Unit) × Int × Unit) × (Int × Int × Int × Int × Int × Int × Unit) × Unit) : Option (((Unit × Unit × Unit × Bool × Int) × ((Int × Int × Int × Unit) × Int × Unit) × (Int × Int × Int × Int × Int × Int × Unit) × Unit) ⊕ (((Unit × Unit × Unit × Bool) × ((Int × Int × Int × Unit) × Int × Unit) × (Int × Int × Int × Int × Int × Int × Unit) × Unit) ⊕ Bool)) :=
  bif decide (v.1.2.2.2.2 < 6) then (pledgelaw18_do () (v.1.2.2.2.2, (v.2.1, ()))).bind fun r2 => bif (r2 : Int) != 10 then some (Sum.inr (Sum.inr false)) else some (Sum.inl (((), ((), ((), (v.1.2.2.2.1, IntKind.u8.wrap (v.1.2.2.2.2 + 1))))), (v.2.1, (v.2.2.1, ())))) else some (Sum.inr (Sum.inl (((), ((), ((), v.1.2.2.2.1))), (v.2.1, (v.2.2.1, ())))))
def pledgelaw18_FundNil (x0 : (Int × Int × Int × Unit) × Int × Unit) (x1 : Int × Int × Int × Int × Int × Int × Unit) : Option Bool :=
  (fund_Fund_Get () x0.1).bind fun r1 => (iterL pledgelaw18_FundNil.l1 loopN (((), ((), ((), (r1.2.1, 0)))), (x0, (x1, ())))).bind fun y3 => (match y3 with | .inl y4 => bif !y4.1.2.2.2 then (fund_Fund_Set () y4.2.1.1 y4.2.2.1).bind fun r6 => bif (r6 : Int) == 10 then (fund_Fund_Keys ()).bind fun r7 => bif ((r7.length : Int) : Int) == 0 then (fund_Fund_Try () [y4.2.1]).bind fun r8 => bif (r8 : Int) == 10 then (fund_Fund_Try () []).bind fun r9 => bif (r9 : Int) == 0 then (fund_Fund_Copy ()).bind fun r10 => (fund_Fund_Keys_v2 () ((), r10.2.1.2) ((), r10.2.2.1.2) r10.2.2.2.1).bind fun r11 => bif ((r11.1.length : Int) : Int) == 0 then pledgelaw18_works.bind fun r12 => some r12 else some false else some false else some false else some false else some false else some false | .inr y5 => some y5)
def pledgelaw18_FundNil.C : Ctx := { ty := tyT, sigs := fun i => bif Nat.beq i 21 then [fund_Fund_Copy.sig] else bif Nat.beq i 22 then [fund_Fund_Try.sig] else bif Nat.beq i 26 then [pledgelaw18_works.sig] else bif Nat.beq i 28 then [fund_Fund_Set.sig] else bif Nat.beq i 30 then [fund_Fund_Get.sig] else bif Nat.beq i 31 then [pledgelaw18_do.sig] else bif Nat.beq i 32 then [fund_Fund_Keys.sig, fund_Fund_Keys_v2.sig] else [], n := 64, mp := mpT }
def pledgelaw18_FundNil.Q : Cuts := { np := 0, loops := fun i => bif Nat.beq i 4 then some ({ env := [(2, .ptr 0), (3, .ptr 1), (5, .nilr 0), (7, .val .bool), (8, .val (.int .u8))], objs := [.cell kOp (.val kOp), .cell kField (.val kField)] }, [(.exit 0, { env := [(2, .ptr 0), (3, .ptr 1), (5, .nilr 0), (7, .val .bool)], objs := [.cell kOp (.val kOp), .cell kField (.val kField)] }), (.ret, { env := [(4, .val .bool)], objs := [] })]) else none, seqs := fun i => none, splits := fun i => none }
def pledgelaw18_FundNil.sig : Sig := { args := .tc (.val kOp) (.tc (.val kField) .tn), objs := [], ret := .val .bool, outs := [], F := fun x => pledgelaw18_FundNil x.1.1 x.1.2.1 }
theorem pledgelaw18_FundNil.eq : (fun x => body pledgelaw18_FundNil.C pledgelaw18_FundNil.Q Go.Proofs.Try.f8 pledgelaw18_FundNil.sig.args pledgelaw18_FundNil.sig.objs pledgelaw18_FundNil.sig.ret pledgelaw18_FundNil.sig.outs x) = pledgelaw18_FundNil.sig.F := by
  kernel_rfl
set_option maxRecDepth 100000 in
theorem pledgelaw18_FundNil.ctx : CtxOk Go.Proofs.Try.prog pledgelaw18_FundNil.C := ⟨tyOk, mpOk, Nat.le_of_ble_eq_true (by kernel_rfl), fun f sg => fun h => sigs_if h (allS_cons fund_Fund_Copy.ok allS_nil) (fun h => sigs_if h (allS_cons fund_Fund_Try.ok allS_nil) (fun h => sigs_if h (allS_cons pledgelaw18_works.ok allS_nil) (fun h => sigs_if h (allS_cons fund_Fund_Set.ok allS_nil) (fun h => sigs_if h (allS_cons fund_Fund_Get.ok allS_nil) (fun h => sigs_if h (allS_cons pledgelaw18_do.ok allS_nil) (fun h => sigs_if h (allS_cons fund_Fund_Keys.ok (allS_cons fund_Fund_Keys_v2.ok allS_nil)) ((fun h => by cases h))))))))⟩
set_option maxRecDepth 100000 in
theorem pledgelaw18_FundNil.ok : Sound Go.Proofs.Try.prog 8 pledgelaw18_FundNil.sig := body_sound (C := pledgelaw18_FundNil.C) (q := pledgelaw18_FundNil.Q) (fn := Go.Proofs.Try.f8) (sg := pledgelaw18_FundNil.sig) (n := 2) pledgelaw18_FundNil.ctx follows Go.Proofs.Try.func8 (by kernel_rfl) (by kernel_rfl) (by kernel_rfl) (by kernel_rfl) (Nat.le_of_ble_eq_true (by kernel_rfl)) (by kernel_rfl) pledgelaw18_FundNil.eq

end Go.Proofs.F
