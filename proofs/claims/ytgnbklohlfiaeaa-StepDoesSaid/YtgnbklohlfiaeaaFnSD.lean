import Derived.Test.YtgnbklohlfiaeaaDNeg
import Derived.Test.YtgnbklohlfiaeaaProg
import Derived.KernelRfl
set_option linter.unusedVariables false
namespace Go.Proofs.F
open Go.Proofs.D
def kLine : K := .cons (.int .u8) (.cons (.int .i64) .unit)
def kR : K := .cons (.slice (.int .u8)) (.cons (.int .i64) .unit)
def kReader : K := .cons (.cons (.int .i64) .unit) (.cons (.slice (.int .u8)) .unit)
def kwide : K := .cons (.int .i64) (.cons (.int .i64) .unit)
def kStep : K := .cons (.int .u8) (.cons (.int .u8) (.cons (.slice kLine) .unit))
def kKey : K := .cons (.int .u8) (.cons (.int .u8) (.cons (.int .u8) .unit))
def kWriter : K := .cons (.cons (.int .i64) .unit) kR
def kTake : K := .cons (.int .u32) (.cons (.int .u8) kLine)
def kOp : K := .cons kKey (.cons (.int .i64) .unit)
def kTxn : K := .cons (.int .u32) (.cons (.int .u32) (.cons (.int .u8) (.cons .bool (.cons .bool (.cons (.slice kOp) kwide)))))
def kProgram : K := .cons (.int .u8) (.cons (.int .u32) (.cons (.int .u8) (.cons (.slice kLine) (.cons (.slice kTake) (.cons (.slice kLine) (.cons (.int .u8) (.cons (.int .u8) kLine)))))))
def kCourse : K := .cons (.int .u32) (.cons kProgram (.cons .bool (.cons (.int .i64) (.cons (.int .i64) (.cons (.int .u32) .unit)))))
def kRec : K := .cons (.int .u8) (.cons (.int .u32) (.cons (.int .u32) (.cons (.int .u8) (.cons .bool (.cons kKey (.cons (.int .i64) (.cons (.int .u8) (.cons kProgram .unit))))))))
def tyL : List (Nat × K) := [(1, .ref 2), (2, .int .i64), (3, .int .i64), (4, .bool), (5, .int .u8), (9, .str), (22, .slice kLine), (23, kStep), (24, kStep), (28, .slice kOp), (31, .int .u32), (32, .slice kTake), (33, kProgram), (34, kProgram), (56, kTake), (57, kTake), (59, kLine), (60, kLine), (61, kKey), (62, kKey), (63, kOp), (64, kOp), (65, .ref 2), (69, .arr 9 .str), (116, .ref 2), (117, .ref 2)]
def tyT (t : Nat) : Option K := lookK tyL t
def mpL : List (Nat × K × K) := []
def mpT (t : Nat) : Option (K × K) := lookM mpL t
theorem tyOk : ∀ t c, tyT t = some c → TyOk Go.Proofs.Try.prog tyT t c := tyOk_of (l := tyL) (fun _ => rfl) (by kernel_rfl) (by kernel_rfl)
theorem mpOk : ∀ t k v, mpT t = some (k, v) → ∃ tk tv, Go.Proofs.Try.prog.underlying t = some (.map tk tv) ∧ tyT tk = some k ∧ tyT tv = some v ∧ k.flat = true := mpOk_of (l := mpL) (fun _ => rfl) (by kernel_rfl)
theorem follows : Go.Proofs.Try.prog.follows .mixedOrders = true := by kernel_rfl
def pledgelaw12_few (x0 : Int × Int × (List (Int × Int × Unit)) × Unit) : Option Bool :=
  some (decide ((x0.2.2.1.length : Int) ≤ 20))
def pledgelaw12_few.C : Ctx := { ty := tyT, sigs := fun i => [], n := 7, mp := mpT }
def pledgelaw12_few.Q : Cuts := { np := 0, loops := fun i => none, seqs := fun i => none, splits := fun i => none }
def pledgelaw12_few.sig : Sig := { args := .tc (.val kStep) .tn, objs := [], ret := .val .bool, outs := [], F := fun x => pledgelaw12_few x.1.1 }
theorem pledgelaw12_few.eq : (fun x => body pledgelaw12_few.C pledgelaw12_few.Q Go.Proofs.Try.f9 pledgelaw12_few.sig.args pledgelaw12_few.sig.objs pledgelaw12_few.sig.ret pledgelaw12_few.sig.outs x) = pledgelaw12_few.sig.F := by
  kernel_rfl
set_option maxRecDepth 100000 in
theorem pledgelaw12_few.ctx : CtxOk Go.Proofs.Try.prog pledgelaw12_few.C := ⟨tyOk, mpOk, Nat.le_of_ble_eq_true (by kernel_rfl), fun f sg => (fun h => by cases h)⟩
set_option maxRecDepth 100000 in
theorem pledgelaw12_few.ok : Sound Go.Proofs.Try.prog 9 pledgelaw12_few.sig := body_sound (C := pledgelaw12_few.C) (q := pledgelaw12_few.Q) (fn := Go.Proofs.Try.f9) (sg := pledgelaw12_few.sig) (n := 1) pledgelaw12_few.ctx follows Go.Proofs.Try.func9 (by kernel_rfl) (by kernel_rfl) (by kernel_rfl) (by kernel_rfl) (Nat.le_of_ble_eq_true (by kernel_rfl)) (by kernel_rfl) pledgelaw12_few.eq

def step_Ops_1 (x0 : Int) (x1 : Int) (x2 : Unit) (x3 : Unit) (x4 : Unit) (o0 : Int × Int × Unit) (o1 : Int × Int × (List (Int × Int × Unit)) × Unit) (o2 : Unit) (o3 : List ((Int × Int × Int × Unit) × Int × Unit)) : Option (Unit × (Int × Int × Unit) × (Int × Int × (List (Int × Int × Unit)) × Unit) × Unit × Unit × (List ((Int × Int × Int × Unit) × Int × Unit)) × Unit) :=
  (bif (x0 : Int) == 1 then some (((x1, ((), ())), (o0, (o1, ((), (o3, ((x0, (o0.1, (o1.2.1, ()))), ()))))))) else bif (x0 : Int) == 2 then some (((x1, ((), ())), (o0, (o1, ((), (o3, ((x0, (o0.1, (o1.2.1, ()))), ()))))))) else some (((x1, ((), ())), (o0, (o1, ((), (o3, ((x0, (o0.1, (0, ()))), ()))))))) : Option ((Int × Unit × Unit) × (Int × Int × Unit) × (Int × Int × (List (Int × Int × Unit)) × Unit) × Unit × (List ((Int × Int × Int × Unit) × Int × Unit)) × (Int × Int × Int × Unit) × Unit)).bind fun y3 => room (y3.2.2.2.2.1.length + [(y3.2.2.2.2.2.1, (y3.1.1, ()))].length) (some ((), (y3.2.1, (y3.2.2.1, ((), ((), (y3.2.2.2.2.1 ++ [(y3.2.2.2.2.2.1, (y3.1.1, ()))], ())))))))
def step_Ops_1.C : Ctx := { ty := tyT, sigs := fun i => [], n := 27, mp := mpT }
def step_Ops_1.Q : Cuts := { np := 4, loops := fun i => none, seqs := fun i => bif Nat.beq i 3 then some [(.normal, { env := [(1, .val (.int .i64)), (4, .ptr 2), (7, .ptr 4)], objs := [.cell kLine (.val kLine), .cell kStep (.val kStep), .cell (.slice kOp) (.row 3), .row kOp false, .cell kKey (.val kKey)] })] else none, splits := fun i => none }
def step_Ops_1.sig : Sig := { args := .tc (.val (.int .u8)) (.tc (.val (.int .i64)) (.tc (.ptr 0) (.tc (.ptr 1) (.tc (.ptr 2) .tn)))), objs := [.cell kLine (.val kLine), .cell kStep (.val kStep), .cell (.slice kOp) (.row 3), .row kOp false], ret := .tup .tn, outs := [.cell kLine (.val kLine), .cell kStep (.val kStep), .cell (.slice kOp) (.row 4), .gone, .row kOp false], F := fun x => step_Ops_1 x.1.1 x.1.2.1 x.1.2.2.1 x.1.2.2.2.1 x.1.2.2.2.2.1 x.2.1 x.2.2.1 x.2.2.2.1 x.2.2.2.2.1 }
theorem step_Ops_1.eq : (fun x => body step_Ops_1.C step_Ops_1.Q Go.Proofs.Try.f40 step_Ops_1.sig.args step_Ops_1.sig.objs step_Ops_1.sig.ret step_Ops_1.sig.outs x) = step_Ops_1.sig.F := by
  kernel_rfl
set_option maxRecDepth 100000 in
theorem step_Ops_1.ctx : CtxOk Go.Proofs.Try.prog step_Ops_1.C := ⟨tyOk, mpOk, Nat.le_of_ble_eq_true (by kernel_rfl), fun f sg => (fun h => by cases h)⟩
set_option maxRecDepth 100000 in
theorem step_Ops_1.ok : Sound Go.Proofs.Try.prog 40 step_Ops_1.sig := body_sound (C := step_Ops_1.C) (q := step_Ops_1.Q) (fn := Go.Proofs.Try.f40) (sg := step_Ops_1.sig) (n := 5) step_Ops_1.ctx follows Go.Proofs.Try.func40 (by kernel_rfl) (by kernel_rfl) (by kernel_rfl) (by kernel_rfl) (Nat.le_of_ble_eq_true (by kernel_rfl)) (by kernel_rfl) step_Ops_1.eq

def step_Ops.l1 (v : (Unit × Unit × (List (Int × Int × Unit)) × Int × Int) × (Int × Int × (List (Int × Int × Unit)) × Unit) × Unit × (List ((Int × Int × Int × Unit) × Int × Unit)) × Unit) : Option (((Unit × Unit × (List (Int × Int × Unit)) × Int × Int) × (Int × Int × (List (Int × Int × Unit)) × Unit) × Unit × (List ((Int × Int × Int × Unit) × Int × Unit)) × Unit) ⊕ (Unit × Unit × (List ((Int × Int × Int × Unit) × Int × Unit)) × Unit)) :=
  bif decide (v.1.2.2.2.2 < v.1.2.2.2.1) then nthK v.1.2.2.1 v.1.2.2.2.2 fun e2 => bif decide (e2.2.1 < 1) then some (Sum.inl (((), ((), (v.1.2.2.1, (v.1.2.2.2.1, IntKind.i64.wrap (v.1.2.2.2.2 + 1))))), (v.2.1, ((), (v.2.2.2.1, ()))))) else bif (v.2.1.1 : Int) == 1 then (step_Ops_1 1 (IntKind.i64.wrap (0 - e2.2.1)) () () () e2 v.2.1 () v.2.2.2.1).bind fun r3 => (step_Ops_1 2 r3.2.1.2.1 () () () r3.2.1 r3.2.2.1 () r3.2.2.2.2.2.1).bind fun r4 => some (Sum.inl (((), ((), (v.1.2.2.1, (v.1.2.2.2.1, IntKind.i64.wrap (v.1.2.2.2.2 + 1))))), (r4.2.2.1, ((), (r4.2.2.2.2.2.1, ()))))) else bif (v.2.1.1 : Int) == 3 then (step_Ops_1 2 (IntKind.i64.wrap (0 - e2.2.1)) () () () e2 v.2.1 () v.2.2.2.1).bind fun r5 => (step_Ops_1 3 r5.2.1.2.1 () () () r5.2.1 r5.2.2.1 () r5.2.2.2.2.2.1).bind fun r6 => some (Sum.inl (((), ((), (v.1.2.2.1, (v.1.2.2.2.1, IntKind.i64.wrap (v.1.2.2.2.2 + 1))))), (r6.2.2.1, ((), (r6.2.2.2.2.2.1, ()))))) else bif (v.2.1.1 : Int) == 2 then (step_Ops_1 2 (IntKind.i64.wrap (0 - e2.2.1)) () () () e2 v.2.1 () v.2.2.2.1).bind fun r7 => (step_Ops_1 1 r7.2.1.2.1 () () () r7.2.1 r7.2.2.1 () r7.2.2.2.2.2.1).bind fun r8 => some (Sum.inl (((), ((), (v.1.2.2.1, (v.1.2.2.2.1, IntKind.i64.wrap (v.1.2.2.2.2 + 1))))), (r8.2.2.1, ((), (r8.2.2.2.2.2.1, ()))))) else bif (v.2.1.1 : Int) == 5 then (step_Ops_1 1 e2.2.1 () () () e2 v.2.1 () v.2.2.2.1).bind fun r9 => some (Sum.inl (((), ((), (v.1.2.2.1, (v.1.2.2.2.1, IntKind.i64.wrap (v.1.2.2.2.2 + 1))))), (r9.2.2.1, ((), (r9.2.2.2.2.2.1, ()))))) else bif (v.2.1.1 : Int) == 4 then (step_Ops_1 3 (IntKind.i64.wrap (0 - e2.2.1)) () () () e2 v.2.1 () v.2.2.2.1).bind fun r10 => (step_Ops_1 1 r10.2.1.2.1 () () () r10.2.1 r10.2.2.1 () r10.2.2.2.2.2.1).bind fun r11 => some (Sum.inl (((), ((), (v.1.2.2.1, (v.1.2.2.2.1, IntKind.i64.wrap (v.1.2.2.2.2 + 1))))), (r11.2.2.1, ((), (r11.2.2.2.2.2.1, ()))))) else bif (v.2.1.1 : Int) == 6 then (step_Ops_1 1 (IntKind.i64.wrap (0 - e2.2.1)) () () () e2 v.2.1 () v.2.2.2.1).bind fun r12 => some (Sum.inl (((), ((), (v.1.2.2.1, (v.1.2.2.2.1, IntKind.i64.wrap (v.1.2.2.2.2 + 1))))), (r12.2.2.1, ((), (r12.2.2.2.2.2.1, ()))))) else bif (v.2.1.1 : Int) == 7 then (step_Ops_1 4 e2.2.1 () () () e2 v.2.1 () v.2.2.2.1).bind fun r13 => some (Sum.inl (((), ((), (v.1.2.2.1, (v.1.2.2.2.1, IntKind.i64.wrap (v.1.2.2.2.2 + 1))))), (r13.2.2.1, ((), (r13.2.2.2.2.2.1, ()))))) else bif (v.2.1.1 : Int) == 8 then (step_Ops_1 4 (IntKind.i64.wrap (0 - e2.2.1)) () () () e2 v.2.1 () v.2.2.2.1).bind fun r14 => some (Sum.inl (((), ((), (v.1.2.2.1, (v.1.2.2.2.1, IntKind.i64.wrap (v.1.2.2.2.2 + 1))))), (r14.2.2.1, ((), (r14.2.2.2.2.2.1, ()))))) else some (Sum.inl (((), ((), (v.1.2.2.1, (v.1.2.2.2.1, IntKind.i64.wrap (v.1.2.2.2.2 + 1))))), (v.2.1, ((), (v.2.2.2.1, ()))))) else some (Sum.inr ((), ((), (v.2.2.2.1, ()))))
def step_Ops (x0 : Int × Int × (List (Int × Int × Unit)) × Unit) : Option (List ((Int × Int × Int × Unit) × Int × Unit)) :=
  (iterL step_Ops.l1 loopN (((), ((), (x0.2.2.1, ((x0.2.2.1.length : Int), 0)))), (x0, ((), ([], ()))))).bind fun y15 => some y15.2.2.1
def step_Ops.C : Ctx := { ty := tyT, sigs := fun i => bif Nat.beq i 40 then [step_Ops_1.sig] else [], n := 88, mp := mpT }
def step_Ops.Q : Cuts := { np := 0, loops := fun i => bif Nat.beq i 3 then some ({ env := [(1, .ptr 0), (3, .ptr 1), (8, .val (.slice kLine)), (9, .val (.int .i64)), (10, .val (.int .i64))], objs := [.cell kStep (.val kStep), .cell (.slice kOp) (.row 2), .row kOp false] }, [(.exit 0, { env := [(3, .ptr 0)], objs := [.cell (.slice kOp) (.row 1), .row kOp false] })]) else none, seqs := fun i => none, splits := fun i => none }
def step_Ops.sig : Sig := { args := .tc (.val kStep) .tn, objs := [], ret := .val (.slice kOp), outs := [], F := fun x => step_Ops x.1.1 }
theorem step_Ops.eq : (fun x => body step_Ops.C step_Ops.Q Go.Proofs.Try.f12 step_Ops.sig.args step_Ops.sig.objs step_Ops.sig.ret step_Ops.sig.outs x) = step_Ops.sig.F := by
  kernel_rfl
set_option maxRecDepth 100000 in
theorem step_Ops.ctx : CtxOk Go.Proofs.Try.prog step_Ops.C := ⟨tyOk, mpOk, Nat.le_of_ble_eq_true (by kernel_rfl), fun f sg => fun h => sigs_if h (allS_cons step_Ops_1.ok allS_nil) ((fun h => by cases h))⟩
set_option maxRecDepth 100000 in
theorem step_Ops.ok : Sound Go.Proofs.Try.prog 12 step_Ops.sig := body_sound (C := step_Ops.C) (q := step_Ops.Q) (fn := Go.Proofs.Try.f12) (sg := step_Ops.sig) (n := 1) step_Ops.ctx follows Go.Proofs.Try.func12 (by kernel_rfl) (by kernel_rfl) (by kernel_rfl) (by kernel_rfl) (Nat.le_of_ble_eq_true (by kernel_rfl)) (by kernel_rfl) step_Ops.eq

def step_Word (x0 : Int) : Option ByteArray :=
  nthN (List.replicate 9 (⟨#[]⟩ : ByteArray)) 0 fun e5 => nthN ((List.replicate 9 (⟨#[]⟩ : ByteArray)).set 0 (⟨#[]⟩ : ByteArray)) 1 fun e6 => nthN (((List.replicate 9 (⟨#[]⟩ : ByteArray)).set 0 (⟨#[]⟩ : ByteArray)).set 1 (⟨#[116, 97, 107, 101]⟩ : ByteArray)) 2 fun e7 => nthN ((((List.replicate 9 (⟨#[]⟩ : ByteArray)).set 0 (⟨#[]⟩ : ByteArray)).set 1 (⟨#[116, 97, 107, 101]⟩ : ByteArray)).set 2 (⟨#[102, 114, 101, 101]⟩ : ByteArray)) 3 fun e8 => nthN (((((List.replicate 9 (⟨#[]⟩ : ByteArray)).set 0 (⟨#[]⟩ : ByteArray)).set 1 (⟨#[116, 97, 107, 101]⟩ : ByteArray)).set 2 (⟨#[102, 114, 101, 101]⟩ : ByteArray)).set 3 (⟨#[115, 101, 110, 100]⟩ : ByteArray)) 4 fun e9 => nthN ((((((List.replicate 9 (⟨#[]⟩ : ByteArray)).set 0 (⟨#[]⟩ : ByteArray)).set 1 (⟨#[116, 97, 107, 101]⟩ : ByteArray)).set 2 (⟨#[102, 114, 101, 101]⟩ : ByteArray)).set 3 (⟨#[115, 101, 110, 100]⟩ : ByteArray)).set 4 (⟨#[98, 97, 99, 107]⟩ : ByteArray)) 5 fun e10 => nthN (((((((List.replicate 9 (⟨#[]⟩ : ByteArray)).set 0 (⟨#[]⟩ : ByteArray)).set 1 (⟨#[116, 97, 107, 101]⟩ : ByteArray)).set 2 (⟨#[102, 114, 101, 101]⟩ : ByteArray)).set 3 (⟨#[115, 101, 110, 100]⟩ : ByteArray)).set 4 (⟨#[98, 97, 99, 107]⟩ : ByteArray)).set 5 (⟨#[112, 117, 116]⟩ : ByteArray)) 6 fun e11 => nthN ((((((((List.replicate 9 (⟨#[]⟩ : ByteArray)).set 0 (⟨#[]⟩ : ByteArray)).set 1 (⟨#[116, 97, 107, 101]⟩ : ByteArray)).set 2 (⟨#[102, 114, 101, 101]⟩ : ByteArray)).set 3 (⟨#[115, 101, 110, 100]⟩ : ByteArray)).set 4 (⟨#[98, 97, 99, 107]⟩ : ByteArray)).set 5 (⟨#[112, 117, 116]⟩ : ByteArray)).set 6 (⟨#[100, 114, 97, 119]⟩ : ByteArray)) 7 fun e12 => nthN (((((((((List.replicate 9 (⟨#[]⟩ : ByteArray)).set 0 (⟨#[]⟩ : ByteArray)).set 1 (⟨#[116, 97, 107, 101]⟩ : ByteArray)).set 2 (⟨#[102, 114, 101, 101]⟩ : ByteArray)).set 3 (⟨#[115, 101, 110, 100]⟩ : ByteArray)).set 4 (⟨#[98, 97, 99, 107]⟩ : ByteArray)).set 5 (⟨#[112, 117, 116]⟩ : ByteArray)).set 6 (⟨#[100, 114, 97, 119]⟩ : ByteArray)).set 7 (⟨#[111, 119, 101]⟩ : ByteArray)) 8 fun e13 => bif decide ((IntKind.i64.wrap x0) ≥ 9) then some (⟨#[]⟩ : ByteArray) else chk (decide (0 ≤ x0) && decide (x0 < 9)) (nthK ((((((((((List.replicate 9 (⟨#[]⟩ : ByteArray)).set 0 (⟨#[]⟩ : ByteArray)).set 1 (⟨#[116, 97, 107, 101]⟩ : ByteArray)).set 2 (⟨#[102, 114, 101, 101]⟩ : ByteArray)).set 3 (⟨#[115, 101, 110, 100]⟩ : ByteArray)).set 4 (⟨#[98, 97, 99, 107]⟩ : ByteArray)).set 5 (⟨#[112, 117, 116]⟩ : ByteArray)).set 6 (⟨#[100, 114, 97, 119]⟩ : ByteArray)).set 7 (⟨#[111, 119, 101]⟩ : ByteArray)).set 8 (⟨#[112, 97, 121]⟩ : ByteArray)) x0 fun e14 => some e14)
def step_Word.C : Ctx := { ty := tyT, sigs := fun i => [], n := 11, mp := mpT }
def step_Word.Q : Cuts := { np := 0, loops := fun i => none, seqs := fun i => none, splits := fun i => none }
def step_Word.sig : Sig := { args := .tc (.val (.int .u8)) .tn, objs := [], ret := .val .str, outs := [], F := fun x => step_Word x.1.1 }
theorem step_Word.eq : (fun x => body step_Word.C step_Word.Q Go.Proofs.Try.f16 step_Word.sig.args step_Word.sig.objs step_Word.sig.ret step_Word.sig.outs x) = step_Word.sig.F := by
  kernel_rfl
set_option maxRecDepth 100000 in
theorem step_Word.ctx : CtxOk Go.Proofs.Try.prog step_Word.C := ⟨tyOk, mpOk, Nat.le_of_ble_eq_true (by kernel_rfl), fun f sg => (fun h => by cases h)⟩
set_option maxRecDepth 100000 in
theorem step_Word.ok : Sound Go.Proofs.Try.prog 16 step_Word.sig := body_sound (C := step_Word.C) (q := step_Word.Q) (fn := Go.Proofs.Try.f16) (sg := step_Word.sig) (n := 1) step_Word.ctx follows Go.Proofs.Try.func16 (by kernel_rfl) (by kernel_rfl) (by kernel_rfl) (by kernel_rfl) (Nat.le_of_ble_eq_true (by kernel_rfl)) (by kernel_rfl) step_Word.eq

def pledgelaw12_works  : Option Bool :=
  (step_Ops (3, (1, ([(0, (3, ()))], ())))).bind fun r2 => bif ((r2.length : Int) : Int) == 2 then nthK r2 0 fun e3 => bif eqE kOp e3 ((2, (0, (1, ()))), ((-3), ())) then nthK r2 1 fun e4 => bif eqE kOp e4 ((3, (0, (0, ()))), (3, ())) then (step_Word 8).bind fun r5 => some (r5.toList == (⟨#[112, 97, 121]⟩ : ByteArray).toList) else some false else some false else some false
def pledgelaw12_works.C : Ctx := { ty := tyT, sigs := fun i => bif Nat.beq i 12 then [step_Ops.sig] else bif Nat.beq i 16 then [step_Word.sig] else [], n := 29, mp := mpT }
def pledgelaw12_works.Q : Cuts := { np := 0, loops := fun i => none, seqs := fun i => none, splits := fun i => none }
def pledgelaw12_works.sig : Sig := { args := .tn, objs := [], ret := .val .bool, outs := [], F := fun x => pledgelaw12_works }
theorem pledgelaw12_works.eq : (fun x => body pledgelaw12_works.C pledgelaw12_works.Q Go.Proofs.Try.f10 pledgelaw12_works.sig.args pledgelaw12_works.sig.objs pledgelaw12_works.sig.ret pledgelaw12_works.sig.outs x) = pledgelaw12_works.sig.F := by
  kernel_rfl
set_option maxRecDepth 100000 in
theorem pledgelaw12_works.ctx : CtxOk Go.Proofs.Try.prog pledgelaw12_works.C := ⟨tyOk, mpOk, Nat.le_of_ble_eq_true (by kernel_rfl), fun f sg => fun h => sigs_if h (allS_cons step_Ops.ok allS_nil) (fun h => sigs_if h (allS_cons step_Word.ok allS_nil) ((fun h => by cases h)))⟩
set_option maxRecDepth 100000 in
theorem pledgelaw12_works.ok : Sound Go.Proofs.Try.prog 10 pledgelaw12_works.sig := body_sound (C := pledgelaw12_works.C) (q := pledgelaw12_works.Q) (fn := Go.Proofs.Try.f10) (sg := pledgelaw12_works.sig) (n := 0) pledgelaw12_works.ctx follows Go.Proofs.Try.func10 (by kernel_rfl) (by kernel_rfl) (by kernel_rfl) (by kernel_rfl) (Nat.le_of_ble_eq_true (by kernel_rfl)) (by kernel_rfl) pledgelaw12_works.eq

def pledgeref12_add (x0 : Int) (x1 : Int) (x2 : Int) (x3 : Int) : Option ((Int × Int × Int × Unit) × Int × Unit) :=
  some ((x0, (x1, (x2, ()))), (x3, ()))
def pledgeref12_add.C : Ctx := { ty := tyT, sigs := fun i => [], n := 15, mp := mpT }
def pledgeref12_add.Q : Cuts := { np := 0, loops := fun i => none, seqs := fun i => none, splits := fun i => none }
def pledgeref12_add.sig : Sig := { args := .tc (.val (.int .u8)) (.tc (.val (.int .u8)) (.tc (.val (.int .u8)) (.tc (.val (.int .i64)) .tn))), objs := [], ret := .val kOp, outs := [], F := fun x => pledgeref12_add x.1.1 x.1.2.1 x.1.2.2.1 x.1.2.2.2.1 }
theorem pledgeref12_add.eq : (fun x => body pledgeref12_add.C pledgeref12_add.Q Go.Proofs.Try.f95 pledgeref12_add.sig.args pledgeref12_add.sig.objs pledgeref12_add.sig.ret pledgeref12_add.sig.outs x) = pledgeref12_add.sig.F := by
  kernel_rfl
set_option maxRecDepth 100000 in
theorem pledgeref12_add.ctx : CtxOk Go.Proofs.Try.prog pledgeref12_add.C := ⟨tyOk, mpOk, Nat.le_of_ble_eq_true (by kernel_rfl), fun f sg => (fun h => by cases h)⟩
set_option maxRecDepth 100000 in
theorem pledgeref12_add.ok : Sound Go.Proofs.Try.prog 95 pledgeref12_add.sig := body_sound (C := pledgeref12_add.C) (q := pledgeref12_add.Q) (fn := Go.Proofs.Try.f95) (sg := pledgeref12_add.sig) (n := 4) pledgeref12_add.ctx follows Go.Proofs.Try.func95 (by kernel_rfl) (by kernel_rfl) (by kernel_rfl) (by kernel_rfl) (Nat.le_of_ble_eq_true (by kernel_rfl)) (by kernel_rfl) pledgeref12_add.eq

def pledgeref12_one (x0 : Int) (x1 : Int) (x2 : Int × Int × Unit) : Option (List ((Int × Int × Int × Unit) × Int × Unit)) :=
  bif (x0 : Int) == 1 then (pledgeref12_add 1 x2.1 x1 (IntKind.i64.wrap (0 - x2.2.1))).bind fun r6 => (pledgeref12_add 2 x2.1 x1 x2.2.1).bind fun r7 => some [r6, r7] else bif (x0 : Int) == 2 then (pledgeref12_add 2 x2.1 x1 (IntKind.i64.wrap (0 - x2.2.1))).bind fun r8 => (pledgeref12_add 1 x2.1 x1 x2.2.1).bind fun r9 => some [r8, r9] else bif (x0 : Int) == 3 then (pledgeref12_add 2 x2.1 x1 (IntKind.i64.wrap (0 - x2.2.1))).bind fun r10 => (pledgeref12_add 3 x2.1 0 x2.2.1).bind fun r11 => some [r10, r11] else bif (x0 : Int) == 4 then (pledgeref12_add 3 x2.1 0 (IntKind.i64.wrap (0 - x2.2.1))).bind fun r12 => (pledgeref12_add 1 x2.1 x1 x2.2.1).bind fun r13 => some [r12, r13] else bif (x0 : Int) == 5 then (pledgeref12_add 1 x2.1 x1 x2.2.1).bind fun r14 => some [r14] else bif (x0 : Int) == 6 then (pledgeref12_add 1 x2.1 x1 (IntKind.i64.wrap (0 - x2.2.1))).bind fun r15 => some [r15] else bif (x0 : Int) == 7 then (pledgeref12_add 4 x2.1 0 x2.2.1).bind fun r16 => some [r16] else bif (x0 : Int) == 8 then (pledgeref12_add 4 x2.1 0 (IntKind.i64.wrap (0 - x2.2.1))).bind fun r17 => some [r17] else some []
def pledgeref12_one.C : Ctx := { ty := tyT, sigs := fun i => bif Nat.beq i 95 then [pledgeref12_add.sig] else [], n := 88, mp := mpT }
def pledgeref12_one.Q : Cuts := { np := 0, loops := fun i => none, seqs := fun i => none, splits := fun i => none }
def pledgeref12_one.sig : Sig := { args := .tc (.val (.int .u8)) (.tc (.val (.int .u8)) (.tc (.val kLine) .tn)), objs := [], ret := .val (.slice kOp), outs := [], F := fun x => pledgeref12_one x.1.1 x.1.2.1 x.1.2.2.1 }
theorem pledgeref12_one.eq : (fun x => body pledgeref12_one.C pledgeref12_one.Q Go.Proofs.Try.f41 pledgeref12_one.sig.args pledgeref12_one.sig.objs pledgeref12_one.sig.ret pledgeref12_one.sig.outs x) = pledgeref12_one.sig.F := by
  kernel_rfl
set_option maxRecDepth 100000 in
theorem pledgeref12_one.ctx : CtxOk Go.Proofs.Try.prog pledgeref12_one.C := ⟨tyOk, mpOk, Nat.le_of_ble_eq_true (by kernel_rfl), fun f sg => fun h => sigs_if h (allS_cons pledgeref12_add.ok allS_nil) ((fun h => by cases h))⟩
set_option maxRecDepth 100000 in
theorem pledgeref12_one.ok : Sound Go.Proofs.Try.prog 41 pledgeref12_one.sig := body_sound (C := pledgeref12_one.C) (q := pledgeref12_one.Q) (fn := Go.Proofs.Try.f41) (sg := pledgeref12_one.sig) (n := 3) pledgeref12_one.ctx follows Go.Proofs.Try.func41 (by kernel_rfl) (by kernel_rfl) (by kernel_rfl) (by kernel_rfl) (Nat.le_of_ble_eq_true (by kernel_rfl)) (by kernel_rfl) pledgeref12_one.eq

def pledgeref12_Ops.l1 (v : (Unit × Unit × Int) × (Int × Int × (List (Int × Int × Unit)) × Unit) × (List ((Int × Int × Int × Unit) × Int × Unit)) × Unit) : Option (((Unit × Unit × Int) × (Int × Int × (List (Int × Int × Unit)) × Unit) × (List ((Int × Int × Int × Unit) × Int × Unit)) × Unit) ⊕ (Unit × (List ((Int × Int × Int × Unit) × Int × Unit)) × Unit)) :=
  bif decide (v.1.2.2 < (v.2.1.2.2.1.length : Int)) then nthK v.2.1.2.2.1 v.1.2.2 fun e4 => bif decide (e4.2.1 ≥ 1) then nthK v.2.1.2.2.1 v.1.2.2 fun e5 => (pledgeref12_one v.2.1.1 v.2.1.2.1 e5).bind fun r6 => room (v.2.2.1.length + r6.length) (some (Sum.inl (((), ((), IntKind.i64.wrap (v.1.2.2 + 1))), (v.2.1, (v.2.2.1 ++ r6, ()))))) else some (Sum.inl (((), ((), IntKind.i64.wrap (v.1.2.2 + 1))), (v.2.1, (v.2.2.1, ())))) else some (Sum.inr ((), (v.2.2.1, ())))
def pledgeref12_Ops (x0 : Int × Int × (List (Int × Int × Unit)) × Unit) : Option (List ((Int × Int × Int × Unit) × Int × Unit)) :=
  (iterL pledgeref12_Ops.l1 loopN (((), ((), 0)), (x0, ([], ())))).bind fun y7 => some y7.2.1
def pledgeref12_Ops.C : Ctx := { ty := tyT, sigs := fun i => bif Nat.beq i 41 then [pledgeref12_one.sig] else [], n := 32, mp := mpT }
def pledgeref12_Ops.Q : Cuts := { np := 0, loops := fun i => bif Nat.beq i 3 then some ({ env := [(1, .ptr 0), (3, .row 1), (4, .val (.int .i64))], objs := [.cell kStep (.val kStep), .row kOp false] }, [(.exit 0, { env := [(3, .row 0)], objs := [.row kOp false] })]) else none, seqs := fun i => none, splits := fun i => none }
def pledgeref12_Ops.sig : Sig := { args := .tc (.val kStep) .tn, objs := [], ret := .val (.slice kOp), outs := [], F := fun x => pledgeref12_Ops x.1.1 }
theorem pledgeref12_Ops.eq : (fun x => body pledgeref12_Ops.C pledgeref12_Ops.Q Go.Proofs.Try.f13 pledgeref12_Ops.sig.args pledgeref12_Ops.sig.objs pledgeref12_Ops.sig.ret pledgeref12_Ops.sig.outs x) = pledgeref12_Ops.sig.F := by
  kernel_rfl
set_option maxRecDepth 100000 in
theorem pledgeref12_Ops.ctx : CtxOk Go.Proofs.Try.prog pledgeref12_Ops.C := ⟨tyOk, mpOk, Nat.le_of_ble_eq_true (by kernel_rfl), fun f sg => fun h => sigs_if h (allS_cons pledgeref12_one.ok allS_nil) ((fun h => by cases h))⟩
set_option maxRecDepth 100000 in
theorem pledgeref12_Ops.ok : Sound Go.Proofs.Try.prog 13 pledgeref12_Ops.sig := body_sound (C := pledgeref12_Ops.C) (q := pledgeref12_Ops.Q) (fn := Go.Proofs.Try.f13) (sg := pledgeref12_Ops.sig) (n := 1) pledgeref12_Ops.ctx follows Go.Proofs.Try.func13 (by kernel_rfl) (by kernel_rfl) (by kernel_rfl) (by kernel_rfl) (Nat.le_of_ble_eq_true (by kernel_rfl)) (by kernel_rfl) pledgeref12_Ops.eq

def pledgeref11_Same.l1 (v : (List ((Int × Int × Int × Unit) × Int × Unit)) × (List ((Int × Int × Int × Unit) × Int × Unit)) × Int) : Option (((List ((Int × Int × Int × Unit) × Int × Unit)) × (List ((Int × Int × Int × Unit) × Int × Unit)) × Int) ⊕ (Unit ⊕ Bool)) :=
  bif decide (v.2.2 < (v.1.length : Int)) then nthK v.1 v.2.2 fun e9 => nthK v.2.1 v.2.2 fun e10 => bif !(eqE kOp e9 e10) then some (Sum.inr (Sum.inr false)) else some (Sum.inl (v.1, (v.2.1, IntKind.i64.wrap (v.2.2 + 1)))) else some (Sum.inr (Sum.inl ()))
def pledgeref11_Same (x0 : List ((Int × Int × Int × Unit) × Int × Unit)) (x1 : List ((Int × Int × Int × Unit) × Int × Unit)) : Option Bool :=
  bif ((x0.length : Int) : Int) != (x1.length : Int) then some false else (iterL pledgeref11_Same.l1 loopN (x0, (x1, 0))).bind fun y11 => (match y11 with | .inl y12 => some true | .inr y13 => some y13)
def pledgeref11_Same.C : Ctx := { ty := tyT, sigs := fun i => [], n := 26, mp := mpT }
def pledgeref11_Same.Q : Cuts := { np := 0, loops := fun i => bif Nat.beq i 4 then some ({ env := [(0, .val (.slice kOp)), (1, .val (.slice kOp)), (5, .val (.int .i64))], objs := [] }, [(.exit 0, { env := [], objs := [] }), (.ret, { env := [(4, .val .bool)], objs := [] })]) else none, seqs := fun i => none, splits := fun i => none }
def pledgeref11_Same.sig : Sig := { args := .tc (.val (.slice kOp)) (.tc (.val (.slice kOp)) .tn), objs := [], ret := .val .bool, outs := [], F := fun x => pledgeref11_Same x.1.1 x.1.2.1 }
theorem pledgeref11_Same.eq : (fun x => body pledgeref11_Same.C pledgeref11_Same.Q Go.Proofs.Try.f11 pledgeref11_Same.sig.args pledgeref11_Same.sig.objs pledgeref11_Same.sig.ret pledgeref11_Same.sig.outs x) = pledgeref11_Same.sig.F := by
  kernel_rfl
set_option maxRecDepth 100000 in
theorem pledgeref11_Same.ctx : CtxOk Go.Proofs.Try.prog pledgeref11_Same.C := ⟨tyOk, mpOk, Nat.le_of_ble_eq_true (by kernel_rfl), fun f sg => (fun h => by cases h)⟩
set_option maxRecDepth 100000 in
theorem pledgeref11_Same.ok : Sound Go.Proofs.Try.prog 11 pledgeref11_Same.sig := body_sound (C := pledgeref11_Same.C) (q := pledgeref11_Same.Q) (fn := Go.Proofs.Try.f11) (sg := pledgeref11_Same.sig) (n := 2) pledgeref11_Same.ctx follows Go.Proofs.Try.func11 (by kernel_rfl) (by kernel_rfl) (by kernel_rfl) (by kernel_rfl) (Nat.le_of_ble_eq_true (by kernel_rfl)) (by kernel_rfl) pledgeref11_Same.eq

def calc_Neg (x0 : Int) : Option (Int × Bool × Unit) :=
  bif (x0 : Int) == (-9223372036854775808) then some (0, (false, ())) else some (IntKind.i64.wrap (0 - x0), (true, ()))
def calc_Neg.C : Ctx := { ty := tyT, sigs := fun i => [], n := 8, mp := mpT }
def calc_Neg.Q : Cuts := { np := 0, loops := fun i => none, seqs := fun i => none, splits := fun i => none }
def calc_Neg.sig : Sig := { args := .tc (.val (.int .i64)) .tn, objs := [], ret := .tup (.tc (.val (.int .i64)) (.tc (.val .bool) .tn)), outs := [], F := fun x => calc_Neg x.1.1 }
theorem calc_Neg.eq : (fun x => body calc_Neg.C calc_Neg.Q Go.Proofs.Try.f97 calc_Neg.sig.args calc_Neg.sig.objs calc_Neg.sig.ret calc_Neg.sig.outs x) = calc_Neg.sig.F := by
  kernel_rfl
set_option maxRecDepth 100000 in
theorem calc_Neg.ctx : CtxOk Go.Proofs.Try.prog calc_Neg.C := ⟨tyOk, mpOk, Nat.le_of_ble_eq_true (by kernel_rfl), fun f sg => (fun h => by cases h)⟩
set_option maxRecDepth 100000 in
theorem calc_Neg.ok : Sound Go.Proofs.Try.prog 97 calc_Neg.sig := body_sound (C := calc_Neg.C) (q := calc_Neg.Q) (fn := Go.Proofs.Try.f97) (sg := calc_Neg.sig) (n := 1) calc_Neg.ctx follows Go.Proofs.Try.func97 (by kernel_rfl) (by kernel_rfl) (by kernel_rfl) (by kernel_rfl) (Nat.le_of_ble_eq_true (by kernel_rfl)) (by kernel_rfl) calc_Neg.eq

def op_Neg (x0 : List ((Int × Int × Int × Unit) × Int × Unit)) : Option ((Unit × Bool × Unit) × List ((Int × Int × Int × Unit) × Int × Unit) × Unit) := negF (kk := kKey) calc_Neg x0
def op_Neg.sig : Sig := { args := .tc (.val (.slice kOp)) .tn, objs := [], ret := .tup (.tc (.row 0) (.tc (.val .bool) .tn)), outs := [.row kOp false], F := fun x => op_Neg x.1.1 }
def op_Neg.C : Ctx := { ty := tyT, sigs := fun i => bif Nat.beq i 97 then [calc_Neg.sig] else [], n := 32, mp := fun _ => none }
def op_Neg.C1 : Ctx := { ty := tyT, sigs := fun _ => [], n := 4, mp := fun _ => none }
def op_Neg.C2 : Ctx := { ty := tyT, sigs := fun _ => [], n := 19, mp := fun _ => none }
set_option maxRecDepth 100000 in
theorem op_Neg.ctx : CtxOk Go.Proofs.Try.prog op_Neg.C := ⟨tyOk, (fun t k v h => by cases h), Nat.le_of_ble_eq_true (by kernel_rfl), fun f sg => fun h => sigs_if h (allS_cons calc_Neg.ok allS_nil) (fun h => by cases h)⟩
theorem op_Neg.ctxC1 : CtxOk Go.Proofs.Try.prog op_Neg.C1 := ⟨tyOk, (fun t k v h => by cases h), Nat.le_of_ble_eq_true (by kernel_rfl), fun f sg h => by cases h⟩
theorem op_Neg.ctxC2 : CtxOk Go.Proofs.Try.prog op_Neg.C2 := ⟨tyOk, (fun t k v h => by cases h), Nat.le_of_ble_eq_true (by kernel_rfl), fun f sg h => by cases h⟩
theorem op_Neg.bw : BwFacts Go.Proofs.Try.prog op_Neg.C1 96 Go.Proofs.Try.f96 114 (eOp kKey) := { hf := Go.Proofs.Try.func96, hname := by kernel_rfl, hb := by kernel_rfl, hres := by kernel_rfl, hn := by kernel_rfl, h3 := (by show 3 < 4; omega), q0 := fun xs => by kernel_rfl, q1 := fun xs => by kernel_rfl }
theorem op_Neg.bk : BackFacts Go.Proofs.Try.prog op_Neg.C2 114 Go.Proofs.Try.f114 (eOp kKey) #[3, 64] := { hf := Go.Proofs.Try.func114, hname := by kernel_rfl, hb := by kernel_rfl, hres := by kernel_rfl, hn := by kernel_rfl, h18 := (by show 18 < 19; omega), h3 := by kernel_rfl, m0 := by kernel_rfl, m0d := by kernel_rfl, m0g := by kernel_rfl, c6 := by kernel_rfl, c6d := by kernel_rfl, c6g := by kernel_rfl, k0 := by kernel_rfl, k1 := by kernel_rfl, k2 := by kernel_rfl, k3 := by kernel_rfl, k7 := by kernel_rfl, q0 := fun xs => by kernel_rfl, q1 := fun xs i => by kernel_rfl, q2 := fun xs i => by kernel_rfl, q3 := fun xs i => by kernel_rfl, q7 := fun b i => by kernel_rfl }
theorem op_Neg.ng : NegFacts Go.Proofs.Try.prog op_Neg.C 42 Go.Proofs.Try.f42 96 kKey calc_Neg #[28] := { hf := Go.Proofs.Try.func42, hname := by kernel_rfl, hb := by kernel_rfl, hn := by kernel_rfl, h32 := (by show 31 < 32; omega), h2 := by kernel_rfl, c2 := by kernel_rfl, c2d := by kernel_rfl, c2g := by kernel_rfl, q0 := fun xs => by kernel_rfl, q1 := fun xs => by kernel_rfl, q2 := fun xs => by kernel_rfl, q3 := fun acc x => by kernel_rfl, q4 := fun acc x => by kernel_rfl, q5 := fun acc x i b => by kernel_rfl, q6 := fun acc x i b => by kernel_rfl, q7 := fun acc x i b => by kernel_rfl, q8 := fun acc => by kernel_rfl, e1 := fun acc => by kernel_rfl, e0 := by kernel_rfl }
set_option maxRecDepth 100000 in
theorem op_Neg.ok : Sound Go.Proofs.Try.prog 42 op_Neg.sig := neg_sound op_Neg.ctx op_Neg.ctxC1 op_Neg.ctxC2 (by kernel_rfl) op_Neg.ng op_Neg.bw op_Neg.bk

def step_Undo (x0 : Int × Int × (List (Int × Int × Unit)) × Unit) : Option (List ((Int × Int × Int × Unit) × Int × Unit)) :=
  (step_Ops x0).bind fun r15 => (op_Neg r15).bind fun r16 => some r16.2.1
def step_Undo.C : Ctx := { ty := tyT, sigs := fun i => bif Nat.beq i 12 then [step_Ops.sig] else bif Nat.beq i 42 then [op_Neg.sig] else [], n := 12, mp := mpT }
def step_Undo.Q : Cuts := { np := 0, loops := fun i => none, seqs := fun i => none, splits := fun i => none }
def step_Undo.sig : Sig := { args := .tc (.val kStep) .tn, objs := [], ret := .val (.slice kOp), outs := [], F := fun x => step_Undo x.1.1 }
theorem step_Undo.eq : (fun x => body step_Undo.C step_Undo.Q Go.Proofs.Try.f14 step_Undo.sig.args step_Undo.sig.objs step_Undo.sig.ret step_Undo.sig.outs x) = step_Undo.sig.F := by
  kernel_rfl
set_option maxRecDepth 100000 in
theorem step_Undo.ctx : CtxOk Go.Proofs.Try.prog step_Undo.C := ⟨tyOk, mpOk, Nat.le_of_ble_eq_true (by kernel_rfl), fun f sg => fun h => sigs_if h (allS_cons step_Ops.ok allS_nil) (fun h => sigs_if h (allS_cons op_Neg.ok allS_nil) ((fun h => by cases h)))⟩
set_option maxRecDepth 100000 in
theorem step_Undo.ok : Sound Go.Proofs.Try.prog 14 step_Undo.sig := body_sound (C := step_Undo.C) (q := step_Undo.Q) (fn := Go.Proofs.Try.f14) (sg := step_Undo.sig) (n := 1) step_Undo.ctx follows Go.Proofs.Try.func14 (by kernel_rfl) (by kernel_rfl) (by kernel_rfl) (by kernel_rfl) (Nat.le_of_ble_eq_true (by kernel_rfl)) (by kernel_rfl) step_Undo.eq

def pledgeref12_Undo.l1 (v : ((List ((Int × Int × Int × Unit) × Int × Unit)) × Unit × Int) × (List ((Int × Int × Int × Unit) × Int × Unit)) × Unit) : Option ((((List ((Int × Int × Int × Unit) × Int × Unit)) × Unit × Int) × (List ((Int × Int × Int × Unit) × Int × Unit)) × Unit) ⊕ (Unit × (List ((Int × Int × Int × Unit) × Int × Unit)) × Unit)) :=
  bif decide (v.1.2.2 ≥ 0) then nthK v.1.1 v.1.2.2 fun e19 => nthK v.1.1 v.1.2.2 fun e20 => room (v.2.1.length + [(e19.1, (IntKind.i64.wrap (0 - e20.2.1), ()))].length) (some (Sum.inl ((v.1.1, ((), IntKind.i64.wrap (v.1.2.2 - 1))), (v.2.1 ++ [(e19.1, (IntKind.i64.wrap (0 - e20.2.1), ()))], ())))) else some (Sum.inr ((), (v.2.1, ())))
def pledgeref12_Undo (x0 : Int × Int × (List (Int × Int × Unit)) × Unit) : Option (List ((Int × Int × Int × Unit) × Int × Unit)) :=
  (pledgeref12_Ops x0).bind fun r18 => (iterL pledgeref12_Undo.l1 loopN ((r18, ((), IntKind.i64.wrap ((r18.length : Int) - 1))), ([], ()))).bind fun y21 => some y21.2.1
def pledgeref12_Undo.C : Ctx := { ty := tyT, sigs := fun i => bif Nat.beq i 13 then [pledgeref12_Ops.sig] else [], n := 31, mp := mpT }
def pledgeref12_Undo.Q : Cuts := { np := 0, loops := fun i => bif Nat.beq i 4 then some ({ env := [(3, .val (.slice kOp)), (4, .row 0), (5, .val (.int .i64))], objs := [.row kOp false] }, [(.exit 0, { env := [(4, .row 0)], objs := [.row kOp false] })]) else none, seqs := fun i => none, splits := fun i => none }
def pledgeref12_Undo.sig : Sig := { args := .tc (.val kStep) .tn, objs := [], ret := .val (.slice kOp), outs := [], F := fun x => pledgeref12_Undo x.1.1 }
theorem pledgeref12_Undo.eq : (fun x => body pledgeref12_Undo.C pledgeref12_Undo.Q Go.Proofs.Try.f15 pledgeref12_Undo.sig.args pledgeref12_Undo.sig.objs pledgeref12_Undo.sig.ret pledgeref12_Undo.sig.outs x) = pledgeref12_Undo.sig.F := by
  kernel_rfl
set_option maxRecDepth 100000 in
theorem pledgeref12_Undo.ctx : CtxOk Go.Proofs.Try.prog pledgeref12_Undo.C := ⟨tyOk, mpOk, Nat.le_of_ble_eq_true (by kernel_rfl), fun f sg => fun h => sigs_if h (allS_cons pledgeref12_Ops.ok allS_nil) ((fun h => by cases h))⟩
set_option maxRecDepth 100000 in
theorem pledgeref12_Undo.ok : Sound Go.Proofs.Try.prog 15 pledgeref12_Undo.sig := body_sound (C := pledgeref12_Undo.C) (q := pledgeref12_Undo.Q) (fn := Go.Proofs.Try.f15) (sg := pledgeref12_Undo.sig) (n := 1) pledgeref12_Undo.ctx follows Go.Proofs.Try.func15 (by kernel_rfl) (by kernel_rfl) (by kernel_rfl) (by kernel_rfl) (Nat.le_of_ble_eq_true (by kernel_rfl)) (by kernel_rfl) pledgeref12_Undo.eq

def pledgeref12_Word (x0 : Int) : Option ByteArray :=
  bif (x0 : Int) == 1 then some (⟨#[116, 97, 107, 101]⟩ : ByteArray) else bif (x0 : Int) == 2 then some (⟨#[102, 114, 101, 101]⟩ : ByteArray) else bif (x0 : Int) == 3 then some (⟨#[115, 101, 110, 100]⟩ : ByteArray) else bif (x0 : Int) == 4 then some (⟨#[98, 97, 99, 107]⟩ : ByteArray) else bif (x0 : Int) == 5 then some (⟨#[112, 117, 116]⟩ : ByteArray) else bif (x0 : Int) == 6 then some (⟨#[100, 114, 97, 119]⟩ : ByteArray) else bif (x0 : Int) == 7 then some (⟨#[111, 119, 101]⟩ : ByteArray) else bif (x0 : Int) == 8 then some (⟨#[112, 97, 121]⟩ : ByteArray) else some (⟨#[]⟩ : ByteArray)
def pledgeref12_Word.C : Ctx := { ty := tyT, sigs := fun i => [], n := 20, mp := mpT }
def pledgeref12_Word.Q : Cuts := { np := 0, loops := fun i => none, seqs := fun i => none, splits := fun i => none }
def pledgeref12_Word.sig : Sig := { args := .tc (.val (.int .u8)) .tn, objs := [], ret := .val .str, outs := [], F := fun x => pledgeref12_Word x.1.1 }
theorem pledgeref12_Word.eq : (fun x => body pledgeref12_Word.C pledgeref12_Word.Q Go.Proofs.Try.f17 pledgeref12_Word.sig.args pledgeref12_Word.sig.objs pledgeref12_Word.sig.ret pledgeref12_Word.sig.outs x) = pledgeref12_Word.sig.F := by
  kernel_rfl
set_option maxRecDepth 100000 in
theorem pledgeref12_Word.ctx : CtxOk Go.Proofs.Try.prog pledgeref12_Word.C := ⟨tyOk, mpOk, Nat.le_of_ble_eq_true (by kernel_rfl), fun f sg => (fun h => by cases h)⟩
set_option maxRecDepth 100000 in
theorem pledgeref12_Word.ok : Sound Go.Proofs.Try.prog 17 pledgeref12_Word.sig := body_sound (C := pledgeref12_Word.C) (q := pledgeref12_Word.Q) (fn := Go.Proofs.Try.f17) (sg := pledgeref12_Word.sig) (n := 1) pledgeref12_Word.ctx follows Go.Proofs.Try.func17 (by kernel_rfl) (by kernel_rfl) (by kernel_rfl) (by kernel_rfl) (Nat.le_of_ble_eq_true (by kernel_rfl)) (by kernel_rfl) pledgeref12_Word.eq

def pledgelaw12_StepDoes (x0 : Int × Int × (List (Int × Int × Unit)) × Unit) : Option Bool :=
  (pledgelaw12_few x0).bind fun r1 => bif !r1 then pledgelaw12_works.bind fun r2 => some r2 else (step_Ops x0).bind fun r3 => (pledgeref12_Ops x0).bind fun r4 => (pledgeref11_Same r3 r4).bind fun r5 => bif r5 then (step_Undo x0).bind fun r6 => (pledgeref12_Undo x0).bind fun r7 => (pledgeref11_Same r6 r7).bind fun r8 => bif r8 then (step_Word x0.1).bind fun r9 => (pledgeref12_Word x0.1).bind fun r10 => bif r9.toList == r10.toList then pledgelaw12_works.bind fun r11 => some r11 else some false else some false else some false
def pledgelaw12_StepDoes.C : Ctx := { ty := tyT, sigs := fun i => bif Nat.beq i 9 then [pledgelaw12_few.sig] else bif Nat.beq i 10 then [pledgelaw12_works.sig] else bif Nat.beq i 11 then [pledgeref11_Same.sig] else bif Nat.beq i 12 then [step_Ops.sig] else bif Nat.beq i 13 then [pledgeref12_Ops.sig] else bif Nat.beq i 14 then [step_Undo.sig] else bif Nat.beq i 15 then [pledgeref12_Undo.sig] else bif Nat.beq i 16 then [step_Word.sig] else bif Nat.beq i 17 then [pledgeref12_Word.sig] else [], n := 31, mp := mpT }
def pledgelaw12_StepDoes.Q : Cuts := { np := 0, loops := fun i => none, seqs := fun i => none, splits := fun i => none }
def pledgelaw12_StepDoes.sig : Sig := { args := .tc (.val kStep) .tn, objs := [], ret := .val .bool, outs := [], F := fun x => pledgelaw12_StepDoes x.1.1 }
theorem pledgelaw12_StepDoes.eq : (fun x => body pledgelaw12_StepDoes.C pledgelaw12_StepDoes.Q Go.Proofs.Try.f3 pledgelaw12_StepDoes.sig.args pledgelaw12_StepDoes.sig.objs pledgelaw12_StepDoes.sig.ret pledgelaw12_StepDoes.sig.outs x) = pledgelaw12_StepDoes.sig.F := by
  kernel_rfl
set_option maxRecDepth 100000 in
theorem pledgelaw12_StepDoes.ctx : CtxOk Go.Proofs.Try.prog pledgelaw12_StepDoes.C := ⟨tyOk, mpOk, Nat.le_of_ble_eq_true (by kernel_rfl), fun f sg => fun h => sigs_if h (allS_cons pledgelaw12_few.ok allS_nil) (fun h => sigs_if h (allS_cons pledgelaw12_works.ok allS_nil) (fun h => sigs_if h (allS_cons pledgeref11_Same.ok allS_nil) (fun h => sigs_if h (allS_cons step_Ops.ok allS_nil) (fun h => sigs_if h (allS_cons pledgeref12_Ops.ok allS_nil) (fun h => sigs_if h (allS_cons step_Undo.ok allS_nil) (fun h => sigs_if h (allS_cons pledgeref12_Undo.ok allS_nil) (fun h => sigs_if h (allS_cons step_Word.ok allS_nil) (fun h => sigs_if h (allS_cons pledgeref12_Word.ok allS_nil) ((fun h => by cases h))))))))))⟩
set_option maxRecDepth 100000 in
theorem pledgelaw12_StepDoes.ok : Sound Go.Proofs.Try.prog 3 pledgelaw12_StepDoes.sig := body_sound (C := pledgelaw12_StepDoes.C) (q := pledgelaw12_StepDoes.Q) (fn := Go.Proofs.Try.f3) (sg := pledgelaw12_StepDoes.sig) (n := 1) pledgelaw12_StepDoes.ctx follows Go.Proofs.Try.func3 (by kernel_rfl) (by kernel_rfl) (by kernel_rfl) (by kernel_rfl) (Nat.le_of_ble_eq_true (by kernel_rfl)) (by kernel_rfl) pledgelaw12_StepDoes.eq

def slices_Equal_api_Line_api_Line.l1 (v : (List (Int × Int × Unit)) × (List (Int × Int × Unit)) × Int × Int) : Option (((List (Int × Int × Unit)) × (List (Int × Int × Unit)) × Int × Int) ⊕ (Unit ⊕ Bool)) :=
  bif decide (v.2.2.2 < v.2.2.1) then nthK v.1 v.2.2.2 fun e12 => nthK v.2.1 v.2.2.2 fun e13 => bif !(eqE kLine e12 e13) then some (Sum.inr (Sum.inr false)) else some (Sum.inl (v.1, (v.2.1, (v.2.2.1, IntKind.i64.wrap (v.2.2.2 + 1))))) else some (Sum.inr (Sum.inl ()))
def slices_Equal_api_Line_api_Line (x0 : List (Int × Int × Unit)) (x1 : List (Int × Int × Unit)) : Option Bool :=
  bif ((x0.length : Int) : Int) != (x1.length : Int) then some false else (iterL slices_Equal_api_Line_api_Line.l1 loopN (x0, (x1, ((x0.length : Int), 0)))).bind fun y14 => (match y14 with | .inl y15 => some true | .inr y16 => some y16)
def slices_Equal_api_Line_api_Line.C : Ctx := { ty := tyT, sigs := fun i => [], n := 26, mp := mpT }
def slices_Equal_api_Line_api_Line.Q : Cuts := { np := 0, loops := fun i => bif Nat.beq i 4 then some ({ env := [(0, .val (.slice kLine)), (1, .val (.slice kLine)), (12, .val (.int .i64)), (13, .val (.int .i64))], objs := [] }, [(.exit 0, { env := [], objs := [] }), (.ret, { env := [(4, .val .bool)], objs := [] })]) else none, seqs := fun i => none, splits := fun i => none }
def slices_Equal_api_Line_api_Line.sig : Sig := { args := .tc (.val (.slice kLine)) (.tc (.val (.slice kLine)) .tn), objs := [], ret := .val .bool, outs := [], F := fun x => slices_Equal_api_Line_api_Line x.1.1 x.1.2.1 }
theorem slices_Equal_api_Line_api_Line.eq : (fun x => body slices_Equal_api_Line_api_Line.C slices_Equal_api_Line_api_Line.Q Go.Proofs.Try.f87 slices_Equal_api_Line_api_Line.sig.args slices_Equal_api_Line_api_Line.sig.objs slices_Equal_api_Line_api_Line.sig.ret slices_Equal_api_Line_api_Line.sig.outs x) = slices_Equal_api_Line_api_Line.sig.F := by
  kernel_rfl
set_option maxRecDepth 100000 in
theorem slices_Equal_api_Line_api_Line.ctx : CtxOk Go.Proofs.Try.prog slices_Equal_api_Line_api_Line.C := ⟨tyOk, mpOk, Nat.le_of_ble_eq_true (by kernel_rfl), fun f sg => (fun h => by cases h)⟩
set_option maxRecDepth 100000 in
theorem slices_Equal_api_Line_api_Line.ok : Sound Go.Proofs.Try.prog 87 slices_Equal_api_Line_api_Line.sig := body_sound (C := slices_Equal_api_Line_api_Line.C) (q := slices_Equal_api_Line_api_Line.Q) (fn := Go.Proofs.Try.f87) (sg := slices_Equal_api_Line_api_Line.sig) (n := 2) slices_Equal_api_Line_api_Line.ctx follows Go.Proofs.Try.func87 (by kernel_rfl) (by kernel_rfl) (by kernel_rfl) (by kernel_rfl) (Nat.le_of_ble_eq_true (by kernel_rfl)) (by kernel_rfl) slices_Equal_api_Line_api_Line.eq

def slices_Equal_api_Take_api_Take.l1 (v : (List (Int × Int × Int × Int × Unit)) × (List (Int × Int × Int × Int × Unit)) × Int × Int) : Option (((List (Int × Int × Int × Int × Unit)) × (List (Int × Int × Int × Int × Unit)) × Int × Int) ⊕ (Unit ⊕ Bool)) :=
  bif decide (v.2.2.2 < v.2.2.1) then nthK v.1 v.2.2.2 fun e18 => nthK v.2.1 v.2.2.2 fun e19 => bif !(eqE kTake e18 e19) then some (Sum.inr (Sum.inr false)) else some (Sum.inl (v.1, (v.2.1, (v.2.2.1, IntKind.i64.wrap (v.2.2.2 + 1))))) else some (Sum.inr (Sum.inl ()))
def slices_Equal_api_Take_api_Take (x0 : List (Int × Int × Int × Int × Unit)) (x1 : List (Int × Int × Int × Int × Unit)) : Option Bool :=
  bif ((x0.length : Int) : Int) != (x1.length : Int) then some false else (iterL slices_Equal_api_Take_api_Take.l1 loopN (x0, (x1, ((x0.length : Int), 0)))).bind fun y20 => (match y20 with | .inl y21 => some true | .inr y22 => some y22)
def slices_Equal_api_Take_api_Take.C : Ctx := { ty := tyT, sigs := fun i => [], n := 26, mp := mpT }
def slices_Equal_api_Take_api_Take.Q : Cuts := { np := 0, loops := fun i => bif Nat.beq i 4 then some ({ env := [(0, .val (.slice kTake)), (1, .val (.slice kTake)), (12, .val (.int .i64)), (13, .val (.int .i64))], objs := [] }, [(.exit 0, { env := [], objs := [] }), (.ret, { env := [(4, .val .bool)], objs := [] })]) else none, seqs := fun i => none, splits := fun i => none }
def slices_Equal_api_Take_api_Take.sig : Sig := { args := .tc (.val (.slice kTake)) (.tc (.val (.slice kTake)) .tn), objs := [], ret := .val .bool, outs := [], F := fun x => slices_Equal_api_Take_api_Take x.1.1 x.1.2.1 }
theorem slices_Equal_api_Take_api_Take.eq : (fun x => body slices_Equal_api_Take_api_Take.C slices_Equal_api_Take_api_Take.Q Go.Proofs.Try.f88 slices_Equal_api_Take_api_Take.sig.args slices_Equal_api_Take_api_Take.sig.objs slices_Equal_api_Take_api_Take.sig.ret slices_Equal_api_Take_api_Take.sig.outs x) = slices_Equal_api_Take_api_Take.sig.F := by
  kernel_rfl
set_option maxRecDepth 100000 in
theorem slices_Equal_api_Take_api_Take.ctx : CtxOk Go.Proofs.Try.prog slices_Equal_api_Take_api_Take.C := ⟨tyOk, mpOk, Nat.le_of_ble_eq_true (by kernel_rfl), fun f sg => (fun h => by cases h)⟩
set_option maxRecDepth 100000 in
theorem slices_Equal_api_Take_api_Take.ok : Sound Go.Proofs.Try.prog 88 slices_Equal_api_Take_api_Take.sig := body_sound (C := slices_Equal_api_Take_api_Take.C) (q := slices_Equal_api_Take_api_Take.Q) (fn := Go.Proofs.Try.f88) (sg := slices_Equal_api_Take_api_Take.sig) (n := 2) slices_Equal_api_Take_api_Take.ctx follows Go.Proofs.Try.func88 (by kernel_rfl) (by kernel_rfl) (by kernel_rfl) (by kernel_rfl) (Nat.le_of_ble_eq_true (by kernel_rfl)) (by kernel_rfl) slices_Equal_api_Take_api_Take.eq

def prog_Same (x0 : Int × Int × Int × (List (Int × Int × Unit)) × (List (Int × Int × Int × Int × Unit)) × (List (Int × Int × Unit)) × Int × Int × Int × Int × Unit) (x1 : Int × Int × Int × (List (Int × Int × Unit)) × (List (Int × Int × Int × Int × Unit)) × (List (Int × Int × Unit)) × Int × Int × Int × Int × Unit) : Option Bool :=
  bif (x0.1 : Int) == x1.1 then bif (x0.2.1 : Int) == x1.2.1 then bif (x0.2.2.1 : Int) == x1.2.2.1 then (slices_Equal_api_Line_api_Line x0.2.2.2.1 x1.2.2.2.1).bind fun r12 => bif r12 then (slices_Equal_api_Take_api_Take x0.2.2.2.2.1 x1.2.2.2.2.1).bind fun r13 => bif r13 then (slices_Equal_api_Line_api_Line x0.2.2.2.2.2.1 x1.2.2.2.2.2.1).bind fun r14 => bif r14 then bif (x0.2.2.2.2.2.2.1 : Int) == x1.2.2.2.2.2.2.1 then bif (x0.2.2.2.2.2.2.2.1 : Int) == x1.2.2.2.2.2.2.2.1 then bif (x0.2.2.2.2.2.2.2.2.1 : Int) == x1.2.2.2.2.2.2.2.2.1 then some ((x0.2.2.2.2.2.2.2.2.2.1 : Int) == x1.2.2.2.2.2.2.2.2.2.1) else some false else some false else some false else some false else some false else some false else some false else some false else some false
def prog_Same.C : Ctx := { ty := tyT, sigs := fun i => bif Nat.beq i 87 then [slices_Equal_api_Line_api_Line.sig] else bif Nat.beq i 88 then [slices_Equal_api_Take_api_Take.sig] else [], n := 73, mp := mpT }
def prog_Same.Q : Cuts := { np := 0, loops := fun i => none, seqs := fun i => none, splits := fun i => none }
def prog_Same.sig : Sig := { args := .tc (.val kProgram) (.tc (.val kProgram) .tn), objs := [], ret := .val .bool, outs := [], F := fun x => prog_Same x.1.1 x.1.2.1 }
theorem prog_Same.eq : (fun x => body prog_Same.C prog_Same.Q Go.Proofs.Try.f33 prog_Same.sig.args prog_Same.sig.objs prog_Same.sig.ret prog_Same.sig.outs x) = prog_Same.sig.F := by
  kernel_rfl
set_option maxRecDepth 100000 in
theorem prog_Same.ctx : CtxOk Go.Proofs.Try.prog prog_Same.C := ⟨tyOk, mpOk, Nat.le_of_ble_eq_true (by kernel_rfl), fun f sg => fun h => sigs_if h (allS_cons slices_Equal_api_Line_api_Line.ok allS_nil) (fun h => sigs_if h (allS_cons slices_Equal_api_Take_api_Take.ok allS_nil) ((fun h => by cases h)))⟩
set_option maxRecDepth 100000 in
theorem prog_Same.ok : Sound Go.Proofs.Try.prog 33 prog_Same.sig := body_sound (C := prog_Same.C) (q := prog_Same.Q) (fn := Go.Proofs.Try.f33) (sg := prog_Same.sig) (n := 2) prog_Same.ctx follows Go.Proofs.Try.func33 (by kernel_rfl) (by kernel_rfl) (by kernel_rfl) (by kernel_rfl) (Nat.le_of_ble_eq_true (by kernel_rfl)) (by kernel_rfl) prog_Same.eq

def pledgeref12_SameLines.l1 (v : (List (Int × Int × Unit)) × (List (Int × Int × Unit)) × Int) : Option (((List (Int × Int × Unit)) × (List (Int × Int × Unit)) × Int) ⊕ (Unit ⊕ Bool)) :=
  bif decide (v.2.2 < (v.1.length : Int)) then nthK v.1 v.2.2 fun e15 => nthK v.2.1 v.2.2 fun e16 => bif !(eqE kLine e15 e16) then some (Sum.inr (Sum.inr false)) else some (Sum.inl (v.1, (v.2.1, IntKind.i64.wrap (v.2.2 + 1)))) else some (Sum.inr (Sum.inl ()))
def pledgeref12_SameLines (x0 : List (Int × Int × Unit)) (x1 : List (Int × Int × Unit)) : Option Bool :=
  bif ((x0.length : Int) : Int) != (x1.length : Int) then some false else (iterL pledgeref12_SameLines.l1 loopN (x0, (x1, 0))).bind fun y17 => (match y17 with | .inl y18 => some true | .inr y19 => some y19)
def pledgeref12_SameLines.C : Ctx := { ty := tyT, sigs := fun i => [], n := 26, mp := mpT }
def pledgeref12_SameLines.Q : Cuts := { np := 0, loops := fun i => bif Nat.beq i 4 then some ({ env := [(0, .val (.slice kLine)), (1, .val (.slice kLine)), (5, .val (.int .i64))], objs := [] }, [(.exit 0, { env := [], objs := [] }), (.ret, { env := [(4, .val .bool)], objs := [] })]) else none, seqs := fun i => none, splits := fun i => none }
def pledgeref12_SameLines.sig : Sig := { args := .tc (.val (.slice kLine)) (.tc (.val (.slice kLine)) .tn), objs := [], ret := .val .bool, outs := [], F := fun x => pledgeref12_SameLines x.1.1 x.1.2.1 }
theorem pledgeref12_SameLines.eq : (fun x => body pledgeref12_SameLines.C pledgeref12_SameLines.Q Go.Proofs.Try.f56 pledgeref12_SameLines.sig.args pledgeref12_SameLines.sig.objs pledgeref12_SameLines.sig.ret pledgeref12_SameLines.sig.outs x) = pledgeref12_SameLines.sig.F := by
  kernel_rfl
set_option maxRecDepth 100000 in
theorem pledgeref12_SameLines.ctx : CtxOk Go.Proofs.Try.prog pledgeref12_SameLines.C := ⟨tyOk, mpOk, Nat.le_of_ble_eq_true (by kernel_rfl), fun f sg => (fun h => by cases h)⟩
set_option maxRecDepth 100000 in
theorem pledgeref12_SameLines.ok : Sound Go.Proofs.Try.prog 56 pledgeref12_SameLines.sig := body_sound (C := pledgeref12_SameLines.C) (q := pledgeref12_SameLines.Q) (fn := Go.Proofs.Try.f56) (sg := pledgeref12_SameLines.sig) (n := 2) pledgeref12_SameLines.ctx follows Go.Proofs.Try.func56 (by kernel_rfl) (by kernel_rfl) (by kernel_rfl) (by kernel_rfl) (Nat.le_of_ble_eq_true (by kernel_rfl)) (by kernel_rfl) pledgeref12_SameLines.eq

def pledgeref13_SameTakes.l1 (v : (List (Int × Int × Int × Int × Unit)) × (List (Int × Int × Int × Int × Unit)) × Int) : Option (((List (Int × Int × Int × Int × Unit)) × (List (Int × Int × Int × Int × Unit)) × Int) ⊕ (Unit ⊕ Bool)) :=
  bif decide (v.2.2 < (v.1.length : Int)) then nthK v.1 v.2.2 fun e21 => nthK v.2.1 v.2.2 fun e22 => bif !(eqE kTake e21 e22) then some (Sum.inr (Sum.inr false)) else some (Sum.inl (v.1, (v.2.1, IntKind.i64.wrap (v.2.2 + 1)))) else some (Sum.inr (Sum.inl ()))
def pledgeref13_SameTakes (x0 : List (Int × Int × Int × Int × Unit)) (x1 : List (Int × Int × Int × Int × Unit)) : Option Bool :=
  bif ((x0.length : Int) : Int) != (x1.length : Int) then some false else (iterL pledgeref13_SameTakes.l1 loopN (x0, (x1, 0))).bind fun y23 => (match y23 with | .inl y24 => some true | .inr y25 => some y25)
def pledgeref13_SameTakes.C : Ctx := { ty := tyT, sigs := fun i => [], n := 26, mp := mpT }
def pledgeref13_SameTakes.Q : Cuts := { np := 0, loops := fun i => bif Nat.beq i 4 then some ({ env := [(0, .val (.slice kTake)), (1, .val (.slice kTake)), (5, .val (.int .i64))], objs := [] }, [(.exit 0, { env := [], objs := [] }), (.ret, { env := [(4, .val .bool)], objs := [] })]) else none, seqs := fun i => none, splits := fun i => none }
def pledgeref13_SameTakes.sig : Sig := { args := .tc (.val (.slice kTake)) (.tc (.val (.slice kTake)) .tn), objs := [], ret := .val .bool, outs := [], F := fun x => pledgeref13_SameTakes x.1.1 x.1.2.1 }
theorem pledgeref13_SameTakes.eq : (fun x => body pledgeref13_SameTakes.C pledgeref13_SameTakes.Q Go.Proofs.Try.f86 pledgeref13_SameTakes.sig.args pledgeref13_SameTakes.sig.objs pledgeref13_SameTakes.sig.ret pledgeref13_SameTakes.sig.outs x) = pledgeref13_SameTakes.sig.F := by
  kernel_rfl
set_option maxRecDepth 100000 in
theorem pledgeref13_SameTakes.ctx : CtxOk Go.Proofs.Try.prog pledgeref13_SameTakes.C := ⟨tyOk, mpOk, Nat.le_of_ble_eq_true (by kernel_rfl), fun f sg => (fun h => by cases h)⟩
set_option maxRecDepth 100000 in
theorem pledgeref13_SameTakes.ok : Sound Go.Proofs.Try.prog 86 pledgeref13_SameTakes.sig := body_sound (C := pledgeref13_SameTakes.C) (q := pledgeref13_SameTakes.Q) (fn := Go.Proofs.Try.f86) (sg := pledgeref13_SameTakes.sig) (n := 2) pledgeref13_SameTakes.ctx follows Go.Proofs.Try.func86 (by kernel_rfl) (by kernel_rfl) (by kernel_rfl) (by kernel_rfl) (Nat.le_of_ble_eq_true (by kernel_rfl)) (by kernel_rfl) pledgeref13_SameTakes.eq

def pledgeref13_Same (x0 : Int × Int × Int × (List (Int × Int × Unit)) × (List (Int × Int × Int × Int × Unit)) × (List (Int × Int × Unit)) × Int × Int × Int × Int × Unit) (x1 : Int × Int × Int × (List (Int × Int × Unit)) × (List (Int × Int × Int × Int × Unit)) × (List (Int × Int × Unit)) × Int × Int × Int × Int × Unit) : Option Bool :=
  bif (x0.1 : Int) == x1.1 then bif (x0.2.1 : Int) == x1.2.1 then bif (x0.2.2.1 : Int) == x1.2.2.1 then (pledgeref12_SameLines x0.2.2.2.1 x1.2.2.2.1).bind fun r15 => bif r15 then (pledgeref13_SameTakes x0.2.2.2.2.1 x1.2.2.2.2.1).bind fun r16 => bif r16 then (pledgeref12_SameLines x0.2.2.2.2.2.1 x1.2.2.2.2.2.1).bind fun r17 => bif r17 then bif (x0.2.2.2.2.2.2.1 : Int) == x1.2.2.2.2.2.2.1 then bif (x0.2.2.2.2.2.2.2.1 : Int) == x1.2.2.2.2.2.2.2.1 then bif (x0.2.2.2.2.2.2.2.2.1 : Int) == x1.2.2.2.2.2.2.2.2.1 then some ((x0.2.2.2.2.2.2.2.2.2.1 : Int) == x1.2.2.2.2.2.2.2.2.2.1) else some false else some false else some false else some false else some false else some false else some false else some false else some false
def pledgeref13_Same.C : Ctx := { ty := tyT, sigs := fun i => bif Nat.beq i 56 then [pledgeref12_SameLines.sig] else bif Nat.beq i 86 then [pledgeref13_SameTakes.sig] else [], n := 73, mp := mpT }
def pledgeref13_Same.Q : Cuts := { np := 0, loops := fun i => none, seqs := fun i => none, splits := fun i => none }
def pledgeref13_Same.sig : Sig := { args := .tc (.val kProgram) (.tc (.val kProgram) .tn), objs := [], ret := .val .bool, outs := [], F := fun x => pledgeref13_Same x.1.1 x.1.2.1 }
theorem pledgeref13_Same.eq : (fun x => body pledgeref13_Same.C pledgeref13_Same.Q Go.Proofs.Try.f32 pledgeref13_Same.sig.args pledgeref13_Same.sig.objs pledgeref13_Same.sig.ret pledgeref13_Same.sig.outs x) = pledgeref13_Same.sig.F := by
  kernel_rfl
set_option maxRecDepth 100000 in
theorem pledgeref13_Same.ctx : CtxOk Go.Proofs.Try.prog pledgeref13_Same.C := ⟨tyOk, mpOk, Nat.le_of_ble_eq_true (by kernel_rfl), fun f sg => fun h => sigs_if h (allS_cons pledgeref12_SameLines.ok allS_nil) (fun h => sigs_if h (allS_cons pledgeref13_SameTakes.ok allS_nil) ((fun h => by cases h)))⟩
set_option maxRecDepth 100000 in
theorem pledgeref13_Same.ok : Sound Go.Proofs.Try.prog 32 pledgeref13_Same.sig := body_sound (C := pledgeref13_Same.C) (q := pledgeref13_Same.Q) (fn := Go.Proofs.Try.f32) (sg := pledgeref13_Same.sig) (n := 2) pledgeref13_Same.ctx follows Go.Proofs.Try.func32 (by kernel_rfl) (by kernel_rfl) (by kernel_rfl) (by kernel_rfl) (Nat.le_of_ble_eq_true (by kernel_rfl)) (by kernel_rfl) pledgeref13_Same.eq

end Go.Proofs.F
