import Derived.Test.YtmhbfandkefnaaaDTy
import Derived.Test.YtmhbfandkefnaaaProg
import Derived.KernelRfl
set_option linter.unusedVariables false
namespace Go.Proofs.F
open Go.Proofs.D
def kfault : K := .cons (.int .i64) .unit
def kLine : K := .cons (.int .u8) kfault
def kR : K := .cons (.slice (.int .u8)) kfault
def kReader : K := .cons kfault (.cons (.slice (.int .u8)) .unit)
def kwide : K := .cons (.int .i64) kfault
def kStep : K := .cons (.int .u8) (.cons (.int .u8) (.cons (.slice kLine) .unit))
def kKey : K := .cons (.int .u8) (.cons (.int .u8) (.cons (.int .u8) .unit))
def kWriter : K := .cons kfault kR
def kTake : K := .cons (.int .u32) (.cons (.int .u8) kLine)
def kOp : K := .cons kKey kfault
def kAsk : K := .cons (.int .u8) (.cons (.int .i64) (.cons (.arr 4 (.int .i64)) .unit))
def kOrder : K := .cons (.int .u32) (.cons (.int .u8) (.cons (.slice kLine) (.cons (.slice kTake) (.cons (.slice kTake) (.cons (.slice kLine) .unit)))))
def kDecl : K := .cons kKey (.cons (.int .i64) kwide)
def kRequest : K := .cons (.int .u8) (.cons (.int .u32) (.cons (.int .u8) (.cons (.slice kLine) (.cons (.int .u8) (.cons (.int .u8) kLine)))))
def kProgram : K := .cons (.int .u8) (.cons (.int .u32) (.cons (.int .u8) (.cons (.slice kLine) (.cons (.slice kTake) (.cons (.slice kLine) (.cons (.int .u8) (.cons (.int .u8) kLine)))))))
def kSmall : K := .cons (.int .u8) (.cons (.int .u8) (.cons (.int .u8) (.cons (.int .u16) (.cons (.int .u8) (.cons (.int .u8) (.cons (.int .u8) (.cons (.int .u8) (.cons (.int .u8) (.cons (.int .u8) (.cons (.int .u16) (.cons (.int .u8) .unit)))))))))))
def kConfig : K := .cons (.int .i64) (.cons (.int .i64) (.cons (.slice kDecl) (.cons (.arr 4 (.arr 4 (.int .u8))) (.cons (.int .i64) (.cons (.int .i64) (.cons (.int .i64) (.cons (.int .i64) (.cons (.int .i64) kwide))))))))
def tyL : List (Nat × K) := [(1, .ref 2), (2, .int .i64), (3, .int .i64), (4, .bool), (5, .int .u8), (9, .str), (40, .slice kLine), (41, kStep), (42, kStep), (47, .slice kOp), (57, kLine), (58, kLine), (103, kKey), (104, kKey), (112, kOp), (113, kOp), (118, .ref 2), (122, .arr 9 .str), (171, .ref 2), (172, .ref 2)]
def tyT (t : Nat) : Option K := lookK tyL t
theorem tyOk : ∀ t c, tyT t = some c → TyOk Go.Proofs.Try.prog tyT t c := tyOk_of (l := tyL) (fun _ => rfl) (by kernel_rfl) (by kernel_rfl)
theorem follows : Go.Proofs.Try.prog.follows .mixedOrders = true := by kernel_rfl
def pledgelaw12_few (x0 : Int × Int × (List (Int × Int × Unit)) × Unit) : Option Bool :=
  some (decide ((x0.2.2.1.length : Int) ≤ 20))
def pledgelaw12_few.C : Ctx := { ty := tyT, sigs := fun i => [], n := 7, mp := fun _ => none }
def pledgelaw12_few.Q : Cuts := { np := 0, loops := fun i => none, seqs := fun i => none, splits := fun i => none }
def pledgelaw12_few.sig : Sig := { args := .tc (.val kStep) .tn, objs := [], ret := .val .bool, outs := [], F := fun x => pledgelaw12_few x.1.1 }
theorem pledgelaw12_few.eq : (fun x => body pledgelaw12_few.C pledgelaw12_few.Q Go.Proofs.Try.f23 pledgelaw12_few.sig.args pledgelaw12_few.sig.objs pledgelaw12_few.sig.ret pledgelaw12_few.sig.outs x) = pledgelaw12_few.sig.F := by
  kernel_rfl
set_option maxRecDepth 100000 in
theorem pledgelaw12_few.ctx : CtxOk Go.Proofs.Try.prog pledgelaw12_few.C := ⟨tyOk, (fun _ _ _ h => by cases h), Nat.le_of_ble_eq_true (by kernel_rfl), fun f sg => (fun h => by cases h)⟩
set_option maxRecDepth 100000 in
theorem pledgelaw12_few.ok : Sound Go.Proofs.Try.prog 23 pledgelaw12_few.sig := body_sound (C := pledgelaw12_few.C) (q := pledgelaw12_few.Q) (fn := Go.Proofs.Try.f23) (sg := pledgelaw12_few.sig) (n := 1) pledgelaw12_few.ctx follows Go.Proofs.Try.func23 (by kernel_rfl) (by kernel_rfl) (by kernel_rfl) (by kernel_rfl) (Nat.le_of_ble_eq_true (by kernel_rfl)) (by kernel_rfl) pledgelaw12_few.eq

def step_Ops_1 (x0 : Int) (x1 : Int) (x2 : Unit) (x3 : Unit) (x4 : Unit) (o0 : Int × Int × Unit) (o1 : Int × Int × (List (Int × Int × Unit)) × Unit) (o2 : Unit) (o3 : List ((Int × Int × Int × Unit) × Int × Unit)) : Option (Unit × (Int × Int × Unit) × (Int × Int × (List (Int × Int × Unit)) × Unit) × Unit × Unit × (List ((Int × Int × Int × Unit) × Int × Unit)) × Unit) :=
  (bif (x0 : Int) == 1 then some (((x1, ((), ())), (o0, (o1, ((), (o3, ((x0, (o0.1, (o1.2.1, ()))), ()))))))) else bif (x0 : Int) == 2 then some (((x1, ((), ())), (o0, (o1, ((), (o3, ((x0, (o0.1, (o1.2.1, ()))), ()))))))) else some (((x1, ((), ())), (o0, (o1, ((), (o3, ((x0, (o0.1, (0, ()))), ())))))))).bind fun y3 => room (y3.2.2.2.2.1.length + [(y3.2.2.2.2.2.1, (y3.1.1, ()))].length) (some ((), (y3.2.1, (y3.2.2.1, ((), ((), (y3.2.2.2.2.1 ++ [(y3.2.2.2.2.2.1, (y3.1.1, ()))], ())))))))
def step_Ops_1.C : Ctx := { ty := tyT, sigs := fun i => [], n := 27, mp := fun _ => none }
def step_Ops_1.Q : Cuts := { np := 4, loops := fun i => none, seqs := fun i => bif Nat.beq i 3 then some [(.normal, { env := [(1, .val (.int .i64)), (4, .ptr 2), (7, .ptr 4)], objs := [.cell kLine (.val kLine), .cell kStep (.val kStep), .cell (.slice kOp) (.row 3), .row kOp false, .cell kKey (.val kKey)] })] else none, splits := fun i => none }
def step_Ops_1.sig : Sig := { args := .tc (.val (.int .u8)) (.tc (.val (.int .i64)) (.tc (.ptr 0) (.tc (.ptr 1) (.tc (.ptr 2) .tn)))), objs := [.cell kLine (.val kLine), .cell kStep (.val kStep), .cell (.slice kOp) (.row 3), .row kOp false], ret := .tup .tn, outs := [.cell kLine (.val kLine), .cell kStep (.val kStep), .cell (.slice kOp) (.row 4), .gone, .row kOp false], F := fun x => step_Ops_1 x.1.1 x.1.2.1 x.1.2.2.1 x.1.2.2.2.1 x.1.2.2.2.2.1 x.2.1 x.2.2.1 x.2.2.2.1 x.2.2.2.2.1 }
theorem step_Ops_1.eq : (fun x => body step_Ops_1.C step_Ops_1.Q Go.Proofs.Try.f79 step_Ops_1.sig.args step_Ops_1.sig.objs step_Ops_1.sig.ret step_Ops_1.sig.outs x) = step_Ops_1.sig.F := by
  kernel_rfl
set_option maxRecDepth 100000 in
theorem step_Ops_1.ctx : CtxOk Go.Proofs.Try.prog step_Ops_1.C := ⟨tyOk, (fun _ _ _ h => by cases h), Nat.le_of_ble_eq_true (by kernel_rfl), fun f sg => (fun h => by cases h)⟩
set_option maxRecDepth 100000 in
theorem step_Ops_1.ok : Sound Go.Proofs.Try.prog 79 step_Ops_1.sig := body_sound (C := step_Ops_1.C) (q := step_Ops_1.Q) (fn := Go.Proofs.Try.f79) (sg := step_Ops_1.sig) (n := 5) step_Ops_1.ctx follows Go.Proofs.Try.func79 (by kernel_rfl) (by kernel_rfl) (by kernel_rfl) (by kernel_rfl) (Nat.le_of_ble_eq_true (by kernel_rfl)) (by kernel_rfl) step_Ops_1.eq

def step_Ops.l1 (v : (Unit × Unit × (List (Int × Int × Unit)) × Int × Int) × (Int × Int × (List (Int × Int × Unit)) × Unit) × Unit × (List ((Int × Int × Int × Unit) × Int × Unit)) × Unit) : Option (((Unit × Unit × (List (Int × Int × Unit)) × Int × Int) × (Int × Int × (List (Int × Int × Unit)) × Unit) × Unit × (List ((Int × Int × Int × Unit) × Int × Unit)) × Unit) ⊕ (Unit × Unit × (List ((Int × Int × Int × Unit) × Int × Unit)) × Unit)) :=
  bif decide (v.1.2.2.2.2 < v.1.2.2.2.1) then nthK v.1.2.2.1 v.1.2.2.2.2 fun e2 => bif decide (e2.2.1 < 1) then some (Sum.inl (((), ((), (v.1.2.2.1, (v.1.2.2.2.1, IntKind.i64.wrap (v.1.2.2.2.2 + 1))))), (v.2.1, ((), (v.2.2.2.1, ()))))) else bif (v.2.1.1 : Int) == 1 then (step_Ops_1 1 (IntKind.i64.wrap (0 - e2.2.1)) () () () e2 v.2.1 () v.2.2.2.1).bind fun r3 => (step_Ops_1 2 r3.2.1.2.1 () () () r3.2.1 r3.2.2.1 () r3.2.2.2.2.2.1).bind fun r4 => some (Sum.inl (((), ((), (v.1.2.2.1, (v.1.2.2.2.1, IntKind.i64.wrap (v.1.2.2.2.2 + 1))))), (r4.2.2.1, ((), (r4.2.2.2.2.2.1, ()))))) else bif (v.2.1.1 : Int) == 3 then (step_Ops_1 2 (IntKind.i64.wrap (0 - e2.2.1)) () () () e2 v.2.1 () v.2.2.2.1).bind fun r5 => (step_Ops_1 3 r5.2.1.2.1 () () () r5.2.1 r5.2.2.1 () r5.2.2.2.2.2.1).bind fun r6 => some (Sum.inl (((), ((), (v.1.2.2.1, (v.1.2.2.2.1, IntKind.i64.wrap (v.1.2.2.2.2 + 1))))), (r6.2.2.1, ((), (r6.2.2.2.2.2.1, ()))))) else bif (v.2.1.1 : Int) == 2 then (step_Ops_1 2 (IntKind.i64.wrap (0 - e2.2.1)) () () () e2 v.2.1 () v.2.2.2.1).bind fun r7 => (step_Ops_1 1 r7.2.1.2.1 () () () r7.2.1 r7.2.2.1 () r7.2.2.2.2.2.1).bind fun r8 => some (Sum.inl (((), ((), (v.1.2.2.1, (v.1.2.2.2.1, IntKind.i64.wrap (v.1.2.2.2.2 + 1))))), (r8.2.2.1, ((), (r8.2.2.2.2.2.1, ()))))) else bif (v.2.1.1 : Int) == 5 then (step_Ops_1 1 e2.2.1 () () () e2 v.2.1 () v.2.2.2.1).bind fun r9 => some (Sum.inl (((), ((), (v.1.2.2.1, (v.1.2.2.2.1, IntKind.i64.wrap (v.1.2.2.2.2 + 1))))), (r9.2.2.1, ((), (r9.2.2.2.2.2.1, ()))))) else bif (v.2.1.1 : Int) == 4 then (step_Ops_1 3 (IntKind.i64.wrap (0 - e2.2.1)) () () () e2 v.2.1 () v.2.2.2.1).bind fun r10 => (step_Ops_1 1 r10.2.1.2.1 () () () r10.2.1 r10.2.2.1 () r10.2.2.2.2.2.1).bind fun r11 => some (Sum.inl (((), ((), (v.1.2.2.1, (v.1.2.2.2.1, IntKind.i64.wrap (v.1.2.2.2.2 + 1))))), (r11.2.2.1, ((), (r11.2.2.2.2.2.1, ()))))) else bif (v.2.1.1 : Int) == 6 then (step_Ops_1 1 (IntKind.i64.wrap (0 - e2.2.1)) () () () e2 v.2.1 () v.2.2.2.1).bind fun r12 => some (Sum.inl (((), ((), (v.1.2.2.1, (v.1.2.2.2.1, IntKind.i64.wrap (v.1.2.2.2.2 + 1))))), (r12.2.2.1, ((), (r12.2.2.2.2.2.1, ()))))) else bif (v.2.1.1 : Int) == 7 then (step_Ops_1 4 e2.2.1 () () () e2 v.2.1 () v.2.2.2.1).bind fun r13 => some (Sum.inl (((), ((), (v.1.2.2.1, (v.1.2.2.2.1, IntKind.i64.wrap (v.1.2.2.2.2 + 1))))), (r13.2.2.1, ((), (r13.2.2.2.2.2.1, ()))))) else bif (v.2.1.1 : Int) == 8 then (step_Ops_1 4 (IntKind.i64.wrap (0 - e2.2.1)) () () () e2 v.2.1 () v.2.2.2.1).bind fun r14 => some (Sum.inl (((), ((), (v.1.2.2.1, (v.1.2.2.2.1, IntKind.i64.wrap (v.1.2.2.2.2 + 1))))), (r14.2.2.1, ((), (r14.2.2.2.2.2.1, ()))))) else some (Sum.inl (((), ((), (v.1.2.2.1, (v.1.2.2.2.1, IntKind.i64.wrap (v.1.2.2.2.2 + 1))))), (v.2.1, ((), (v.2.2.2.1, ()))))) else some (Sum.inr ((), ((), (v.2.2.2.1, ()))))
def step_Ops (x0 : Int × Int × (List (Int × Int × Unit)) × Unit) : Option (List ((Int × Int × Int × Unit) × Int × Unit)) :=
  (iterL step_Ops.l1 loopN (((), ((), (x0.2.2.1, ((x0.2.2.1.length : Int), 0)))), (x0, ((), ([], ()))))).bind fun y15 => some y15.2.2.1
def step_Ops.C : Ctx := { ty := tyT, sigs := fun i => bif Nat.beq i 79 then [step_Ops_1.sig] else [], n := 88, mp := fun _ => none }
def step_Ops.Q : Cuts := { np := 0, loops := fun i => bif Nat.beq i 3 then some ({ env := [(1, .ptr 0), (3, .ptr 1), (8, .val (.slice kLine)), (9, .val (.int .i64)), (10, .val (.int .i64))], objs := [.cell kStep (.val kStep), .cell (.slice kOp) (.row 2), .row kOp false] }, [(.exit 0, { env := [(3, .ptr 0)], objs := [.cell (.slice kOp) (.row 1), .row kOp false] })]) else none, seqs := fun i => none, splits := fun i => none }
def step_Ops.sig : Sig := { args := .tc (.val kStep) .tn, objs := [], ret := .val (.slice kOp), outs := [], F := fun x => step_Ops x.1.1 }
theorem step_Ops.eq : (fun x => body step_Ops.C step_Ops.Q Go.Proofs.Try.f30 step_Ops.sig.args step_Ops.sig.objs step_Ops.sig.ret step_Ops.sig.outs x) = step_Ops.sig.F := by
  kernel_rfl
set_option maxRecDepth 100000 in
theorem step_Ops.ctx : CtxOk Go.Proofs.Try.prog step_Ops.C := ⟨tyOk, (fun _ _ _ h => by cases h), Nat.le_of_ble_eq_true (by kernel_rfl), fun f sg => fun h => sigs_if h (allS_cons step_Ops_1.ok allS_nil) ((fun h => by cases h))⟩
set_option maxRecDepth 100000 in
theorem step_Ops.ok : Sound Go.Proofs.Try.prog 30 step_Ops.sig := body_sound (C := step_Ops.C) (q := step_Ops.Q) (fn := Go.Proofs.Try.f30) (sg := step_Ops.sig) (n := 1) step_Ops.ctx follows Go.Proofs.Try.func30 (by kernel_rfl) (by kernel_rfl) (by kernel_rfl) (by kernel_rfl) (Nat.le_of_ble_eq_true (by kernel_rfl)) (by kernel_rfl) step_Ops.eq

def step_Word (x0 : Int) : Option ByteArray :=
  nthN (List.replicate 9 (⟨#[]⟩ : ByteArray)) 0 fun e5 => nthN ((List.replicate 9 (⟨#[]⟩ : ByteArray)).set 0 (⟨#[]⟩ : ByteArray)) 1 fun e6 => nthN (((List.replicate 9 (⟨#[]⟩ : ByteArray)).set 0 (⟨#[]⟩ : ByteArray)).set 1 (⟨#[116, 97, 107, 101]⟩ : ByteArray)) 2 fun e7 => nthN ((((List.replicate 9 (⟨#[]⟩ : ByteArray)).set 0 (⟨#[]⟩ : ByteArray)).set 1 (⟨#[116, 97, 107, 101]⟩ : ByteArray)).set 2 (⟨#[102, 114, 101, 101]⟩ : ByteArray)) 3 fun e8 => nthN (((((List.replicate 9 (⟨#[]⟩ : ByteArray)).set 0 (⟨#[]⟩ : ByteArray)).set 1 (⟨#[116, 97, 107, 101]⟩ : ByteArray)).set 2 (⟨#[102, 114, 101, 101]⟩ : ByteArray)).set 3 (⟨#[115, 101, 110, 100]⟩ : ByteArray)) 4 fun e9 => nthN ((((((List.replicate 9 (⟨#[]⟩ : ByteArray)).set 0 (⟨#[]⟩ : ByteArray)).set 1 (⟨#[116, 97, 107, 101]⟩ : ByteArray)).set 2 (⟨#[102, 114, 101, 101]⟩ : ByteArray)).set 3 (⟨#[115, 101, 110, 100]⟩ : ByteArray)).set 4 (⟨#[98, 97, 99, 107]⟩ : ByteArray)) 5 fun e10 => nthN (((((((List.replicate 9 (⟨#[]⟩ : ByteArray)).set 0 (⟨#[]⟩ : ByteArray)).set 1 (⟨#[116, 97, 107, 101]⟩ : ByteArray)).set 2 (⟨#[102, 114, 101, 101]⟩ : ByteArray)).set 3 (⟨#[115, 101, 110, 100]⟩ : ByteArray)).set 4 (⟨#[98, 97, 99, 107]⟩ : ByteArray)).set 5 (⟨#[112, 117, 116]⟩ : ByteArray)) 6 fun e11 => nthN ((((((((List.replicate 9 (⟨#[]⟩ : ByteArray)).set 0 (⟨#[]⟩ : ByteArray)).set 1 (⟨#[116, 97, 107, 101]⟩ : ByteArray)).set 2 (⟨#[102, 114, 101, 101]⟩ : ByteArray)).set 3 (⟨#[115, 101, 110, 100]⟩ : ByteArray)).set 4 (⟨#[98, 97, 99, 107]⟩ : ByteArray)).set 5 (⟨#[112, 117, 116]⟩ : ByteArray)).set 6 (⟨#[100, 114, 97, 119]⟩ : ByteArray)) 7 fun e12 => nthN (((((((((List.replicate 9 (⟨#[]⟩ : ByteArray)).set 0 (⟨#[]⟩ : ByteArray)).set 1 (⟨#[116, 97, 107, 101]⟩ : ByteArray)).set 2 (⟨#[102, 114, 101, 101]⟩ : ByteArray)).set 3 (⟨#[115, 101, 110, 100]⟩ : ByteArray)).set 4 (⟨#[98, 97, 99, 107]⟩ : ByteArray)).set 5 (⟨#[112, 117, 116]⟩ : ByteArray)).set 6 (⟨#[100, 114, 97, 119]⟩ : ByteArray)).set 7 (⟨#[111, 119, 101]⟩ : ByteArray)) 8 fun e13 => bif decide ((IntKind.i64.wrap x0) ≥ 9) then some (⟨#[]⟩ : ByteArray) else chk (decide (0 ≤ x0) && decide (x0 < 9)) (nthK ((((((((((List.replicate 9 (⟨#[]⟩ : ByteArray)).set 0 (⟨#[]⟩ : ByteArray)).set 1 (⟨#[116, 97, 107, 101]⟩ : ByteArray)).set 2 (⟨#[102, 114, 101, 101]⟩ : ByteArray)).set 3 (⟨#[115, 101, 110, 100]⟩ : ByteArray)).set 4 (⟨#[98, 97, 99, 107]⟩ : ByteArray)).set 5 (⟨#[112, 117, 116]⟩ : ByteArray)).set 6 (⟨#[100, 114, 97, 119]⟩ : ByteArray)).set 7 (⟨#[111, 119, 101]⟩ : ByteArray)).set 8 (⟨#[112, 97, 121]⟩ : ByteArray)) x0 fun e14 => some e14)
def step_Word.C : Ctx := { ty := tyT, sigs := fun i => [], n := 11, mp := fun _ => none }
def step_Word.Q : Cuts := { np := 0, loops := fun i => none, seqs := fun i => none, splits := fun i => none }
def step_Word.sig : Sig := { args := .tc (.val (.int .u8)) .tn, objs := [], ret := .val .str, outs := [], F := fun x => step_Word x.1.1 }
theorem step_Word.eq : (fun x => body step_Word.C step_Word.Q Go.Proofs.Try.f34 step_Word.sig.args step_Word.sig.objs step_Word.sig.ret step_Word.sig.outs x) = step_Word.sig.F := by
  kernel_rfl
set_option maxRecDepth 100000 in
theorem step_Word.ctx : CtxOk Go.Proofs.Try.prog step_Word.C := ⟨tyOk, (fun _ _ _ h => by cases h), Nat.le_of_ble_eq_true (by kernel_rfl), fun f sg => (fun h => by cases h)⟩
set_option maxRecDepth 100000 in
theorem step_Word.ok : Sound Go.Proofs.Try.prog 34 step_Word.sig := body_sound (C := step_Word.C) (q := step_Word.Q) (fn := Go.Proofs.Try.f34) (sg := step_Word.sig) (n := 1) step_Word.ctx follows Go.Proofs.Try.func34 (by kernel_rfl) (by kernel_rfl) (by kernel_rfl) (by kernel_rfl) (Nat.le_of_ble_eq_true (by kernel_rfl)) (by kernel_rfl) step_Word.eq

def pledgelaw12_works  : Option Bool :=
  (step_Ops (3, (1, ([(0, (3, ()))], ())))).bind fun r2 => bif ((r2.length : Int) : Int) == 2 then nthK r2 0 fun e3 => bif eqE kOp e3 ((2, (0, (1, ()))), ((-3), ())) then nthK r2 1 fun e4 => bif eqE kOp e4 ((3, (0, (0, ()))), (3, ())) then (step_Word 8).bind fun r5 => some (r5.toList == (⟨#[112, 97, 121]⟩ : ByteArray).toList) else some false else some false else some false
def pledgelaw12_works.C : Ctx := { ty := tyT, sigs := fun i => bif Nat.beq i 30 then [step_Ops.sig] else bif Nat.beq i 34 then [step_Word.sig] else [], n := 29, mp := fun _ => none }
def pledgelaw12_works.Q : Cuts := { np := 0, loops := fun i => none, seqs := fun i => none, splits := fun i => none }
def pledgelaw12_works.sig : Sig := { args := .tn, objs := [], ret := .val .bool, outs := [], F := fun x => pledgelaw12_works }
theorem pledgelaw12_works.eq : (fun x => body pledgelaw12_works.C pledgelaw12_works.Q Go.Proofs.Try.f24 pledgelaw12_works.sig.args pledgelaw12_works.sig.objs pledgelaw12_works.sig.ret pledgelaw12_works.sig.outs x) = pledgelaw12_works.sig.F := by
  kernel_rfl
set_option maxRecDepth 100000 in
theorem pledgelaw12_works.ctx : CtxOk Go.Proofs.Try.prog pledgelaw12_works.C := ⟨tyOk, (fun _ _ _ h => by cases h), Nat.le_of_ble_eq_true (by kernel_rfl), fun f sg => fun h => sigs_if h (allS_cons step_Ops.ok allS_nil) (fun h => sigs_if h (allS_cons step_Word.ok allS_nil) ((fun h => by cases h)))⟩
set_option maxRecDepth 100000 in
theorem pledgelaw12_works.ok : Sound Go.Proofs.Try.prog 24 pledgelaw12_works.sig := body_sound (C := pledgelaw12_works.C) (q := pledgelaw12_works.Q) (fn := Go.Proofs.Try.f24) (sg := pledgelaw12_works.sig) (n := 0) pledgelaw12_works.ctx follows Go.Proofs.Try.func24 (by kernel_rfl) (by kernel_rfl) (by kernel_rfl) (by kernel_rfl) (Nat.le_of_ble_eq_true (by kernel_rfl)) (by kernel_rfl) pledgelaw12_works.eq

def slices_Equal_api_Line_api_Line.l1 (v : (List (Int × Int × Unit)) × (List (Int × Int × Unit)) × Int × Int) : Option (((List (Int × Int × Unit)) × (List (Int × Int × Unit)) × Int × Int) ⊕ (Unit ⊕ Bool)) :=
  bif decide (v.2.2.2 < v.2.2.1) then nthK v.1 v.2.2.2 fun e5 => nthK v.2.1 v.2.2.2 fun e6 => bif !(eqE kLine e5 e6) then some (Sum.inr (Sum.inr false)) else some (Sum.inl (v.1, (v.2.1, (v.2.2.1, IntKind.i64.wrap (v.2.2.2 + 1))))) else some (Sum.inr (Sum.inl ()))
def slices_Equal_api_Line_api_Line (x0 : List (Int × Int × Unit)) (x1 : List (Int × Int × Unit)) : Option Bool :=
  bif ((x0.length : Int) : Int) != (x1.length : Int) then some false else (iterL slices_Equal_api_Line_api_Line.l1 loopN (x0, (x1, ((x0.length : Int), 0)))).bind fun y7 => (match y7 with | .inl y8 => some true | .inr y9 => some y9)
def slices_Equal_api_Line_api_Line.C : Ctx := { ty := tyT, sigs := fun i => [], n := 26, mp := fun _ => none }
def slices_Equal_api_Line_api_Line.Q : Cuts := { np := 0, loops := fun i => bif Nat.beq i 4 then some ({ env := [(0, .val (.slice kLine)), (1, .val (.slice kLine)), (12, .val (.int .i64)), (13, .val (.int .i64))], objs := [] }, [(.exit 0, { env := [], objs := [] }), (.ret, { env := [(4, .val .bool)], objs := [] })]) else none, seqs := fun i => none, splits := fun i => none }
def slices_Equal_api_Line_api_Line.sig : Sig := { args := .tc (.val (.slice kLine)) (.tc (.val (.slice kLine)) .tn), objs := [], ret := .val .bool, outs := [], F := fun x => slices_Equal_api_Line_api_Line x.1.1 x.1.2.1 }
theorem slices_Equal_api_Line_api_Line.eq : (fun x => body slices_Equal_api_Line_api_Line.C slices_Equal_api_Line_api_Line.Q Go.Proofs.Try.f74 slices_Equal_api_Line_api_Line.sig.args slices_Equal_api_Line_api_Line.sig.objs slices_Equal_api_Line_api_Line.sig.ret slices_Equal_api_Line_api_Line.sig.outs x) = slices_Equal_api_Line_api_Line.sig.F := by
  kernel_rfl
set_option maxRecDepth 100000 in
theorem slices_Equal_api_Line_api_Line.ctx : CtxOk Go.Proofs.Try.prog slices_Equal_api_Line_api_Line.C := ⟨tyOk, (fun _ _ _ h => by cases h), Nat.le_of_ble_eq_true (by kernel_rfl), fun f sg => (fun h => by cases h)⟩
set_option maxRecDepth 100000 in
theorem slices_Equal_api_Line_api_Line.ok : Sound Go.Proofs.Try.prog 74 slices_Equal_api_Line_api_Line.sig := body_sound (C := slices_Equal_api_Line_api_Line.C) (q := slices_Equal_api_Line_api_Line.Q) (fn := Go.Proofs.Try.f74) (sg := slices_Equal_api_Line_api_Line.sig) (n := 2) slices_Equal_api_Line_api_Line.ctx follows Go.Proofs.Try.func74 (by kernel_rfl) (by kernel_rfl) (by kernel_rfl) (by kernel_rfl) (Nat.le_of_ble_eq_true (by kernel_rfl)) (by kernel_rfl) slices_Equal_api_Line_api_Line.eq

def step_Same (x0 : Int × Int × (List (Int × Int × Unit)) × Unit) (x1 : Int × Int × (List (Int × Int × Unit)) × Unit) : Option Bool :=
  bif (x0.1 : Int) == x1.1 then bif (x0.2.1 : Int) == x1.2.1 then (slices_Equal_api_Line_api_Line x0.2.2.1 x1.2.2.1).bind fun r5 => some r5 else some false else some false
def step_Same.C : Ctx := { ty := tyT, sigs := fun i => bif Nat.beq i 74 then [slices_Equal_api_Line_api_Line.sig] else [], n := 24, mp := fun _ => none }
def step_Same.Q : Cuts := { np := 0, loops := fun i => none, seqs := fun i => none, splits := fun i => none }
def step_Same.sig : Sig := { args := .tc (.val kStep) (.tc (.val kStep) .tn), objs := [], ret := .val .bool, outs := [], F := fun x => step_Same x.1.1 x.1.2.1 }
theorem step_Same.eq : (fun x => body step_Same.C step_Same.Q Go.Proofs.Try.f25 step_Same.sig.args step_Same.sig.objs step_Same.sig.ret step_Same.sig.outs x) = step_Same.sig.F := by
  kernel_rfl
set_option maxRecDepth 100000 in
theorem step_Same.ctx : CtxOk Go.Proofs.Try.prog step_Same.C := ⟨tyOk, (fun _ _ _ h => by cases h), Nat.le_of_ble_eq_true (by kernel_rfl), fun f sg => fun h => sigs_if h (allS_cons slices_Equal_api_Line_api_Line.ok allS_nil) ((fun h => by cases h))⟩
set_option maxRecDepth 100000 in
theorem step_Same.ok : Sound Go.Proofs.Try.prog 25 step_Same.sig := body_sound (C := step_Same.C) (q := step_Same.Q) (fn := Go.Proofs.Try.f25) (sg := step_Same.sig) (n := 2) step_Same.ctx follows Go.Proofs.Try.func25 (by kernel_rfl) (by kernel_rfl) (by kernel_rfl) (by kernel_rfl) (Nat.le_of_ble_eq_true (by kernel_rfl)) (by kernel_rfl) step_Same.eq

def pledgeref12_SameLines.l1 (v : (List (Int × Int × Unit)) × (List (Int × Int × Unit)) × Int) : Option (((List (Int × Int × Unit)) × (List (Int × Int × Unit)) × Int) ⊕ (Unit ⊕ Bool)) :=
  bif decide (v.2.2 < (v.1.length : Int)) then nthK v.1 v.2.2 fun e7 => nthK v.2.1 v.2.2 fun e8 => bif !(eqE kLine e7 e8) then some (Sum.inr (Sum.inr false)) else some (Sum.inl (v.1, (v.2.1, IntKind.i64.wrap (v.2.2 + 1)))) else some (Sum.inr (Sum.inl ()))
def pledgeref12_SameLines (x0 : List (Int × Int × Unit)) (x1 : List (Int × Int × Unit)) : Option Bool :=
  bif ((x0.length : Int) : Int) != (x1.length : Int) then some false else (iterL pledgeref12_SameLines.l1 loopN (x0, (x1, 0))).bind fun y9 => (match y9 with | .inl y10 => some true | .inr y11 => some y11)
def pledgeref12_SameLines.C : Ctx := { ty := tyT, sigs := fun i => [], n := 26, mp := fun _ => none }
def pledgeref12_SameLines.Q : Cuts := { np := 0, loops := fun i => bif Nat.beq i 4 then some ({ env := [(0, .val (.slice kLine)), (1, .val (.slice kLine)), (5, .val (.int .i64))], objs := [] }, [(.exit 0, { env := [], objs := [] }), (.ret, { env := [(4, .val .bool)], objs := [] })]) else none, seqs := fun i => none, splits := fun i => none }
def pledgeref12_SameLines.sig : Sig := { args := .tc (.val (.slice kLine)) (.tc (.val (.slice kLine)) .tn), objs := [], ret := .val .bool, outs := [], F := fun x => pledgeref12_SameLines x.1.1 x.1.2.1 }
theorem pledgeref12_SameLines.eq : (fun x => body pledgeref12_SameLines.C pledgeref12_SameLines.Q Go.Proofs.Try.f75 pledgeref12_SameLines.sig.args pledgeref12_SameLines.sig.objs pledgeref12_SameLines.sig.ret pledgeref12_SameLines.sig.outs x) = pledgeref12_SameLines.sig.F := by
  kernel_rfl
set_option maxRecDepth 100000 in
theorem pledgeref12_SameLines.ctx : CtxOk Go.Proofs.Try.prog pledgeref12_SameLines.C := ⟨tyOk, (fun _ _ _ h => by cases h), Nat.le_of_ble_eq_true (by kernel_rfl), fun f sg => (fun h => by cases h)⟩
set_option maxRecDepth 100000 in
theorem pledgeref12_SameLines.ok : Sound Go.Proofs.Try.prog 75 pledgeref12_SameLines.sig := body_sound (C := pledgeref12_SameLines.C) (q := pledgeref12_SameLines.Q) (fn := Go.Proofs.Try.f75) (sg := pledgeref12_SameLines.sig) (n := 2) pledgeref12_SameLines.ctx follows Go.Proofs.Try.func75 (by kernel_rfl) (by kernel_rfl) (by kernel_rfl) (by kernel_rfl) (Nat.le_of_ble_eq_true (by kernel_rfl)) (by kernel_rfl) pledgeref12_SameLines.eq

def pledgeref12_Same (x0 : Int × Int × (List (Int × Int × Unit)) × Unit) (x1 : Int × Int × (List (Int × Int × Unit)) × Unit) : Option Bool :=
  bif (x0.1 : Int) == x1.1 then bif (x0.2.1 : Int) == x1.2.1 then (pledgeref12_SameLines x0.2.2.1 x1.2.2.1).bind fun r7 => some r7 else some false else some false
def pledgeref12_Same.C : Ctx := { ty := tyT, sigs := fun i => bif Nat.beq i 75 then [pledgeref12_SameLines.sig] else [], n := 24, mp := fun _ => none }
def pledgeref12_Same.Q : Cuts := { np := 0, loops := fun i => none, seqs := fun i => none, splits := fun i => none }
def pledgeref12_Same.sig : Sig := { args := .tc (.val kStep) (.tc (.val kStep) .tn), objs := [], ret := .val .bool, outs := [], F := fun x => pledgeref12_Same x.1.1 x.1.2.1 }
theorem pledgeref12_Same.eq : (fun x => body pledgeref12_Same.C pledgeref12_Same.Q Go.Proofs.Try.f26 pledgeref12_Same.sig.args pledgeref12_Same.sig.objs pledgeref12_Same.sig.ret pledgeref12_Same.sig.outs x) = pledgeref12_Same.sig.F := by
  kernel_rfl
set_option maxRecDepth 100000 in
theorem pledgeref12_Same.ctx : CtxOk Go.Proofs.Try.prog pledgeref12_Same.C := ⟨tyOk, (fun _ _ _ h => by cases h), Nat.le_of_ble_eq_true (by kernel_rfl), fun f sg => fun h => sigs_if h (allS_cons pledgeref12_SameLines.ok allS_nil) ((fun h => by cases h))⟩
set_option maxRecDepth 100000 in
theorem pledgeref12_Same.ok : Sound Go.Proofs.Try.prog 26 pledgeref12_Same.sig := body_sound (C := pledgeref12_Same.C) (q := pledgeref12_Same.Q) (fn := Go.Proofs.Try.f26) (sg := pledgeref12_Same.sig) (n := 2) pledgeref12_Same.ctx follows Go.Proofs.Try.func26 (by kernel_rfl) (by kernel_rfl) (by kernel_rfl) (by kernel_rfl) (Nat.le_of_ble_eq_true (by kernel_rfl)) (by kernel_rfl) pledgeref12_Same.eq

def pledgelaw12_StepSame (x0 : Int × Int × (List (Int × Int × Unit)) × Unit) (x1 : Int × Int × (List (Int × Int × Unit)) × Unit) : Option Bool :=
  (pledgelaw12_few x0).bind fun r1 => bif !r1 then pledgelaw12_works.bind fun r2 => some r2 else (pledgelaw12_few x1).bind fun r3 => bif !r3 then pledgelaw12_works.bind fun r4 => some r4 else (step_Same x0 x1).bind fun r5 => (pledgeref12_Same x0 x1).bind fun r6 => bif r5 == r6 then (step_Same x0 x0).bind fun r7 => bif r7 then pledgelaw12_works.bind fun r8 => some r8 else some false else some false
def pledgelaw12_StepSame.C : Ctx := { ty := tyT, sigs := fun i => bif Nat.beq i 23 then [pledgelaw12_few.sig] else bif Nat.beq i 24 then [pledgelaw12_works.sig] else bif Nat.beq i 25 then [step_Same.sig] else bif Nat.beq i 26 then [pledgeref12_Same.sig] else [], n := 29, mp := fun _ => none }
def pledgelaw12_StepSame.Q : Cuts := { np := 0, loops := fun i => none, seqs := fun i => none, splits := fun i => none }
def pledgelaw12_StepSame.sig : Sig := { args := .tc (.val kStep) (.tc (.val kStep) .tn), objs := [], ret := .val .bool, outs := [], F := fun x => pledgelaw12_StepSame x.1.1 x.1.2.1 }
theorem pledgelaw12_StepSame.eq : (fun x => body pledgelaw12_StepSame.C pledgelaw12_StepSame.Q Go.Proofs.Try.f5 pledgelaw12_StepSame.sig.args pledgelaw12_StepSame.sig.objs pledgelaw12_StepSame.sig.ret pledgelaw12_StepSame.sig.outs x) = pledgelaw12_StepSame.sig.F := by
  kernel_rfl
set_option maxRecDepth 100000 in
theorem pledgelaw12_StepSame.ctx : CtxOk Go.Proofs.Try.prog pledgelaw12_StepSame.C := ⟨tyOk, (fun _ _ _ h => by cases h), Nat.le_of_ble_eq_true (by kernel_rfl), fun f sg => fun h => sigs_if h (allS_cons pledgelaw12_few.ok allS_nil) (fun h => sigs_if h (allS_cons pledgelaw12_works.ok allS_nil) (fun h => sigs_if h (allS_cons step_Same.ok allS_nil) (fun h => sigs_if h (allS_cons pledgeref12_Same.ok allS_nil) ((fun h => by cases h)))))⟩
set_option maxRecDepth 100000 in
theorem pledgelaw12_StepSame.ok : Sound Go.Proofs.Try.prog 5 pledgelaw12_StepSame.sig := body_sound (C := pledgelaw12_StepSame.C) (q := pledgelaw12_StepSame.Q) (fn := Go.Proofs.Try.f5) (sg := pledgelaw12_StepSame.sig) (n := 2) pledgelaw12_StepSame.ctx follows Go.Proofs.Try.func5 (by kernel_rfl) (by kernel_rfl) (by kernel_rfl) (by kernel_rfl) (Nat.le_of_ble_eq_true (by kernel_rfl)) (by kernel_rfl) pledgelaw12_StepSame.eq

def step_atWare (x0 : Int) : Option Bool :=
  bif (x0 : Int) != 7 then some ((x0 : Int) != 8) else some false
def step_atWare.C : Ctx := { ty := tyT, sigs := fun i => [], n := 9, mp := fun _ => none }
def step_atWare.Q : Cuts := { np := 0, loops := fun i => none, seqs := fun i => none, splits := fun i => none }
def step_atWare.sig : Sig := { args := .tc (.val (.int .u8)) .tn, objs := [], ret := .val .bool, outs := [], F := fun x => step_atWare x.1.1 }
theorem step_atWare.eq : (fun x => body step_atWare.C step_atWare.Q Go.Proofs.Try.f76 step_atWare.sig.args step_atWare.sig.objs step_atWare.sig.ret step_atWare.sig.outs x) = step_atWare.sig.F := by
  kernel_rfl
set_option maxRecDepth 100000 in
theorem step_atWare.ctx : CtxOk Go.Proofs.Try.prog step_atWare.C := ⟨tyOk, (fun _ _ _ h => by cases h), Nat.le_of_ble_eq_true (by kernel_rfl), fun f sg => (fun h => by cases h)⟩
set_option maxRecDepth 100000 in
theorem step_atWare.ok : Sound Go.Proofs.Try.prog 76 step_atWare.sig := body_sound (C := step_atWare.C) (q := step_atWare.Q) (fn := Go.Proofs.Try.f76) (sg := step_atWare.sig) (n := 1) step_atWare.ctx follows Go.Proofs.Try.func76 (by kernel_rfl) (by kernel_rfl) (by kernel_rfl) (by kernel_rfl) (Nat.le_of_ble_eq_true (by kernel_rfl)) (by kernel_rfl) step_atWare.eq

def key_fine (x0 : Int) (x1 : Int) : Option Bool :=
  bif decide (x0 ≥ 1) then bif decide (x0 ≤ 4) then bif decide (x1 ≥ 1) then some (decide (x1 ≤ 4)) else some false else some false else some false
def key_fine.C : Ctx := { ty := tyT, sigs := fun i => [], n := 19, mp := fun _ => none }
def key_fine.Q : Cuts := { np := 0, loops := fun i => none, seqs := fun i => none, splits := fun i => none }
def key_fine.sig : Sig := { args := .tc (.val (.int .i64)) (.tc (.val (.int .i64)) .tn), objs := [], ret := .val .bool, outs := [], F := fun x => key_fine x.1.1 x.1.2.1 }
theorem key_fine.eq : (fun x => body key_fine.C key_fine.Q Go.Proofs.Try.f139 key_fine.sig.args key_fine.sig.objs key_fine.sig.ret key_fine.sig.outs x) = key_fine.sig.F := by
  kernel_rfl
set_option maxRecDepth 100000 in
theorem key_fine.ctx : CtxOk Go.Proofs.Try.prog key_fine.C := ⟨tyOk, (fun _ _ _ h => by cases h), Nat.le_of_ble_eq_true (by kernel_rfl), fun f sg => (fun h => by cases h)⟩
set_option maxRecDepth 100000 in
theorem key_fine.ok : Sound Go.Proofs.Try.prog 139 key_fine.sig := body_sound (C := key_fine.C) (q := key_fine.Q) (fn := Go.Proofs.Try.f139) (sg := key_fine.sig) (n := 2) key_fine.ctx follows Go.Proofs.Try.func139 (by kernel_rfl) (by kernel_rfl) (by kernel_rfl) (by kernel_rfl) (Nat.le_of_ble_eq_true (by kernel_rfl)) (by kernel_rfl) key_fine.eq

def key_both (x0 : Int) : Option Bool :=
  bif (x0 : Int) == 1 then some true else some ((x0 : Int) == 2)
def key_both.C : Ctx := { ty := tyT, sigs := fun i => [], n := 9, mp := fun _ => none }
def key_both.Q : Cuts := { np := 0, loops := fun i => none, seqs := fun i => none, splits := fun i => none }
def key_both.sig : Sig := { args := .tc (.val (.int .u8)) .tn, objs := [], ret := .val .bool, outs := [], F := fun x => key_both x.1.1 }
theorem key_both.eq : (fun x => body key_both.C key_both.Q Go.Proofs.Try.f140 key_both.sig.args key_both.sig.objs key_both.sig.ret key_both.sig.outs x) = key_both.sig.F := by
  kernel_rfl
set_option maxRecDepth 100000 in
theorem key_both.ctx : CtxOk Go.Proofs.Try.prog key_both.C := ⟨tyOk, (fun _ _ _ h => by cases h), Nat.le_of_ble_eq_true (by kernel_rfl), fun f sg => (fun h => by cases h)⟩
set_option maxRecDepth 100000 in
theorem key_both.ok : Sound Go.Proofs.Try.prog 140 key_both.sig := body_sound (C := key_both.C) (q := key_both.Q) (fn := Go.Proofs.Try.f140) (sg := key_both.sig) (n := 1) key_both.ctx follows Go.Proofs.Try.func140 (by kernel_rfl) (by kernel_rfl) (by kernel_rfl) (by kernel_rfl) (Nat.le_of_ble_eq_true (by kernel_rfl)) (by kernel_rfl) key_both.eq

def key_Good (x0 : Int) (x1 : Int) (x2 : Int × Int × Int × Unit) : Option Bool :=
  (key_fine x0 x1).bind fun r17 => bif !r17 then some false else bif decide (x2.1 < 1) then some false else bif decide (x2.1 > 4) then some false else bif decide ((IntKind.i64.wrap x2.2.1) ≥ x0) then some false else (key_both x2.1).bind fun r18 => bif r18 then bif decide ((IntKind.i64.wrap x2.2.2.1) < x1) then some true else (key_both x2.1).bind fun r19 => bif !r19 then some ((x2.2.2.1 : Int) == 0) else some false else (key_both x2.1).bind fun r20 => bif !r20 then some ((x2.2.2.1 : Int) == 0) else some false
def key_Good.C : Ctx := { ty := tyT, sigs := fun i => bif Nat.beq i 139 then [key_fine.sig] else bif Nat.beq i 140 then [key_both.sig] else [], n := 49, mp := fun _ => none }
def key_Good.Q : Cuts := { np := 0, loops := fun i => none, seqs := fun i => none, splits := fun i => none }
def key_Good.sig : Sig := { args := .tc (.val (.int .i64)) (.tc (.val (.int .i64)) (.tc (.val kKey) .tn)), objs := [], ret := .val .bool, outs := [], F := fun x => key_Good x.1.1 x.1.2.1 x.1.2.2.1 }
theorem key_Good.eq : (fun x => body key_Good.C key_Good.Q Go.Proofs.Try.f77 key_Good.sig.args key_Good.sig.objs key_Good.sig.ret key_Good.sig.outs x) = key_Good.sig.F := by
  kernel_rfl
set_option maxRecDepth 100000 in
theorem key_Good.ctx : CtxOk Go.Proofs.Try.prog key_Good.C := ⟨tyOk, (fun _ _ _ h => by cases h), Nat.le_of_ble_eq_true (by kernel_rfl), fun f sg => fun h => sigs_if h (allS_cons key_fine.ok allS_nil) (fun h => sigs_if h (allS_cons key_both.ok allS_nil) ((fun h => by cases h)))⟩
set_option maxRecDepth 100000 in
theorem key_Good.ok : Sound Go.Proofs.Try.prog 77 key_Good.sig := body_sound (C := key_Good.C) (q := key_Good.Q) (fn := Go.Proofs.Try.f77) (sg := key_Good.sig) (n := 3) key_Good.ctx follows Go.Proofs.Try.func77 (by kernel_rfl) (by kernel_rfl) (by kernel_rfl) (by kernel_rfl) (Nat.le_of_ble_eq_true (by kernel_rfl)) (by kernel_rfl) key_Good.eq

def step_Good.l1 (v : (Int × Int × Unit × (List (Int × Int × Unit)) × Int × Int) × (Int × Int × (List (Int × Int × Unit)) × Unit) × Unit) : Option (((Int × Int × Unit × (List (Int × Int × Unit)) × Int × Int) × (Int × Int × (List (Int × Int × Unit)) × Unit) × Unit) ⊕ (Unit ⊕ Bool)) :=
  bif decide (v.1.2.2.2.2.2 < v.1.2.2.2.2.1) then nthK v.1.2.2.2.1 v.1.2.2.2.2.2 fun e15 => bif decide (e15.2.1 < 1) then some (Sum.inr (Sum.inr false)) else bif decide (v.1.2.2.2.2.2 > 0) then nthK v.2.1.2.2.1 (IntKind.i64.wrap (v.1.2.2.2.2.2 - 1)) fun e16 => bif decide (e16.1 ≥ e15.1) then some (Sum.inr (Sum.inr false)) else (key_Good v.1.1 v.1.2.1 (1, (e15.1, (v.2.1.2.1, ())))).bind fun r17 => bif !r17 then some (Sum.inr (Sum.inr false)) else some (Sum.inl ((v.1.1, (v.1.2.1, ((), (v.1.2.2.2.1, (v.1.2.2.2.2.1, IntKind.i64.wrap (v.1.2.2.2.2.2 + 1)))))), (v.2.1, ()))) else (key_Good v.1.1 v.1.2.1 (1, (e15.1, (v.2.1.2.1, ())))).bind fun r18 => bif !r18 then some (Sum.inr (Sum.inr false)) else some (Sum.inl ((v.1.1, (v.1.2.1, ((), (v.1.2.2.2.1, (v.1.2.2.2.2.1, IntKind.i64.wrap (v.1.2.2.2.2.2 + 1)))))), (v.2.1, ()))) else some (Sum.inr (Sum.inl ()))
def step_Good (x0 : Int) (x1 : Int) (x2 : Int × Int × (List (Int × Int × Unit)) × Unit) : Option Bool :=
  (bif decide (x2.1 < 1) then some (Sum.inr false) else bif decide (x2.1 > 8) then some (Sum.inr false) else bif decide ((x2.2.2.1.length : Int) < 1) then some (Sum.inr false) else bif decide ((x2.2.2.1.length : Int) > 3) then some (Sum.inr false) else (step_atWare x2.1).bind fun r11 => bif !r11 then bif (x2.2.1 : Int) != 0 then some (Sum.inr false) else some (Sum.inl ((x0, (x1, ())), (x2, ()))) else some (Sum.inl ((x0, (x1, ())), (x2, ())))).bind fun y12 => (match y12 with | .inl y13 => (iterL step_Good.l1 loopN ((y13.1.1, (y13.1.2.1, ((), (y13.2.1.2.2.1, ((y13.2.1.2.2.1.length : Int), 0))))), (y13.2.1, ()))).bind fun y19 => (match y19 with | .inl y20 => some true | .inr y21 => some y21) | .inr y14 => some y14)
def step_Good.C : Ctx := { ty := tyT, sigs := fun i => bif Nat.beq i 76 then [step_atWare.sig] else bif Nat.beq i 77 then [key_Good.sig] else [], n := 79, mp := fun _ => none }
def step_Good.Q : Cuts := { np := 0, loops := fun i => bif Nat.beq i 4 then some ({ env := [(0, .val (.int .i64)), (1, .val (.int .i64)), (5, .ptr 0), (41, .val (.slice kLine)), (42, .val (.int .i64)), (43, .val (.int .i64))], objs := [.cell kStep (.val kStep)] }, [(.exit 0, { env := [], objs := [] }), (.ret, { env := [(6, .val .bool)], objs := [] })]) else none, seqs := fun i => bif Nat.beq i 3 then some [(.normal, { env := [(0, .val (.int .i64)), (1, .val (.int .i64)), (5, .ptr 0)], objs := [.cell kStep (.val kStep)] }), (.ret, { env := [(6, .val .bool)], objs := [] })] else none, splits := fun i => none }
def step_Good.sig : Sig := { args := .tc (.val (.int .i64)) (.tc (.val (.int .i64)) (.tc (.val kStep) .tn)), objs := [], ret := .val .bool, outs := [], F := fun x => step_Good x.1.1 x.1.2.1 x.1.2.2.1 }
theorem step_Good.eq : (fun x => body step_Good.C step_Good.Q Go.Proofs.Try.f27 step_Good.sig.args step_Good.sig.objs step_Good.sig.ret step_Good.sig.outs x) = step_Good.sig.F := by
  kernel_rfl
set_option maxRecDepth 100000 in
theorem step_Good.ctx : CtxOk Go.Proofs.Try.prog step_Good.C := ⟨tyOk, (fun _ _ _ h => by cases h), Nat.le_of_ble_eq_true (by kernel_rfl), fun f sg => fun h => sigs_if h (allS_cons step_atWare.ok allS_nil) (fun h => sigs_if h (allS_cons key_Good.ok allS_nil) ((fun h => by cases h)))⟩
set_option maxRecDepth 100000 in
theorem step_Good.ok : Sound Go.Proofs.Try.prog 27 step_Good.sig := body_sound (C := step_Good.C) (q := step_Good.Q) (fn := Go.Proofs.Try.f27) (sg := step_Good.sig) (n := 3) step_Good.ctx follows Go.Proofs.Try.func27 (by kernel_rfl) (by kernel_rfl) (by kernel_rfl) (by kernel_rfl) (Nat.le_of_ble_eq_true (by kernel_rfl)) (by kernel_rfl) step_Good.eq

def pledgeref12_Lines.l1 (v : Int × (List (Int × Int × Unit)) × Int) : Option ((Int × (List (Int × Int × Unit)) × Int) ⊕ ((List (Int × Int × Unit)) ⊕ Bool)) :=
  bif decide (v.2.2 < (v.2.1.length : Int)) then nthK v.2.1 v.2.2 fun e23 => bif decide ((IntKind.i64.wrap e23.1) ≥ v.1) then some (Sum.inr (Sum.inr false)) else nthK v.2.1 v.2.2 fun e24 => bif decide (e24.2.1 < 1) then some (Sum.inr (Sum.inr false)) else bif decide (v.2.2 > 0) then nthK v.2.1 (IntKind.i64.wrap (v.2.2 - 1)) fun e25 => nthK v.2.1 v.2.2 fun e26 => bif decide (e25.1 ≥ e26.1) then some (Sum.inr (Sum.inr false)) else some (Sum.inl (v.1, (v.2.1, IntKind.i64.wrap (v.2.2 + 1)))) else some (Sum.inl (v.1, (v.2.1, IntKind.i64.wrap (v.2.2 + 1)))) else some (Sum.inr (Sum.inl v.2.1))
def pledgeref12_Lines (x0 : Int) (x1 : List (Int × Int × Unit)) : Option Bool :=
  (iterL pledgeref12_Lines.l1 loopN (x0, (x1, 0))).bind fun y27 => (match y27 with | .inl y28 => some (decide ((y28.length : Int) ≤ 3)) | .inr y29 => some y29)
def pledgeref12_Lines.C : Ctx := { ty := tyT, sigs := fun i => [], n := 49, mp := fun _ => none }
def pledgeref12_Lines.Q : Cuts := { np := 0, loops := fun i => bif Nat.beq i 2 then some ({ env := [(0, .val (.int .i64)), (1, .val (.slice kLine)), (5, .val (.int .i64))], objs := [] }, [(.exit 0, { env := [(1, .val (.slice kLine))], objs := [] }), (.ret, { env := [(4, .val .bool)], objs := [] })]) else none, seqs := fun i => none, splits := fun i => none }
def pledgeref12_Lines.sig : Sig := { args := .tc (.val (.int .i64)) (.tc (.val (.slice kLine)) .tn), objs := [], ret := .val .bool, outs := [], F := fun x => pledgeref12_Lines x.1.1 x.1.2.1 }
theorem pledgeref12_Lines.eq : (fun x => body pledgeref12_Lines.C pledgeref12_Lines.Q Go.Proofs.Try.f78 pledgeref12_Lines.sig.args pledgeref12_Lines.sig.objs pledgeref12_Lines.sig.ret pledgeref12_Lines.sig.outs x) = pledgeref12_Lines.sig.F := by
  kernel_rfl
set_option maxRecDepth 100000 in
theorem pledgeref12_Lines.ctx : CtxOk Go.Proofs.Try.prog pledgeref12_Lines.C := ⟨tyOk, (fun _ _ _ h => by cases h), Nat.le_of_ble_eq_true (by kernel_rfl), fun f sg => (fun h => by cases h)⟩
set_option maxRecDepth 100000 in
theorem pledgeref12_Lines.ok : Sound Go.Proofs.Try.prog 78 pledgeref12_Lines.sig := body_sound (C := pledgeref12_Lines.C) (q := pledgeref12_Lines.Q) (fn := Go.Proofs.Try.f78) (sg := pledgeref12_Lines.sig) (n := 2) pledgeref12_Lines.ctx follows Go.Proofs.Try.func78 (by kernel_rfl) (by kernel_rfl) (by kernel_rfl) (by kernel_rfl) (Nat.le_of_ble_eq_true (by kernel_rfl)) (by kernel_rfl) pledgeref12_Lines.eq

def pledgeref12_Good (x0 : Int) (x1 : Int) (x2 : Int × Int × (List (Int × Int × Unit)) × Unit) : Option Bool :=
  bif decide (x0 < 1) then some false else bif decide (x0 > 4) then some false else bif decide (x1 < 1) then some false else bif decide (x1 > 4) then some false else bif decide (x2.1 < 1) then some false else bif decide (x2.1 > 8) then some false else bif ((x2.2.2.1.length : Int) : Int) == 0 then some false else (pledgeref12_Lines x0 x2.2.2.1).bind fun r23 => bif !r23 then some false else bif decide (x2.1 ≥ 7) then some ((x2.2.1 : Int) == 0) else some (decide ((IntKind.i64.wrap x2.2.1) < x1))
def pledgeref12_Good.C : Ctx := { ty := tyT, sigs := fun i => bif Nat.beq i 78 then [pledgeref12_Lines.sig] else [], n := 55, mp := fun _ => none }
def pledgeref12_Good.Q : Cuts := { np := 0, loops := fun i => none, seqs := fun i => none, splits := fun i => none }
def pledgeref12_Good.sig : Sig := { args := .tc (.val (.int .i64)) (.tc (.val (.int .i64)) (.tc (.val kStep) .tn)), objs := [], ret := .val .bool, outs := [], F := fun x => pledgeref12_Good x.1.1 x.1.2.1 x.1.2.2.1 }
theorem pledgeref12_Good.eq : (fun x => body pledgeref12_Good.C pledgeref12_Good.Q Go.Proofs.Try.f28 pledgeref12_Good.sig.args pledgeref12_Good.sig.objs pledgeref12_Good.sig.ret pledgeref12_Good.sig.outs x) = pledgeref12_Good.sig.F := by
  kernel_rfl
set_option maxRecDepth 100000 in
theorem pledgeref12_Good.ctx : CtxOk Go.Proofs.Try.prog pledgeref12_Good.C := ⟨tyOk, (fun _ _ _ h => by cases h), Nat.le_of_ble_eq_true (by kernel_rfl), fun f sg => fun h => sigs_if h (allS_cons pledgeref12_Lines.ok allS_nil) ((fun h => by cases h))⟩
set_option maxRecDepth 100000 in
theorem pledgeref12_Good.ok : Sound Go.Proofs.Try.prog 28 pledgeref12_Good.sig := body_sound (C := pledgeref12_Good.C) (q := pledgeref12_Good.Q) (fn := Go.Proofs.Try.f28) (sg := pledgeref12_Good.sig) (n := 3) pledgeref12_Good.ctx follows Go.Proofs.Try.func28 (by kernel_rfl) (by kernel_rfl) (by kernel_rfl) (by kernel_rfl) (Nat.le_of_ble_eq_true (by kernel_rfl)) (by kernel_rfl) pledgeref12_Good.eq

def pledgelaw12_StepGood (x0 : Int) (x1 : Int) (x2 : Int × Int × (List (Int × Int × Unit)) × Unit) : Option Bool :=
  (pledgelaw12_few x2).bind fun r9 => bif !r9 then pledgelaw12_works.bind fun r10 => some r10 else (step_Good x0 x1 x2).bind fun r11 => (pledgeref12_Good x0 x1 x2).bind fun r12 => bif r11 == r12 then pledgelaw12_works.bind fun r13 => some r13 else some false
def pledgelaw12_StepGood.C : Ctx := { ty := tyT, sigs := fun i => bif Nat.beq i 23 then [pledgelaw12_few.sig] else bif Nat.beq i 24 then [pledgelaw12_works.sig] else bif Nat.beq i 27 then [step_Good.sig] else bif Nat.beq i 28 then [pledgeref12_Good.sig] else [], n := 23, mp := fun _ => none }
def pledgelaw12_StepGood.Q : Cuts := { np := 0, loops := fun i => none, seqs := fun i => none, splits := fun i => none }
def pledgelaw12_StepGood.sig : Sig := { args := .tc (.val (.int .i64)) (.tc (.val (.int .i64)) (.tc (.val kStep) .tn)), objs := [], ret := .val .bool, outs := [], F := fun x => pledgelaw12_StepGood x.1.1 x.1.2.1 x.1.2.2.1 }
theorem pledgelaw12_StepGood.eq : (fun x => body pledgelaw12_StepGood.C pledgelaw12_StepGood.Q Go.Proofs.Try.f6 pledgelaw12_StepGood.sig.args pledgelaw12_StepGood.sig.objs pledgelaw12_StepGood.sig.ret pledgelaw12_StepGood.sig.outs x) = pledgelaw12_StepGood.sig.F := by
  kernel_rfl
set_option maxRecDepth 100000 in
theorem pledgelaw12_StepGood.ctx : CtxOk Go.Proofs.Try.prog pledgelaw12_StepGood.C := ⟨tyOk, (fun _ _ _ h => by cases h), Nat.le_of_ble_eq_true (by kernel_rfl), fun f sg => fun h => sigs_if h (allS_cons pledgelaw12_few.ok allS_nil) (fun h => sigs_if h (allS_cons pledgelaw12_works.ok allS_nil) (fun h => sigs_if h (allS_cons step_Good.ok allS_nil) (fun h => sigs_if h (allS_cons pledgeref12_Good.ok allS_nil) ((fun h => by cases h)))))⟩
set_option maxRecDepth 100000 in
theorem pledgelaw12_StepGood.ok : Sound Go.Proofs.Try.prog 6 pledgelaw12_StepGood.sig := body_sound (C := pledgelaw12_StepGood.C) (q := pledgelaw12_StepGood.Q) (fn := Go.Proofs.Try.f6) (sg := pledgelaw12_StepGood.sig) (n := 3) pledgelaw12_StepGood.ctx follows Go.Proofs.Try.func6 (by kernel_rfl) (by kernel_rfl) (by kernel_rfl) (by kernel_rfl) (Nat.le_of_ble_eq_true (by kernel_rfl)) (by kernel_rfl) pledgelaw12_StepGood.eq

def pledgeref12_add (x0 : Int) (x1 : Int) (x2 : Int) (x3 : Int) : Option ((Int × Int × Int × Unit) × Int × Unit) :=
  some ((x0, (x1, (x2, ()))), (x3, ()))
def pledgeref12_add.C : Ctx := { ty := tyT, sigs := fun i => [], n := 15, mp := fun _ => none }
def pledgeref12_add.Q : Cuts := { np := 0, loops := fun i => none, seqs := fun i => none, splits := fun i => none }
def pledgeref12_add.sig : Sig := { args := .tc (.val (.int .u8)) (.tc (.val (.int .u8)) (.tc (.val (.int .u8)) (.tc (.val (.int .i64)) .tn))), objs := [], ret := .val kOp, outs := [], F := fun x => pledgeref12_add x.1.1 x.1.2.1 x.1.2.2.1 x.1.2.2.2.1 }
theorem pledgeref12_add.eq : (fun x => body pledgeref12_add.C pledgeref12_add.Q Go.Proofs.Try.f141 pledgeref12_add.sig.args pledgeref12_add.sig.objs pledgeref12_add.sig.ret pledgeref12_add.sig.outs x) = pledgeref12_add.sig.F := by
  kernel_rfl
set_option maxRecDepth 100000 in
theorem pledgeref12_add.ctx : CtxOk Go.Proofs.Try.prog pledgeref12_add.C := ⟨tyOk, (fun _ _ _ h => by cases h), Nat.le_of_ble_eq_true (by kernel_rfl), fun f sg => (fun h => by cases h)⟩
set_option maxRecDepth 100000 in
theorem pledgeref12_add.ok : Sound Go.Proofs.Try.prog 141 pledgeref12_add.sig := body_sound (C := pledgeref12_add.C) (q := pledgeref12_add.Q) (fn := Go.Proofs.Try.f141) (sg := pledgeref12_add.sig) (n := 4) pledgeref12_add.ctx follows Go.Proofs.Try.func141 (by kernel_rfl) (by kernel_rfl) (by kernel_rfl) (by kernel_rfl) (Nat.le_of_ble_eq_true (by kernel_rfl)) (by kernel_rfl) pledgeref12_add.eq

def pledgeref12_one (x0 : Int) (x1 : Int) (x2 : Int × Int × Unit) : Option (List ((Int × Int × Int × Unit) × Int × Unit)) :=
  bif (x0 : Int) == 1 then (pledgeref12_add 1 x2.1 x1 (IntKind.i64.wrap (0 - x2.2.1))).bind fun r19 => (pledgeref12_add 2 x2.1 x1 x2.2.1).bind fun r20 => some [r19, r20] else bif (x0 : Int) == 2 then (pledgeref12_add 2 x2.1 x1 (IntKind.i64.wrap (0 - x2.2.1))).bind fun r21 => (pledgeref12_add 1 x2.1 x1 x2.2.1).bind fun r22 => some [r21, r22] else bif (x0 : Int) == 3 then (pledgeref12_add 2 x2.1 x1 (IntKind.i64.wrap (0 - x2.2.1))).bind fun r23 => (pledgeref12_add 3 x2.1 0 x2.2.1).bind fun r24 => some [r23, r24] else bif (x0 : Int) == 4 then (pledgeref12_add 3 x2.1 0 (IntKind.i64.wrap (0 - x2.2.1))).bind fun r25 => (pledgeref12_add 1 x2.1 x1 x2.2.1).bind fun r26 => some [r25, r26] else bif (x0 : Int) == 5 then (pledgeref12_add 1 x2.1 x1 x2.2.1).bind fun r27 => some [r27] else bif (x0 : Int) == 6 then (pledgeref12_add 1 x2.1 x1 (IntKind.i64.wrap (0 - x2.2.1))).bind fun r28 => some [r28] else bif (x0 : Int) == 7 then (pledgeref12_add 4 x2.1 0 x2.2.1).bind fun r29 => some [r29] else bif (x0 : Int) == 8 then (pledgeref12_add 4 x2.1 0 (IntKind.i64.wrap (0 - x2.2.1))).bind fun r30 => some [r30] else some []
def pledgeref12_one.C : Ctx := { ty := tyT, sigs := fun i => bif Nat.beq i 141 then [pledgeref12_add.sig] else [], n := 88, mp := fun _ => none }
def pledgeref12_one.Q : Cuts := { np := 0, loops := fun i => none, seqs := fun i => none, splits := fun i => none }
def pledgeref12_one.sig : Sig := { args := .tc (.val (.int .u8)) (.tc (.val (.int .u8)) (.tc (.val kLine) .tn)), objs := [], ret := .val (.slice kOp), outs := [], F := fun x => pledgeref12_one x.1.1 x.1.2.1 x.1.2.2.1 }
theorem pledgeref12_one.eq : (fun x => body pledgeref12_one.C pledgeref12_one.Q Go.Proofs.Try.f80 pledgeref12_one.sig.args pledgeref12_one.sig.objs pledgeref12_one.sig.ret pledgeref12_one.sig.outs x) = pledgeref12_one.sig.F := by
  kernel_rfl
set_option maxRecDepth 100000 in
theorem pledgeref12_one.ctx : CtxOk Go.Proofs.Try.prog pledgeref12_one.C := ⟨tyOk, (fun _ _ _ h => by cases h), Nat.le_of_ble_eq_true (by kernel_rfl), fun f sg => fun h => sigs_if h (allS_cons pledgeref12_add.ok allS_nil) ((fun h => by cases h))⟩
set_option maxRecDepth 100000 in
theorem pledgeref12_one.ok : Sound Go.Proofs.Try.prog 80 pledgeref12_one.sig := body_sound (C := pledgeref12_one.C) (q := pledgeref12_one.Q) (fn := Go.Proofs.Try.f80) (sg := pledgeref12_one.sig) (n := 3) pledgeref12_one.ctx follows Go.Proofs.Try.func80 (by kernel_rfl) (by kernel_rfl) (by kernel_rfl) (by kernel_rfl) (Nat.le_of_ble_eq_true (by kernel_rfl)) (by kernel_rfl) pledgeref12_one.eq

def pledgeref12_Ops.l1 (v : (Unit × Unit × Int) × (Int × Int × (List (Int × Int × Unit)) × Unit) × (List ((Int × Int × Int × Unit) × Int × Unit)) × Unit) : Option (((Unit × Unit × Int) × (Int × Int × (List (Int × Int × Unit)) × Unit) × (List ((Int × Int × Int × Unit) × Int × Unit)) × Unit) ⊕ (Unit × (List ((Int × Int × Int × Unit) × Int × Unit)) × Unit)) :=
  bif decide (v.1.2.2 < (v.2.1.2.2.1.length : Int)) then nthK v.2.1.2.2.1 v.1.2.2 fun e17 => bif decide (e17.2.1 ≥ 1) then nthK v.2.1.2.2.1 v.1.2.2 fun e18 => (pledgeref12_one v.2.1.1 v.2.1.2.1 e18).bind fun r19 => room (v.2.2.1.length + r19.length) (some (Sum.inl (((), ((), IntKind.i64.wrap (v.1.2.2 + 1))), (v.2.1, (v.2.2.1 ++ r19, ()))))) else some (Sum.inl (((), ((), IntKind.i64.wrap (v.1.2.2 + 1))), (v.2.1, (v.2.2.1, ())))) else some (Sum.inr ((), (v.2.2.1, ())))
def pledgeref12_Ops (x0 : Int × Int × (List (Int × Int × Unit)) × Unit) : Option (List ((Int × Int × Int × Unit) × Int × Unit)) :=
  (iterL pledgeref12_Ops.l1 loopN (((), ((), 0)), (x0, ([], ())))).bind fun y20 => some y20.2.1
def pledgeref12_Ops.C : Ctx := { ty := tyT, sigs := fun i => bif Nat.beq i 80 then [pledgeref12_one.sig] else [], n := 32, mp := fun _ => none }
def pledgeref12_Ops.Q : Cuts := { np := 0, loops := fun i => bif Nat.beq i 3 then some ({ env := [(1, .ptr 0), (3, .row 1), (4, .val (.int .i64))], objs := [.cell kStep (.val kStep), .row kOp false] }, [(.exit 0, { env := [(3, .row 0)], objs := [.row kOp false] })]) else none, seqs := fun i => none, splits := fun i => none }
def pledgeref12_Ops.sig : Sig := { args := .tc (.val kStep) .tn, objs := [], ret := .val (.slice kOp), outs := [], F := fun x => pledgeref12_Ops x.1.1 }
theorem pledgeref12_Ops.eq : (fun x => body pledgeref12_Ops.C pledgeref12_Ops.Q Go.Proofs.Try.f31 pledgeref12_Ops.sig.args pledgeref12_Ops.sig.objs pledgeref12_Ops.sig.ret pledgeref12_Ops.sig.outs x) = pledgeref12_Ops.sig.F := by
  kernel_rfl
set_option maxRecDepth 100000 in
theorem pledgeref12_Ops.ctx : CtxOk Go.Proofs.Try.prog pledgeref12_Ops.C := ⟨tyOk, (fun _ _ _ h => by cases h), Nat.le_of_ble_eq_true (by kernel_rfl), fun f sg => fun h => sigs_if h (allS_cons pledgeref12_one.ok allS_nil) ((fun h => by cases h))⟩
set_option maxRecDepth 100000 in
theorem pledgeref12_Ops.ok : Sound Go.Proofs.Try.prog 31 pledgeref12_Ops.sig := body_sound (C := pledgeref12_Ops.C) (q := pledgeref12_Ops.Q) (fn := Go.Proofs.Try.f31) (sg := pledgeref12_Ops.sig) (n := 1) pledgeref12_Ops.ctx follows Go.Proofs.Try.func31 (by kernel_rfl) (by kernel_rfl) (by kernel_rfl) (by kernel_rfl) (Nat.le_of_ble_eq_true (by kernel_rfl)) (by kernel_rfl) pledgeref12_Ops.eq

def pledgeref11_Same.l1 (v : (List ((Int × Int × Int × Unit) × Int × Unit)) × (List ((Int × Int × Int × Unit) × Int × Unit)) × Int) : Option (((List ((Int × Int × Int × Unit) × Int × Unit)) × (List ((Int × Int × Int × Unit) × Int × Unit)) × Int) ⊕ (Unit ⊕ Bool)) :=
  bif decide (v.2.2 < (v.1.length : Int)) then nthK v.1 v.2.2 fun e22 => nthK v.2.1 v.2.2 fun e23 => bif !(eqE kOp e22 e23) then some (Sum.inr (Sum.inr false)) else some (Sum.inl (v.1, (v.2.1, IntKind.i64.wrap (v.2.2 + 1)))) else some (Sum.inr (Sum.inl ()))
def pledgeref11_Same (x0 : List ((Int × Int × Int × Unit) × Int × Unit)) (x1 : List ((Int × Int × Int × Unit) × Int × Unit)) : Option Bool :=
  bif ((x0.length : Int) : Int) != (x1.length : Int) then some false else (iterL pledgeref11_Same.l1 loopN (x0, (x1, 0))).bind fun y24 => (match y24 with | .inl y25 => some true | .inr y26 => some y26)
def pledgeref11_Same.C : Ctx := { ty := tyT, sigs := fun i => [], n := 26, mp := fun _ => none }
def pledgeref11_Same.Q : Cuts := { np := 0, loops := fun i => bif Nat.beq i 4 then some ({ env := [(0, .val (.slice kOp)), (1, .val (.slice kOp)), (5, .val (.int .i64))], objs := [] }, [(.exit 0, { env := [], objs := [] }), (.ret, { env := [(4, .val .bool)], objs := [] })]) else none, seqs := fun i => none, splits := fun i => none }
def pledgeref11_Same.sig : Sig := { args := .tc (.val (.slice kOp)) (.tc (.val (.slice kOp)) .tn), objs := [], ret := .val .bool, outs := [], F := fun x => pledgeref11_Same x.1.1 x.1.2.1 }
theorem pledgeref11_Same.eq : (fun x => body pledgeref11_Same.C pledgeref11_Same.Q Go.Proofs.Try.f29 pledgeref11_Same.sig.args pledgeref11_Same.sig.objs pledgeref11_Same.sig.ret pledgeref11_Same.sig.outs x) = pledgeref11_Same.sig.F := by
  kernel_rfl
set_option maxRecDepth 100000 in
theorem pledgeref11_Same.ctx : CtxOk Go.Proofs.Try.prog pledgeref11_Same.C := ⟨tyOk, (fun _ _ _ h => by cases h), Nat.le_of_ble_eq_true (by kernel_rfl), fun f sg => (fun h => by cases h)⟩
set_option maxRecDepth 100000 in
theorem pledgeref11_Same.ok : Sound Go.Proofs.Try.prog 29 pledgeref11_Same.sig := body_sound (C := pledgeref11_Same.C) (q := pledgeref11_Same.Q) (fn := Go.Proofs.Try.f29) (sg := pledgeref11_Same.sig) (n := 2) pledgeref11_Same.ctx follows Go.Proofs.Try.func29 (by kernel_rfl) (by kernel_rfl) (by kernel_rfl) (by kernel_rfl) (Nat.le_of_ble_eq_true (by kernel_rfl)) (by kernel_rfl) pledgeref11_Same.eq

def slices_Backward_api_Op_api_Op (x0 : List ((Int × Int × Int × Unit) × Int × Unit)) : Option ((Unit × Unit) × (List ((Int × Int × Int × Unit) × Int × Unit)) × Unit) :=
  some (((), ()), (x0, ()))
def slices_Backward_api_Op_api_Op.C : Ctx := { ty := tyT, sigs := fun i => [], n := 4, mp := fun _ => none }
def slices_Backward_api_Op_api_Op.Q : Cuts := { np := 0, loops := fun i => none, seqs := fun i => none, splits := fun i => none }
def slices_Backward_api_Op_api_Op.sig : Sig := { args := .tc (.val (.slice kOp)) .tn, objs := [], ret := .clo 157 (.tc (.ptr 0) .tn), outs := [.cell (.slice kOp) (.val (.slice kOp))], F := fun x => slices_Backward_api_Op_api_Op x.1.1 }
theorem slices_Backward_api_Op_api_Op.eq : (fun x => body slices_Backward_api_Op_api_Op.C slices_Backward_api_Op_api_Op.Q Go.Proofs.Try.f142 slices_Backward_api_Op_api_Op.sig.args slices_Backward_api_Op_api_Op.sig.objs slices_Backward_api_Op_api_Op.sig.ret slices_Backward_api_Op_api_Op.sig.outs x) = slices_Backward_api_Op_api_Op.sig.F := by
  kernel_rfl
set_option maxRecDepth 100000 in
theorem slices_Backward_api_Op_api_Op.ctx : CtxOk Go.Proofs.Try.prog slices_Backward_api_Op_api_Op.C := ⟨tyOk, (fun _ _ _ h => by cases h), Nat.le_of_ble_eq_true (by kernel_rfl), fun f sg => (fun h => by cases h)⟩
set_option maxRecDepth 100000 in
theorem slices_Backward_api_Op_api_Op.ok : Sound Go.Proofs.Try.prog 142 slices_Backward_api_Op_api_Op.sig := body_sound (C := slices_Backward_api_Op_api_Op.C) (q := slices_Backward_api_Op_api_Op.Q) (fn := Go.Proofs.Try.f142) (sg := slices_Backward_api_Op_api_Op.sig) (n := 1) slices_Backward_api_Op_api_Op.ctx follows Go.Proofs.Try.func142 (by kernel_rfl) (by kernel_rfl) (by kernel_rfl) (by kernel_rfl) (Nat.le_of_ble_eq_true (by kernel_rfl)) (by kernel_rfl) slices_Backward_api_Op_api_Op.eq

end Go.Proofs.F
