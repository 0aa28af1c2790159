import Derived.Test.YtgcecbkmmcgfkaaDScope
import Derived.Test.YtgcecbkmmcgfkaaProg
import Derived.KernelRfl
set_option linter.unusedVariables false
namespace Go.Proofs.F
open Go.Proofs.D
def kLine : K := .cons (.int .u8) (.cons (.int .i64) .unit)
def kR : K := .cons (.slice (.int .u8)) (.cons (.int .i64) .unit)
def kReader : K := .cons (.cons (.int .i64) .unit) (.cons (.slice (.int .u8)) .unit)
def kwide : K := .cons (.int .i64) (.cons (.int .i64) .unit)
def kKey : K := .cons (.int .u8) (.cons (.int .u8) (.cons (.int .u8) .unit))
def kStep : K := .cons (.int .u8) (.cons (.int .u8) (.cons (.slice kLine) .unit))
def kWriter : K := .cons (.cons (.int .i64) .unit) kR
def kTake : K := .cons (.int .u32) (.cons (.int .u8) kLine)
def kOp : K := .cons kKey (.cons (.int .i64) .unit)
def kTxn : K := .cons (.int .u32) (.cons (.int .u32) (.cons (.int .u8) (.cons .bool (.cons .bool (.cons (.slice kOp) kwide)))))
def kProgram : K := .cons (.int .u8) (.cons (.int .u32) (.cons (.int .u8) (.cons (.slice kLine) (.cons (.slice kTake) (.cons (.slice kLine) (.cons (.int .u8) (.cons (.int .u8) kLine)))))))
def kRec : K := .cons (.int .u8) (.cons (.int .u32) (.cons (.int .u32) (.cons (.int .u8) (.cons .bool (.cons kKey (.cons (.int .i64) (.cons (.int .u8) (.cons kProgram .unit))))))))
def tyL : List (Nat × K) := [(1, .ref 2), (2, .int .i64), (3, .int .i64), (4, .bool), (5, .int .u8), (9, .str), (22, .int .u32), (23, .slice kLine), (24, .slice kTake), (25, kProgram), (26, kProgram), (27, .slice (.int .u8)), (30, .int .i64), (42, kTake), (43, kTake), (56, kKey), (57, kKey), (64, .slice kStep), (67, kStep), (68, kStep), (69, .ref 0), (72, .int .u64), (81, .ref 0), (83, .ref 2), (84, kLine), (85, kLine), (87, .ref 2), (88, .ref 2), (94, .ref 0), (95, kR), (96, kR), (118, .ref 0), (120, .cons (.int .i64) .unit), (121, .cons (.int .i64) .unit), (122, kWriter), (123, kWriter), (125, .arr 8 (.int .u8)), (127, kReader), (128, kReader), (133, .slice (.int .i64)), (134, .arr 4 (.slice (.int .i64))), (135, .arr 4 (.int .i64)), (137, .ref 1), (148, .ref 0), (152, .int .u64), (160, kwide), (161, kwide)]
def tyT (t : Nat) : Option K := lookK tyL t
def mpL : List (Nat × K × K) := [(137, .int .u32, .int .i64)]
def mpT (t : Nat) : Option (K × K) := lookM mpL t
theorem tyOk : ∀ t c, tyT t = some c → TyOk Go.Proofs.Try.prog tyT t c := tyOk_of (l := tyL) (fun _ => rfl) (by kernel_rfl) (by kernel_rfl)
theorem mpOk : ∀ t k v, mpT t = some (k, v) → ∃ tk tv, Go.Proofs.Try.prog.underlying t = some (.map tk tv) ∧ tyT tk = some k ∧ tyT tv = some v ∧ k.flat = true := mpOk_of (l := mpL) (fun _ => rfl) (by kernel_rfl)
theorem follows : Go.Proofs.Try.prog.follows .mixedOrders = true := by kernel_rfl
def pledgelaw13_isFew (x0 : Int × Int × Int × (List (Int × Int × Unit)) × (List (Int × Int × Int × Int × Unit)) × (List (Int × Int × Unit)) × Int × Int × Int × Int × Unit) : Option Bool :=
  bif decide ((x0.2.2.2.1.length : Int) ≤ 20) then bif decide ((x0.2.2.2.2.1.length : Int) ≤ 30) then some (decide ((x0.2.2.2.2.2.1.length : Int) ≤ 20)) else some false else some false
def pledgelaw13_isFew.C : Ctx := { ty := tyT, sigs := fun i => [], n := 19, mp := mpT }
def pledgelaw13_isFew.Q : Cuts := { np := 0, loops := fun i => none, seqs := fun i => none, splits := fun i => none }
def pledgelaw13_isFew.sig : Sig := { args := .tc (.val kProgram) .tn, objs := [], ret := .val .bool, outs := [], F := fun x => pledgelaw13_isFew x.1.1 }
theorem pledgelaw13_isFew.eq : (fun x => body pledgelaw13_isFew.C pledgelaw13_isFew.Q Go.Proofs.Try.f29 pledgelaw13_isFew.sig.args pledgelaw13_isFew.sig.objs pledgelaw13_isFew.sig.ret pledgelaw13_isFew.sig.outs x) = pledgelaw13_isFew.sig.F := by
  kernel_rfl
set_option maxRecDepth 100000 in
theorem pledgelaw13_isFew.ctx : CtxOk Go.Proofs.Try.prog pledgelaw13_isFew.C := ⟨tyOk, mpOk, Nat.le_of_ble_eq_true (by kernel_rfl), fun f sg => (fun h => by cases h)⟩
set_option maxRecDepth 100000 in
theorem pledgelaw13_isFew.ok : Sound Go.Proofs.Try.prog 29 pledgelaw13_isFew.sig := body_sound (C := pledgelaw13_isFew.C) (q := pledgelaw13_isFew.Q) (fn := Go.Proofs.Try.f29) (sg := pledgelaw13_isFew.sig) (n := 1) pledgelaw13_isFew.ctx follows Go.Proofs.Try.func29 (by kernel_rfl) (by kernel_rfl) (by kernel_rfl) (by kernel_rfl) (Nat.le_of_ble_eq_true (by kernel_rfl)) (by kernel_rfl) pledgelaw13_isFew.eq

def pledgelaw13_Few (x0 : Int × Int × Int × (List (Int × Int × Unit)) × (List (Int × Int × Int × Int × Unit)) × (List (Int × Int × Unit)) × Int × Int × Int × Int × Unit) : Option Int :=
  (pledgelaw13_isFew x0).bind fun r1 => bif r1 then some 1 else some 0
def pledgelaw13_Few.C : Ctx := { ty := tyT, sigs := fun i => bif Nat.beq i 29 then [pledgelaw13_isFew.sig] else [], n := 5, mp := mpT }
def pledgelaw13_Few.Q : Cuts := { np := 0, loops := fun i => none, seqs := fun i => none, splits := fun i => none }
def pledgelaw13_Few.sig : Sig := { args := .tc (.val kProgram) .tn, objs := [], ret := .val (.int .i64), outs := [], F := fun x => pledgelaw13_Few x.1.1 }
theorem pledgelaw13_Few.eq : (fun x => body pledgelaw13_Few.C pledgelaw13_Few.Q Go.Proofs.Try.f6 pledgelaw13_Few.sig.args pledgelaw13_Few.sig.objs pledgelaw13_Few.sig.ret pledgelaw13_Few.sig.outs x) = pledgelaw13_Few.sig.F := by
  kernel_rfl
set_option maxRecDepth 100000 in
theorem pledgelaw13_Few.ctx : CtxOk Go.Proofs.Try.prog pledgelaw13_Few.C := ⟨tyOk, mpOk, Nat.le_of_ble_eq_true (by kernel_rfl), fun f sg => fun h => sigs_if h (allS_cons pledgelaw13_isFew.ok allS_nil) ((fun h => by cases h))⟩
set_option maxRecDepth 100000 in
theorem pledgelaw13_Few.ok : Sound Go.Proofs.Try.prog 6 pledgelaw13_Few.sig := body_sound (C := pledgelaw13_Few.C) (q := pledgelaw13_Few.Q) (fn := Go.Proofs.Try.f6) (sg := pledgelaw13_Few.sig) (n := 1) pledgelaw13_Few.ctx follows Go.Proofs.Try.func6 (by kernel_rfl) (by kernel_rfl) (by kernel_rfl) (by kernel_rfl) (Nat.le_of_ble_eq_true (by kernel_rfl)) (by kernel_rfl) pledgelaw13_Few.eq

def pledgelaw13_Example  : Option (Int × Int × Int × (List (Int × Int × Unit)) × (List (Int × Int × Int × Int × Unit)) × (List (Int × Int × Unit)) × Int × Int × Int × Int × Unit) :=
  some (1, (7, (0, ([(0, (5, ()))], ([(7, (0, (1, (3, ()))))], ([(0, (2, ()))], (0, (0, (0, (0, ()))))))))))
def pledgelaw13_Example.C : Ctx := { ty := tyT, sigs := fun i => [], n := 8, mp := mpT }
def pledgelaw13_Example.Q : Cuts := { np := 0, loops := fun i => none, seqs := fun i => none, splits := fun i => none }
def pledgelaw13_Example.sig : Sig := { args := .tn, objs := [], ret := .val kProgram, outs := [], F := fun x => pledgelaw13_Example }
theorem pledgelaw13_Example.eq : (fun x => body pledgelaw13_Example.C pledgelaw13_Example.Q Go.Proofs.Try.f31 pledgelaw13_Example.sig.args pledgelaw13_Example.sig.objs pledgelaw13_Example.sig.ret pledgelaw13_Example.sig.outs x) = pledgelaw13_Example.sig.F := by
  kernel_rfl
set_option maxRecDepth 100000 in
theorem pledgelaw13_Example.ctx : CtxOk Go.Proofs.Try.prog pledgelaw13_Example.C := ⟨tyOk, mpOk, Nat.le_of_ble_eq_true (by kernel_rfl), fun f sg => (fun h => by cases h)⟩
set_option maxRecDepth 100000 in
theorem pledgelaw13_Example.ok : Sound Go.Proofs.Try.prog 31 pledgelaw13_Example.sig := body_sound (C := pledgelaw13_Example.C) (q := pledgelaw13_Example.Q) (fn := Go.Proofs.Try.f31) (sg := pledgelaw13_Example.sig) (n := 0) pledgelaw13_Example.ctx follows Go.Proofs.Try.func31 (by kernel_rfl) (by kernel_rfl) (by kernel_rfl) (by kernel_rfl) (Nat.le_of_ble_eq_true (by kernel_rfl)) (by kernel_rfl) pledgelaw13_Example.eq

def prog_still (x0 : Int × Int × Int × (List (Int × Int × Unit)) × (List (Int × Int × Int × Int × Unit)) × (List (Int × Int × Unit)) × Int × Int × Int × Int × Unit) : Option Bool :=
  bif (x0.2.2.2.2.2.2.1 : Int) == 0 then bif (x0.2.2.2.2.2.2.2.1 : Int) == 0 then bif (x0.2.2.2.2.2.2.2.2.1 : Int) == 0 then some ((x0.2.2.2.2.2.2.2.2.2.1 : Int) == 0) else some false else some false else some false
def prog_still.C : Ctx := { ty := tyT, sigs := fun i => [], n := 21, mp := mpT }
def prog_still.Q : Cuts := { np := 0, loops := fun i => none, seqs := fun i => none, splits := fun i => none }
def prog_still.sig : Sig := { args := .tc (.val kProgram) .tn, objs := [], ret := .val .bool, outs := [], F := fun x => prog_still x.1.1 }
theorem prog_still.eq : (fun x => body prog_still.C prog_still.Q Go.Proofs.Try.f61 prog_still.sig.args prog_still.sig.objs prog_still.sig.ret prog_still.sig.outs x) = prog_still.sig.F := by
  kernel_rfl
set_option maxRecDepth 100000 in
theorem prog_still.ctx : CtxOk Go.Proofs.Try.prog prog_still.C := ⟨tyOk, mpOk, Nat.le_of_ble_eq_true (by kernel_rfl), fun f sg => (fun h => by cases h)⟩
set_option maxRecDepth 100000 in
theorem prog_still.ok : Sound Go.Proofs.Try.prog 61 prog_still.sig := body_sound (C := prog_still.C) (q := prog_still.Q) (fn := Go.Proofs.Try.f61) (sg := prog_still.sig) (n := 1) prog_still.ctx follows Go.Proofs.Try.func61 (by kernel_rfl) (by kernel_rfl) (by kernel_rfl) (by kernel_rfl) (Nat.le_of_ble_eq_true (by kernel_rfl)) (by kernel_rfl) prog_still.eq

def prog_bare (x0 : Int × Int × Int × (List (Int × Int × Unit)) × (List (Int × Int × Int × Int × Unit)) × (List (Int × Int × Unit)) × Int × Int × Int × Int × Unit) : Option Bool :=
  bif (x0.2.2.1 : Int) == 0 then some (((x0.2.2.2.1.length : Int) : Int) == 0) else some false
def prog_bare.C : Ctx := { ty := tyT, sigs := fun i => [], n := 12, mp := mpT }
def prog_bare.Q : Cuts := { np := 0, loops := fun i => none, seqs := fun i => none, splits := fun i => none }
def prog_bare.sig : Sig := { args := .tc (.val kProgram) .tn, objs := [], ret := .val .bool, outs := [], F := fun x => prog_bare x.1.1 }
theorem prog_bare.eq : (fun x => body prog_bare.C prog_bare.Q Go.Proofs.Try.f62 prog_bare.sig.args prog_bare.sig.objs prog_bare.sig.ret prog_bare.sig.outs x) = prog_bare.sig.F := by
  kernel_rfl
set_option maxRecDepth 100000 in
theorem prog_bare.ctx : CtxOk Go.Proofs.Try.prog prog_bare.C := ⟨tyOk, mpOk, Nat.le_of_ble_eq_true (by kernel_rfl), fun f sg => (fun h => by cases h)⟩
set_option maxRecDepth 100000 in
theorem prog_bare.ok : Sound Go.Proofs.Try.prog 62 prog_bare.sig := body_sound (C := prog_bare.C) (q := prog_bare.Q) (fn := Go.Proofs.Try.f62) (sg := prog_bare.sig) (n := 1) prog_bare.ctx follows Go.Proofs.Try.func62 (by kernel_rfl) (by kernel_rfl) (by kernel_rfl) (by kernel_rfl) (Nat.le_of_ble_eq_true (by kernel_rfl)) (by kernel_rfl) prog_bare.eq

def prog_lines.l1 (v : Int × (List (Int × Int × Unit)) × (List (Int × Int × Unit)) × Int × Int) : Option ((Int × (List (Int × Int × Unit)) × (List (Int × Int × Unit)) × Int × Int) ⊕ ((List (Int × Int × Unit)) ⊕ Bool)) :=
  bif decide (v.2.2.2.2 < v.2.2.2.1) then nthK v.2.2.1 v.2.2.2.2 fun e7 => bif decide ((IntKind.i64.wrap e7.1) ≥ v.1) then some (Sum.inr (Sum.inr false)) else bif decide (e7.2.1 < 1) then some (Sum.inr (Sum.inr false)) else bif decide (v.2.2.2.2 > 0) then nthK v.2.1 (IntKind.i64.wrap (v.2.2.2.2 - 1)) fun e8 => bif decide (e8.1 ≥ e7.1) then some (Sum.inr (Sum.inr false)) else some (Sum.inl (v.1, (v.2.1, (v.2.2.1, (v.2.2.2.1, IntKind.i64.wrap (v.2.2.2.2 + 1)))))) else some (Sum.inl (v.1, (v.2.1, (v.2.2.1, (v.2.2.2.1, IntKind.i64.wrap (v.2.2.2.2 + 1)))))) else some (Sum.inr (Sum.inl v.2.1))
def prog_lines (x0 : Int) (x1 : List (Int × Int × Unit)) : Option Bool :=
  (iterL prog_lines.l1 loopN (x0, (x1, (x1, ((x1.length : Int), 0))))).bind fun y9 => (match y9 with | .inl y10 => some (decide ((y10.length : Int) ≤ 3)) | .inr y11 => some y11)
def prog_lines.C : Ctx := { ty := tyT, sigs := fun i => [], n := 43, mp := mpT }
def prog_lines.Q : Cuts := { np := 0, loops := fun i => bif Nat.beq i 2 then some ({ env := [(0, .val (.int .i64)), (1, .val (.slice kLine)), (7, .val (.slice kLine)), (8, .val (.int .i64)), (9, .val (.int .i64))], objs := [] }, [(.exit 0, { env := [(1, .val (.slice kLine))], objs := [] }), (.ret, { env := [(4, .val .bool)], objs := [] })]) else none, seqs := fun i => none, splits := fun i => none }
def prog_lines.sig : Sig := { args := .tc (.val (.int .i64)) (.tc (.val (.slice kLine)) .tn), objs := [], ret := .val .bool, outs := [], F := fun x => prog_lines x.1.1 x.1.2.1 }
theorem prog_lines.eq : (fun x => body prog_lines.C prog_lines.Q Go.Proofs.Try.f63 prog_lines.sig.args prog_lines.sig.objs prog_lines.sig.ret prog_lines.sig.outs x) = prog_lines.sig.F := by
  kernel_rfl
set_option maxRecDepth 100000 in
theorem prog_lines.ctx : CtxOk Go.Proofs.Try.prog prog_lines.C := ⟨tyOk, mpOk, Nat.le_of_ble_eq_true (by kernel_rfl), fun f sg => (fun h => by cases h)⟩
set_option maxRecDepth 100000 in
theorem prog_lines.ok : Sound Go.Proofs.Try.prog 63 prog_lines.sig := body_sound (C := prog_lines.C) (q := prog_lines.Q) (fn := Go.Proofs.Try.f63) (sg := prog_lines.sig) (n := 2) prog_lines.ctx follows Go.Proofs.Try.func63 (by kernel_rfl) (by kernel_rfl) (by kernel_rfl) (by kernel_rfl) (Nat.le_of_ble_eq_true (by kernel_rfl)) (by kernel_rfl) prog_lines.eq

def prog_takes.l1 (v : (Int × Int × Unit × (List (Int × Int × Int × Int × Unit)) × Int × Int) × (Int × Int × Int × (List (Int × Int × Unit)) × (List (Int × Int × Int × Int × Unit)) × (List (Int × Int × Unit)) × Int × Int × Int × Int × Unit) × Unit) : Option (((Int × Int × Unit × (List (Int × Int × Int × Int × Unit)) × Int × Int) × (Int × Int × Int × (List (Int × Int × Unit)) × (List (Int × Int × Int × Int × Unit)) × (List (Int × Int × Unit)) × Int × Int × Int × Int × Unit) × Unit) ⊕ ((Unit × (Int × Int × Int × (List (Int × Int × Unit)) × (List (Int × Int × Int × Int × Unit)) × (List (Int × Int × Unit)) × Int × Int × Int × Int × Unit) × Unit) ⊕ Bool)) :=
  bif decide (v.1.2.2.2.2.2 < v.1.2.2.2.2.1) then nthK v.1.2.2.2.1 v.1.2.2.2.2.2 fun e13 => bif (e13.1 : Int) != v.2.1.2.1 then some (Sum.inr (Sum.inr false)) else bif decide ((IntKind.i64.wrap e13.2.1) ≥ v.1.1) then some (Sum.inr (Sum.inr false)) else bif decide ((IntKind.i64.wrap e13.2.2.1) ≥ v.1.2.1) then some (Sum.inr (Sum.inr false)) else bif decide (e13.2.2.2.1 < 1) then some (Sum.inr (Sum.inr false)) else (bif decide (v.1.2.2.2.2.2 ≥ 3) then nthK v.2.1.2.2.2.2.1 (IntKind.i64.wrap (v.1.2.2.2.2.2 - 3)) fun e14 => bif (e14.2.2.1 : Int) == e13.2.2.1 then some (Sum.inr false) else some (Sum.inl ((v.1.1, (v.1.2.1, ((), (v.1.2.2.2.2.2, ((), v.1.2.2.2))))), (v.2.1, (e13, ())))) else some (Sum.inl ((v.1.1, (v.1.2.1, ((), (v.1.2.2.2.2.2, ((), v.1.2.2.2))))), (v.2.1, (e13, ())))) : Option (((Int × Int × Unit × Int × Unit × (List (Int × Int × Int × Int × Unit)) × Int × Int) × (Int × Int × Int × (List (Int × Int × Unit)) × (List (Int × Int × Int × Int × Unit)) × (List (Int × Int × Unit)) × Int × Int × Int × Int × Unit) × (Int × Int × Int × Int × Unit) × Unit) ⊕ Bool)).bind fun y15 => (match y15 with | .inl y16 => bif decide (y16.1.2.2.2.1 > 0) then nthK y16.2.1.2.2.2.2.1 (IntKind.i64.wrap (y16.1.2.2.2.1 - 1)) fun e18 => bif decide (e18.2.2.1 > y16.2.2.1.2.2.1) then some (Sum.inr (Sum.inr false)) else nthK y16.2.1.2.2.2.2.1 (IntKind.i64.wrap (y16.1.2.2.2.1 - 1)) fun e19 => bif (e19.2.2.1 : Int) == y16.2.2.1.2.2.1 then nthK y16.2.1.2.2.2.2.1 (IntKind.i64.wrap (y16.1.2.2.2.1 - 1)) fun e20 => bif decide (e20.2.1 ≥ y16.2.2.1.2.1) then some (Sum.inr (Sum.inr false)) else some (Sum.inl ((y16.1.1, (y16.1.2.1, ((), (y16.1.2.2.2.2.2.1, (y16.1.2.2.2.2.2.2.1, IntKind.i64.wrap (y16.1.2.2.2.2.2.2.2 + 1)))))), (y16.2.1, ()))) else some (Sum.inl ((y16.1.1, (y16.1.2.1, ((), (y16.1.2.2.2.2.2.1, (y16.1.2.2.2.2.2.2.1, IntKind.i64.wrap (y16.1.2.2.2.2.2.2.2 + 1)))))), (y16.2.1, ()))) else some (Sum.inl ((y16.1.1, (y16.1.2.1, ((), (y16.1.2.2.2.2.2.1, (y16.1.2.2.2.2.2.2.1, IntKind.i64.wrap (y16.1.2.2.2.2.2.2.2 + 1)))))), (y16.2.1, ()))) | .inr y17 => some (Sum.inr (Sum.inr y17))) else some (Sum.inr (Sum.inl ((), (v.2.1, ()))))
def prog_takes (x0 : Int) (x1 : Int) (x2 : Int × Int × Int × (List (Int × Int × Unit)) × (List (Int × Int × Int × Int × Unit)) × (List (Int × Int × Unit)) × Int × Int × Int × Int × Unit) : Option Bool :=
  (iterL prog_takes.l1 loopN ((x0, (x1, ((), (x2.2.2.2.2.1, ((x2.2.2.2.2.1.length : Int), 0))))), (x2, ()))).bind fun y21 => (match y21 with | .inl y22 => some (decide ((y22.2.1.2.2.2.2.1.length : Int) ≤ 12)) | .inr y23 => some y23)
def prog_takes.C : Ctx := { ty := tyT, sigs := fun i => [], n := 98, mp := mpT }
def prog_takes.Q : Cuts := { np := 0, loops := fun i => bif Nat.beq i 2 then some ({ env := [(0, .val (.int .i64)), (1, .val (.int .i64)), (5, .ptr 0), (10, .val (.slice kTake)), (11, .val (.int .i64)), (12, .val (.int .i64))], objs := [.cell kProgram (.val kProgram)] }, [(.exit 0, { env := [(5, .ptr 0)], objs := [.cell kProgram (.val kProgram)] }), (.ret, { env := [(6, .val .bool)], objs := [] })]) else none, seqs := fun i => bif Nat.beq i 8 then some [(.normal, { env := [(0, .val (.int .i64)), (1, .val (.int .i64)), (5, .ptr 0), (7, .val (.int .i64)), (8, .ptr 1), (10, .val (.slice kTake)), (11, .val (.int .i64)), (12, .val (.int .i64))], objs := [.cell kProgram (.val kProgram), .cell kTake (.val kTake)] }), (.ret, { env := [(6, .val .bool)], objs := [] })] else none, splits := fun i => none }
def prog_takes.sig : Sig := { args := .tc (.val (.int .i64)) (.tc (.val (.int .i64)) (.tc (.val kProgram) .tn)), objs := [], ret := .val .bool, outs := [], F := fun x => prog_takes x.1.1 x.1.2.1 x.1.2.2.1 }
theorem prog_takes.eq : (fun x => body prog_takes.C prog_takes.Q Go.Proofs.Try.f64 prog_takes.sig.args prog_takes.sig.objs prog_takes.sig.ret prog_takes.sig.outs x) = prog_takes.sig.F := by
  kernel_rfl
set_option maxRecDepth 100000 in
theorem prog_takes.ctx : CtxOk Go.Proofs.Try.prog prog_takes.C := ⟨tyOk, mpOk, Nat.le_of_ble_eq_true (by kernel_rfl), fun f sg => (fun h => by cases h)⟩
set_option maxRecDepth 100000 in
theorem prog_takes.ok : Sound Go.Proofs.Try.prog 64 prog_takes.sig := body_sound (C := prog_takes.C) (q := prog_takes.Q) (fn := Go.Proofs.Try.f64) (sg := prog_takes.sig) (n := 3) prog_takes.ctx follows Go.Proofs.Try.func64 (by kernel_rfl) (by kernel_rfl) (by kernel_rfl) (by kernel_rfl) (Nat.le_of_ble_eq_true (by kernel_rfl)) (by kernel_rfl) prog_takes.eq

def bits_Add64.sig : Sig := { args := .tc (.val (.int .u64)) (.tc (.val (.int .u64)) (.tc (.val (.int .u64)) .tn)), objs := [], ret := .tup (.tc (.val (.int .u64)) (.tc (.val (.int .u64)) .tn)), outs := [], F := fun x => add64 x.1.1 x.1.2.1 x.1.2.2.1 }
set_option maxRecDepth 100000 in
theorem bits_Add64.ok : Sound Go.Proofs.Try.prog 97 bits_Add64.sig := add64_sound Go.Proofs.Try.func97 (by kernel_rfl) (by kernel_rfl) (by kernel_rfl) (by kernel_rfl)

def calc_Sum.l1 (v : Int × Int × List Int × Int × Int) : Option ((Int × Int × List Int × Int × Int) ⊕ (Int × Int)) :=
  bif decide (v.2.2.2.2 < v.2.2.2.1) then nthK v.2.2.1 v.2.2.2.2 fun e35 => (add64 v.2.1 (IntKind.u64.wrap e35) 0).bind fun r36 => (add64 v.1 (IntKind.u64.wrap (Int.fdiv e35 (2 ^ 63))) r36.2.1).bind fun r37 => some (Sum.inl (r37.1, (r36.1, (v.2.2.1, (v.2.2.2.1, IntKind.i64.wrap (v.2.2.2.2 + 1)))))) else some (Sum.inr (v.1, v.2.1))
def calc_Sum (x0 : List Int) : Option (Int × Bool × Unit) :=
  (iterL calc_Sum.l1 loopN (0, (0, (x0, ((x0.length : Int), 0))))).bind fun y38 => bif (IntKind.u64.wrap (Int.fdiv (IntKind.i64.wrap y38.2) (2 ^ 63)) : Int) == y38.1 then some (IntKind.i64.wrap y38.2, (true, ())) else some (0, (false, ()))
def calc_Sum.C : Ctx := { ty := tyT, sigs := fun i => bif Nat.beq i 97 then [bits_Add64.sig] else [], n := 41, mp := mpT }
def calc_Sum.Q : Cuts := { np := 0, loops := fun i => bif Nat.beq i 3 then some ({ env := [(4, .val (.int .u64)), (5, .val (.int .u64)), (10, .val (.slice (.int .i64))), (11, .val (.int .i64)), (12, .val (.int .i64))], objs := [] }, [(.exit 0, { env := [(4, .val (.int .u64)), (5, .val (.int .u64))], objs := [] })]) else none, seqs := fun i => none, splits := fun i => none }
def calc_Sum.sig : Sig := { args := .tc (.val (.slice (.int .i64))) .tn, objs := [], ret := .tup (.tc (.val (.int .i64)) (.tc (.val .bool) .tn)), outs := [], F := fun x => calc_Sum x.1.1 }
theorem calc_Sum.eq : (fun x => body calc_Sum.C calc_Sum.Q Go.Proofs.Try.f87 calc_Sum.sig.args calc_Sum.sig.objs calc_Sum.sig.ret calc_Sum.sig.outs x) = calc_Sum.sig.F := by
  kernel_rfl
set_option maxRecDepth 100000 in
theorem calc_Sum.ctx : CtxOk Go.Proofs.Try.prog calc_Sum.C := ⟨tyOk, mpOk, Nat.le_of_ble_eq_true (by kernel_rfl), fun f sg => fun h => sigs_if h (allS_cons bits_Add64.ok allS_nil) ((fun h => by cases h))⟩
set_option maxRecDepth 100000 in
theorem calc_Sum.ok : Sound Go.Proofs.Try.prog 87 calc_Sum.sig := body_sound (C := calc_Sum.C) (q := calc_Sum.Q) (fn := Go.Proofs.Try.f87) (sg := calc_Sum.sig) (n := 1) calc_Sum.ctx follows Go.Proofs.Try.func87 (by kernel_rfl) (by kernel_rfl) (by kernel_rfl) (by kernel_rfl) (Nat.le_of_ble_eq_true (by kernel_rfl)) (by kernel_rfl) calc_Sum.eq

def prog_covered.l1 (v : (Unit × Unit × (List (Int × Int × Int × Int × Unit)) × Int × Int) × (Int × Int × Int × (List (Int × Int × Unit)) × (List (Int × Int × Int × Int × Unit)) × (List (Int × Int × Unit)) × Int × Int × Int × Int × Unit) × (Unit × Unit × Unit × Unit × Unit) × List Int × List Int × List Int × List Int × Unit) : Option (((Unit × Unit × (List (Int × Int × Int × Int × Unit)) × Int × Int) × (Int × Int × Int × (List (Int × Int × Unit)) × (List (Int × Int × Int × Int × Unit)) × (List (Int × Int × Unit)) × Int × Int × Int × Int × Unit) × (Unit × Unit × Unit × Unit × Unit) × List Int × List Int × List Int × List Int × Unit) ⊕ ((Unit × Unit) × (Int × Int × Int × (List (Int × Int × Unit)) × (List (Int × Int × Int × Int × Unit)) × (List (Int × Int × Unit)) × Int × Int × Int × Int × Unit) × (Unit × Unit × Unit × Unit × Unit) × List Int × List Int × List Int × List Int × Unit)) :=
  bif decide (v.1.2.2.2.2 < v.1.2.2.2.1) then nthK v.1.2.2.1 v.1.2.2.2.2 fun e26 => split4n e26.2.1 (room (v.2.2.2.1.length + [e26.2.2.2.1].length) (some (Sum.inl (((), ((), (v.1.2.2.1, (v.1.2.2.2.1, IntKind.i64.wrap (v.1.2.2.2.2 + 1))))), (v.2.1, (((), ((), ((), ((), ())))), (v.2.2.2.1 ++ [e26.2.2.2.1], (v.2.2.2.2.1, (v.2.2.2.2.2.1, (v.2.2.2.2.2.2.1, ())))))))))) (room (v.2.2.2.2.1.length + [e26.2.2.2.1].length) (some (Sum.inl (((), ((), (v.1.2.2.1, (v.1.2.2.2.1, IntKind.i64.wrap (v.1.2.2.2.2 + 1))))), (v.2.1, (((), ((), ((), ((), ())))), (v.2.2.2.1, (v.2.2.2.2.1 ++ [e26.2.2.2.1], (v.2.2.2.2.2.1, (v.2.2.2.2.2.2.1, ())))))))))) (room (v.2.2.2.2.2.1.length + [e26.2.2.2.1].length) (some (Sum.inl (((), ((), (v.1.2.2.1, (v.1.2.2.2.1, IntKind.i64.wrap (v.1.2.2.2.2 + 1))))), (v.2.1, (((), ((), ((), ((), ())))), (v.2.2.2.1, (v.2.2.2.2.1, (v.2.2.2.2.2.1 ++ [e26.2.2.2.1], (v.2.2.2.2.2.2.1, ())))))))))) (room (v.2.2.2.2.2.2.1.length + [e26.2.2.2.1].length) (some (Sum.inl (((), ((), (v.1.2.2.1, (v.1.2.2.2.1, IntKind.i64.wrap (v.1.2.2.2.2 + 1))))), (v.2.1, (((), ((), ((), ((), ())))), (v.2.2.2.1, (v.2.2.2.2.1, (v.2.2.2.2.2.1, (v.2.2.2.2.2.2.1 ++ [e26.2.2.2.1], ())))))))))) else some (Sum.inr (((), ()), (v.2.1, (((), ((), ((), ((), ())))), (v.2.2.2.1, (v.2.2.2.2.1, (v.2.2.2.2.2.1, (v.2.2.2.2.2.2.1, ()))))))))
def prog_covered.l2 (v : (Unit × Unit × (List (Int × Int × Unit)) × Int × Int) × (Int × Int × Int × (List (Int × Int × Unit)) × (List (Int × Int × Int × Int × Unit)) × (List (Int × Int × Unit)) × Int × Int × Int × Int × Unit) × (Unit × Unit × Unit × Unit × Unit) × List Int × List Int × List Int × List Int × Unit) : Option (((Unit × Unit × (List (Int × Int × Unit)) × Int × Int) × (Int × Int × Int × (List (Int × Int × Unit)) × (List (Int × Int × Int × Int × Unit)) × (List (Int × Int × Unit)) × Int × Int × Int × Int × Unit) × (Unit × Unit × Unit × Unit × Unit) × List Int × List Int × List Int × List Int × Unit) ⊕ ((Unit × Unit) × (Int × Int × Int × (List (Int × Int × Unit)) × (List (Int × Int × Int × Int × Unit)) × (List (Int × Int × Unit)) × Int × Int × Int × Int × Unit) × (Unit × Unit × Unit × Unit × Unit) × List Int × List Int × List Int × List Int × Unit)) :=
  bif decide (v.1.2.2.2.2 < v.1.2.2.2.1) then nthK v.1.2.2.1 v.1.2.2.2.2 fun e28 => split4n e28.1 (room (v.2.2.2.1.length + [e28.2.1].length) (some (Sum.inl (((), ((), (v.1.2.2.1, (v.1.2.2.2.1, IntKind.i64.wrap (v.1.2.2.2.2 + 1))))), (v.2.1, (((), ((), ((), ((), ())))), (v.2.2.2.1 ++ [e28.2.1], (v.2.2.2.2.1, (v.2.2.2.2.2.1, (v.2.2.2.2.2.2.1, ())))))))))) (room (v.2.2.2.2.1.length + [e28.2.1].length) (some (Sum.inl (((), ((), (v.1.2.2.1, (v.1.2.2.2.1, IntKind.i64.wrap (v.1.2.2.2.2 + 1))))), (v.2.1, (((), ((), ((), ((), ())))), (v.2.2.2.1, (v.2.2.2.2.1 ++ [e28.2.1], (v.2.2.2.2.2.1, (v.2.2.2.2.2.2.1, ())))))))))) (room (v.2.2.2.2.2.1.length + [e28.2.1].length) (some (Sum.inl (((), ((), (v.1.2.2.1, (v.1.2.2.2.1, IntKind.i64.wrap (v.1.2.2.2.2 + 1))))), (v.2.1, (((), ((), ((), ((), ())))), (v.2.2.2.1, (v.2.2.2.2.1, (v.2.2.2.2.2.1 ++ [e28.2.1], (v.2.2.2.2.2.2.1, ())))))))))) (room (v.2.2.2.2.2.2.1.length + [e28.2.1].length) (some (Sum.inl (((), ((), (v.1.2.2.1, (v.1.2.2.2.1, IntKind.i64.wrap (v.1.2.2.2.2 + 1))))), (v.2.1, (((), ((), ((), ((), ())))), (v.2.2.2.1, (v.2.2.2.2.1, (v.2.2.2.2.2.1, (v.2.2.2.2.2.2.1 ++ [e28.2.1], ())))))))))) else some (Sum.inr (((), ()), (v.2.1, (((), ((), ((), ((), ())))), (v.2.2.2.1, (v.2.2.2.2.1, (v.2.2.2.2.2.1, (v.2.2.2.2.2.2.1, ()))))))))
def prog_covered.l3 (v : (Unit × Unit × (List (Int × Int × Unit)) × Int × Int) × (Unit × Unit × Unit × Unit × Unit) × List Int × List Int × List Int × List Int × List Int × Unit) : Option (((Unit × Unit × (List (Int × Int × Unit)) × Int × Int) × (Unit × Unit × Unit × Unit × Unit) × List Int × List Int × List Int × List Int × List Int × Unit) ⊕ ((Unit × Unit) × (Unit × Unit × Unit × Unit × Unit) × List Int × List Int × List Int × List Int × List Int × Unit)) :=
  bif decide (v.1.2.2.2.2 < v.1.2.2.2.1) then nthK v.1.2.2.1 v.1.2.2.2.2 fun e30 => chk (decide (0 ≤ e30.1) && decide (e30.1 < 4)) (natK e30.1 fun n31 => nthN v.2.2.1 n31 fun e32 => some (Sum.inl (((), ((), (v.1.2.2.1, (v.1.2.2.2.1, IntKind.i64.wrap (v.1.2.2.2.2 + 1))))), (((), ((), ((), ((), ())))), (v.2.2.1.set n31 e30.2.1, (v.2.2.2.1, (v.2.2.2.2.1, (v.2.2.2.2.2.1, (v.2.2.2.2.2.2.1, ()))))))))) else some (Sum.inr (((), ()), (((), ((), ((), ((), ())))), (v.2.2.1, (v.2.2.2.1, (v.2.2.2.2.1, (v.2.2.2.2.2.1, (v.2.2.2.2.2.2.1, ()))))))))
def prog_covered.l4 (v : (Unit × (Unit × Unit × Unit × Unit × Unit) × Int) × List Int × List Int × List Int × List Int × List Int × Unit) : Option (((Unit × (Unit × Unit × Unit × Unit × Unit) × Int) × List Int × List Int × List Int × List Int × List Int × Unit) ⊕ (Unit ⊕ Bool)) :=
  bif decide (v.1.2.2 < 4) then (split4n v.1.2.2 (some ((((), (0, (v.2.2.1, (((), ((), ((), ((), ())))), 0)))), (v.2.1, (v.2.2.1, (v.2.2.2.1, (v.2.2.2.2.1, (v.2.2.2.2.2.1, ())))))))) (some ((((), (1, (v.2.2.2.1, (((), ((), ((), ((), ())))), 1)))), (v.2.1, (v.2.2.1, (v.2.2.2.1, (v.2.2.2.2.1, (v.2.2.2.2.2.1, ())))))))) (some ((((), (2, (v.2.2.2.2.1, (((), ((), ((), ((), ())))), 2)))), (v.2.1, (v.2.2.1, (v.2.2.2.1, (v.2.2.2.2.1, (v.2.2.2.2.2.1, ())))))))) (some ((((), (3, (v.2.2.2.2.2.1, (((), ((), ((), ((), ())))), 3)))), (v.2.1, (v.2.2.1, (v.2.2.2.1, (v.2.2.2.2.1, (v.2.2.2.2.2.1, ())))))))) : Option ((Unit × Int × List Int × (Unit × Unit × Unit × Unit × Unit) × Int) × List Int × List Int × List Int × List Int × List Int × Unit)).bind fun y34 => (calc_Sum y34.1.2.2.1).bind fun r35 => bif !r35.2.1 then some (Sum.inr (Sum.inr false)) else chk (decide (0 ≤ y34.1.2.1) && decide (y34.1.2.1 < 4)) (nthK y34.2.1 y34.1.2.1 fun e36 => bif (r35.1 : Int) != e36 then some (Sum.inr (Sum.inr false)) else some (Sum.inl (((), (((), ((), ((), ((), ())))), IntKind.i64.wrap (y34.1.2.2.2.2 + 1))), (y34.2.1, (y34.2.2.1, (y34.2.2.2.1, (y34.2.2.2.2.1, (y34.2.2.2.2.2.1, ())))))))) else some (Sum.inr (Sum.inl ()))
def prog_covered (x0 : Int × Int × Int × (List (Int × Int × Unit)) × (List (Int × Int × Int × Int × Unit)) × (List (Int × Int × Unit)) × Int × Int × Int × Int × Unit) : Option Bool :=
  (iterL prog_covered.l1 loopN (((), ((), (x0.2.2.2.2.1, ((x0.2.2.2.2.1.length : Int), 0)))), (x0, (((), ((), ((), ((), ())))), ([], ([], ([], ([], ())))))))).bind fun y27 => (iterL prog_covered.l2 loopN (((), ((), (y27.2.1.2.2.2.2.2.1, ((y27.2.1.2.2.2.2.2.1.length : Int), 0)))), (y27.2.1, (((), ((), ((), ((), ())))), (y27.2.2.2.1, (y27.2.2.2.2.1, (y27.2.2.2.2.2.1, (y27.2.2.2.2.2.2.1, ())))))))).bind fun y29 => (iterL prog_covered.l3 loopN (((), ((), (y29.2.1.2.2.2.1, ((y29.2.1.2.2.2.1.length : Int), 0)))), (((), ((), ((), ((), ())))), (List.replicate 4 0, (y29.2.2.2.1, (y29.2.2.2.2.1, (y29.2.2.2.2.2.1, (y29.2.2.2.2.2.2.1, ())))))))).bind fun y33 => (iterL prog_covered.l4 loopN (((), (((), ((), ((), ((), ())))), 0)), (y33.2.2.1, (y33.2.2.2.1, (y33.2.2.2.2.1, (y33.2.2.2.2.2.1, (y33.2.2.2.2.2.2.1, ()))))))).bind fun y37 => (match y37 with | .inl y38 => some true | .inr y39 => some y39)
def prog_covered.C : Ctx := { ty := tyT, sigs := fun i => bif Nat.beq i 87 then [calc_Sum.sig] else [], n := 86, mp := mpT }
def prog_covered.Q : Cuts := { np := 0, loops := fun i => bif Nat.beq i 3 then some ({ env := [(1, .ptr 0), (3, .ptr 1), (16, .val (.slice kTake)), (17, .val (.int .i64)), (18, .val (.int .i64))], objs := [.cell kProgram (.val kProgram), .cell (.arr 4 (.slice (.int .i64))) (.pair (.row 2) (.pair (.row 3) (.pair (.row 4) (.pair (.row 5) .unit)))), .row (.int .i64) false, .row (.int .i64) false, .row (.int .i64) false, .row (.int .i64) false] }, [(.exit 0, { env := [(1, .ptr 0), (3, .ptr 1)], objs := [.cell kProgram (.val kProgram), .cell (.arr 4 (.slice (.int .i64))) (.pair (.row 2) (.pair (.row 3) (.pair (.row 4) (.pair (.row 5) .unit)))), .row (.int .i64) false, .row (.int .i64) false, .row (.int .i64) false, .row (.int .i64) false] })]) else bif Nat.beq i 8 then some ({ env := [(1, .ptr 0), (3, .ptr 1), (35, .val (.slice kLine)), (36, .val (.int .i64)), (37, .val (.int .i64))], objs := [.cell kProgram (.val kProgram), .cell (.arr 4 (.slice (.int .i64))) (.pair (.row 2) (.pair (.row 3) (.pair (.row 4) (.pair (.row 5) .unit)))), .row (.int .i64) false, .row (.int .i64) false, .row (.int .i64) false, .row (.int .i64) false] }, [(.exit 2, { env := [(1, .ptr 0), (3, .ptr 1)], objs := [.cell kProgram (.val kProgram), .cell (.arr 4 (.slice (.int .i64))) (.pair (.row 2) (.pair (.row 3) (.pair (.row 4) (.pair (.row 5) .unit)))), .row (.int .i64) false, .row (.int .i64) false, .row (.int .i64) false, .row (.int .i64) false] })]) else bif Nat.beq i 14 then some ({ env := [(3, .ptr 0), (8, .ptr 1), (54, .val (.slice kLine)), (55, .val (.int .i64)), (56, .val (.int .i64))], objs := [.cell (.arr 4 (.slice (.int .i64))) (.pair (.row 2) (.pair (.row 3) (.pair (.row 4) (.pair (.row 5) .unit)))), .cell (.arr 4 (.int .i64)) (.val (.arr 4 (.int .i64))), .row (.int .i64) false, .row (.int .i64) false, .row (.int .i64) false, .row (.int .i64) false] }, [(.exit 4, { env := [(3, .ptr 0), (8, .ptr 1)], objs := [.cell (.arr 4 (.slice (.int .i64))) (.pair (.row 2) (.pair (.row 3) (.pair (.row 4) (.pair (.row 5) .unit)))), .cell (.arr 4 (.int .i64)) (.val (.arr 4 (.int .i64))), .row (.int .i64) false, .row (.int .i64) false, .row (.int .i64) false, .row (.int .i64) false] })]) else bif Nat.beq i 19 then some ({ env := [(8, .ptr 0), (66, .pair (.row 1) (.pair (.row 2) (.pair (.row 3) (.pair (.row 4) .unit)))), (67, .val (.int .i64))], objs := [.cell (.arr 4 (.int .i64)) (.val (.arr 4 (.int .i64))), .row (.int .i64) true, .row (.int .i64) true, .row (.int .i64) true, .row (.int .i64) true] }, [(.exit 6, { env := [], objs := [] }), (.ret, { env := [(2, .val .bool)], objs := [] })]) else none, seqs := fun i => bif Nat.beq i 21 then some [(.normal, { env := [(8, .ptr 0), (11, .val (.int .i64)), (12, .val (.slice (.int .i64))), (66, .pair (.row 1) (.pair (.row 2) (.pair (.row 3) (.pair (.row 4) .unit)))), (67, .val (.int .i64))], objs := [.cell (.arr 4 (.int .i64)) (.val (.arr 4 (.int .i64))), .row (.int .i64) true, .row (.int .i64) true, .row (.int .i64) true, .row (.int .i64) true] })] else none, splits := fun i => bif Nat.beq i 5 then some (5, some [1]) else bif Nat.beq i 10 then some (7, some [0]) else bif Nat.beq i 20 then some (67, none) else none }
def prog_covered.sig : Sig := { args := .tc (.val kProgram) .tn, objs := [], ret := .val .bool, outs := [], F := fun x => prog_covered x.1.1 }
theorem prog_covered.eq : (fun x => body prog_covered.C prog_covered.Q Go.Proofs.Try.f65 prog_covered.sig.args prog_covered.sig.objs prog_covered.sig.ret prog_covered.sig.outs x) = prog_covered.sig.F := by
  kernel_rfl
set_option maxRecDepth 100000 in
theorem prog_covered.ctx : CtxOk Go.Proofs.Try.prog prog_covered.C := ⟨tyOk, mpOk, Nat.le_of_ble_eq_true (by kernel_rfl), fun f sg => fun h => sigs_if h (allS_cons calc_Sum.ok allS_nil) ((fun h => by cases h))⟩
set_option maxRecDepth 100000 in
theorem prog_covered.ok : Sound Go.Proofs.Try.prog 65 prog_covered.sig := body_sound (C := prog_covered.C) (q := prog_covered.Q) (fn := Go.Proofs.Try.f65) (sg := prog_covered.sig) (n := 1) prog_covered.ctx follows Go.Proofs.Try.func65 (by kernel_rfl) (by kernel_rfl) (by kernel_rfl) (by kernel_rfl) (Nat.le_of_ble_eq_true (by kernel_rfl)) (by kernel_rfl) prog_covered.eq

def prog_together.l1 (v : (Unit × (List (Int × Int × Int × Int × Unit)) × Int × Int) × List Int × Unit) : Option (((Unit × (List (Int × Int × Int × Int × Unit)) × Int × Int) × List Int × Unit) ⊕ (Unit × List Int × Unit)) :=
  bif decide (v.1.2.2.2 < v.1.2.2.1) then nthK v.1.2.1 v.1.2.2.2 fun e51 => room (v.2.1.length + [e51.2.2.2.1].length) (some (Sum.inl (((), (v.1.2.1, (v.1.2.2.1, IntKind.i64.wrap (v.1.2.2.2 + 1)))), (v.2.1 ++ [e51.2.2.2.1], ())))) else some (Sum.inr ((), (v.2.1, ())))
def prog_together (x0 : List (Int × Int × Int × Int × Unit)) : Option (Int × Bool × Unit) :=
  (iterL prog_together.l1 loopN (((), (x0, ((x0.length : Int), 0))), ([], ()))).bind fun y52 => (calc_Sum y52.2.1).bind fun r53 => some (r53.1, (r53.2.1, ()))
def prog_together.C : Ctx := { ty := tyT, sigs := fun i => bif Nat.beq i 87 then [calc_Sum.sig] else [], n := 23, mp := mpT }
def prog_together.Q : Cuts := { np := 0, loops := fun i => bif Nat.beq i 3 then some ({ env := [(4, .row 0), (7, .val (.slice kTake)), (8, .val (.int .i64)), (9, .val (.int .i64))], objs := [.row (.int .i64) false] }, [(.exit 0, { env := [(4, .row 0)], objs := [.row (.int .i64) false] })]) else none, seqs := fun i => none, splits := fun i => none }
def prog_together.sig : Sig := { args := .tc (.val (.slice kTake)) .tn, objs := [], ret := .tup (.tc (.val (.int .i64)) (.tc (.val .bool) .tn)), outs := [], F := fun x => prog_together x.1.1 }
theorem prog_together.eq : (fun x => body prog_together.C prog_together.Q Go.Proofs.Try.f77 prog_together.sig.args prog_together.sig.objs prog_together.sig.ret prog_together.sig.outs x) = prog_together.sig.F := by
  kernel_rfl
set_option maxRecDepth 100000 in
theorem prog_together.ctx : CtxOk Go.Proofs.Try.prog prog_together.C := ⟨tyOk, mpOk, Nat.le_of_ble_eq_true (by kernel_rfl), fun f sg => fun h => sigs_if h (allS_cons calc_Sum.ok allS_nil) ((fun h => by cases h))⟩
set_option maxRecDepth 100000 in
theorem prog_together.ok : Sound Go.Proofs.Try.prog 77 prog_together.sig := body_sound (C := prog_together.C) (q := prog_together.Q) (fn := Go.Proofs.Try.f77) (sg := prog_together.sig) (n := 1) prog_together.ctx follows Go.Proofs.Try.func77 (by kernel_rfl) (by kernel_rfl) (by kernel_rfl) (by kernel_rfl) (Nat.le_of_ble_eq_true (by kernel_rfl)) (by kernel_rfl) prog_together.eq

def prog_fills.l1 (v : (Unit × Unit × (List (Int × Int × Int × Int × Unit)) × Int × Int) × (Int × Int × Int × (List (Int × Int × Unit)) × (List (Int × Int × Int × Int × Unit)) × (List (Int × Int × Unit)) × Int × Int × Int × Int × Unit) × (List (Int × Int)) × Unit) : Option (((Unit × Unit × (List (Int × Int × Int × Int × Unit)) × Int × Int) × (Int × Int × Int × (List (Int × Int × Unit)) × (List (Int × Int × Int × Int × Unit)) × (List (Int × Int × Unit)) × Int × Int × Int × Int × Unit) × (List (Int × Int)) × Unit) ⊕ ((Unit × (Int × Int × Int × (List (Int × Int × Unit)) × (List (Int × Int × Int × Int × Unit)) × (List (Int × Int × Unit)) × Int × Int × Int × Int × Unit) × Unit) ⊕ Bool)) :=
  bif decide (v.1.2.2.2.2 < v.1.2.2.2.1) then nthK v.1.2.2.1 v.1.2.2.2.2 fun e47 => bif decide ((getM (.int .u32) (.int .i64) (putM (.int .u32) (.int .i64) v.2.2.1 e47.1 (IntKind.i64.wrap ((getM (.int .u32) (.int .i64) v.2.2.1 e47.1) + 1))) e47.1) > 1) then some (Sum.inr (Sum.inr false)) else bif (e47.1 : Int) == 0 then some (Sum.inr (Sum.inr false)) else bif (e47.2.1 : Int) != v.2.1.2.2.2.2.2.2.1 then some (Sum.inr (Sum.inr false)) else bif (e47.2.2.1 : Int) != v.2.1.2.2.2.2.2.2.2.2.1 then some (Sum.inr (Sum.inr false)) else bif decide (e47.2.2.2.1 < 1) then some (Sum.inr (Sum.inr false)) else some (Sum.inl (((), ((), (v.1.2.2.1, (v.1.2.2.2.1, IntKind.i64.wrap (v.1.2.2.2.2 + 1))))), (v.2.1, (putM (.int .u32) (.int .i64) v.2.2.1 e47.1 (IntKind.i64.wrap ((getM (.int .u32) (.int .i64) v.2.2.1 e47.1) + 1)), ())))) else some (Sum.inr (Sum.inl ((), (v.2.1, ()))))
def prog_fills (x0 : Int × Int × Int × (List (Int × Int × Unit)) × (List (Int × Int × Int × Int × Unit)) × (List (Int × Int × Unit)) × Int × Int × Int × Int × Unit) : Option Bool :=
  (iterL prog_fills.l1 loopN (((), ((), (x0.2.2.2.2.1, ((x0.2.2.2.2.1.length : Int), 0)))), (x0, ([], ())))).bind fun y48 => (match y48 with | .inl y49 => (prog_together y49.2.1.2.2.2.2.1).bind fun r51 => bif decide ((y49.2.1.2.2.2.2.1.length : Int) ≤ 12) then bif r51.2.1 then some (decide (r51.1 ≤ y49.2.1.2.2.2.2.2.2.2.2.2.1)) else some false else some false | .inr y50 => some y50)
def prog_fills.C : Ctx := { ty := tyT, sigs := fun i => bif Nat.beq i 77 then [prog_together.sig] else [], n := 70, mp := mpT }
def prog_fills.Q : Cuts := { np := 0, loops := fun i => bif Nat.beq i 3 then some ({ env := [(1, .ptr 0), (3, .mapr 1), (10, .val (.slice kTake)), (11, .val (.int .i64)), (12, .val (.int .i64))], objs := [.cell kProgram (.val kProgram), .map (.int .u32) (.int .i64)] }, [(.exit 0, { env := [(1, .ptr 0)], objs := [.cell kProgram (.val kProgram)] }), (.ret, { env := [(2, .val .bool)], objs := [] })]) else none, seqs := fun i => none, splits := fun i => none }
def prog_fills.sig : Sig := { args := .tc (.val kProgram) .tn, objs := [], ret := .val .bool, outs := [], F := fun x => prog_fills x.1.1 }
theorem prog_fills.eq : (fun x => body prog_fills.C prog_fills.Q Go.Proofs.Try.f66 prog_fills.sig.args prog_fills.sig.objs prog_fills.sig.ret prog_fills.sig.outs x) = prog_fills.sig.F := by
  kernel_rfl
set_option maxRecDepth 100000 in
theorem prog_fills.ctx : CtxOk Go.Proofs.Try.prog prog_fills.C := ⟨tyOk, mpOk, Nat.le_of_ble_eq_true (by kernel_rfl), fun f sg => fun h => sigs_if h (allS_cons prog_together.ok allS_nil) ((fun h => by cases h))⟩
set_option maxRecDepth 100000 in
theorem prog_fills.ok : Sound Go.Proofs.Try.prog 66 prog_fills.sig := body_sound (C := prog_fills.C) (q := prog_fills.Q) (fn := Go.Proofs.Try.f66) (sg := prog_fills.sig) (n := 1) prog_fills.ctx follows Go.Proofs.Try.func66 (by kernel_rfl) (by kernel_rfl) (by kernel_rfl) (by kernel_rfl) (Nat.le_of_ble_eq_true (by kernel_rfl)) (by kernel_rfl) prog_fills.eq

def prog_Good (x0 : Int) (x1 : Int) (x2 : Int × Int × Int × (List (Int × Int × Unit)) × (List (Int × Int × Int × Int × Unit)) × (List (Int × Int × Unit)) × Int × Int × Int × Int × Unit) : Option Bool :=
  bif decide (x0 < 1) then some false else bif decide (x0 > 4) then some false else bif decide (x1 < 1) then some false else bif decide (x1 > 4) then some false else (bif (x2.2.1 : Int) != 0 then (prog_still x2).bind fun r3 => some (((x0, (x1, ((), r3))), (x2, ()))) else some (((x0, (x1, ((), false))), (x2, ()))) : Option ((Int × Int × Unit × Bool) × (Int × Int × Int × (List (Int × Int × Unit)) × (List (Int × Int × Int × Int × Unit)) × (List (Int × Int × Unit)) × Int × Int × Int × Int × Unit) × Unit)).bind fun y4 => (bif (y4.2.1.2.1 : Int) == 0 then (prog_bare y4.2.1).bind fun r5 => bif r5 then bif ((y4.2.1.2.2.2.2.2.1.length : Int) : Int) == 0 then bif decide ((IntKind.i64.wrap y4.2.1.2.2.2.2.2.2.1) < y4.1.1) then bif decide ((IntKind.i64.wrap y4.2.1.2.2.2.2.2.2.2.2.1) < y4.1.2.1) then some (((y4.1.1, (y4.1.2.1, ((), (y4.1.2.2.2, decide (y4.2.1.2.2.2.2.2.2.2.2.2.1 ≥ 1))))), (y4.2.1, ()))) else some (((y4.1.1, (y4.1.2.1, ((), (y4.1.2.2.2, false)))), (y4.2.1, ()))) else some (((y4.1.1, (y4.1.2.1, ((), (y4.1.2.2.2, false)))), (y4.2.1, ()))) else some (((y4.1.1, (y4.1.2.1, ((), (y4.1.2.2.2, false)))), (y4.2.1, ()))) else some (((y4.1.1, (y4.1.2.1, ((), (y4.1.2.2.2, false)))), (y4.2.1, ()))) else some (((y4.1.1, (y4.1.2.1, ((), (y4.1.2.2.2, false)))), (y4.2.1, ()))) : Option ((Int × Int × Unit × Bool × Bool) × (Int × Int × Int × (List (Int × Int × Unit)) × (List (Int × Int × Int × Int × Unit)) × (List (Int × Int × Unit)) × Int × Int × Int × Int × Unit) × Unit)).bind fun y6 => bif (y6.2.1.1 : Int) == 1 then bif y6.1.2.2.2.1 then bif decide (y6.2.1.2.2.1 ≤ 1) then bif decide ((y6.2.1.2.2.2.1.length : Int) > 0) then (prog_lines y6.1.1 y6.2.1.2.2.2.1).bind fun r7 => bif r7 then (prog_takes y6.1.1 y6.1.2.1 y6.2.1).bind fun r8 => bif r8 then (prog_lines y6.1.1 y6.2.1.2.2.2.2.2.1).bind fun r9 => bif r9 then (prog_covered y6.2.1).bind fun r10 => bif r10 then bif (y6.2.1.2.2.1 : Int) == 0 then some true else some (((y6.2.1.2.2.2.2.2.1.length : Int) : Int) == 0) else some false else some false else some false else some false else some false else some false else some false else bif (y6.2.1.1 : Int) == 2 then bif y6.1.2.2.2.1 then (prog_bare y6.2.1).bind fun r11 => bif r11 then (prog_takes y6.1.1 y6.1.2.1 y6.2.1).bind fun r12 => bif r12 then (prog_lines y6.1.1 y6.2.1.2.2.2.2.2.1).bind fun r13 => bif r13 then some (decide ((IntKind.i64.wrap ((y6.2.1.2.2.2.2.1.length : Int) + (y6.2.1.2.2.2.2.2.1.length : Int))) > 0)) else some false else some false else some false else some false else (bif (y6.2.1.1 : Int) == 3 then some (((y6.1.1, (y6.1.2.1, ((), (y6.1.2.2.2.1, (y6.1.2.2.2.2, (y6.2.1.1, (y6.2.1.1 : Int) == 3)))))), (y6.2.1, ()))) else some (((y6.1.1, (y6.1.2.1, ((), (y6.1.2.2.2.1, (y6.1.2.2.2.2, (y6.2.1.1, (y6.2.1.1 : Int) == 4)))))), (y6.2.1, ()))) : Option ((Int × Int × Unit × Bool × Bool × Int × Bool) × (Int × Int × Int × (List (Int × Int × Unit)) × (List (Int × Int × Int × Int × Unit)) × (List (Int × Int × Unit)) × Int × Int × Int × Int × Unit) × Unit)).bind fun y14 => bif y14.1.2.2.2.2.2.2 then bif y14.1.2.2.2.1 then (prog_bare y14.2.1).bind fun r15 => bif r15 then (prog_takes y14.1.1 y14.1.2.1 y14.2.1).bind fun r16 => bif r16 then bif decide ((y14.2.1.2.2.2.2.1.length : Int) > 0) then some (((y14.2.1.2.2.2.2.2.1.length : Int) : Int) == 0) else some false else some false else some false else some false else bif (y14.1.2.2.2.2.2.1 : Int) == 5 then bif y14.1.2.2.2.2.1 then bif (y14.2.1.2.2.2.2.2.2.2.1 : Int) == 0 then (prog_fills y14.2.1).bind fun r17 => some r17 else some false else some false else bif (y14.1.2.2.2.2.2.1 : Int) == 6 then bif y14.1.2.2.2.2.1 then bif ((y14.2.1.2.2.2.2.1.length : Int) : Int) == 0 then bif decide ((IntKind.i64.wrap y14.2.1.2.2.2.2.2.2.2.1) < y14.1.2.1) then some ((y14.2.1.2.2.2.2.2.2.2.1 : Int) != y14.2.1.2.2.2.2.2.2.2.2.1) else some false else some false else some false else some false
def prog_Good.C : Ctx := { ty := tyT, sigs := fun i => bif Nat.beq i 61 then [prog_still.sig] else bif Nat.beq i 62 then [prog_bare.sig] else bif Nat.beq i 63 then [prog_lines.sig] else bif Nat.beq i 64 then [prog_takes.sig] else bif Nat.beq i 65 then [prog_covered.sig] else bif Nat.beq i 66 then [prog_fills.sig] else [], n := 201, mp := mpT }
def prog_Good.Q : Cuts := { np := 0, loops := fun i => none, seqs := fun i => bif Nat.beq i 4 then some [(.normal, { env := [(0, .val (.int .i64)), (1, .val (.int .i64)), (5, .ptr 0), (7, .val .bool)], objs := [.cell kProgram (.val kProgram)] })] else bif Nat.beq i 5 then some [(.normal, { env := [(0, .val (.int .i64)), (1, .val (.int .i64)), (5, .ptr 0), (7, .val .bool), (8, .val .bool)], objs := [.cell kProgram (.val kProgram)] })] else bif Nat.beq i 12 then some [(.normal, { env := [(0, .val (.int .i64)), (1, .val (.int .i64)), (5, .ptr 0), (7, .val .bool), (8, .val .bool), (63, .val (.int .u8)), (140, .val .bool)], objs := [.cell kProgram (.val kProgram)] })] else none, splits := fun i => none }
def prog_Good.sig : Sig := { args := .tc (.val (.int .i64)) (.tc (.val (.int .i64)) (.tc (.val kProgram) .tn)), objs := [], ret := .val .bool, outs := [], F := fun x => prog_Good x.1.1 x.1.2.1 x.1.2.2.1 }
theorem prog_Good.eq : (fun x => body prog_Good.C prog_Good.Q Go.Proofs.Try.f15 prog_Good.sig.args prog_Good.sig.objs prog_Good.sig.ret prog_Good.sig.outs x) = prog_Good.sig.F := by
  kernel_rfl
set_option maxRecDepth 100000 in
theorem prog_Good.ctx : CtxOk Go.Proofs.Try.prog prog_Good.C := ⟨tyOk, mpOk, Nat.le_of_ble_eq_true (by kernel_rfl), fun f sg => fun h => sigs_if h (allS_cons prog_still.ok allS_nil) (fun h => sigs_if h (allS_cons prog_bare.ok allS_nil) (fun h => sigs_if h (allS_cons prog_lines.ok allS_nil) (fun h => sigs_if h (allS_cons prog_takes.ok allS_nil) (fun h => sigs_if h (allS_cons prog_covered.ok allS_nil) (fun h => sigs_if h (allS_cons prog_fills.ok allS_nil) ((fun h => by cases h)))))))⟩
set_option maxRecDepth 100000 in
theorem prog_Good.ok : Sound Go.Proofs.Try.prog 15 prog_Good.sig := body_sound (C := prog_Good.C) (q := prog_Good.Q) (fn := Go.Proofs.Try.f15) (sg := prog_Good.sig) (n := 3) prog_Good.ctx follows Go.Proofs.Try.func15 (by kernel_rfl) (by kernel_rfl) (by kernel_rfl) (by kernel_rfl) (Nat.le_of_ble_eq_true (by kernel_rfl)) (by kernel_rfl) prog_Good.eq

def prog_one (x0 : Int) (x1 : Int) (x2 : Int) (x3 : Int) : Option (Int × Int × (List (Int × Int × Unit)) × Unit) :=
  some (x0, (x1, ([(x2, (x3, ()))], ())))
def prog_one.C : Ctx := { ty := tyT, sigs := fun i => [], n := 16, mp := mpT }
def prog_one.Q : Cuts := { np := 0, loops := fun i => none, seqs := fun i => none, splits := fun i => none }
def prog_one.sig : Sig := { args := .tc (.val (.int .u8)) (.tc (.val (.int .u8)) (.tc (.val (.int .u8)) (.tc (.val (.int .i64)) .tn))), objs := [], ret := .val kStep, outs := [], F := fun x => prog_one x.1.1 x.1.2.1 x.1.2.2.1 x.1.2.2.2.1 }
theorem prog_one.eq : (fun x => body prog_one.C prog_one.Q Go.Proofs.Try.f76 prog_one.sig.args prog_one.sig.objs prog_one.sig.ret prog_one.sig.outs x) = prog_one.sig.F := by
  kernel_rfl
set_option maxRecDepth 100000 in
theorem prog_one.ctx : CtxOk Go.Proofs.Try.prog prog_one.C := ⟨tyOk, mpOk, Nat.le_of_ble_eq_true (by kernel_rfl), fun f sg => (fun h => by cases h)⟩
set_option maxRecDepth 100000 in
theorem prog_one.ok : Sound Go.Proofs.Try.prog 76 prog_one.sig := body_sound (C := prog_one.C) (q := prog_one.Q) (fn := Go.Proofs.Try.f76) (sg := prog_one.sig) (n := 4) prog_one.ctx follows Go.Proofs.Try.func76 (by kernel_rfl) (by kernel_rfl) (by kernel_rfl) (by kernel_rfl) (Nat.le_of_ble_eq_true (by kernel_rfl)) (by kernel_rfl) prog_one.eq

def prog_tag (x0 : Int) : Option Int :=
  bif (x0 : Int) == 1 then some 1 else bif (x0 : Int) == 2 then some 2 else bif (x0 : Int) == 3 then some 3 else some 4
def prog_tag.C : Ctx := { ty := tyT, sigs := fun i => [], n := 10, mp := mpT }
def prog_tag.Q : Cuts := { np := 0, loops := fun i => none, seqs := fun i => none, splits := fun i => none }
def prog_tag.sig : Sig := { args := .tc (.val (.int .u8)) .tn, objs := [], ret := .val (.int .u8), outs := [], F := fun x => prog_tag x.1.1 }
theorem prog_tag.eq : (fun x => body prog_tag.C prog_tag.Q Go.Proofs.Try.f78 prog_tag.sig.args prog_tag.sig.objs prog_tag.sig.ret prog_tag.sig.outs x) = prog_tag.sig.F := by
  kernel_rfl
set_option maxRecDepth 100000 in
theorem prog_tag.ctx : CtxOk Go.Proofs.Try.prog prog_tag.C := ⟨tyOk, mpOk, Nat.le_of_ble_eq_true (by kernel_rfl), fun f sg => (fun h => by cases h)⟩
set_option maxRecDepth 100000 in
theorem prog_tag.ok : Sound Go.Proofs.Try.prog 78 prog_tag.sig := body_sound (C := prog_tag.C) (q := prog_tag.Q) (fn := Go.Proofs.Try.f78) (sg := prog_tag.sig) (n := 1) prog_tag.ctx follows Go.Proofs.Try.func78 (by kernel_rfl) (by kernel_rfl) (by kernel_rfl) (by kernel_rfl) (Nat.le_of_ble_eq_true (by kernel_rfl)) (by kernel_rfl) prog_tag.eq

def slices_Clone_api_Line_api_Line (x0 : List (Int × Int × Unit)) : Option (Unit × List (Int × Int × Unit) × Unit) :=
  room (0 + x0.length) (some ((), (x0, ())))
def slices_Clone_api_Line_api_Line.sig : Sig := { args := .tc (.val (.slice kLine)) .tn, objs := [], ret := .row 0, outs := [.row kLine false], F := fun x => slices_Clone_api_Line_api_Line x.1.1 }
set_option maxRecDepth 100000 in
theorem slices_Clone_api_Line_api_Line.ok : Sound Go.Proofs.Try.prog 67 slices_Clone_api_Line_api_Line.sig := clone_ok (ty := tyT) tyOk follows (fn := Go.Proofs.Try.f67) (t := 23) (e := kLine) Go.Proofs.Try.func67 (by kernel_rfl) (by kernel_rfl) (by kernel_rfl) (by kernel_rfl) (by kernel_rfl) (by kernel_rfl) (by kernel_rfl) (by kernel_rfl) (fun l => by kernel_rfl) (fun l => by kernel_rfl) (fun l => by kernel_rfl) (fun l => by kernel_rfl)

def step_atWare (x0 : Int) : Option Bool :=
  bif (x0 : Int) != 7 then some ((x0 : Int) != 8) else some false
def step_atWare.C : Ctx := { ty := tyT, sigs := fun i => [], n := 9, mp := mpT }
def step_atWare.Q : Cuts := { np := 0, loops := fun i => none, seqs := fun i => none, splits := fun i => none }
def step_atWare.sig : Sig := { args := .tc (.val (.int .u8)) .tn, objs := [], ret := .val .bool, outs := [], F := fun x => step_atWare x.1.1 }
theorem step_atWare.eq : (fun x => body step_atWare.C step_atWare.Q Go.Proofs.Try.f94 step_atWare.sig.args step_atWare.sig.objs step_atWare.sig.ret step_atWare.sig.outs x) = step_atWare.sig.F := by
  kernel_rfl
set_option maxRecDepth 100000 in
theorem step_atWare.ctx : CtxOk Go.Proofs.Try.prog step_atWare.C := ⟨tyOk, mpOk, Nat.le_of_ble_eq_true (by kernel_rfl), fun f sg => (fun h => by cases h)⟩
set_option maxRecDepth 100000 in
theorem step_atWare.ok : Sound Go.Proofs.Try.prog 94 step_atWare.sig := body_sound (C := step_atWare.C) (q := step_atWare.Q) (fn := Go.Proofs.Try.f94) (sg := step_atWare.sig) (n := 1) step_atWare.ctx follows Go.Proofs.Try.func94 (by kernel_rfl) (by kernel_rfl) (by kernel_rfl) (by kernel_rfl) (Nat.le_of_ble_eq_true (by kernel_rfl)) (by kernel_rfl) step_atWare.eq

def key_fine (x0 : Int) (x1 : Int) : Option Bool :=
  bif decide (x0 ≥ 1) then bif decide (x0 ≤ 4) then bif decide (x1 ≥ 1) then some (decide (x1 ≤ 4)) else some false else some false else some false
def key_fine.C : Ctx := { ty := tyT, sigs := fun i => [], n := 19, mp := mpT }
def key_fine.Q : Cuts := { np := 0, loops := fun i => none, seqs := fun i => none, splits := fun i => none }
def key_fine.sig : Sig := { args := .tc (.val (.int .i64)) (.tc (.val (.int .i64)) .tn), objs := [], ret := .val .bool, outs := [], F := fun x => key_fine x.1.1 x.1.2.1 }
theorem key_fine.eq : (fun x => body key_fine.C key_fine.Q Go.Proofs.Try.f105 key_fine.sig.args key_fine.sig.objs key_fine.sig.ret key_fine.sig.outs x) = key_fine.sig.F := by
  kernel_rfl
set_option maxRecDepth 100000 in
theorem key_fine.ctx : CtxOk Go.Proofs.Try.prog key_fine.C := ⟨tyOk, mpOk, Nat.le_of_ble_eq_true (by kernel_rfl), fun f sg => (fun h => by cases h)⟩
set_option maxRecDepth 100000 in
theorem key_fine.ok : Sound Go.Proofs.Try.prog 105 key_fine.sig := body_sound (C := key_fine.C) (q := key_fine.Q) (fn := Go.Proofs.Try.f105) (sg := key_fine.sig) (n := 2) key_fine.ctx follows Go.Proofs.Try.func105 (by kernel_rfl) (by kernel_rfl) (by kernel_rfl) (by kernel_rfl) (Nat.le_of_ble_eq_true (by kernel_rfl)) (by kernel_rfl) key_fine.eq

def key_both (x0 : Int) : Option Bool :=
  bif (x0 : Int) == 1 then some true else some ((x0 : Int) == 2)
def key_both.C : Ctx := { ty := tyT, sigs := fun i => [], n := 9, mp := mpT }
def key_both.Q : Cuts := { np := 0, loops := fun i => none, seqs := fun i => none, splits := fun i => none }
def key_both.sig : Sig := { args := .tc (.val (.int .u8)) .tn, objs := [], ret := .val .bool, outs := [], F := fun x => key_both x.1.1 }
theorem key_both.eq : (fun x => body key_both.C key_both.Q Go.Proofs.Try.f106 key_both.sig.args key_both.sig.objs key_both.sig.ret key_both.sig.outs x) = key_both.sig.F := by
  kernel_rfl
set_option maxRecDepth 100000 in
theorem key_both.ctx : CtxOk Go.Proofs.Try.prog key_both.C := ⟨tyOk, mpOk, Nat.le_of_ble_eq_true (by kernel_rfl), fun f sg => (fun h => by cases h)⟩
set_option maxRecDepth 100000 in
theorem key_both.ok : Sound Go.Proofs.Try.prog 106 key_both.sig := body_sound (C := key_both.C) (q := key_both.Q) (fn := Go.Proofs.Try.f106) (sg := key_both.sig) (n := 1) key_both.ctx follows Go.Proofs.Try.func106 (by kernel_rfl) (by kernel_rfl) (by kernel_rfl) (by kernel_rfl) (Nat.le_of_ble_eq_true (by kernel_rfl)) (by kernel_rfl) key_both.eq

def key_Good (x0 : Int) (x1 : Int) (x2 : Int × Int × Int × Unit) : Option Bool :=
  (key_fine x0 x1).bind fun r20 => bif !r20 then some false else bif decide (x2.1 < 1) then some false else bif decide (x2.1 > 4) then some false else bif decide ((IntKind.i64.wrap x2.2.1) ≥ x0) then some false else (key_both x2.1).bind fun r21 => bif r21 then bif decide ((IntKind.i64.wrap x2.2.2.1) < x1) then some true else (key_both x2.1).bind fun r22 => bif !r22 then some ((x2.2.2.1 : Int) == 0) else some false else (key_both x2.1).bind fun r23 => bif !r23 then some ((x2.2.2.1 : Int) == 0) else some false
def key_Good.C : Ctx := { ty := tyT, sigs := fun i => bif Nat.beq i 105 then [key_fine.sig] else bif Nat.beq i 106 then [key_both.sig] else [], n := 49, mp := mpT }
def key_Good.Q : Cuts := { np := 0, loops := fun i => none, seqs := fun i => none, splits := fun i => none }
def key_Good.sig : Sig := { args := .tc (.val (.int .i64)) (.tc (.val (.int .i64)) (.tc (.val kKey) .tn)), objs := [], ret := .val .bool, outs := [], F := fun x => key_Good x.1.1 x.1.2.1 x.1.2.2.1 }
theorem key_Good.eq : (fun x => body key_Good.C key_Good.Q Go.Proofs.Try.f95 key_Good.sig.args key_Good.sig.objs key_Good.sig.ret key_Good.sig.outs x) = key_Good.sig.F := by
  kernel_rfl
set_option maxRecDepth 100000 in
theorem key_Good.ctx : CtxOk Go.Proofs.Try.prog key_Good.C := ⟨tyOk, mpOk, Nat.le_of_ble_eq_true (by kernel_rfl), fun f sg => fun h => sigs_if h (allS_cons key_fine.ok allS_nil) (fun h => sigs_if h (allS_cons key_both.ok allS_nil) ((fun h => by cases h)))⟩
set_option maxRecDepth 100000 in
theorem key_Good.ok : Sound Go.Proofs.Try.prog 95 key_Good.sig := body_sound (C := key_Good.C) (q := key_Good.Q) (fn := Go.Proofs.Try.f95) (sg := key_Good.sig) (n := 3) key_Good.ctx follows Go.Proofs.Try.func95 (by kernel_rfl) (by kernel_rfl) (by kernel_rfl) (by kernel_rfl) (Nat.le_of_ble_eq_true (by kernel_rfl)) (by kernel_rfl) key_Good.eq

def step_Good.l1 (v : (Int × Int × Unit × (List (Int × Int × Unit)) × Int × Int) × (Int × Int × (List (Int × Int × Unit)) × Unit) × Unit) : Option (((Int × Int × Unit × (List (Int × Int × Unit)) × Int × Int) × (Int × Int × (List (Int × Int × Unit)) × Unit) × Unit) ⊕ (Unit ⊕ Bool)) :=
  bif decide (v.1.2.2.2.2.2 < v.1.2.2.2.2.1) then nthK v.1.2.2.2.1 v.1.2.2.2.2.2 fun e18 => bif decide (e18.2.1 < 1) then some (Sum.inr (Sum.inr false)) else bif decide (v.1.2.2.2.2.2 > 0) then nthK v.2.1.2.2.1 (IntKind.i64.wrap (v.1.2.2.2.2.2 - 1)) fun e19 => bif decide (e19.1 ≥ e18.1) then some (Sum.inr (Sum.inr false)) else (key_Good v.1.1 v.1.2.1 (1, (e18.1, (v.2.1.2.1, ())))).bind fun r20 => bif !r20 then some (Sum.inr (Sum.inr false)) else some (Sum.inl ((v.1.1, (v.1.2.1, ((), (v.1.2.2.2.1, (v.1.2.2.2.2.1, IntKind.i64.wrap (v.1.2.2.2.2.2 + 1)))))), (v.2.1, ()))) else (key_Good v.1.1 v.1.2.1 (1, (e18.1, (v.2.1.2.1, ())))).bind fun r21 => bif !r21 then some (Sum.inr (Sum.inr false)) else some (Sum.inl ((v.1.1, (v.1.2.1, ((), (v.1.2.2.2.1, (v.1.2.2.2.2.1, IntKind.i64.wrap (v.1.2.2.2.2.2 + 1)))))), (v.2.1, ()))) else some (Sum.inr (Sum.inl ()))
def step_Good (x0 : Int) (x1 : Int) (x2 : Int × Int × (List (Int × Int × Unit)) × Unit) : Option Bool :=
  (bif decide (x2.1 < 1) then some (Sum.inr false) else bif decide (x2.1 > 8) then some (Sum.inr false) else bif decide ((x2.2.2.1.length : Int) < 1) then some (Sum.inr false) else bif decide ((x2.2.2.1.length : Int) > 3) then some (Sum.inr false) else (step_atWare x2.1).bind fun r14 => bif !r14 then bif (x2.2.1 : Int) != 0 then some (Sum.inr false) else some (Sum.inl ((x0, (x1, ())), (x2, ()))) else some (Sum.inl ((x0, (x1, ())), (x2, ()))) : Option (((Int × Int × Unit) × (Int × Int × (List (Int × Int × Unit)) × Unit) × Unit) ⊕ Bool)).bind fun y15 => (match y15 with | .inl y16 => (iterL step_Good.l1 loopN ((y16.1.1, (y16.1.2.1, ((), (y16.2.1.2.2.1, ((y16.2.1.2.2.1.length : Int), 0))))), (y16.2.1, ()))).bind fun y22 => (match y22 with | .inl y23 => some true | .inr y24 => some y24) | .inr y17 => some y17)
def step_Good.C : Ctx := { ty := tyT, sigs := fun i => bif Nat.beq i 94 then [step_atWare.sig] else bif Nat.beq i 95 then [key_Good.sig] else [], n := 79, mp := mpT }
def step_Good.Q : Cuts := { np := 0, loops := fun i => bif Nat.beq i 4 then some ({ env := [(0, .val (.int .i64)), (1, .val (.int .i64)), (5, .ptr 0), (41, .val (.slice kLine)), (42, .val (.int .i64)), (43, .val (.int .i64))], objs := [.cell kStep (.val kStep)] }, [(.exit 0, { env := [], objs := [] }), (.ret, { env := [(6, .val .bool)], objs := [] })]) else none, seqs := fun i => bif Nat.beq i 3 then some [(.normal, { env := [(0, .val (.int .i64)), (1, .val (.int .i64)), (5, .ptr 0)], objs := [.cell kStep (.val kStep)] }), (.ret, { env := [(6, .val .bool)], objs := [] })] else none, splits := fun i => none }
def step_Good.sig : Sig := { args := .tc (.val (.int .i64)) (.tc (.val (.int .i64)) (.tc (.val kStep) .tn)), objs := [], ret := .val .bool, outs := [], F := fun x => step_Good x.1.1 x.1.2.1 x.1.2.2.1 }
theorem step_Good.eq : (fun x => body step_Good.C step_Good.Q Go.Proofs.Try.f79 step_Good.sig.args step_Good.sig.objs step_Good.sig.ret step_Good.sig.outs x) = step_Good.sig.F := by
  kernel_rfl
set_option maxRecDepth 100000 in
theorem step_Good.ctx : CtxOk Go.Proofs.Try.prog step_Good.C := ⟨tyOk, mpOk, Nat.le_of_ble_eq_true (by kernel_rfl), fun f sg => fun h => sigs_if h (allS_cons step_atWare.ok allS_nil) (fun h => sigs_if h (allS_cons key_Good.ok allS_nil) ((fun h => by cases h)))⟩
set_option maxRecDepth 100000 in
theorem step_Good.ok : Sound Go.Proofs.Try.prog 79 step_Good.sig := body_sound (C := step_Good.C) (q := step_Good.Q) (fn := Go.Proofs.Try.f79) (sg := step_Good.sig) (n := 3) step_Good.ctx follows Go.Proofs.Try.func79 (by kernel_rfl) (by kernel_rfl) (by kernel_rfl) (by kernel_rfl) (Nat.le_of_ble_eq_true (by kernel_rfl)) (by kernel_rfl) step_Good.eq

abbrev prog_Steps.TK := Int × Int × Int × Int × Unit
abbrev prog_Steps.LN := Int × Int × Unit
abbrev prog_Steps.PR := Int × Int × Int × List prog_Steps.LN × List prog_Steps.TK × List prog_Steps.LN × Int × Int × Int × Int × Unit
abbrev prog_Steps.SP := Int × Int × List prog_Steps.LN × Unit
/-- The steps at warehouses, take by take. -/
def prog_Steps.stepsGo (tg : Int) (pt : List prog_Steps.TK) : Nat → List prog_Steps.TK → List prog_Steps.SP → Option (List prog_Steps.SP)
  | _, [], acc => some acc
  | i, x :: l, acc => (match i with | 0 => some true | j + 1 => (pt[j]?).map fun (y : prog_Steps.TK) => (y.2.2.1 != x.2.2.1)).bind fun nw =>
    match nw with
    | true => prog_Steps.stepsGo tg pt (i + 1) l (acc ++ [(tg, (x.2.2.1, ([(x.2.1, (x.2.2.2.1, ()))], ())))])
    | false => match acc.getLast? with
      | none => none
      | some z => prog_Steps.stepsGo tg pt (i + 1) l (acc.dropLast ++ [(z.1, (z.2.1, (z.2.2.1 ++ [(x.2.1, (x.2.2.2.1, ()))], ())))])
def prog_Steps.stepsG (v : (Unit × Unit × List prog_Steps.TK × Int × Int) × (prog_Steps.PR × Unit)) : Option ((Unit × Unit) × (prog_Steps.PR × List prog_Steps.SP × Unit)) :=
  bif decide (v.1.2.2.2.1 = v.1.2.2.1.length) && (decide (v.1.2.2.2.2 = 0) && Nat.ble v.1.2.2.1.length 100000) then
    (prog_tag v.2.1.1).bind fun tg => (prog_Steps.stepsGo tg v.2.1.2.2.2.2.1 0 v.1.2.2.1 []).map fun l => (((), ()), (v.2.1, (l, ())))
  else none
def prog_Steps.g14 : Given := { hd := { env := [(1, .ptr 0), (6, .nils kStep), (67, .val (.slice kTake)), (68, .val (.int .i64)), (69, .val (.int .i64))], objs := [.cell kProgram (.val kProgram)] }, outs := [(.exit 1, { env := [(1, .ptr 0), (6, .row 1)], objs := [.cell kProgram (.val kProgram), .row kStep false] })], G := prog_Steps.stepsG }

def prog_Steps.l1 (v : (Unit × Int × Int) × (List (Int × Int × (List (Int × Int × Unit)) × Unit)) × Unit) : Option (((Unit × Int × Int) × (List (Int × Int × (List (Int × Int × Unit)) × Unit)) × Unit) ⊕ ((Unit × (List (Int × Int × (List (Int × Int × Unit)) × Unit)) × Unit) ⊕ Unit)) :=
  bif decide (v.1.2.2 < v.1.2.1) then chk (decide (0 ≤ v.1.2.2) && decide (v.1.2.2 < (v.2.1.length : Int))) (nthK v.2.1 v.1.2.2 fun e13 => (step_Good 4 4 e13).bind fun r14 => bif !r14 then some (Sum.inr (Sum.inr ())) else some (Sum.inl (((), (v.1.2.1, IntKind.i64.wrap (v.1.2.2 + 1))), (v.2.1, ())))) else some (Sum.inr (Sum.inl ((), (v.2.1, ()))))
def prog_Steps (x0 : Int × Int × Int × (List (Int × Int × Unit)) × (List (Int × Int × Int × Int × Unit)) × (List (Int × Int × Unit)) × Int × Int × Int × Int × Unit) : Option (List (Int × Int × (List (Int × Int × Unit)) × Unit)) :=
  (prog_Good 4 4 x0).bind fun r3 => bif !r3 then some [] else bif (x0.1 : Int) == 6 then (prog_one 6 x0.2.2.2.2.2.2.2.1 x0.2.2.2.2.2.2.1 x0.2.2.2.2.2.2.2.2.2.1).bind fun r4 => (prog_one 5 x0.2.2.2.2.2.2.2.2.1 x0.2.2.2.2.2.2.1 x0.2.2.2.2.2.2.2.2.2.1).bind fun r5 => some [r4, r5] else bif (x0.1 : Int) == 5 then (prog_one 5 x0.2.2.2.2.2.2.2.2.1 x0.2.2.2.2.2.2.1 x0.2.2.2.2.2.2.2.2.2.1).bind fun r6 => (prog_together x0.2.2.2.2.1).bind fun r7 => bif decide (r7.1 > 0) then (prog_one 1 x0.2.2.2.2.2.2.2.2.1 x0.2.2.2.2.2.2.1 r7.1).bind fun r8 => (prog_one 8 0 x0.2.2.2.2.2.2.1 r7.1).bind fun r9 => room ([r6].length + [r8, r9].length) (some ([r6] ++ [r8, r9])) else some [r6] else (prog_Steps.stepsG (((), ((), (x0.2.2.2.2.1, ((x0.2.2.2.2.1.length : Int), 0)))), (x0, ()))).bind fun y10 => (bif decide ((y10.2.1.2.2.2.2.2.1.length : Int) > 0) then (slices_Clone_api_Line_api_Line y10.2.1.2.2.2.2.2.1).bind fun r11 => bif (y10.2.1.1 : Int) == 2 then room (y10.2.2.1.length + [(8, (0, (r11.2.1, ())))].length) (some (((), (y10.2.2.1 ++ [(8, (0, (r11.2.1, ())))], ())))) else room (y10.2.2.1.length + [(7, (0, (r11.2.1, ())))].length) (some (((), (y10.2.2.1 ++ [(7, (0, (r11.2.1, ())))], ())))) else some (((), (y10.2.2.1, ()))) : Option (Unit × (List (Int × Int × (List (Int × Int × Unit)) × Unit)) × Unit)).bind fun y12 => (iterL prog_Steps.l1 loopN (((), ((y12.2.1.length : Int), 0)), (y12.2.1, ()))).bind fun y15 => (match y15 with | .inl y16 => some y16.2.1 | .inr y17 => some [])
def prog_Steps.C : Ctx := { ty := tyT, sigs := fun i => bif Nat.beq i 15 then [prog_Good.sig] else bif Nat.beq i 67 then [slices_Clone_api_Line_api_Line.sig] else bif Nat.beq i 76 then [prog_one.sig] else bif Nat.beq i 77 then [prog_together.sig] else bif Nat.beq i 78 then [prog_tag.sig] else bif Nat.beq i 79 then [step_Good.sig] else [], n := 146, mp := mpT }
def prog_Steps.Q : Cuts := { np := 0, loops := fun i => bif Nat.beq i 27 then some ({ env := [(6, .row 0), (134, .val (.int .i64)), (135, .val (.int .i64))], objs := [.row kStep false] }, [(.exit 3, { env := [(6, .row 0)], objs := [.row kStep false] }), (.ret, { env := [(2, .nils kStep)], objs := [] })]) else none, seqs := fun i => bif Nat.beq i 26 then some [(.normal, { env := [(6, .row 0)], objs := [.row kStep false] })] else none, splits := fun i => none, given := fun k i => bif Nat.beq k 0 && Nat.beq i 14 then some prog_Steps.g14 else none }
def prog_Steps.sig : Sig := { args := .tc (.val kProgram) .tn, objs := [], ret := .val (.slice kStep), outs := [], F := fun x => prog_Steps x.1.1 }
theorem prog_Steps.eq : (fun x => body prog_Steps.C prog_Steps.Q Go.Proofs.Try.f30 prog_Steps.sig.args prog_Steps.sig.objs prog_Steps.sig.ret prog_Steps.sig.outs x) = prog_Steps.sig.F := by
  kernel_rfl
set_option maxRecDepth 100000 in
theorem prog_Steps.ctx : CtxOk Go.Proofs.Try.prog prog_Steps.C := ⟨tyOk, mpOk, Nat.le_of_ble_eq_true (by kernel_rfl), fun f sg => fun h => sigs_if h (allS_cons prog_Good.ok allS_nil) (fun h => sigs_if h (allS_cons slices_Clone_api_Line_api_Line.ok allS_nil) (fun h => sigs_if h (allS_cons prog_one.ok allS_nil) (fun h => sigs_if h (allS_cons prog_together.ok allS_nil) (fun h => sigs_if h (allS_cons prog_tag.ok allS_nil) (fun h => sigs_if h (allS_cons step_Good.ok allS_nil) ((fun h => by cases h)))))))⟩
def prog_Steps.CR : Ctx := { ty := lookK [(1, .ref 2), (2, .int .i64), (3, .int .i64), (4, .bool), (5, .int .u8), (22, .int .u32), (23, .hdr), (24, .slice kTake), (25, .cons (.int .u8) (.cons (.int .u32) (.cons (.int .u8) (.cons .hdr (.cons (.slice kTake) (.cons .hdr (.cons (.int .u8) (.cons (.int .u8) kLine)))))))), (26, .cons (.int .u8) (.cons (.int .u32) (.cons (.int .u8) (.cons .hdr (.cons (.slice kTake) (.cons .hdr (.cons (.int .u8) (.cons (.int .u8) kLine)))))))), (42, kTake), (43, kTake), (64, .slice (.cons (.int .u8) (.cons (.int .u8) (.cons .hdr .unit)))), (67, .cons (.int .u8) (.cons (.int .u8) (.cons .hdr .unit))), (68, .cons (.int .u8) (.cons (.int .u8) (.cons .hdr .unit))), (84, kLine), (85, kLine), (118, .ref 0)], sigs := fun i => bif Nat.beq i 78 then [prog_tag.sig] else [], n := prog_Steps.C.n, mp := fun _ => none }
set_option maxRecDepth 100000 in
theorem prog_Steps.ctxR : CtxOk Go.Proofs.Try.prog prog_Steps.CR := ⟨tyOk_of (l := [(1, .ref 2), (2, .int .i64), (3, .int .i64), (4, .bool), (5, .int .u8), (22, .int .u32), (23, .hdr), (24, .slice kTake), (25, .cons (.int .u8) (.cons (.int .u32) (.cons (.int .u8) (.cons .hdr (.cons (.slice kTake) (.cons .hdr (.cons (.int .u8) (.cons (.int .u8) kLine)))))))), (26, .cons (.int .u8) (.cons (.int .u32) (.cons (.int .u8) (.cons .hdr (.cons (.slice kTake) (.cons .hdr (.cons (.int .u8) (.cons (.int .u8) kLine)))))))), (42, kTake), (43, kTake), (64, .slice (.cons (.int .u8) (.cons (.int .u8) (.cons .hdr .unit)))), (67, .cons (.int .u8) (.cons (.int .u8) (.cons .hdr .unit))), (68, .cons (.int .u8) (.cons (.int .u8) (.cons .hdr .unit))), (84, kLine), (85, kLine), (118, .ref 0)]) (fun _ => rfl) (by kernel_rfl) (by kernel_rfl), (fun t k v h => by cases h), Nat.le_of_ble_eq_true (by kernel_rfl), fun f sg => fun h => sigs_if h (allS_cons prog_tag.ok allS_nil) (fun h => by cases h)⟩
def prog_Steps.bodyL (f : Func) : Code := .seq (.region 14 (rops (bodyOf f) 14) false) (.seq (.cond (.tmp 70) .skip (.exit 1)) (.seq (.block 2 (.seq (.region 15 (rops (bodyOf f) 15) false) (.seq (.seq (.region 16 (rops (bodyOf f) 16) true) (.cond (.tmp 87) (.region 17 (rops (bodyOf f) 17) true) .skip)) (.seq (.region 18 (rops (bodyOf f) 18) false) (.region 19 (rops (bodyOf f) 19) true))))) (.region 20 (rops (bodyOf f) 20) false)))
theorem prog_Steps.givens : givens prog_Steps.Q (bodyOf Go.Proofs.Try.f30) = [(.loop (prog_Steps.bodyL Go.Proofs.Try.f30), prog_Steps.g14)] := by kernel_rfl
abbrev prog_Steps.KP : K := hK kLine kProgram
abbrev prog_Steps.KS : K := .cons (.int .u8) (.cons (.int .u8) (.cons .hdr .unit))
abbrev prog_Steps.PH := Int × Int × Int × Value × List prog_Steps.TK × Value × Int × Int × Int × Int × Unit
abbrev prog_Steps.SH := Int × Int × Value × Unit
def prog_Steps.E0 (takes : List prog_Steps.TK) (n i : Int) : List (Nat × T) := [(1, .ptr 0 []), (6, .row 1), (67, .val (.slice kTake) takes), (68, .val (.int .i64) n), (69, .val (.int .i64) i)]
def prog_Steps.O0 (p : prog_Steps.PH) (L : List prog_Steps.SH) (items : List prog_Steps.LN) : List (Nat × D.Obj) := [(0, .cell prog_Steps.KP false (.val prog_Steps.KP p)), (1, .row prog_Steps.KS false L), (2, .row kLine false items)]
def prog_Steps.E14 (takes : List prog_Steps.TK) (n i : Int) : List (Nat × T) := [(1, .ptr 0 []), (6, .row 1), (67, .val (.slice kTake) takes), (68, .val (.int .i64) n), (69, .val (.int .i64) i), (70, .val .bool (decide (i < n)))]
def prog_Steps.E15 (takes : List prog_Steps.TK) (n i : Int) : List (Nat × T) := [(1, .ptr 0 []), (6, .row 1), (67, .val (.slice kTake) takes), (68, .val (.int .i64) n), (69, .val (.int .i64) i), (7, .val (.int .i64) i), (8, .ptr 1008 [])]
def prog_Steps.O15 (p : prog_Steps.PH) (L : List prog_Steps.SH) (items : List prog_Steps.LN) (x : prog_Steps.TK) : List (Nat × D.Obj) := [(0, .cell prog_Steps.KP false (.val prog_Steps.KP p)), (1, .row prog_Steps.KS false L), (2, .row kLine false items), (1008, .cell kTake false (.val kTake x))]
def prog_Steps.E16 (takes : List prog_Steps.TK) (n i : Int) (b : Bool) : List (Nat × T) := [(1, .ptr 0 []), (6, .row 1), (67, .val (.slice kTake) takes), (68, .val (.int .i64) n), (69, .val (.int .i64) i), (8, .ptr 1008 []), (87, .val .bool b)]
def prog_Steps.E17 (takes : List prog_Steps.TK) (n i : Int) : List (Nat × T) := [(1, .ptr 0 []), (6, .row 1096), (67, .val (.slice kTake) takes), (68, .val (.int .i64) n), (69, .val (.int .i64) i), (8, .ptr 1008 [])]
def prog_Steps.O17 (p : prog_Steps.PH) (L : List prog_Steps.SH) (items : List prog_Steps.LN) (x : prog_Steps.TK) (tg : Int) : List (Nat × D.Obj) := [(0, .cell prog_Steps.KP false (.val prog_Steps.KP p)), (1096, .row prog_Steps.KS false (L ++ [((tg, (x.2.2.1, ((Value.slice none 0 0), ()))) : prog_Steps.SH)])), (1008, .cell kTake false (.val kTake x)), (2, .row kLine false items)]
def prog_Steps.Em (takes : List prog_Steps.TK) (n i : Int) : List (Nat × T) := [(1, .ptr 0 []), (6, .row 1), (67, .val (.slice kTake) takes), (68, .val (.int .i64) n), (69, .val (.int .i64) i), (8, .ptr 3 [])]
def prog_Steps.Om (p : prog_Steps.PH) (L : List prog_Steps.SH) (items : List prog_Steps.LN) (x : prog_Steps.TK) : List (Nat × D.Obj) := [(0, .cell prog_Steps.KP false (.val prog_Steps.KP p)), (1, .row prog_Steps.KS false L), (2, .row kLine false items), (3, .cell kTake false (.val kTake x))]
def prog_Steps.E18 (takes : List prog_Steps.TK) (n i k : Int) : List (Nat × T) := [(1, .ptr 0 []), (6, .row 1), (67, .val (.slice kTake) takes), (68, .val (.int .i64) n), (69, .val (.int .i64) i), (8, .ptr 3 []), (9, .ptr 1 [.idx k])]
def prog_Steps.Eg (takes : List prog_Steps.TK) (n i : Int) (v : Value) : List (Nat × T) := [(1, .ptr 0 []), (6, .val .hdr v), (67, .val (.slice kTake) takes), (68, .val (.int .i64) n), (69, .val (.int .i64) i), (8, .ptr 3 []), (9, .ptr 99011 [])]
def prog_Steps.lastT (a b : Int) (r : Nat) : T := .pair (.val (.int .u8) a) (.pair (.val (.int .u8) b) (.pair (.row r) (.val .unit ())))
def prog_Steps.Og (p : prog_Steps.PH) (Lc : List prog_Steps.SH) (items : List prog_Steps.LN) (x : prog_Steps.TK) (a b : Int) : List (Nat × D.Obj) := [(0, .cell prog_Steps.KP false (.val prog_Steps.KP p)), (2, .row kLine false items), (3, .cell kTake false (.val kTake x)), (99010, .row prog_Steps.KS false Lc), (99011, .cell kStep false (prog_Steps.lastT a b 2)), (99012, .row prog_Steps.KS false [])]
def prog_Steps.E19 (takes : List prog_Steps.TK) (n i : Int) (v : Value) : List (Nat × T) := [(1, .ptr 0 []), (6, .val .hdr v), (67, .val (.slice kTake) takes), (68, .val (.int .i64) n), (69, .val (.int .i64) i), (113, .row 1113)]
def prog_Steps.O19 (p : prog_Steps.PH) (Lc : List prog_Steps.SH) (items : List prog_Steps.LN) (x : prog_Steps.TK) (a b : Int) : List (Nat × D.Obj) := [(0, .cell prog_Steps.KP false (.val prog_Steps.KP p)), (1113, .row kLine false (items ++ [((x.2.1, (x.2.2.2.1, ())) : prog_Steps.LN)])), (99010, .row prog_Steps.KS false Lc), (99011, .cell kStep false (prog_Steps.lastT a b 1113)), (99012, .row prog_Steps.KS false [])]
def prog_Steps.Ej (takes : List prog_Steps.TK) (n i : Int) : List (Nat × T) := [(1, .ptr 0 []), (6, .row 99020), (67, .val (.slice kTake) takes), (68, .val (.int .i64) n), (69, .val (.int .i64) i)]
def prog_Steps.Oj (p : prog_Steps.PH) (L : List prog_Steps.SH) (items : List prog_Steps.LN) : List (Nat × D.Obj) := [(0, .cell prog_Steps.KP false (.val prog_Steps.KP p)), (99020, .row prog_Steps.KS false L), (1113, .row kLine false items)]

section
variable (takes : List prog_Steps.TK) (n i k : Int) (p : prog_Steps.PH) (L : List prog_Steps.SH) (items : List prog_Steps.LN) (x : prog_Steps.TK) (a b : Int) (v : Value) (q : Bool)
theorem prog_Steps.e14 : evalReg prog_Steps.CR false (rops (bodyOf Go.Proofs.Try.f30) 14).toList (mkS (prog_Steps.E0 takes n i) (prog_Steps.O0 p L items) []) (fun sF => some (facts [1, 6, 67, 68, 69, 70] [0, 1, 2] sF)) = some (told (prog_Steps.E14 takes n i) (prog_Steps.O0 p L items) []) := by kernel_rfl
theorem prog_Steps.e15 : evalReg prog_Steps.CR false (rops (bodyOf Go.Proofs.Try.f30) 15).toList (mkS (prog_Steps.E14 takes n i) (prog_Steps.O0 p L items) []) (fun sF => some (facts [1, 6, 67, 68, 69, 7, 8] [0, 1, 2, 1008] sF)) = nthK takes i fun x => some (told (prog_Steps.E15 takes n i) (prog_Steps.O15 p L items x) [8]) := by kernel_rfl
theorem prog_Steps.e16 : evalReg prog_Steps.CR true (rops (bodyOf Go.Proofs.Try.f30) 16).toList (mkS (prog_Steps.E15 takes n i) (prog_Steps.O15 p L items x) [8]) (fun sF => some (facts [1, 6, 67, 68, 69, 8, 87] [0, 1, 2, 1008] sF)) =
    bif i == 0 then some (told (prog_Steps.E16 takes n i true) (prog_Steps.O15 p L items x) [8]) else nthK p.2.2.2.2.1 (IntKind.i64.wrap (i - 1)) fun y => some (told (prog_Steps.E16 takes n i (y.2.2.1 != x.2.2.1)) (prog_Steps.O15 p L items x) [8]) := by kernel_rfl
theorem prog_Steps.e17 : evalReg prog_Steps.CR true (rops (bodyOf Go.Proofs.Try.f30) 17).toList (mkS (prog_Steps.E16 takes n i q) (prog_Steps.O15 p L items x) [8]) (fun sF => some (facts [1, 6, 67, 68, 69, 8] [0, 1096, 1008, 2] sF)) =
    (prog_tag p.1).bind fun tg => room (L.length + 1) (some (told (prog_Steps.E17 takes n i) (prog_Steps.O17 p L items x tg) [96, 95, 91, 8])) := by kernel_rfl
theorem prog_Steps.e18 : evalReg prog_Steps.CR false (rops (bodyOf Go.Proofs.Try.f30) 18).toList (mkS (prog_Steps.Em takes n i) (prog_Steps.Om p L items x) []) (fun sF => some (facts [1, 6, 67, 68, 69, 8, 9] [0, 1, 2, 3] sF)) =
    chk (decide (0 ≤ IntKind.i64.wrap ((L.length : Int) - 1)) && decide (IntKind.i64.wrap ((L.length : Int) - 1) < (L.length : Int))) (some (told (prog_Steps.E18 takes n i (IntKind.i64.wrap ((L.length : Int) - 1))) (prog_Steps.Om p L items x) [])) := by kernel_rfl
theorem prog_Steps.e19 : evalReg prog_Steps.C true (rops (bodyOf Go.Proofs.Try.f30) 19).toList (mkS (prog_Steps.Eg takes n i v) (prog_Steps.Og p L items x a b) [98010, 98011, 98012]) (fun sF => some (facts [1, 6, 67, 68, 69, 113] [0, 1113, 99010, 99011, 99012] sF)) =
    room (items.length + 1) (some (told (prog_Steps.E19 takes n i v) (prog_Steps.O19 p L items x a b) [113, 112, 98010, 98011, 98012])) := by kernel_rfl
theorem prog_Steps.e20 : evalReg prog_Steps.CR false (rops (bodyOf Go.Proofs.Try.f30) 20).toList (mkS (prog_Steps.Ej takes n i) (prog_Steps.Oj p L items) [98020, 113, 112, 98010, 98011, 98012]) (fun sF => some (facts [1, 6, 67, 68, 69] [0, 99020, 1113] sF)) =
    some (told (prog_Steps.Ej takes n (IntKind.i64.wrap (i + 1))) (prog_Steps.Oj p L items) [98020, 113, 112, 98010, 98011, 98012]) := by kernel_rfl
end

def prog_Steps.Clo (w : World) (S : Cells) (Lc : List prog_Steps.SH) (Dc : List prog_Steps.SP) : Prop := Lc.length = Dc.length ∧ ∀ (k : Nat) (x : prog_Steps.SH) (y : prog_Steps.SP), Lc[k]? = some x → Dc[k]? = some y → x.1 = y.1 ∧ x.2.1 = y.2.1 ∧ Rep w S (.slice kLine) y.2.2.1 [x.2.2.1]
theorem prog_Steps.Clo.keep {w w' : World} {S S' : Cells} {Lc : List prog_Steps.SH} {Dc : List prog_Steps.SP} (h : prog_Steps.Clo w S Lc Dc) (k : Keeps w S w' S') : prog_Steps.Clo w' S' Lc Dc :=
  ⟨h.1, fun i x y a b => let ⟨c, d, e⟩ := h.2 i x y a b; ⟨c, d, e.keep k⟩⟩
theorem prog_Steps.Clo.snoc {w : World} {S : Cells} {Lc : List prog_Steps.SH} {Dc : List prog_Steps.SP} (h : prog_Steps.Clo w S Lc Dc) {x : prog_Steps.SH} {y : prog_Steps.SP} (h1 : x.1 = y.1) (h2 : x.2.1 = y.2.1) (h3 : Rep w S (.slice kLine) y.2.2.1 [x.2.2.1]) : prog_Steps.Clo w S (Lc ++ [x]) (Dc ++ [y]) := by
  refine ⟨by simp [h.1], fun k x' y' hx hy => ?_⟩
  by_cases hk : k < Lc.length
  · rw [List.getElem?_append_left hk] at hx
    rw [List.getElem?_append_left (by rw [← h.1]; exact hk)] at hy
    exact h.2 k x' y' hx hy
  · have hk2 : k = Lc.length := by have := (List.getElem?_eq_some_iff.1 hx).1; simp at this; omega
    subst hk2
    rw [h.1] at hy
    simp at hx hy
    subst hx; subst hy
    exact ⟨h1, h2, h3⟩
def prog_Steps.Link (w : World) (S : Cells) (m : Nat → Option MB) (L : List prog_Steps.SH) (D : List prog_Steps.SP) (items : List prog_Steps.LN) : Prop :=
  (L = [] ∧ D = []) ∨ ∃ Lc Dc a b hv u, L = Lc ++ [((a, (b, (hv, ()))) : prog_Steps.SH)] ∧ D = Dc ++ [((a, (b, (items, ()))) : prog_Steps.SP)] ∧ prog_Steps.Clo w S Lc Dc ∧ m 2 = some u ∧ u.hv = hv
def prog_Steps.Back (w : World) (S : Cells) (p : prog_Steps.PH) (pd : prog_Steps.PR) : Prop := ∀ (w' : World) (S' : Cells) (cs : List Value), Keeps w S w' S' → Rep w' S' prog_Steps.KP p cs → Rep w' S' kProgram pd cs

section
variable {O0 : Cells} {w0 : World} {S0 : Cells} {m0 : Nat → Option MB}
theorem prog_Steps.tail {takes : List prog_Steps.TK} {n i : Int} {p : prog_Steps.PH} {x : prog_Steps.TK} {Lc : List prog_Steps.SH} {a b : Int} {hv : Value} {items : List prog_Steps.LN} {u : MB} {act : Act} {w : World} {S : Cells} {m : Nat → Option MB}
    (h : At prog_Steps.C 0 O0 w0 S0 m0 (mkS (prog_Steps.Em takes n i) (prog_Steps.Om p (Lc ++ [((a, (b, (hv, ()))) : prog_Steps.SH)]) items x) []) act w S m) (hu : m 2 = some u) (hv' : u.hv = hv) (hl : Lc.length < 1000000) (hi : items.length < 1000000)
    (Q : Exit → Act → World → Prop) (hQ : ∀ act' w' S' m' u', At prog_Steps.C 0 O0 w0 S0 m0 (mkS (prog_Steps.Ej takes n i) (prog_Steps.Oj p (Lc ++ [((a, (b, (u'.hv, ()))) : prog_Steps.SH)]) (items ++ [((x.2.1, (x.2.2.2.1, ())) : prog_Steps.LN)])) [98020, 113, 112, 98010, 98011, 98012]) act' w' S' m' →
      Keeps w S w' S' → m' 1113 = some u' → Q .normal act' w') : (Code.seq (.region 18 (rops (bodyOf Go.Proofs.Try.f30) 18) false) (.region 19 (rops (bodyOf Go.Proofs.Try.f30) 19) true)).wp Go.Proofs.Try.prog Q act w := by
  have hk : IntKind.i64.wrap (((Lc ++ [((a, (b, (hv, ()))) : prog_Steps.SH)]).length : Int) - 1) = (Lc.length : Int) := by
    rw [List.length_append, List.length_singleton, wrap_i64 (by omega) (by omega)]; omega
  refine wp_seq (At.region (C := prog_Steps.C) prog_Steps.ctxR follows rfl h (E' := prog_Steps.E18 takes n i Lc.length) (O' := prog_Steps.Om p (Lc ++ [((a, (b, (hv, ()))) : prog_Steps.SH)]) items x) (d' := []) rfl rfl ?_ ?_)
  · exact (prog_Steps.e18 ..).trans (by rw [hk]; exact chk_true (by rw [List.length_append, List.length_singleton, dec_t (by omega), dec_t (by omega)]; rfl))
  intro a1 w1 S1 m1 h1 k1 hm1
  show (Code.region 19 _ true).wp _ _ _ _
  obtain ⟨u1, hu1, ho1⟩ := h1.rel.sto 1 _ rfl
  obtain ⟨bb, oo, cap, eu, hcap⟩ := mbRow_of ho1 (by simp)
  subst eu
  have hu2 := hm1 2 u hu
  rw [List.length_append, List.length_singleton] at hu1 hcap
  have n10 : m1 99010 = none := h1.freshId 98010 (by omega) rfl
  have n11 : m1 99011 = none := h1.freshId 98011 (by omega) rfl
  have n12 : m1 99012 = none := h1.freshId 98012 (by omega) rfl
  have st := StoRel.part h1.rel.toStoRel (id := 1) (i1 := 99010) (i2 := 99011) (i3 := 99012) (c := kStep) (t := prog_Steps.lastT a b 2) (e := prog_Steps.KS) (L := Lc) (x := (a, (b, (hv, ())))) rfl hu1 hcap n10 n11 n12 (by decide) (by decide) (by decide) rfl rfl
    (fun cs ⟨c1, c2, e1, g1, d1, d2, e2, g2, f1, f2, e3, ⟨g3, A, nn, cc, g4⟩, g5⟩ => ⟨c1, c2, e1, g1, d1, d2, e2, g2, f1, f2, e3, ⟨u, hu2, by rw [g3, hv'], A, nn, cc, hv'.trans g4⟩, g5⟩)
  have g1 := h1.ghost st (E' := prog_Steps.Eg takes n i (.slice (some ⟨bb, oo, none⟩) (Lc.length + 1) cap)) (O' := prog_Steps.Og p Lc items x a b) (d' := [98010, 98011, 98012])
    (fun q hq => by
      simp only [prog_Steps.Og, List.mem_cons, List.not_mem_nil, or_false] at hq
      rcases hq with e | e | e | e | e | e <;> subst e <;> rfl)
    (fun q hq => by
      simp only [prog_Steps.Eg, List.mem_cons, List.not_mem_nil, or_false] at hq
      rcases hq with e | e | e | e | e | e | e <;> subst e
      · exact (h1.rel.env 1).keep st.keeps st.ext.maps
      · obtain ⟨u', q1, q2, _⟩ := repV_row (i := 1) (h1.rel.env 6)
        rw [hu1] at q1; cases q1
        show RepV w1 S1 _ (.val .hdr _) _
        rw [q2]; exact repV_mkHdr ⟨_, _, _, rfl⟩
      · exact (h1.rel.env 67).keep st.keeps st.ext.maps
      · exact (h1.rel.env 68).keep st.keeps st.ext.maps
      · exact (h1.rel.env 69).keep st.keeps st.ext.maps
      · exact (h1.rel.env 8).keep st.keeps st.ext.maps
      · obtain ⟨u', q1, q2⟩ := repV_ptr (i := 1) (p := [.idx Lc.length]) (h1.rel.env 9)
        rw [hu1] at q1; cases q1
        show RepV w1 S1 _ (.ptr 99011 []) _
        rw [q2]
        have := repV_mkPtr (w := w1) (S := S1) (i := 99011) (p := []) (m := put3 m1 99010 99011 99012 (mbRow bb oo Lc.length Lc.length prog_Steps.KS) (mbCell bb (oo + Lc.length * prog_Steps.KS.size) kStep) (mbRow bb (oo + (Lc.length + 1) * prog_Steps.KS.size) 0 (cap - (Lc.length + 1)) prog_Steps.KS)) (u := mbCell bb (oo + Lc.length * prog_Steps.KS.size) kStep) rfl
        simpa [mbCell, mbRow, offK, offK_nil] using this)
    (fun x _ => rfl)
    (fun j => by
      unfold put3
      by_cases e1 : j = 99010
      · exact .inr ⟨98010, e1, by omega, rfl⟩
      by_cases e2 : j = 99011
      · exact .inr ⟨98011, e2, by omega, rfl⟩
      by_cases e3 : j = 99012
      · exact .inr ⟨98012, e3, by omega, rfl⟩
      rw [if_neg e1, if_neg e2, if_neg e3]; exact .inl rfl)
  refine At.region (C := prog_Steps.C) prog_Steps.ctx follows rfl g1 (E' := prog_Steps.E19 takes n i (.slice (some ⟨bb, oo, none⟩) (Lc.length + 1) cap)) (O' := prog_Steps.O19 p Lc items x a b) (d' := [113, 112, 98010, 98011, 98012]) rfl rfl ((prog_Steps.e19 ..).trans (room_ok (by omega))) ?_
  intro a2 w2 S2 m2 h2 k2 hm2
  obtain ⟨u3, hu3, ho3⟩ := h2.rel.sto 1113 _ rfl
  have q1 := hm2 99010 (mbRow bb oo Lc.length Lc.length prog_Steps.KS) rfl
  have q2 := hm2 99011 (mbCell bb (oo + Lc.length * prog_Steps.KS.size) kStep) rfl
  have q3 := hm2 99012 (mbRow bb (oo + (Lc.length + 1) * prog_Steps.KS.size) 0 (cap - (Lc.length + 1)) prog_Steps.KS) rfl
  have n20 : m2 99020 = none := h2.freshId 98020 (by omega) rfl
  have st2 := StoRel.join h2.rel.toStoRel (i0 := 99020) (i1 := 99010) (i2 := 99011) (i3 := 99012) (e := prog_Steps.KS) (c := kStep) (L := Lc) (x := (a, (b, (u3.hv, ())))) (t := prog_Steps.lastT a b 1113) rfl rfl rfl q1 q2 q3 hcap n20 (by decide) (by decide) (by decide) rfl
    (fun cs ⟨c1, c2, e1, g1, d1, d2, e2, g2, f1, f2, e3, ⟨u', g3, g4, A, nn, cc, g5⟩, g6⟩ => by
      rw [hu3] at g3; cases g3
      exact ⟨c1, c2, e1, g1, d1, d2, e2, g2, f1, f2, e3, ⟨g4, A, nn, cc, g5⟩, g6⟩)
  have g2 := h2.ghost st2 (E' := prog_Steps.Ej takes n i) (O' := prog_Steps.Oj p (Lc ++ [((a, (b, (u3.hv, ()))) : prog_Steps.SH)]) (items ++ [((x.2.1, (x.2.2.2.1, ())) : prog_Steps.LN)])) (d' := [98020, 113, 112, 98010, 98011, 98012])
    (fun q hq => by
      simp only [prog_Steps.Oj, List.mem_cons, List.not_mem_nil, or_false] at hq
      rcases hq with e | e | e <;> subst e <;> rfl)
    (fun q hq => by
      simp only [prog_Steps.Ej, List.mem_cons, List.not_mem_nil, or_false] at hq
      rcases hq with e | e | e | e | e <;> subst e
      · exact (h2.rel.env 1).keep st2.keeps st2.ext.maps
      · obtain ⟨r1, _⟩ := repV_hdr (x := .slice (some ⟨bb, oo, none⟩) (Lc.length + 1) cap) (h2.rel.env 6)
        show RepV w2 S2 _ (.row 99020) _
        rw [r1]
        exact repV_mkRow (u := mbRow bb oo (Lc.length + 1) cap prog_Steps.KS) putM1_new rfl
      · exact (h2.rel.env 67).keep st2.keeps st2.ext.maps
      · exact (h2.rel.env 68).keep st2.keeps st2.ext.maps
      · exact (h2.rel.env 69).keep st2.keeps st2.ext.maps)
    (fun x hx => by
      simp only [elemN, Bool.or_eq_false_iff] at hx
      show elemN x [113, 112, 98010, 98011, 98012] = false
      simp only [elemN, Bool.or_eq_false_iff]
      exact hx.2)
    (fun j => by
      unfold putM1
      by_cases e1 : j = 99020
      · exact .inr ⟨98020, e1, by omega, rfl⟩
      rw [if_neg e1]; exact .inl rfl)
  exact hQ _ _ _ _ u3 g2 ((k1.trans k2).trans st2.keeps) (putM1_old n20 _ _ hu3)

def prog_Steps.m4 (m : Nat → Option MB) (a b c d : Nat) : Nat → Option MB := fun i => if i = 0 then m a else if i = 1 then m b else if i = 2 then m c else if i = 3 then m d else none
def prog_Steps.f4 (a b c d : Nat) : Nat → Nat := fun i => if i = 0 then a else if i = 1 then b else if i = 2 then c else d
theorem prog_Steps.m4_big {m : Nat → Option MB} {a b c d i : Nat} (h : 1000 ≤ i) : prog_Steps.m4 m a b c d i = none := by
  unfold prog_Steps.m4; rw [if_neg (by omega), if_neg (by omega), if_neg (by omega), if_neg (by omega)]
theorem prog_Steps.repD {w : World} {S : Cells} {m m' : Nat → Option MB} {c : K} {x : El c} {v : Value} (h : RepV w S m (.val c x) v) : RepV w S m' (.val c x) v := h
theorem prog_Steps.repI {w : World} {S : Cells} {m m' : Nat → Option MB} {i j : Nat} {v : Value} (h : RepV w S m (.ptr i []) v) (e : m' j = m i) : RepV w S m' (.ptr j []) v := by
  obtain ⟨u, h1, h2⟩ := repV_ptr h
  rw [h2]; exact repV_mkPtr (by rw [e]; exact h1)
theorem prog_Steps.repR {w : World} {S : Cells} {m m' : Nat → Option MB} {i j : Nat} {v : Value} (h : RepV w S m (.row i) v) (e : m' j = m i) : RepV w S m' (.row j) v := by
  obtain ⟨u, h1, h2, A, n, cap, h3⟩ := repV_row h
  rw [h2]; exact repV_mkRow (by rw [e]; exact h1) h3

/-- All takes are through. -/
theorem prog_Steps.exit {takes : List prog_Steps.TK} {n j : Int} {p : prog_Steps.PH} {pd : prog_Steps.PR} {L : List prog_Steps.SH} {D : List prog_Steps.SP} {items : List prog_Steps.LN} {act : Act} {w : World} {S : Cells} {m : Nat → Option MB}
    (h : At prog_Steps.C 0 O0 w0 S0 m0 (mkS (prog_Steps.E14 takes n j) (prog_Steps.O0 p L items) []) act w S m) (hl : prog_Steps.Link w S m L D items) (hb : prog_Steps.Back w S p pd) :
    ∃ S' m', At prog_Steps.C 0 O0 w0 S0 m0 (fillSt { env := [(1, .ptr 0), (6, .row 1)], objs := [.cell kProgram (.val kProgram), .row kStep false] } (((), ()), (pd, (D, ())))) act w S' m' := by
  obtain ⟨u2, hu2, _⟩ := h.rel.sto 2 _ rfl
  obtain ⟨S2, st, hrep, _⟩ := StoRel.freezeRow h.rel.toStoRel (id := 2) rfl hu2
  have g1 := h.ghost st (E' := [(1, .ptr 0 []), (6, .row 1)]) (O' := [(0, .cell prog_Steps.KP false (.val prog_Steps.KP p)), (1, .row prog_Steps.KS false L)]) (d' := [])
    (fun q hq => by
      simp only [List.mem_cons, List.not_mem_nil, or_false] at hq
      rcases hq with e | e <;> subst e <;> rfl)
    (fun q hq => by
      simp only [List.mem_cons, List.not_mem_nil, or_false] at hq
      rcases hq with e | e <;> subst e
      · exact (h.rel.env 1).keep st.keeps st.ext.maps
      · exact (h.rel.env 6).keep st.keeps st.ext.maps)
    (fun x _ => rfl) (fun _ => .inl rfl)
  have hclo : prog_Steps.Clo w S2 L D := by
    rcases hl with ⟨e1, e2⟩ | ⟨Lc, Dc, a, b, hv, u, e1, e2, hc, hu, hh⟩
    · subst e1; subst e2; exact ⟨rfl, fun k x y hx => by simp at hx⟩
    · subst e1; subst e2
      rw [hu2] at hu; cases hu
      exact (hc.keep st.keeps).snoc rfl rfl (by rw [← hh]; exact hrep)
  obtain ⟨u1, hu1, _⟩ := g1.rel.sto 1 _ rfl
  have n30 : m 99030 = none := g1.freshId 98030 (by omega) rfl
  have st2 := StoRel.rerow g1.rel.toStoRel (id := 1) (i1 := 99030) (e := prog_Steps.KS) (e' := kStep) (L := L) (D := D) rfl hu1 n30 rfl hclo.1.symm
    (fun k x y cs hx hy ⟨c1, c2, e1, q1, d1, d2, e2, q2, f1, f2, e3, ⟨q3, _⟩, q4⟩ => by
      obtain ⟨r1, r2, r3⟩ := hclo.2 k x y hx hy
      refine ⟨c1, c2, e1, ?_, d1, d2, e2, ?_, f1, f2, e3, ?_, q4⟩
      · rw [← r1]; exact q1
      · rw [← r2]; exact q2
      · rw [q3]; exact r3)
  have g2 := g1.ghost st2 (E' := [(1, .ptr 0 []), (6, .row 99030)]) (O' := [(0, .cell prog_Steps.KP false (.val prog_Steps.KP p)), (99030, .row kStep false D)]) (d' := [98030])
    (fun q hq => by
      simp only [List.mem_cons, List.not_mem_nil, or_false] at hq
      rcases hq with e | e <;> subst e <;> rfl)
    (fun q hq => by
      simp only [List.mem_cons, List.not_mem_nil, or_false] at hq
      rcases hq with e | e <;> subst e
      · exact (g1.rel.env 1).keep st2.keeps st2.ext.maps
      · obtain ⟨u', r1, r2, A, nn, cc, r3⟩ := repV_row (i := 1) (g1.rel.env 6)
        rw [hu1] at r1; cases r1
        show RepV w S2 _ (.row 99030) _
        rw [r2]
        exact repV_mkRow (u := { u1 with code := .arr 0 kStep }) putM1_new r3)
    (fun x _ => rfl)
    (fun i => by
      unfold putM1
      by_cases e1 : i = 99030
      · exact .inr ⟨98030, e1, by omega, rfl⟩
      rw [if_neg e1]; exact .inl rfl)
  obtain ⟨u0, hu0, _⟩ := g2.rel.sto 0 _ rfl
  have n31 := g2.freshId 98031 (by omega) rfl
  have kk : Keeps w S w S2 := st.keeps
  have st3 := StoRel.recell g2.rel.toStoRel (id := 0) (i1 := 99031) (c := prog_Steps.KP) (c' := kProgram) (t := .val prog_Steps.KP p) (t' := .val kProgram pd) rfl hu0 n31 rfl (fits_self _ _) (fun cs _ hr => hb w S2 cs kk hr)
  have g3 := g2.ghost st3 (E' := [(1, .ptr 99031 []), (6, .row 99030)]) (O' := [(99031, .cell kProgram false (.val kProgram pd)), (99030, .row kStep false D)]) (d' := [98031, 98030])
    (fun q hq => by
      simp only [List.mem_cons, List.not_mem_nil, or_false] at hq
      rcases hq with e | e <;> subst e <;> rfl)
    (fun q hq => by
      simp only [List.mem_cons, List.not_mem_nil, or_false] at hq
      rcases hq with e | e <;> subst e
      · obtain ⟨u', r1, r2⟩ := repV_ptr (i := 0) (p := []) (g2.rel.env 1)
        rw [hu0] at r1; cases r1
        show RepV w S2 _ (.ptr 99031 []) _
        rw [r2, offK_nil]
        have := repV_mkPtr (w := w) (S := S2) (i := 99031) (p := []) (m := putM1 (putM1 m 99030 { u1 with code := .arr 0 kStep }) 99031 { u0 with code := kProgram }) (u := { u0 with code := kProgram }) putM1_new
        rw [offK_nil] at this
        exact this
      · exact (g2.rel.env 6).keep st3.keeps st3.ext.maps)
    (fun x hx => by
      simp only [elemN, Bool.or_eq_false_iff] at hx
      show elemN x [98030] = false
      simp only [elemN, Bool.or_eq_false_iff]
      exact hx.2)
    (fun i => by
      unfold putM1
      by_cases e1 : i = 99031
      · exact .inr ⟨98031, e1, by omega, rfl⟩
      rw [if_neg e1]; exact .inl rfl)
  have g4 := g3.recut (E' := [(1, .ptr 0 []), (6, .row 1)]) (O' := [(0, .cell kProgram false (.val kProgram pd)), (1, .row kStep false D)]) (d' := []) (m' := prog_Steps.m4 (putM1 (putM1 m 99030 { u1 with code := .arr 0 kStep }) 99031 { u0 with code := kProgram }) 99031 99030 0 0) (prog_Steps.f4 99031 99030 0 0)
    (fun q hq r hr => by
      simp only [List.mem_cons, List.not_mem_nil, or_false] at hq hr
      rcases hq with e | e <;> rcases hr with e' | e' <;> subst e <;> subst e' <;> simp [prog_Steps.f4])
    (fun q hq => by
      simp only [List.mem_cons, List.not_mem_nil, or_false] at hq
      rcases hq with e | e <;> subst e <;> exact ⟨rfl, rfl, rfl⟩)
    (fun q hq => by
      simp only [List.mem_cons, List.not_mem_nil, or_false] at hq
      rcases hq with e | e <;> subst e
      · exact prog_Steps.repI (i := 99031) (g3.rel.env 1) rfl
      · exact prog_Steps.repR (i := 99030) (g3.rel.env 6) rfl)
    (fun i hi => prog_Steps.m4_big hi)
  exact ⟨S2, _, g4.same (fun t => rfl) (fun i o ho => by
    match i, ho with
    | 0, ho => exact ho
    | 1, ho => exact ho
    | i + 2, ho => cases ho)⟩

/-- Rounds. -/
theorem prog_Steps.loop {takes : List prog_Steps.TK} {p : prog_Steps.PH} {pd : prog_Steps.PR} {tg : Int} {res : List prog_Steps.SP} (htl : takes.length ≤ 100000) (hp0 : prog_tag p.1 = some tg) {Q : Exit → Act → World → Prop}
    (hQ : ∀ act w S m, At prog_Steps.C 0 O0 w0 S0 m0 (fillSt { env := [(1, .ptr 0), (6, .row 1)], objs := [.cell kProgram (.val kProgram), .row kStep false] } (((), ()), (pd, (res, ())))) act w S m → Q (.exit 1) act w) :
    ∀ (l : List prog_Steps.TK) (j : Nat) (L : List prog_Steps.SH) (D : List prog_Steps.SP) (items : List prog_Steps.LN) (act : Act) (w : World) (S : Cells) (m : Nat → Option MB), takes.drop j = l → prog_Steps.stepsGo tg p.2.2.2.2.1 j l D = some res →
      At prog_Steps.C 0 O0 w0 S0 m0 (mkS (prog_Steps.E0 takes takes.length j) (prog_Steps.O0 p L items) []) act w S m → prog_Steps.Link w S m L D items → prog_Steps.Back w S p pd → L.length ≤ j → items.length ≤ j → j ≤ takes.length →
      Code.rounds Go.Proofs.Try.prog (prog_Steps.bodyL Go.Proofs.Try.f30) Q (l.length + 1) act w := by
  intro l
  induction l with
  | nil =>
    intro j L D items act w S m hd hs h hl hb hL hi hj
    have hjl : j = takes.length := by
      have := congrArg List.length hd
      simp at this; omega
    cases hs
    rw [rounds_succ]
    refine wp_seq (At.region (C := prog_Steps.C) prog_Steps.ctxR follows rfl h (E' := prog_Steps.E14 takes takes.length j) (O' := prog_Steps.O0 p L items) (d' := []) rfl rfl (prog_Steps.e14 ..) fun a1 w1 S1 m1 h1 k1 hm1 => ?_)
    refine wp_seq (wp_cond_env h1 (b := decide ((j : Int) < takes.length)) rfl (fun q => ?_) fun q => wp_exit ?_)
    · simp only [decide_eq_true_eq] at q; omega
    · have hl1 : prog_Steps.Link w1 S1 m1 L res items := by
        rcases hl with e | ⟨Lc, Dc, a, b, hv, u, e1, e2, hc, hu, hh⟩
        · exact .inl e
        · exact .inr ⟨Lc, Dc, a, b, hv, u, e1, e2, hc.keep k1, hm1 _ _ hu, hh⟩
      obtain ⟨S2, m2, h2⟩ := prog_Steps.exit h1 hl1 (fun w' S' cs q => hb w' S' cs (k1.trans q))
      exact hQ a1 w1 S2 m2 h2
  | cons x l ih =>
    intro j L D items act w S m hd hs h hl hb hL hi hj
    have hjl : j < takes.length := by
      have := congrArg List.length hd
      simp at this; omega
    have hx : takes[j]? = some x := by
      have := congrArg (fun l : List prog_Steps.TK => l[0]?) hd
      simpa using this
    have hd' : takes.drop (j + 1) = l := by
      have := congrArg (fun l : List prog_Steps.TK => l.drop 1) hd
      simpa [List.drop_drop, Nat.add_comm] using this
    rw [rounds_succ]
    refine wp_seq (At.region (C := prog_Steps.C) prog_Steps.ctxR follows rfl h (E' := prog_Steps.E14 takes takes.length j) (O' := prog_Steps.O0 p L items) (d' := []) rfl rfl (prog_Steps.e14 ..) fun a1 w1 S1 m1 h1 k1 hm1 => ?_)
    refine wp_seq (wp_cond_env h1 (b := decide ((j : Int) < takes.length)) rfl (fun q => wp_skip ?_) fun q => (by simp only [decide_eq_false_iff_not] at q; omega))
    show (Code.seq (.block 2 _) _).wp _ _ _ _
    refine wp_seq (wp_block ?_)
    refine wp_seq (At.region (C := prog_Steps.C) prog_Steps.ctxR follows rfl h1 (E' := prog_Steps.E15 takes takes.length j) (O' := prog_Steps.O15 p L items x) (d' := [8]) rfl rfl ((prog_Steps.e15 ..).trans (nthK_get hx)) fun a2 w2 S2 m2 h2 k2 hm2 => ?_)
    show (Code.seq (.seq _ _) _).wp _ _ _ _
    -- the end of a round
    have rest : ∀ (D' : List prog_Steps.SP) (Lc : List prog_Steps.SH) (Dc : List prog_Steps.SP) (a b : Int) (items' : List prog_Steps.LN) (act' : Act) (w' : World) (S' : Cells) (m' : Nat → Option MB) (u' : MB), prog_Steps.stepsGo tg p.2.2.2.2.1 (j + 1) l D' = some res → D' = Dc ++ [((a, (b, (items', ()))) : prog_Steps.SP)] →
        At prog_Steps.C 0 O0 w0 S0 m0 (mkS (prog_Steps.Ej takes takes.length j) (prog_Steps.Oj p (Lc ++ [((a, (b, (u'.hv, ()))) : prog_Steps.SH)]) items') [98020, 113, 112, 98010, 98011, 98012]) act' w' S' m' → Keeps w S w' S' → prog_Steps.Clo w' S' Lc Dc → m' 1113 = some u' → Lc.length ≤ j → items'.length ≤ j + 1 →
        (Code.region 20 (rops (bodyOf Go.Proofs.Try.f30) 20) false).wp Go.Proofs.Try.prog (Exit.then (Code.rounds Go.Proofs.Try.prog (prog_Steps.bodyL Go.Proofs.Try.f30) Q (l.length + 1)) Q) act' w' := by
      intro D' Lc Dc a b items' act' w' S' m' u' hs' hD h5 kk hc hu' hlc hi'
      refine At.region (C := prog_Steps.C) prog_Steps.ctxR follows rfl h5 (E' := prog_Steps.Ej takes takes.length (IntKind.i64.wrap ((j : Int) + 1))) (O' := prog_Steps.Oj p (Lc ++ [((a, (b, (u'.hv, ()))) : prog_Steps.SH)]) items') (d' := [98020, 113, 112, 98010, 98011, 98012]) rfl rfl (prog_Steps.e20 ..) fun a6 w6 S6 m6 h6 k6 hm6 => ?_
      rw [succ_i64 (by omega)] at h6
      have h7 := h6.recut (E' := prog_Steps.E0 takes takes.length ((j + 1 : Nat) : Int)) (O' := prog_Steps.O0 p (Lc ++ [((a, (b, (u'.hv, ()))) : prog_Steps.SH)]) items') (d' := []) (m' := prog_Steps.m4 m6 0 99020 1113 0) (prog_Steps.f4 0 99020 1113 0)
        (fun q hq r hr => by
          simp only [prog_Steps.O0, List.mem_cons, List.not_mem_nil, or_false] at hq hr
          rcases hq with e | e | e <;> rcases hr with e' | e' | e' <;> subst e <;> subst e' <;> simp [prog_Steps.f4])
        (fun q hq => by
          simp only [prog_Steps.O0, List.mem_cons, List.not_mem_nil, or_false] at hq
          rcases hq with e | e | e <;> subst e <;> exact ⟨rfl, rfl, rfl⟩)
        (fun q hq => by
          simp only [prog_Steps.E0, List.mem_cons, List.not_mem_nil, or_false] at hq
          rcases hq with e | e | e | e | e <;> subst e
          · exact prog_Steps.repI (i := 0) (h6.rel.env 1) rfl
          · exact prog_Steps.repR (i := 99020) (h6.rel.env 6) rfl
          · exact h6.rel.env 67
          · exact h6.rel.env 68
          · exact h6.rel.env 69)
        (fun i hi => prog_Steps.m4_big hi)
      refine ih (j + 1) _ D' items' a6 w6 S6 _ hd' hs' h7 (.inr ⟨Lc, Dc, a, b, u'.hv, u', rfl, hD, hc.keep k6, hm6 _ _ hu', rfl⟩) (fun w'' S'' cs q => hb w'' S'' cs ((kk.trans k6).trans q)) (by simp; omega) hi' (by omega)
    have go : ∀ nw : Bool, evalReg prog_Steps.CR true (rops (bodyOf Go.Proofs.Try.f30) 16).toList (mkS (prog_Steps.E15 takes takes.length j) (prog_Steps.O15 p L items x) [8]) (fun sF => some (facts [1, 6, 67, 68, 69, 8, 87] [0, 1, 2, 1008] sF)) = some (told (prog_Steps.E16 takes takes.length j nw) (prog_Steps.O15 p L items x) [8]) →
        (match nw with
          | true => prog_Steps.stepsGo tg p.2.2.2.2.1 (j + 1) l (D ++ [(tg, (x.2.2.1, ([(x.2.1, (x.2.2.2.1, ()))], ())))])
          | false => match D.getLast? with
            | none => none
            | some z => prog_Steps.stepsGo tg p.2.2.2.2.1 (j + 1) l (D.dropLast ++ [(z.1, (z.2.1, (z.2.2.1 ++ [(x.2.1, (x.2.2.2.1, ()))], ())))])) = some res →
        (Code.seq (.seq (.region 16 (rops (bodyOf Go.Proofs.Try.f30) 16) true) (.cond (.tmp 87) (.region 17 (rops (bodyOf Go.Proofs.Try.f30) 17) true) .skip)) (.seq (.region 18 (rops (bodyOf Go.Proofs.Try.f30) 18) false) (.region 19 (rops (bodyOf Go.Proofs.Try.f30) 19) true))).wp Go.Proofs.Try.prog
          (Exit.inBlock 2 (Exit.then ((Code.region 20 (rops (bodyOf Go.Proofs.Try.f30) 20) false).wp Go.Proofs.Try.prog (Exit.then (Code.rounds Go.Proofs.Try.prog (prog_Steps.bodyL Go.Proofs.Try.f30) Q (l.length + 1)) Q)) (Exit.then (Code.rounds Go.Proofs.Try.prog (prog_Steps.bodyL Go.Proofs.Try.f30) Q (l.length + 1)) Q))) a2 w2 := by
      intro nw he hs'
      refine wp_seq (wp_seq (At.region (C := prog_Steps.C) prog_Steps.ctxR follows rfl h2 (E' := prog_Steps.E16 takes takes.length j nw) (O' := prog_Steps.O15 p L items x) (d' := [8]) rfl rfl he fun a3 w3 S3 m3 h3 k3 hm3 => ?_))
      have kk3 := (k1.trans k2).trans k3
      have mm3 : ∀ i u, m i = some u → m3 i = some u := fun i u q => hm3 _ _ (hm2 _ _ (hm1 _ _ q))
      refine wp_cond_env h3 (b := nw) rfl (fun q => ?_) fun q => wp_skip ?_
      · subst q
        refine At.region (C := prog_Steps.C) prog_Steps.ctxR follows rfl h3 (E' := prog_Steps.E17 takes takes.length j) (O' := prog_Steps.O17 p L items x tg) (d' := [96, 95, 91, 8]) rfl rfl ((prog_Steps.e17 ..).trans (by rw [hp0]; exact room_ok (by omega))) fun a4 w4 S4 m4' h4 k4 hm4 => ?_
        show (Code.seq (.region 18 _ _) _).wp _ _ _ _
        obtain ⟨u2, hu2, _⟩ := h4.rel.sto 2 _ rfl
        obtain ⟨S5, st, hrep, _⟩ := StoRel.freezeRow h4.rel.toStoRel (id := 2) rfl hu2
        have g1 := h4.ghost st (E' := prog_Steps.E17 takes takes.length j) (O' := [(0, .cell prog_Steps.KP false (.val prog_Steps.KP p)), (1096, .row prog_Steps.KS false (L ++ [((tg, (x.2.2.1, ((Value.slice none 0 0), ()))) : prog_Steps.SH)])), (1008, .cell kTake false (.val kTake x))]) (d' := [96, 95, 91, 8])
          (fun q hq => by
            simp only [List.mem_cons, List.not_mem_nil, or_false] at hq
            rcases hq with e | e | e <;> subst e <;> rfl)
          (fun q hq => by
            simp only [prog_Steps.E17, List.mem_cons, List.not_mem_nil, or_false] at hq
            rcases hq with e | e | e | e | e | e <;> subst e
            · exact (h4.rel.env 1).keep st.keeps st.ext.maps
            · exact (h4.rel.env 6).keep st.keeps st.ext.maps
            · exact (h4.rel.env 67).keep st.keeps st.ext.maps
            · exact (h4.rel.env 68).keep st.keeps st.ext.maps
            · exact (h4.rel.env 69).keep st.keeps st.ext.maps
            · exact (h4.rel.env 8).keep st.keeps st.ext.maps)
          (fun x q => q) (fun _ => .inl rfl)
        have hclo : prog_Steps.Clo w4 S5 L D := by
          rcases hl with ⟨e1, e2⟩ | ⟨Lc, Dc, a, b, hv, u, e1, e2, hc, hu, hh⟩
          · subst e1; subst e2; exact ⟨rfl, fun k x y hx => by simp at hx⟩
          · subst e1; subst e2
            have := hm4 _ _ (mm3 _ _ hu)
            rw [hu2] at this; cases this
            exact (((hc.keep kk3).keep k4).keep st.keeps).snoc rfl rfl (by rw [← hh]; exact hrep)
        have n3 : m4' 99003 = none := g1.freshId 98003 (by omega) rfl
        have st2 := StoRel.newNil g1.rel.toStoRel (id := 99003) n3 kLine false
        have g2 := g1.ghost st2 (E' := prog_Steps.E17 takes takes.length j) (O' := [(0, .cell prog_Steps.KP false (.val prog_Steps.KP p)), (1096, .row prog_Steps.KS false (L ++ [((tg, (x.2.2.1, ((Value.slice none 0 0), ()))) : prog_Steps.SH)])), (99003, .row kLine false []), (1008, .cell kTake false (.val kTake x))]) (d' := [98003, 96, 95, 91, 8])
          (fun q hq => by
            simp only [List.mem_cons, List.not_mem_nil, or_false] at hq
            rcases hq with e | e | e | e <;> subst e <;> rfl)
          (fun q hq => by
            simp only [prog_Steps.E17, List.mem_cons, List.not_mem_nil, or_false] at hq
            rcases hq with e | e | e | e | e | e <;> subst e
            · exact (g1.rel.env 1).keep st2.keeps st2.ext.maps
            · exact (g1.rel.env 6).keep st2.keeps st2.ext.maps
            · exact (g1.rel.env 67).keep st2.keeps st2.ext.maps
            · exact (g1.rel.env 68).keep st2.keeps st2.ext.maps
            · exact (g1.rel.env 69).keep st2.keeps st2.ext.maps
            · exact (g1.rel.env 8).keep st2.keeps st2.ext.maps)
          (fun x hx => by
            simp only [elemN, Bool.or_eq_false_iff] at hx
            show elemN x [96, 95, 91, 8] = false
            simp only [elemN, Bool.or_eq_false_iff]
            exact hx.2)
          (fun i => by
            unfold putM1
            by_cases e1 : i = 99003
            · exact .inr ⟨98003, e1, by omega, rfl⟩
            rw [if_neg e1]; exact .inl rfl)
        have g3 := g2.recut (E' := prog_Steps.Em takes takes.length j) (O' := prog_Steps.Om p (L ++ [((tg, (x.2.2.1, ((Value.slice none 0 0), ()))) : prog_Steps.SH)]) [] x) (d' := []) (m' := prog_Steps.m4 (putM1 m4' 99003 ⟨.slice none 0 0, 0, 0, .arr 0 kLine⟩) 0 1096 99003 1008) (prog_Steps.f4 0 1096 99003 1008)
          (fun q hq r hr => by
            simp only [prog_Steps.Om, List.mem_cons, List.not_mem_nil, or_false] at hq hr
            rcases hq with e | e | e | e <;> rcases hr with e' | e' | e' | e' <;> subst e <;> subst e' <;> simp [prog_Steps.f4])
          (fun q hq => by
            simp only [prog_Steps.Om, List.mem_cons, List.not_mem_nil, or_false] at hq
            rcases hq with e | e | e | e <;> subst e <;> exact ⟨rfl, rfl, rfl⟩)
          (fun q hq => by
            simp only [prog_Steps.Em, List.mem_cons, List.not_mem_nil, or_false] at hq
            rcases hq with e | e | e | e | e | e <;> subst e
            · exact prog_Steps.repI (i := 0) (g2.rel.env 1) rfl
            · exact prog_Steps.repR (i := 1096) (g2.rel.env 6) rfl
            · exact g2.rel.env 67
            · exact g2.rel.env 68
            · exact g2.rel.env 69
            · exact prog_Steps.repI (i := 1008) (g2.rel.env 8) rfl)
          (fun i hi => prog_Steps.m4_big hi)
        refine prog_Steps.tail g3 (u := ⟨.slice none 0 0, 0, 0, .arr 0 kLine⟩) (by show putM1 m4' 99003 _ 99003 = _; exact putM1_new) rfl (by omega) (by simp) _ fun a5 w5 S6 m5 u5 h5 k5 hu5 => ?_
        exact rest _ L D tg x.2.2.1 _ a5 w5 S6 m5 u5 hs' rfl h5 ((((kk3.trans k4).trans st.keeps).trans st2.keeps).trans k5) (((hclo.keep st2.keeps)).keep k5) hu5 hL (by simp)
      · subst q
        show (Code.seq (.region 18 _ _) _).wp _ _ _ _
        rcases hl with ⟨e1, e2⟩ | ⟨Lc, Dc, a, b, hv, u, e1, e2, hc, hu, hh⟩
        · subst e2; cases hs'
        subst e1; subst e2
        simp only [List.getLast?_append, List.getLast?_singleton, Option.some_or, List.dropLast_concat] at hs'
        have g3 := h3.recut (E' := prog_Steps.Em takes takes.length j) (O' := prog_Steps.Om p (Lc ++ [((a, (b, (hv, ()))) : prog_Steps.SH)]) items x) (d' := []) (m' := prog_Steps.m4 m3 0 1 2 1008) (prog_Steps.f4 0 1 2 1008)
          (fun q hq r hr => by
            simp only [prog_Steps.Om, List.mem_cons, List.not_mem_nil, or_false] at hq hr
            rcases hq with e | e | e | e <;> rcases hr with e' | e' | e' | e' <;> subst e <;> subst e' <;> simp [prog_Steps.f4])
          (fun q hq => by
            simp only [prog_Steps.Om, List.mem_cons, List.not_mem_nil, or_false] at hq
            rcases hq with e | e | e | e <;> subst e <;> exact ⟨rfl, rfl, rfl⟩)
          (fun q hq => by
            simp only [prog_Steps.Em, List.mem_cons, List.not_mem_nil, or_false] at hq
            rcases hq with e | e | e | e | e | e <;> subst e
            · exact prog_Steps.repI (i := 0) (h3.rel.env 1) rfl
            · exact prog_Steps.repR (i := 1) (h3.rel.env 6) rfl
            · exact h3.rel.env 67
            · exact h3.rel.env 68
            · exact h3.rel.env 69
            · exact prog_Steps.repI (i := 1008) (h3.rel.env 8) rfl)
          (fun i hi => prog_Steps.m4_big hi)
        have hLc : Lc.length + 1 ≤ j := by simpa using hL
        refine prog_Steps.tail g3 (u := u) (mm3 _ _ hu) hh (by omega) (by omega) _ fun a5 w5 S6 m5 u5 h5 k5 hu5 => ?_
        exact rest _ Lc Dc a b _ a5 w5 S6 m5 u5 hs' rfl h5 (kk3.trans k5) ((hc.keep kk3).keep k5) hu5 (by omega) (by simp; omega)
    cases j with
    | zero =>
      simp only [prog_Steps.stepsGo, Option.bind_some] at hs
      exact go true (prog_Steps.e16 ..) hs
    | succ j =>
      simp only [prog_Steps.stepsGo] at hs
      obtain ⟨nw, hn, hs'⟩ := Option.bind_eq_some_iff.1 hs
      obtain ⟨y, hy, en⟩ := Option.map_eq_some_iff.1 hn
      subst en
      refine go _ ((prog_Steps.e16 ..).trans ?_) hs'
      rw [show (((j + 1 : Nat) : Int) == 0) = false by simp; omega, cond_false, pred_i64 (by omega)]
      exact nthK_get hy
end

theorem prog_Steps.codeOk : CodeOk Go.Proofs.Try.prog prog_Steps.C 0 (.loop (prog_Steps.bodyL Go.Proofs.Try.f30)) prog_Steps.g14 := by
  intro O0 w0 S0 m0 v z act w S m hG h Q hQ
  obtain ⟨⟨_, _, takes, n, i⟩, pd, _⟩ := v
  have hG : prog_Steps.stepsG (((), ((), (takes, (n, i)))), (pd, ())) = some z := hG
  unfold prog_Steps.stepsG at hG
  obtain ⟨hb, hG⟩ := bif_some hG
  simp only [Bool.and_eq_true, decide_eq_true_eq] at hb
  obtain ⟨hn, hi, htl⟩ := hb
  have htl := Nat.le_of_ble_eq_true htl
  obtain ⟨tg, ht, hG⟩ := Option.bind_eq_some_iff.1 hG
  obtain ⟨res, hr, hG⟩ := Option.map_eq_some_iff.1 hG
  subst hn; subst hi; subst hG
  obtain ⟨u0, hu0, ho0⟩ := h.rel.sto 0 _ rfl
  obtain ⟨_, _, _, cs, hrg, hcs, _⟩ := ho0
  have hlen0 : cs.length = kProgram.size := Rep.length (show Rep w S kProgram pd cs from hcs)
  obtain ⟨p, hp1, hp2, hp3, hp4⟩ : ∃ p : prog_Steps.PH, Rep w S prog_Steps.KP p cs ∧ prog_Steps.Back w S p pd ∧ p.1 = pd.1 ∧ p.2.2.2.2.1 = pd.2.2.2.2.1 := by
    obtain ⟨a1, r1, e1, h1, a2, r2, e2, h2, a3, r3, e3, h3, a4, r4, e4, ⟨A4, k4, q4, t4, z4⟩, a5, r5, e5, h5, a6, r6, e6, ⟨A6, k6, q6, t6, z6⟩, h7⟩ := (show Rep w S kProgram pd cs from hcs)
    refine ⟨(pd.1, (pd.2.1, (pd.2.2.1, (.slice A4 pd.2.2.2.1.length k4, (pd.2.2.2.2.1, (.slice A6 pd.2.2.2.2.2.1.length k6, pd.2.2.2.2.2.2)))))), ⟨a1, r1, e1, h1, a2, r2, e2, h2, a3, r3, e3, h3, a4, r4, e4, ⟨q4, _, _, _, rfl⟩, a5, r5, e5, h5, a6, r6, e6, ⟨q6, _, _, _, rfl⟩, h7⟩, ?_, rfl, rfl⟩
    intro w' S' cs' k ⟨b1, s1, f1, g1, b2, s2, f2, g2, b3, s3, f3, g3, b4, s4, f4, ⟨g4, _⟩, b5, s5, f5, g5, b6, s6, f6, ⟨g6, _⟩, g7⟩
    exact ⟨b1, s1, f1, g1, b2, s2, f2, g2, b3, s3, f3, g3, b4, s4, f4, ⟨A4, k4, g4, t4, z4.keep k fun _ _ q => Rep.keep k q⟩, b5, s5, f5, g5, b6, s6, f6, ⟨A6, k6, g6, t6, z6.keep k fun _ _ q => Rep.keep k q⟩, g7⟩
  have n31 := h.freshId 98031 (by omega) rfl
  have st := StoRel.recell h.rel.toStoRel (id := 0) (i1 := 99031) (c := kProgram) (c' := prog_Steps.KP) (t := .val kProgram pd) (t' := .val prog_Steps.KP p) rfl hu0 n31 rfl (fits_self _ _) (fun cs' h1 hr => by
    have : cs' = cs := rangeAt_eq h1 hrg ((Rep.length (show Rep w S kProgram pd cs' from hr)).trans hlen0.symm)
    rw [this]; exact hp1)
  have g1 := h.ghost st (E' := [(1, .ptr 99031 []), (6, .nils kStep), (67, .val (.slice kTake) takes), (68, .val (.int .i64) takes.length), (69, .val (.int .i64) (0 : Int))]) (O' := [(99031, .cell prog_Steps.KP false (.val prog_Steps.KP p))]) (d' := [98031])
    (fun q hq => by
      simp only [List.mem_cons, List.not_mem_nil, or_false] at hq
      subst hq; rfl)
    (fun q hq => by
      simp only [List.mem_cons, List.not_mem_nil, or_false] at hq
      rcases hq with e | e | e | e | e <;> subst e
      · obtain ⟨u', r1, r2⟩ := repV_ptr (i := 0) (p := []) (h.rel.env 1)
        rw [hu0] at r1; cases r1
        show RepV w S _ (.ptr 99031 []) _
        rw [r2, offK_nil]
        have := repV_mkPtr (w := w) (S := S) (i := 99031) (p := []) (m := putM1 m 99031 { u0 with code := prog_Steps.KP }) (u := { u0 with code := prog_Steps.KP }) putM1_new
        rw [offK_nil] at this
        exact this
      · exact (h.rel.env 6).keep st.keeps st.ext.maps
      · exact (h.rel.env 67).keep st.keeps st.ext.maps
      · exact (h.rel.env 68).keep st.keeps st.ext.maps
      · exact (h.rel.env 69).keep st.keeps st.ext.maps)
    (fun x _ => rfl)
    (fun i => by
      unfold putM1
      by_cases e1 : i = 99031
      · exact .inr ⟨98031, e1, by omega, rfl⟩
      rw [if_neg e1]; exact .inl rfl)
  have n1 := g1.freshId 98001 (by omega) rfl
  have st1 := StoRel.newNil g1.rel.toStoRel (id := 99001) n1 prog_Steps.KS false
  have n2 : putM1 (putM1 m 99031 { u0 with code := prog_Steps.KP }) 99001 ⟨.slice none 0 0, 0, 0, .arr 0 prog_Steps.KS⟩ 99002 = none := by
    have := g1.freshId 98002 (by omega) rfl
    unfold putM1 at this ⊢
    rw [if_neg (by omega)]; exact this
  have st2 := StoRel.newNil st1.rel (id := 99002) n2 kLine false
  have g2 := g1.ghost (st1.trans st2) (E' := [(1, .ptr 99031 []), (6, .row 99001), (67, .val (.slice kTake) takes), (68, .val (.int .i64) takes.length), (69, .val (.int .i64) (0 : Int))])
    (O' := [(99031, .cell prog_Steps.KP false (.val prog_Steps.KP p)), (99001, .row prog_Steps.KS false []), (99002, .row kLine false [])]) (d' := [98002, 98001, 98031])
    (fun q hq => by
      simp only [List.mem_cons, List.not_mem_nil, or_false] at hq
      rcases hq with e | e | e <;> subst e <;> rfl)
    (fun q hq => by
      simp only [List.mem_cons, List.not_mem_nil, or_false] at hq
      rcases hq with e | e | e | e | e <;> subst e
      · exact (g1.rel.env 1).keep (st1.trans st2).keeps (st1.trans st2).ext.maps
      · have q0 : RepV w S (putM1 m 99031 { u0 with code := prog_Steps.KP }) (.nils kStep) (act.tmps.getD 6 undef) := g1.rel.env 6
        rcases q0 with q | ⟨cs, q1, q2⟩
        · cases q
        have q1 : cs = [.slice none 0 0] := q1
        subst q1
        show RepV w S _ (.row 99001) _
        have q2 : Value.slice none 0 0 = act.tmps.getD 6 undef := by simpa [Shut, T.isAgg] using q2
        rw [← q2]
        exact repV_mkRow (u := ⟨.slice none 0 0, 0, 0, .arr 0 prog_Steps.KS⟩) (putM1_old n2 _ _ putM1_new) rfl
      · exact (g1.rel.env 67).keep (st1.trans st2).keeps (st1.trans st2).ext.maps
      · exact (g1.rel.env 68).keep (st1.trans st2).keeps (st1.trans st2).ext.maps
      · exact (g1.rel.env 69).keep (st1.trans st2).keeps (st1.trans st2).ext.maps)
    (fun x hx => by
      simp only [elemN, Bool.or_eq_false_iff] at hx
      show elemN x [98031] = false
      simp only [elemN, Bool.or_eq_false_iff]
      exact hx.2.2)
    (fun i => by
      by_cases e1 : i = 99002
      · exact .inr ⟨98002, e1, by omega, rfl⟩
      by_cases e2 : i = 99001
      · exact .inr ⟨98001, e2, by omega, rfl⟩
      refine .inl ?_
      show putM1 (putM1 _ 99001 _) 99002 _ i = _
      unfold putM1
      rw [if_neg e1, if_neg e2])
  have g3 := g2.recut (E' := prog_Steps.E0 takes takes.length ((0 : Nat) : Int)) (O' := prog_Steps.O0 p [] []) (d' := []) (m' := prog_Steps.m4 (putM1 (putM1 (putM1 m 99031 { u0 with code := prog_Steps.KP }) 99001 ⟨.slice none 0 0, 0, 0, .arr 0 prog_Steps.KS⟩) 99002 ⟨.slice none 0 0, 0, 0, .arr 0 kLine⟩) 99031 99001 99002 0) (prog_Steps.f4 99031 99001 99002 0)
    (fun q hq r hr => by
      simp only [prog_Steps.O0, List.mem_cons, List.not_mem_nil, or_false] at hq hr
      rcases hq with e | e | e <;> rcases hr with e' | e' | e' <;> subst e <;> subst e' <;> simp [prog_Steps.f4])
    (fun q hq => by
      simp only [prog_Steps.O0, List.mem_cons, List.not_mem_nil, or_false] at hq
      rcases hq with e | e | e <;> subst e <;> exact ⟨rfl, rfl, rfl⟩)
    (fun q hq => by
      simp only [prog_Steps.E0, List.mem_cons, List.not_mem_nil, or_false] at hq
      rcases hq with e | e | e | e | e <;> subst e
      · exact prog_Steps.repI (i := 99031) (g2.rel.env 1) rfl
      · exact prog_Steps.repR (i := 99001) (g2.rel.env 6) rfl
      · exact g2.rel.env 67
      · exact g2.rel.env 68
      · exact g2.rel.env 69)
    (fun i hi => prog_Steps.m4_big hi)
  refine wp_loop_rounds (takes.length + 1) (prog_Steps.loop htl (p := p) (pd := pd) (tg := tg) (res := res) (by rw [hp3]; exact ht) (fun act' w' S' m' hx => hQ (.exit 1) _ act' w' S' m' (fun R κ => rfl) hx) takes 0 [] [] [] act w S _ rfl (by rw [hp4]; exact hr) g3 (.inl ⟨rfl, rfl⟩) hp2 (Nat.le_refl 0) (Nat.le_refl 0) (Nat.zero_le _))
theorem prog_Steps.givenIn : ∀ c, Go.Proofs.Try.f30.body = some c → GivenIn Go.Proofs.Try.prog prog_Steps.C prog_Steps.Q c := fun c hc => GivenIn.of_list (by
  have : bodyOf Go.Proofs.Try.f30 = c := by unfold bodyOf; rw [hc]
  rw [← this]; exact prog_Steps.givens) (given_one prog_Steps.codeOk)

set_option maxRecDepth 100000 in
theorem prog_Steps.ok : Sound Go.Proofs.Try.prog 30 prog_Steps.sig := body_sound (C := prog_Steps.C) (q := prog_Steps.Q) (fn := Go.Proofs.Try.f30) (sg := prog_Steps.sig) (n := 1) prog_Steps.ctx follows Go.Proofs.Try.func30 (by kernel_rfl) (by kernel_rfl) (by kernel_rfl) (by kernel_rfl) (Nat.le_of_ble_eq_true (by kernel_rfl)) (by kernel_rfl) prog_Steps.eq prog_Steps.givenIn

def wire_New (x0 : Int) : Option (Unit × ((Int × Unit) × Unit × Int × Unit) × Unit) :=
  some ((), (((0, ()), ((), (if 0 > x0 then 0 else x0, ()))), ()))
def wire_New.C : Ctx := { ty := tyT, sigs := fun i => [], n := 7, mp := mpT }
def wire_New.Q : Cuts := { np := 0, loops := fun i => none, seqs := fun i => none, splits := fun i => none }
def wire_New.sig : Sig := { args := .tc (.val (.int .i64)) .tn, objs := [], ret := .ptr 0, outs := [.cell kWriter (.pair (.val (.cons (.int .i64) .unit)) (.pair (.nils (.int .u8)) (.val (.cons (.int .i64) .unit))))], F := fun x => wire_New x.1.1 }
theorem wire_New.eq : (fun x => body wire_New.C wire_New.Q Go.Proofs.Try.f32 wire_New.sig.args wire_New.sig.objs wire_New.sig.ret wire_New.sig.outs x) = wire_New.sig.F := by
  kernel_rfl
set_option maxRecDepth 100000 in
theorem wire_New.ctx : CtxOk Go.Proofs.Try.prog wire_New.C := ⟨tyOk, mpOk, Nat.le_of_ble_eq_true (by kernel_rfl), fun f sg => (fun h => by cases h)⟩
set_option maxRecDepth 100000 in
theorem wire_New.ok : Sound Go.Proofs.Try.prog 32 wire_New.sig := body_sound (C := wire_New.C) (q := wire_New.Q) (fn := Go.Proofs.Try.f32) (sg := wire_New.sig) (n := 1) wire_New.ctx follows Go.Proofs.Try.func32 (by kernel_rfl) (by kernel_rfl) (by kernel_rfl) (by kernel_rfl) (Nat.le_of_ble_eq_true (by kernel_rfl)) (by kernel_rfl) wire_New.eq

def wire_fault_wrong (x0 : Unit) (x1 : Int) (o0 : Int × Unit) : Option (Unit × (Int × Unit) × Unit) :=
  bif (o0.1 : Int) == 0 then some ((), ((x1, o0.2), ())) else some ((), (o0, ()))
def wire_fault_wrong.C : Ctx := { ty := tyT, sigs := fun i => [], n := 13, mp := mpT }
def wire_fault_wrong.Q : Cuts := { np := 1, loops := fun i => none, seqs := fun i => none, splits := fun i => none }
def wire_fault_wrong.sig : Sig := { args := .tc (.ptr 0) (.tc (.val (.int .i64)) .tn), objs := [.cell (.cons (.int .i64) .unit) (.val (.cons (.int .i64) .unit))], ret := .tup .tn, outs := [.cell (.cons (.int .i64) .unit) (.val (.cons (.int .i64) .unit))], F := fun x => wire_fault_wrong x.1.1 x.1.2.1 x.2.1 }
theorem wire_fault_wrong.eq : (fun x => body wire_fault_wrong.C wire_fault_wrong.Q Go.Proofs.Try.f80 wire_fault_wrong.sig.args wire_fault_wrong.sig.objs wire_fault_wrong.sig.ret wire_fault_wrong.sig.outs x) = wire_fault_wrong.sig.F := by
  kernel_rfl
set_option maxRecDepth 100000 in
theorem wire_fault_wrong.ctx : CtxOk Go.Proofs.Try.prog wire_fault_wrong.C := ⟨tyOk, mpOk, Nat.le_of_ble_eq_true (by kernel_rfl), fun f sg => (fun h => by cases h)⟩
set_option maxRecDepth 100000 in
theorem wire_fault_wrong.ok : Sound Go.Proofs.Try.prog 80 wire_fault_wrong.sig := body_sound (C := wire_fault_wrong.C) (q := wire_fault_wrong.Q) (fn := Go.Proofs.Try.f80) (sg := wire_fault_wrong.sig) (n := 2) wire_fault_wrong.ctx follows Go.Proofs.Try.func80 (by kernel_rfl) (by kernel_rfl) (by kernel_rfl) (by kernel_rfl) (Nat.le_of_ble_eq_true (by kernel_rfl)) (by kernel_rfl) wire_fault_wrong.eq

def wire_fault_fine (x0 : Unit) (o0 : Int × Unit) : Option (Bool × (Int × Unit) × Unit) :=
  some ((o0.1 : Int) == 0, (o0, ()))
def wire_fault_fine.C : Ctx := { ty := tyT, sigs := fun i => [], n := 8, mp := mpT }
def wire_fault_fine.Q : Cuts := { np := 1, loops := fun i => none, seqs := fun i => none, splits := fun i => none }
def wire_fault_fine.sig : Sig := { args := .tc (.ptr 0) .tn, objs := [.cell (.cons (.int .i64) .unit) (.val (.cons (.int .i64) .unit))], ret := .val .bool, outs := [.cell (.cons (.int .i64) .unit) (.val (.cons (.int .i64) .unit))], F := fun x => wire_fault_fine x.1.1 x.2.1 }
theorem wire_fault_fine.eq : (fun x => body wire_fault_fine.C wire_fault_fine.Q Go.Proofs.Try.f81 wire_fault_fine.sig.args wire_fault_fine.sig.objs wire_fault_fine.sig.ret wire_fault_fine.sig.outs x) = wire_fault_fine.sig.F := by
  kernel_rfl
set_option maxRecDepth 100000 in
theorem wire_fault_fine.ctx : CtxOk Go.Proofs.Try.prog wire_fault_fine.C := ⟨tyOk, mpOk, Nat.le_of_ble_eq_true (by kernel_rfl), fun f sg => (fun h => by cases h)⟩
set_option maxRecDepth 100000 in
theorem wire_fault_fine.ok : Sound Go.Proofs.Try.prog 81 wire_fault_fine.sig := body_sound (C := wire_fault_fine.C) (q := wire_fault_fine.Q) (fn := Go.Proofs.Try.f81) (sg := wire_fault_fine.sig) (n := 1) wire_fault_fine.ctx follows Go.Proofs.Try.func81 (by kernel_rfl) (by kernel_rfl) (by kernel_rfl) (by kernel_rfl) (Nat.le_of_ble_eq_true (by kernel_rfl)) (by kernel_rfl) wire_fault_fine.eq

def wire_Writer_Raw (x0 : Unit) (x1 : List Int) (o0 : (Int × Unit) × Unit × Int × Unit) (o1 : List Int) : Option (Unit × ((Int × Unit) × Unit × Int × Unit) × Unit × List Int × Unit) :=
  (wire_fault_fine () o0.1).bind fun r12 => bif !r12.1 then some ((), ((r12.2.1, ((), o0.2.2)), ((), (o1, ())))) else bif decide ((x1.length : Int) > (IntKind.i64.wrap (o0.2.2.1 - (o1.length : Int)))) then (wire_fault_wrong () 7 r12.2.1).bind fun r13 => some ((), ((r13.2.1, ((), o0.2.2)), ((), (o1, ())))) else room (o1.length + x1.length) (some ((), ((r12.2.1, ((), o0.2.2)), ((), (o1 ++ x1, ())))))
def wire_Writer_Raw.C : Ctx := { ty := tyT, sigs := fun i => bif Nat.beq i 80 then [wire_fault_wrong.sig] else bif Nat.beq i 81 then [wire_fault_fine.sig] else [], n := 41, mp := mpT }
def wire_Writer_Raw.Q : Cuts := { np := 2, loops := fun i => none, seqs := fun i => none, splits := fun i => none }
def wire_Writer_Raw.sig : Sig := { args := .tc (.ptr 0) (.tc (.val (.slice (.int .u8))) .tn), objs := [.cell kWriter (.pair (.val (.cons (.int .i64) .unit)) (.pair (.row 1) (.val (.cons (.int .i64) .unit)))), .row (.int .u8) false], ret := .tup .tn, outs := [.cell kWriter (.pair (.val (.cons (.int .i64) .unit)) (.pair (.row 2) (.val (.cons (.int .i64) .unit)))), .gone, .row (.int .u8) false], F := fun x => wire_Writer_Raw x.1.1 x.1.2.1 x.2.1 x.2.2.1 }
theorem wire_Writer_Raw.eq : (fun x => body wire_Writer_Raw.C wire_Writer_Raw.Q Go.Proofs.Try.f35 wire_Writer_Raw.sig.args wire_Writer_Raw.sig.objs wire_Writer_Raw.sig.ret wire_Writer_Raw.sig.outs x) = wire_Writer_Raw.sig.F := by
  kernel_rfl
set_option maxRecDepth 100000 in
theorem wire_Writer_Raw.ctx : CtxOk Go.Proofs.Try.prog wire_Writer_Raw.C := ⟨tyOk, mpOk, Nat.le_of_ble_eq_true (by kernel_rfl), fun f sg => fun h => sigs_if h (allS_cons wire_fault_wrong.ok allS_nil) (fun h => sigs_if h (allS_cons wire_fault_fine.ok allS_nil) ((fun h => by cases h)))⟩
set_option maxRecDepth 100000 in
theorem wire_Writer_Raw.ok : Sound Go.Proofs.Try.prog 35 wire_Writer_Raw.sig := body_sound (C := wire_Writer_Raw.C) (q := wire_Writer_Raw.Q) (fn := Go.Proofs.Try.f35) (sg := wire_Writer_Raw.sig) (n := 2) wire_Writer_Raw.ctx follows Go.Proofs.Try.func35 (by kernel_rfl) (by kernel_rfl) (by kernel_rfl) (by kernel_rfl) (Nat.le_of_ble_eq_true (by kernel_rfl)) (by kernel_rfl) wire_Writer_Raw.eq

def wire_Writer_Num.l1 (v : (Unit × Int × Int × Unit × Int × Int) × ((Int × Unit) × Unit × Int × Unit) × List Int × List Int × Unit) : Option (((Unit × Int × Int × Unit × Int × Int) × ((Int × Unit) × Unit × Int × Unit) × List Int × List Int × Unit) ⊕ ((Unit × Int × Unit) × ((Int × Unit) × Unit × Int × Unit) × List Int × List Int × Unit)) :=
  bif decide (v.1.2.2.2.2.2 < v.1.2.2.2.2.1) then chk (decide (0 ≤ (IntKind.i64.wrap (8 * v.1.2.2.2.2.2)))) (chk (decide (0 ≤ v.1.2.2.2.2.2) && decide (v.1.2.2.2.2.2 < 8)) (natK v.1.2.2.2.2.2 fun n9 => nthN v.2.2.2.1 n9 fun e10 => some (Sum.inl (((), (v.1.2.1, (v.1.2.2.1, ((), (v.1.2.2.2.2.1, IntKind.i64.wrap (v.1.2.2.2.2.2 + 1)))))), ((v.2.1.1, ((), v.2.1.2.2)), (v.2.2.1, (v.2.2.2.1.set n9 (IntKind.u8.wrap (Int.fdiv v.1.2.1 (2 ^ (min (IntKind.i64.wrap (8 * v.1.2.2.2.2.2) : Int).toNat 64)))), ()))))))) else some (Sum.inr (((), (v.1.2.2.1, ())), ((v.2.1.1, ((), v.2.1.2.2)), (v.2.2.1, (v.2.2.2.1, ())))))
def wire_Writer_Num (x0 : Unit) (x1 : Int) (x2 : Int) (o0 : (Int × Unit) × Unit × Int × Unit) (o1 : List Int) : Option (Unit × ((Int × Unit) × Unit × Int × Unit) × Unit × List Int × Unit) :=
  (bif decide (x2 < 1) then some ((((), (x1, (x2, true))), ((o0.1, ((), o0.2.2)), (o1, ())))) else bif decide (x2 > 8) then some ((((), (x1, (x2, true))), ((o0.1, ((), o0.2.2)), (o1, ())))) else bif decide (x2 < 8) then chk (decide (0 ≤ (IntKind.i64.wrap (8 * x2)))) (some ((((), (x1, (x2, (Int.fdiv x1 (2 ^ (min (IntKind.i64.wrap (8 * x2) : Int).toNat 64)) : Int) != 0))), ((o0.1, ((), o0.2.2)), (o1, ()))))) else some ((((), (x1, (x2, false))), ((o0.1, ((), o0.2.2)), (o1, ())))) : Option ((Unit × Int × Int × Bool) × ((Int × Unit) × Unit × Int × Unit) × List Int × Unit)).bind fun y7 => bif y7.1.2.2.2 then (wire_fault_wrong () 1 y7.2.1.1).bind fun r8 => some ((), ((r8.2.1, ((), y7.2.1.2.2)), ((), (y7.2.2.1, ())))) else (iterL wire_Writer_Num.l1 loopN (((), (y7.1.2.1, (y7.1.2.2.1, ((), (y7.1.2.2.1, 0))))), ((y7.2.1.1, ((), y7.2.1.2.2)), (y7.2.2.1, (List.replicate 8 0, ()))))).bind fun y11 => chk (decide (0 ≤ y11.1.2.1) && decide (y11.1.2.1 ≤ 8)) ((wire_Writer_Raw () ((y11.2.2.2.1.take (y11.1.2.1 : Int).toNat).drop 0) (y11.2.1.1, ((), y11.2.1.2.2)) y11.2.2.1).bind fun r12 => some ((), ((r12.2.1.1, ((), r12.2.1.2.2)), ((), (r12.2.2.2.1, ())))))
def wire_Writer_Num.C : Ctx := { ty := tyT, sigs := fun i => bif Nat.beq i 35 then [wire_Writer_Raw.sig] else bif Nat.beq i 80 then [wire_fault_wrong.sig] else [], n := 49, mp := mpT }
def wire_Writer_Num.Q : Cuts := { np := 2, loops := fun i => bif Nat.beq i 2 then some ({ env := [(0, .ptr 0), (1, .val (.int .u64)), (2, .val (.int .i64)), (6, .ptr 2), (8, .val (.int .i64)), (9, .val (.int .i64))], objs := [.cell kWriter (.pair (.val (.cons (.int .i64) .unit)) (.pair (.row 1) (.val (.cons (.int .i64) .unit)))), .row (.int .u8) false, .cell (.arr 8 (.int .u8)) (.val (.arr 8 (.int .u8)))] }, [(.exit 1, { env := [(0, .ptr 0), (2, .val (.int .i64)), (6, .ptr 2)], objs := [.cell kWriter (.pair (.val (.cons (.int .i64) .unit)) (.pair (.row 1) (.val (.cons (.int .i64) .unit)))), .row (.int .u8) false, .cell (.arr 8 (.int .u8)) (.val (.arr 8 (.int .u8)))] })]) else none, seqs := fun i => bif Nat.beq i 9 then some [(.normal, { env := [(0, .ptr 0), (1, .val (.int .u64)), (2, .val (.int .i64)), (27, .val .bool)], objs := [.cell kWriter (.pair (.val (.cons (.int .i64) .unit)) (.pair (.row 1) (.val (.cons (.int .i64) .unit)))), .row (.int .u8) false] })] else none, splits := fun i => none }
def wire_Writer_Num.sig : Sig := { args := .tc (.ptr 0) (.tc (.val (.int .u64)) (.tc (.val (.int .i64)) .tn)), objs := [.cell kWriter (.pair (.val (.cons (.int .i64) .unit)) (.pair (.row 1) (.val (.cons (.int .i64) .unit)))), .row (.int .u8) false], ret := .tup .tn, outs := [.cell kWriter (.pair (.val (.cons (.int .i64) .unit)) (.pair (.row 2) (.val (.cons (.int .i64) .unit)))), .gone, .row (.int .u8) false], F := fun x => wire_Writer_Num x.1.1 x.1.2.1 x.1.2.2.1 x.2.1 x.2.2.1 }
theorem wire_Writer_Num.eq : (fun x => body wire_Writer_Num.C wire_Writer_Num.Q Go.Proofs.Try.f33 wire_Writer_Num.sig.args wire_Writer_Num.sig.objs wire_Writer_Num.sig.ret wire_Writer_Num.sig.outs x) = wire_Writer_Num.sig.F := by
  kernel_rfl
set_option maxRecDepth 100000 in
theorem wire_Writer_Num.ctx : CtxOk Go.Proofs.Try.prog wire_Writer_Num.C := ⟨tyOk, mpOk, Nat.le_of_ble_eq_true (by kernel_rfl), fun f sg => fun h => sigs_if h (allS_cons wire_Writer_Raw.ok allS_nil) (fun h => sigs_if h (allS_cons wire_fault_wrong.ok allS_nil) ((fun h => by cases h)))⟩
set_option maxRecDepth 100000 in
theorem wire_Writer_Num.ok : Sound Go.Proofs.Try.prog 33 wire_Writer_Num.sig := body_sound (C := wire_Writer_Num.C) (q := wire_Writer_Num.Q) (fn := Go.Proofs.Try.f33) (sg := wire_Writer_Num.sig) (n := 3) wire_Writer_Num.ctx follows Go.Proofs.Try.func33 (by kernel_rfl) (by kernel_rfl) (by kernel_rfl) (by kernel_rfl) (Nat.le_of_ble_eq_true (by kernel_rfl)) (by kernel_rfl) wire_Writer_Num.eq

def wire_Writer_Int (x0 : Unit) (x1 : Int) (o0 : (Int × Unit) × Unit × Int × Unit) (o1 : List Int) : Option (Unit × ((Int × Unit) × Unit × Int × Unit) × Unit × List Int × Unit) :=
  (wire_Writer_Num () (IntKind.u64.wrap x1) 8 (o0.1, ((), o0.2.2)) o1).bind fun r13 => some ((), ((r13.2.1.1, ((), r13.2.1.2.2)), ((), (r13.2.2.2.1, ()))))
def wire_Writer_Int.C : Ctx := { ty := tyT, sigs := fun i => bif Nat.beq i 33 then [wire_Writer_Num.sig] else [], n := 8, mp := mpT }
def wire_Writer_Int.Q : Cuts := { np := 2, loops := fun i => none, seqs := fun i => none, splits := fun i => none }
def wire_Writer_Int.sig : Sig := { args := .tc (.ptr 0) (.tc (.val (.int .i64)) .tn), objs := [.cell kWriter (.pair (.val (.cons (.int .i64) .unit)) (.pair (.row 1) (.val (.cons (.int .i64) .unit)))), .row (.int .u8) false], ret := .tup .tn, outs := [.cell kWriter (.pair (.val (.cons (.int .i64) .unit)) (.pair (.row 2) (.val (.cons (.int .i64) .unit)))), .gone, .row (.int .u8) false], F := fun x => wire_Writer_Int x.1.1 x.1.2.1 x.2.1 x.2.2.1 }
theorem wire_Writer_Int.eq : (fun x => body wire_Writer_Int.C wire_Writer_Int.Q Go.Proofs.Try.f36 wire_Writer_Int.sig.args wire_Writer_Int.sig.objs wire_Writer_Int.sig.ret wire_Writer_Int.sig.outs x) = wire_Writer_Int.sig.F := by
  kernel_rfl
set_option maxRecDepth 100000 in
theorem wire_Writer_Int.ctx : CtxOk Go.Proofs.Try.prog wire_Writer_Int.C := ⟨tyOk, mpOk, Nat.le_of_ble_eq_true (by kernel_rfl), fun f sg => fun h => sigs_if h (allS_cons wire_Writer_Num.ok allS_nil) ((fun h => by cases h))⟩
set_option maxRecDepth 100000 in
theorem wire_Writer_Int.ok : Sound Go.Proofs.Try.prog 36 wire_Writer_Int.sig := body_sound (C := wire_Writer_Int.C) (q := wire_Writer_Int.Q) (fn := Go.Proofs.Try.f36) (sg := wire_Writer_Int.sig) (n := 2) wire_Writer_Int.ctx follows Go.Proofs.Try.func36 (by kernel_rfl) (by kernel_rfl) (by kernel_rfl) (by kernel_rfl) (Nat.le_of_ble_eq_true (by kernel_rfl)) (by kernel_rfl) wire_Writer_Int.eq

def prog_putLines.l1 (v : (Unit × (List (Int × Int × Unit)) × Int × Int) × ((Int × Unit) × Unit × Int × Unit) × Unit × List Int × Unit) : Option (((Unit × (List (Int × Int × Unit)) × Int × Int) × ((Int × Unit) × Unit × Int × Unit) × Unit × List Int × Unit) ⊕ (Unit × ((Int × Unit) × Unit × Int × Unit) × Unit × List Int × Unit)) :=
  bif decide (v.1.2.2.2 < v.1.2.2.1) then nthK v.1.2.1 v.1.2.2.2 fun e11 => (wire_Writer_Num () (IntKind.u64.wrap e11.1) 1 (v.2.1.1, ((), v.2.1.2.2)) v.2.2.2.1).bind fun r12 => (wire_Writer_Int () e11.2.1 (r12.2.1.1, ((), r12.2.1.2.2)) r12.2.2.2.1).bind fun r13 => some (Sum.inl (((), (v.1.2.1, (v.1.2.2.1, IntKind.i64.wrap (v.1.2.2.2 + 1)))), ((r13.2.1.1, ((), r13.2.1.2.2)), ((), (r13.2.2.2.1, ()))))) else some (Sum.inr ((), ((v.2.1.1, ((), v.2.1.2.2)), ((), (v.2.2.2.1, ())))))
def prog_putLines (x0 : Unit) (x1 : List (Int × Int × Unit)) (o0 : (Int × Unit) × Unit × Int × Unit) (o1 : List Int) : Option (Unit × ((Int × Unit) × Unit × Int × Unit) × Unit × List Int × Unit) :=
  (wire_Writer_Num () (IntKind.u64.wrap (x1.length : Int)) 1 (o0.1, ((), o0.2.2)) o1).bind fun r10 => (iterL prog_putLines.l1 loopN (((), (x1, ((x1.length : Int), 0))), ((r10.2.1.1, ((), r10.2.1.2.2)), ((), (r10.2.2.2.1, ()))))).bind fun y14 => some ((), ((y14.2.1.1, ((), y14.2.1.2.2)), ((), (y14.2.2.2.1, ()))))
def prog_putLines.C : Ctx := { ty := tyT, sigs := fun i => bif Nat.beq i 33 then [wire_Writer_Num.sig] else bif Nat.beq i 36 then [wire_Writer_Int.sig] else [], n := 27, mp := mpT }
def prog_putLines.Q : Cuts := { np := 2, loops := fun i => bif Nat.beq i 2 then some ({ env := [(0, .ptr 0), (11, .val (.slice kLine)), (12, .val (.int .i64)), (13, .val (.int .i64))], objs := [.cell kWriter (.pair (.val (.cons (.int .i64) .unit)) (.pair (.row 2) (.val (.cons (.int .i64) .unit)))), .gone, .row (.int .u8) false] }, [(.exit 0, { env := [], objs := [.cell kWriter (.pair (.val (.cons (.int .i64) .unit)) (.pair (.row 2) (.val (.cons (.int .i64) .unit)))), .gone, .row (.int .u8) false] })]) else none, seqs := fun i => none, splits := fun i => none }
def prog_putLines.sig : Sig := { args := .tc (.ptr 0) (.tc (.val (.slice kLine)) .tn), objs := [.cell kWriter (.pair (.val (.cons (.int .i64) .unit)) (.pair (.row 1) (.val (.cons (.int .i64) .unit)))), .row (.int .u8) false], ret := .tup .tn, outs := [.cell kWriter (.pair (.val (.cons (.int .i64) .unit)) (.pair (.row 2) (.val (.cons (.int .i64) .unit)))), .gone, .row (.int .u8) false], F := fun x => prog_putLines x.1.1 x.1.2.1 x.2.1 x.2.2.1 }
theorem prog_putLines.eq : (fun x => body prog_putLines.C prog_putLines.Q Go.Proofs.Try.f34 prog_putLines.sig.args prog_putLines.sig.objs prog_putLines.sig.ret prog_putLines.sig.outs x) = prog_putLines.sig.F := by
  kernel_rfl
set_option maxRecDepth 100000 in
theorem prog_putLines.ctx : CtxOk Go.Proofs.Try.prog prog_putLines.C := ⟨tyOk, mpOk, Nat.le_of_ble_eq_true (by kernel_rfl), fun f sg => fun h => sigs_if h (allS_cons wire_Writer_Num.ok allS_nil) (fun h => sigs_if h (allS_cons wire_Writer_Int.ok allS_nil) ((fun h => by cases h)))⟩
set_option maxRecDepth 100000 in
theorem prog_putLines.ok : Sound Go.Proofs.Try.prog 34 prog_putLines.sig := body_sound (C := prog_putLines.C) (q := prog_putLines.Q) (fn := Go.Proofs.Try.f34) (sg := prog_putLines.sig) (n := 2) prog_putLines.ctx follows Go.Proofs.Try.func34 (by kernel_rfl) (by kernel_rfl) (by kernel_rfl) (by kernel_rfl) (Nat.le_of_ble_eq_true (by kernel_rfl)) (by kernel_rfl) prog_putLines.eq

def wire_Writer_Done (x0 : Unit) (o0 : (Int × Unit) × Unit × Int × Unit) (o1 : List Int) : Option ((List Int × Int × Unit) × ((Int × Unit) × Unit × Int × Unit) × List Int × Unit) :=
  (wire_fault_fine () o0.1).bind fun r20 => bif !r20.1 then some (([], (r20.2.1.1, ())), ((r20.2.1, ((), o0.2.2)), (o1, ()))) else room (0 + o1.length) (some (([] ++ o1, (0, ())), ((r20.2.1, ((), o0.2.2)), (o1, ()))))
def wire_Writer_Done.C : Ctx := { ty := tyT, sigs := fun i => bif Nat.beq i 81 then [wire_fault_fine.sig] else [], n := 24, mp := mpT }
def wire_Writer_Done.Q : Cuts := { np := 2, loops := fun i => none, seqs := fun i => none, splits := fun i => none }
def wire_Writer_Done.sig : Sig := { args := .tc (.ptr 0) .tn, objs := [.cell kWriter (.pair (.val (.cons (.int .i64) .unit)) (.pair (.row 1) (.val (.cons (.int .i64) .unit)))), .row (.int .u8) false], ret := .tup (.tc (.val (.slice (.int .u8))) (.tc (.val (.int .i64)) .tn)), outs := [.cell kWriter (.pair (.val (.cons (.int .i64) .unit)) (.pair (.row 1) (.val (.cons (.int .i64) .unit)))), .row (.int .u8) false], F := fun x => wire_Writer_Done x.1.1 x.2.1 x.2.2.1 }
theorem wire_Writer_Done.eq : (fun x => body wire_Writer_Done.C wire_Writer_Done.Q Go.Proofs.Try.f37 wire_Writer_Done.sig.args wire_Writer_Done.sig.objs wire_Writer_Done.sig.ret wire_Writer_Done.sig.outs x) = wire_Writer_Done.sig.F := by
  kernel_rfl
set_option maxRecDepth 100000 in
theorem wire_Writer_Done.ctx : CtxOk Go.Proofs.Try.prog wire_Writer_Done.C := ⟨tyOk, mpOk, Nat.le_of_ble_eq_true (by kernel_rfl), fun f sg => fun h => sigs_if h (allS_cons wire_fault_fine.ok allS_nil) ((fun h => by cases h))⟩
set_option maxRecDepth 100000 in
theorem wire_Writer_Done.ok : Sound Go.Proofs.Try.prog 37 wire_Writer_Done.sig := body_sound (C := wire_Writer_Done.C) (q := wire_Writer_Done.Q) (fn := Go.Proofs.Try.f37) (sg := wire_Writer_Done.sig) (n := 1) wire_Writer_Done.ctx follows Go.Proofs.Try.func37 (by kernel_rfl) (by kernel_rfl) (by kernel_rfl) (by kernel_rfl) (Nat.le_of_ble_eq_true (by kernel_rfl)) (by kernel_rfl) wire_Writer_Done.eq

def prog_Encode.l1 (v : (Unit × Unit × (List (Int × Int × Int × Int × Unit)) × Int × Int) × (Int × Int × Int × (List (Int × Int × Unit)) × (List (Int × Int × Int × Int × Unit)) × (List (Int × Int × Unit)) × Int × Int × Int × Int × Unit) × ((Int × Unit) × Unit × Int × Unit) × List Int × Unit) : Option (((Unit × Unit × (List (Int × Int × Int × Int × Unit)) × Int × Int) × (Int × Int × Int × (List (Int × Int × Unit)) × (List (Int × Int × Int × Int × Unit)) × (List (Int × Int × Unit)) × Int × Int × Int × Int × Unit) × ((Int × Unit) × Unit × Int × Unit) × List Int × Unit) ⊕ ((Unit × Unit) × (Int × Int × Int × (List (Int × Int × Unit)) × (List (Int × Int × Int × Int × Unit)) × (List (Int × Int × Unit)) × Int × Int × Int × Int × Unit) × ((Int × Unit) × Unit × Int × Unit) × List Int × Unit)) :=
  bif decide (v.1.2.2.2.2 < v.1.2.2.2.1) then nthK v.1.2.2.1 v.1.2.2.2.2 fun e12 => (wire_Writer_Num () (IntKind.u64.wrap e12.1) 4 (v.2.2.1.1, ((), v.2.2.1.2.2)) v.2.2.2.1).bind fun r13 => (wire_Writer_Raw () [e12.2.1, e12.2.2.1] (r13.2.1.1, ((), r13.2.1.2.2)) r13.2.2.2.1).bind fun r14 => (wire_Writer_Int () e12.2.2.2.1 (r14.2.1.1, ((), r14.2.1.2.2)) r14.2.2.2.1).bind fun r15 => some (Sum.inl (((), ((), (v.1.2.2.1, (v.1.2.2.2.1, IntKind.i64.wrap (v.1.2.2.2.2 + 1))))), (v.2.1, ((r15.2.1.1, ((), r15.2.1.2.2)), (r15.2.2.2.1, ()))))) else some (Sum.inr (((), ()), (v.2.1, ((v.2.2.1.1, ((), v.2.2.1.2.2)), (v.2.2.2.1, ())))))
def prog_Encode (x0 : Int × Int × Int × (List (Int × Int × Unit)) × (List (Int × Int × Int × Int × Unit)) × (List (Int × Int × Unit)) × Int × Int × Int × Int × Unit) : Option (List Int × Int × Unit) :=
  (prog_Good 4 4 x0).bind fun r5 => bif !r5 then some ([], (1, ())) else (wire_New 512).bind fun r6 => (wire_Writer_Num () (IntKind.u64.wrap x0.1) 1 (r6.2.1.1, ((), r6.2.1.2.2)) []).bind fun r7 => (wire_Writer_Num () (IntKind.u64.wrap x0.2.1) 4 (r7.2.1.1, ((), r7.2.1.2.2)) r7.2.2.2.1).bind fun r8 => (wire_Writer_Num () (IntKind.u64.wrap x0.2.2.1) 1 (r8.2.1.1, ((), r8.2.1.2.2)) r8.2.2.2.1).bind fun r9 => (prog_putLines () x0.2.2.2.1 (r9.2.1.1, ((), r9.2.1.2.2)) r9.2.2.2.1).bind fun r10 => (wire_Writer_Num () (IntKind.u64.wrap (x0.2.2.2.2.1.length : Int)) 1 (r10.2.1.1, ((), r10.2.1.2.2)) r10.2.2.2.1).bind fun r11 => (iterL prog_Encode.l1 loopN (((), ((), (x0.2.2.2.2.1, ((x0.2.2.2.2.1.length : Int), 0)))), (x0, ((r11.2.1.1, ((), r11.2.1.2.2)), (r11.2.2.2.1, ()))))).bind fun y16 => (prog_putLines () y16.2.1.2.2.2.2.2.1 (y16.2.2.1.1, ((), y16.2.2.1.2.2)) y16.2.2.2.1).bind fun r17 => (wire_Writer_Raw () [y16.2.1.2.2.2.2.2.2.1, y16.2.1.2.2.2.2.2.2.2.1, y16.2.1.2.2.2.2.2.2.2.2.1] (r17.2.1.1, ((), r17.2.1.2.2)) r17.2.2.2.1).bind fun r18 => (wire_Writer_Int () y16.2.1.2.2.2.2.2.2.2.2.2.1 (r18.2.1.1, ((), r18.2.1.2.2)) r18.2.2.2.1).bind fun r19 => (wire_Writer_Done () (r19.2.1.1, ((), r19.2.1.2.2)) r19.2.2.2.1).bind fun r20 => some (r20.1.1, (r20.1.2.1, ()))
def prog_Encode.C : Ctx := { ty := tyT, sigs := fun i => bif Nat.beq i 15 then [prog_Good.sig] else bif Nat.beq i 32 then [wire_New.sig] else bif Nat.beq i 33 then [wire_Writer_Num.sig] else bif Nat.beq i 34 then [prog_putLines.sig] else bif Nat.beq i 35 then [wire_Writer_Raw.sig] else bif Nat.beq i 36 then [wire_Writer_Int.sig] else bif Nat.beq i 37 then [wire_Writer_Done.sig] else [], n := 81, mp := mpT }
def prog_Encode.Q : Cuts := { np := 0, loops := fun i => bif Nat.beq i 10 then some ({ env := [(1, .ptr 0), (4, .ptr 1), (37, .val (.slice kTake)), (38, .val (.int .i64)), (39, .val (.int .i64))], objs := [.cell kProgram (.val kProgram), .cell kWriter (.pair (.val (.cons (.int .i64) .unit)) (.pair (.row 2) (.val (.cons (.int .i64) .unit)))), .row (.int .u8) false] }, [(.exit 0, { env := [(1, .ptr 0), (4, .ptr 1)], objs := [.cell kProgram (.val kProgram), .cell kWriter (.pair (.val (.cons (.int .i64) .unit)) (.pair (.row 2) (.val (.cons (.int .i64) .unit)))), .row (.int .u8) false] })]) else none, seqs := fun i => none, splits := fun i => none }
def prog_Encode.sig : Sig := { args := .tc (.val kProgram) .tn, objs := [], ret := .tup (.tc (.val (.slice (.int .u8))) (.tc (.val (.int .i64)) .tn)), outs := [], F := fun x => prog_Encode x.1.1 }
theorem prog_Encode.eq : (fun x => body prog_Encode.C prog_Encode.Q Go.Proofs.Try.f8 prog_Encode.sig.args prog_Encode.sig.objs prog_Encode.sig.ret prog_Encode.sig.outs x) = prog_Encode.sig.F := by
  kernel_rfl
set_option maxRecDepth 100000 in
theorem prog_Encode.ctx : CtxOk Go.Proofs.Try.prog prog_Encode.C := ⟨tyOk, mpOk, Nat.le_of_ble_eq_true (by kernel_rfl), fun f sg => fun h => sigs_if h (allS_cons prog_Good.ok allS_nil) (fun h => sigs_if h (allS_cons wire_New.ok allS_nil) (fun h => sigs_if h (allS_cons wire_Writer_Num.ok allS_nil) (fun h => sigs_if h (allS_cons prog_putLines.ok allS_nil) (fun h => sigs_if h (allS_cons wire_Writer_Raw.ok allS_nil) (fun h => sigs_if h (allS_cons wire_Writer_Int.ok allS_nil) (fun h => sigs_if h (allS_cons wire_Writer_Done.ok allS_nil) ((fun h => by cases h))))))))⟩
set_option maxRecDepth 100000 in
theorem prog_Encode.ok : Sound Go.Proofs.Try.prog 8 prog_Encode.sig := body_sound (C := prog_Encode.C) (q := prog_Encode.Q) (fn := Go.Proofs.Try.f8) (sg := prog_Encode.sig) (n := 1) prog_Encode.ctx follows Go.Proofs.Try.func8 (by kernel_rfl) (by kernel_rfl) (by kernel_rfl) (by kernel_rfl) (Nat.le_of_ble_eq_true (by kernel_rfl)) (by kernel_rfl) prog_Encode.eq

def pledgelaw13_works  : Option Bool :=
  pledgelaw13_Example.bind fun r2 => (prog_Steps r2).bind fun r3 => pledgelaw13_Example.bind fun r4 => (prog_Encode r4).bind fun r5 => bif ((r3.length : Int) : Int) == 2 then nthK r3 0 fun e6 => bif (e6.1 : Int) == 1 then nthK r3 0 fun e7 => bif (e7.2.1 : Int) == 1 then nthK r3 1 fun e8 => bif (e8.1 : Int) == 7 then bif (r5.2.1 : Int) == 0 then some (((r5.1.length : Int) : Int) == 52) else some false else some false else some false else some false else some false
def pledgelaw13_works.C : Ctx := { ty := tyT, sigs := fun i => bif Nat.beq i 8 then [prog_Encode.sig] else bif Nat.beq i 30 then [prog_Steps.sig] else bif Nat.beq i 31 then [pledgelaw13_Example.sig] else [], n := 44, mp := mpT }
def pledgelaw13_works.Q : Cuts := { np := 0, loops := fun i => none, seqs := fun i => none, splits := fun i => none }
def pledgelaw13_works.sig : Sig := { args := .tn, objs := [], ret := .val .bool, outs := [], F := fun x => pledgelaw13_works }
theorem pledgelaw13_works.eq : (fun x => body pledgelaw13_works.C pledgelaw13_works.Q Go.Proofs.Try.f7 pledgelaw13_works.sig.args pledgelaw13_works.sig.objs pledgelaw13_works.sig.ret pledgelaw13_works.sig.outs x) = pledgelaw13_works.sig.F := by
  kernel_rfl
set_option maxRecDepth 100000 in
theorem pledgelaw13_works.ctx : CtxOk Go.Proofs.Try.prog pledgelaw13_works.C := ⟨tyOk, mpOk, Nat.le_of_ble_eq_true (by kernel_rfl), fun f sg => fun h => sigs_if h (allS_cons prog_Encode.ok allS_nil) (fun h => sigs_if h (allS_cons prog_Steps.ok allS_nil) (fun h => sigs_if h (allS_cons pledgelaw13_Example.ok allS_nil) ((fun h => by cases h))))⟩
set_option maxRecDepth 100000 in
theorem pledgelaw13_works.ok : Sound Go.Proofs.Try.prog 7 pledgelaw13_works.sig := body_sound (C := pledgelaw13_works.C) (q := pledgelaw13_works.Q) (fn := Go.Proofs.Try.f7) (sg := pledgelaw13_works.sig) (n := 0) pledgelaw13_works.ctx follows Go.Proofs.Try.func7 (by kernel_rfl) (by kernel_rfl) (by kernel_rfl) (by kernel_rfl) (Nat.le_of_ble_eq_true (by kernel_rfl)) (by kernel_rfl) pledgelaw13_works.eq

def pledgeref12_Lines.l1 (v : Int × (List (Int × Int × Unit)) × Int) : Option ((Int × (List (Int × Int × Unit)) × Int) ⊕ ((List (Int × Int × Unit)) ⊕ Bool)) :=
  bif decide (v.2.2 < (v.2.1.length : Int)) then nthK v.2.1 v.2.2 fun e4 => bif decide ((IntKind.i64.wrap e4.1) ≥ v.1) then some (Sum.inr (Sum.inr false)) else nthK v.2.1 v.2.2 fun e5 => bif decide (e5.2.1 < 1) then some (Sum.inr (Sum.inr false)) else bif decide (v.2.2 > 0) then nthK v.2.1 (IntKind.i64.wrap (v.2.2 - 1)) fun e6 => nthK v.2.1 v.2.2 fun e7 => bif decide (e6.1 ≥ e7.1) then some (Sum.inr (Sum.inr false)) else some (Sum.inl (v.1, (v.2.1, IntKind.i64.wrap (v.2.2 + 1)))) else some (Sum.inl (v.1, (v.2.1, IntKind.i64.wrap (v.2.2 + 1)))) else some (Sum.inr (Sum.inl v.2.1))
def pledgeref12_Lines (x0 : Int) (x1 : List (Int × Int × Unit)) : Option Bool :=
  (iterL pledgeref12_Lines.l1 loopN (x0, (x1, 0))).bind fun y8 => (match y8 with | .inl y9 => some (decide ((y9.length : Int) ≤ 3)) | .inr y10 => some y10)
def pledgeref12_Lines.C : Ctx := { ty := tyT, sigs := fun i => [], n := 49, mp := mpT }
def pledgeref12_Lines.Q : Cuts := { np := 0, loops := fun i => bif Nat.beq i 2 then some ({ env := [(0, .val (.int .i64)), (1, .val (.slice kLine)), (5, .val (.int .i64))], objs := [] }, [(.exit 0, { env := [(1, .val (.slice kLine))], objs := [] }), (.ret, { env := [(4, .val .bool)], objs := [] })]) else none, seqs := fun i => none, splits := fun i => none }
def pledgeref12_Lines.sig : Sig := { args := .tc (.val (.int .i64)) (.tc (.val (.slice kLine)) .tn), objs := [], ret := .val .bool, outs := [], F := fun x => pledgeref12_Lines x.1.1 x.1.2.1 }
theorem pledgeref12_Lines.eq : (fun x => body pledgeref12_Lines.C pledgeref12_Lines.Q Go.Proofs.Try.f38 pledgeref12_Lines.sig.args pledgeref12_Lines.sig.objs pledgeref12_Lines.sig.ret pledgeref12_Lines.sig.outs x) = pledgeref12_Lines.sig.F := by
  kernel_rfl
set_option maxRecDepth 100000 in
theorem pledgeref12_Lines.ctx : CtxOk Go.Proofs.Try.prog pledgeref12_Lines.C := ⟨tyOk, mpOk, Nat.le_of_ble_eq_true (by kernel_rfl), fun f sg => (fun h => by cases h)⟩
set_option maxRecDepth 100000 in
theorem pledgeref12_Lines.ok : Sound Go.Proofs.Try.prog 38 pledgeref12_Lines.sig := body_sound (C := pledgeref12_Lines.C) (q := pledgeref12_Lines.Q) (fn := Go.Proofs.Try.f38) (sg := pledgeref12_Lines.sig) (n := 2) pledgeref12_Lines.ctx follows Go.Proofs.Try.func38 (by kernel_rfl) (by kernel_rfl) (by kernel_rfl) (by kernel_rfl) (Nat.le_of_ble_eq_true (by kernel_rfl)) (by kernel_rfl) pledgeref12_Lines.eq

def pledgeref13_takes.l1 (v : (Int × Int × Unit × (List (Int × Int × Int × Int × Unit)) × Int) × (Int × Int × Int × (List (Int × Int × Unit)) × (List (Int × Int × Int × Int × Unit)) × (List (Int × Int × Unit)) × Int × Int × Int × Int × Unit) × Unit) : Option (((Int × Int × Unit × (List (Int × Int × Int × Int × Unit)) × Int) × (Int × Int × Int × (List (Int × Int × Unit)) × (List (Int × Int × Int × Int × Unit)) × (List (Int × Int × Unit)) × Int × Int × Int × Int × Unit) × Unit) ⊕ ((List (Int × Int × Int × Int × Unit)) ⊕ Bool)) :=
  bif decide (v.1.2.2.2.2 < (v.1.2.2.2.1.length : Int)) then nthK v.1.2.2.2.1 v.1.2.2.2.2 fun e12 => bif (e12.1 : Int) != v.2.1.2.1 then some (Sum.inr (Sum.inr false)) else nthK v.1.2.2.2.1 v.1.2.2.2.2 fun e13 => bif decide ((IntKind.i64.wrap e13.2.1) ≥ v.1.1) then some (Sum.inr (Sum.inr false)) else nthK v.1.2.2.2.1 v.1.2.2.2.2 fun e14 => bif decide ((IntKind.i64.wrap e14.2.2.1) ≥ v.1.2.1) then some (Sum.inr (Sum.inr false)) else nthK v.1.2.2.2.1 v.1.2.2.2.2 fun e15 => bif decide (e15.2.2.2.1 < 1) then some (Sum.inr (Sum.inr false)) else (bif decide (v.1.2.2.2.2 > 0) then nthK v.1.2.2.2.1 (IntKind.i64.wrap (v.1.2.2.2.2 - 1)) fun e16 => nthK v.1.2.2.2.1 v.1.2.2.2.2 fun e17 => bif decide (e16.2.2.1 > e17.2.2.1) then some (Sum.inr false) else nthK v.1.2.2.2.1 (IntKind.i64.wrap (v.1.2.2.2.2 - 1)) fun e18 => nthK v.1.2.2.2.1 v.1.2.2.2.2 fun e19 => bif (e18.2.2.1 : Int) == e19.2.2.1 then nthK v.1.2.2.2.1 (IntKind.i64.wrap (v.1.2.2.2.2 - 1)) fun e20 => nthK v.1.2.2.2.1 v.1.2.2.2.2 fun e21 => bif decide (e20.2.1 ≥ e21.2.1) then some (Sum.inr false) else some (Sum.inl ((v.1.1, (v.1.2.1, ((), v.1.2.2.2))), (v.2.1, ()))) else some (Sum.inl ((v.1.1, (v.1.2.1, ((), v.1.2.2.2))), (v.2.1, ()))) else some (Sum.inl ((v.1.1, (v.1.2.1, ((), v.1.2.2.2))), (v.2.1, ()))) : Option (((Int × Int × Unit × (List (Int × Int × Int × Int × Unit)) × Int) × (Int × Int × Int × (List (Int × Int × Unit)) × (List (Int × Int × Int × Int × Unit)) × (List (Int × Int × Unit)) × Int × Int × Int × Int × Unit) × Unit) ⊕ Bool)).bind fun y22 => (match y22 with | .inl y23 => bif decide (y23.1.2.2.2.2 ≥ 3) then nthK y23.1.2.2.2.1 (IntKind.i64.wrap (y23.1.2.2.2.2 - 3)) fun e25 => nthK y23.1.2.2.2.1 y23.1.2.2.2.2 fun e26 => bif (e25.2.2.1 : Int) == e26.2.2.1 then some (Sum.inr (Sum.inr false)) else some (Sum.inl ((y23.1.1, (y23.1.2.1, ((), (y23.1.2.2.2.1, IntKind.i64.wrap (y23.1.2.2.2.2 + 1))))), (y23.2.1, ()))) else some (Sum.inl ((y23.1.1, (y23.1.2.1, ((), (y23.1.2.2.2.1, IntKind.i64.wrap (y23.1.2.2.2.2 + 1))))), (y23.2.1, ()))) | .inr y24 => some (Sum.inr (Sum.inr y24))) else some (Sum.inr (Sum.inl v.1.2.2.2.1))
def pledgeref13_takes (x0 : Int) (x1 : Int) (x2 : Int × Int × Int × (List (Int × Int × Unit)) × (List (Int × Int × Int × Int × Unit)) × (List (Int × Int × Unit)) × Int × Int × Int × Int × Unit) : Option Bool :=
  (iterL pledgeref13_takes.l1 loopN ((x0, (x1, ((), (x2.2.2.2.2.1, 0)))), (x2, ()))).bind fun y27 => (match y27 with | .inl y28 => some (decide ((y28.length : Int) ≤ 12)) | .inr y29 => some y29)
def pledgeref13_takes.C : Ctx := { ty := tyT, sigs := fun i => [], n := 116, mp := mpT }
def pledgeref13_takes.Q : Cuts := { np := 0, loops := fun i => bif Nat.beq i 3 then some ({ env := [(0, .val (.int .i64)), (1, .val (.int .i64)), (5, .ptr 0), (7, .val (.slice kTake)), (8, .val (.int .i64))], objs := [.cell kProgram (.val kProgram)] }, [(.exit 0, { env := [(7, .val (.slice kTake))], objs := [] }), (.ret, { env := [(6, .val .bool)], objs := [] })]) else none, seqs := fun i => bif Nat.beq i 9 then some [(.normal, { env := [(0, .val (.int .i64)), (1, .val (.int .i64)), (5, .ptr 0), (7, .val (.slice kTake)), (8, .val (.int .i64))], objs := [.cell kProgram (.val kProgram)] }), (.ret, { env := [(6, .val .bool)], objs := [] })] else none, splits := fun i => none }
def pledgeref13_takes.sig : Sig := { args := .tc (.val (.int .i64)) (.tc (.val (.int .i64)) (.tc (.val kProgram) .tn)), objs := [], ret := .val .bool, outs := [], F := fun x => pledgeref13_takes x.1.1 x.1.2.1 x.1.2.2.1 }
theorem pledgeref13_takes.eq : (fun x => body pledgeref13_takes.C pledgeref13_takes.Q Go.Proofs.Try.f39 pledgeref13_takes.sig.args pledgeref13_takes.sig.objs pledgeref13_takes.sig.ret pledgeref13_takes.sig.outs x) = pledgeref13_takes.sig.F := by
  kernel_rfl
set_option maxRecDepth 100000 in
theorem pledgeref13_takes.ctx : CtxOk Go.Proofs.Try.prog pledgeref13_takes.C := ⟨tyOk, mpOk, Nat.le_of_ble_eq_true (by kernel_rfl), fun f sg => (fun h => by cases h)⟩
set_option maxRecDepth 100000 in
theorem pledgeref13_takes.ok : Sound Go.Proofs.Try.prog 39 pledgeref13_takes.sig := body_sound (C := pledgeref13_takes.C) (q := pledgeref13_takes.Q) (fn := Go.Proofs.Try.f39) (sg := pledgeref13_takes.sig) (n := 3) pledgeref13_takes.ctx follows Go.Proofs.Try.func39 (by kernel_rfl) (by kernel_rfl) (by kernel_rfl) (by kernel_rfl) (Nat.le_of_ble_eq_true (by kernel_rfl)) (by kernel_rfl) pledgeref13_takes.eq

def pledgeref01_halves_v2 (x0 : Int) : Option (Int × Int × Unit) :=
  bif decide (x0 < 0) then none else some (IntKind.i64.wrap (Int.tdiv x0 4294967296), (Int.tmod x0 4294967296, ()))
def pledgeref01_halves_v2.C : Ctx := { ty := tyT, sigs := fun i => [], n := 22, mp := mpT }
def pledgeref01_halves_v2.Q : Cuts := { np := 0, loops := fun i => none, seqs := fun i => none, splits := fun i => none }
def pledgeref01_halves_v2.sig : Sig := { args := .tc (.val (.int .i64)) .tn, objs := [], ret := .val kwide, outs := [], F := fun x => pledgeref01_halves_v2 x.1.1 }
theorem pledgeref01_halves_v2.eq : (fun x => body pledgeref01_halves_v2.C pledgeref01_halves_v2.Q Go.Proofs.Try.f107 pledgeref01_halves_v2.sig.args pledgeref01_halves_v2.sig.objs pledgeref01_halves_v2.sig.ret pledgeref01_halves_v2.sig.outs x) = pledgeref01_halves_v2.sig.F := by
  kernel_rfl
set_option maxRecDepth 100000 in
theorem pledgeref01_halves_v2.ctx : CtxOk Go.Proofs.Try.prog pledgeref01_halves_v2.C := ⟨tyOk, mpOk, Nat.le_of_ble_eq_true (by kernel_rfl), fun f sg => (fun h => by cases h)⟩
set_option maxRecDepth 100000 in
theorem pledgeref01_halves_v2.ok : Sound Go.Proofs.Try.prog 107 pledgeref01_halves_v2.sig := body_sound (C := pledgeref01_halves_v2.C) (q := pledgeref01_halves_v2.Q) (fn := Go.Proofs.Try.f107) (sg := pledgeref01_halves_v2.sig) (n := 1) pledgeref01_halves_v2.ctx follows Go.Proofs.Try.func107 (by kernel_rfl) (by kernel_rfl) (by kernel_rfl) (by kernel_rfl) (Nat.le_of_ble_eq_true (by kernel_rfl)) (by kernel_rfl) pledgeref01_halves_v2.eq

def pledgeref01_halves (x0 : Int) : Option (Int × Int × Unit) :=
  bif decide (x0 < 0) then (pledgeref01_halves_v2 (IntKind.i64.wrap (0 - (IntKind.i64.wrap (x0 + 1))))).bind fun r39 => some (IntKind.i64.wrap ((-1) - r39.1), (IntKind.i64.wrap (4294967295 - r39.2.1), ())) else some (IntKind.i64.wrap (Int.tdiv x0 4294967296), (Int.tmod x0 4294967296, ()))
def pledgeref01_halves.C : Ctx := { ty := tyT, sigs := fun i => bif Nat.beq i 107 then [pledgeref01_halves_v2.sig] else [], n := 22, mp := mpT }
def pledgeref01_halves.Q : Cuts := { np := 0, loops := fun i => none, seqs := fun i => none, splits := fun i => none }
def pledgeref01_halves.sig : Sig := { args := .tc (.val (.int .i64)) .tn, objs := [], ret := .val kwide, outs := [], F := fun x => pledgeref01_halves x.1.1 }
theorem pledgeref01_halves.eq : (fun x => body pledgeref01_halves.C pledgeref01_halves.Q Go.Proofs.Try.f107 pledgeref01_halves.sig.args pledgeref01_halves.sig.objs pledgeref01_halves.sig.ret pledgeref01_halves.sig.outs x) = pledgeref01_halves.sig.F := by
  kernel_rfl
set_option maxRecDepth 100000 in
theorem pledgeref01_halves.ctx : CtxOk Go.Proofs.Try.prog pledgeref01_halves.C := ⟨tyOk, mpOk, Nat.le_of_ble_eq_true (by kernel_rfl), fun f sg => fun h => sigs_if h (allS_cons pledgeref01_halves_v2.ok allS_nil) ((fun h => by cases h))⟩
set_option maxRecDepth 100000 in
theorem pledgeref01_halves.ok : Sound Go.Proofs.Try.prog 107 pledgeref01_halves.sig := body_sound (C := pledgeref01_halves.C) (q := pledgeref01_halves.Q) (fn := Go.Proofs.Try.f107) (sg := pledgeref01_halves.sig) (n := 1) pledgeref01_halves.ctx follows Go.Proofs.Try.func107 (by kernel_rfl) (by kernel_rfl) (by kernel_rfl) (by kernel_rfl) (Nat.le_of_ble_eq_true (by kernel_rfl)) (by kernel_rfl) pledgeref01_halves.eq

def pledgeref01_Sum.l1 (v : (List Int × Unit × Int) × (Int × Int × Unit) × Unit) : Option (((List Int × Unit × Int) × (Int × Int × Unit) × Unit) ⊕ (Unit × (Int × Int × Unit) × Unit)) :=
  bif decide (v.1.2.2 < (v.1.1.length : Int)) then nthK v.1.1 v.1.2.2 fun e38 => (pledgeref01_halves e38).bind fun r39 => bif decide ((IntKind.i64.wrap (v.2.1.2.1 + r39.2.1)) ≥ 4294967296) then some (Sum.inl ((v.1.1, ((), IntKind.i64.wrap (v.1.2.2 + 1))), ((IntKind.i64.wrap ((IntKind.i64.wrap (v.2.1.1 + r39.1)) + 1), (IntKind.i64.wrap ((IntKind.i64.wrap (v.2.1.2.1 + r39.2.1)) - 4294967296), v.2.1.2.2)), ()))) else some (Sum.inl ((v.1.1, ((), IntKind.i64.wrap (v.1.2.2 + 1))), ((IntKind.i64.wrap (v.2.1.1 + r39.1), (IntKind.i64.wrap (v.2.1.2.1 + r39.2.1), v.2.1.2.2)), ()))) else some (Sum.inr ((), (v.2.1, ())))
def pledgeref01_Sum (x0 : List Int) : Option (Int × Bool × Unit) :=
  (iterL pledgeref01_Sum.l1 loopN ((x0, ((), 0)), ((0, (0, ())), ()))).bind fun y40 => bif decide (y40.2.1.1 < (-2147483648)) then some (0, (false, ())) else bif decide (y40.2.1.1 > 2147483647) then some (0, (false, ())) else some (IntKind.i64.wrap ((IntKind.i64.wrap (y40.2.1.1 * 4294967296)) + y40.2.1.2.1), (true, ()))
def pledgeref01_Sum.C : Ctx := { ty := tyT, sigs := fun i => bif Nat.beq i 107 then [pledgeref01_halves.sig] else [], n := 56, mp := mpT }
def pledgeref01_Sum.Q : Cuts := { np := 0, loops := fun i => bif Nat.beq i 3 then some ({ env := [(0, .val (.slice (.int .i64))), (4, .ptr 0), (5, .val (.int .i64))], objs := [.cell kwide (.val kwide)] }, [(.exit 0, { env := [(4, .ptr 0)], objs := [.cell kwide (.val kwide)] })]) else none, seqs := fun i => none, splits := fun i => none }
def pledgeref01_Sum.sig : Sig := { args := .tc (.val (.slice (.int .i64))) .tn, objs := [], ret := .tup (.tc (.val (.int .i64)) (.tc (.val .bool) .tn)), outs := [], F := fun x => pledgeref01_Sum x.1.1 }
theorem pledgeref01_Sum.eq : (fun x => body pledgeref01_Sum.C pledgeref01_Sum.Q Go.Proofs.Try.f96 pledgeref01_Sum.sig.args pledgeref01_Sum.sig.objs pledgeref01_Sum.sig.ret pledgeref01_Sum.sig.outs x) = pledgeref01_Sum.sig.F := by
  kernel_rfl
set_option maxRecDepth 100000 in
theorem pledgeref01_Sum.ctx : CtxOk Go.Proofs.Try.prog pledgeref01_Sum.C := ⟨tyOk, mpOk, Nat.le_of_ble_eq_true (by kernel_rfl), fun f sg => fun h => sigs_if h (allS_cons pledgeref01_halves.ok allS_nil) ((fun h => by cases h))⟩
set_option maxRecDepth 100000 in
theorem pledgeref01_Sum.ok : Sound Go.Proofs.Try.prog 96 pledgeref01_Sum.sig := body_sound (C := pledgeref01_Sum.C) (q := pledgeref01_Sum.Q) (fn := Go.Proofs.Try.f96) (sg := pledgeref01_Sum.sig) (n := 1) pledgeref01_Sum.ctx follows Go.Proofs.Try.func96 (by kernel_rfl) (by kernel_rfl) (by kernel_rfl) (by kernel_rfl) (Nat.le_of_ble_eq_true (by kernel_rfl)) (by kernel_rfl) pledgeref01_Sum.eq

def pledgeref13_Named.l1 (v : ((List (Int × Int × Int × Int × Unit)) × (List (Int × Int × Unit)) × Int × Unit × Int) × List Int × Unit) : Option ((((List (Int × Int × Int × Int × Unit)) × (List (Int × Int × Unit)) × Int × Unit × Int) × List Int × Unit) ⊕ (((List (Int × Int × Unit)) × Int × Unit) × List Int × Unit)) :=
  bif decide (v.1.2.2.2.2 < (v.1.1.length : Int)) then nthK v.1.1 v.1.2.2.2.2 fun e32 => bif (e32.2.1 : Int) == v.1.2.2.1 then nthK v.1.1 v.1.2.2.2.2 fun e33 => room (v.2.1.length + [e33.2.2.2.1].length) (some (Sum.inl ((v.1.1, (v.1.2.1, (v.1.2.2.1, ((), IntKind.i64.wrap (v.1.2.2.2.2 + 1))))), (v.2.1 ++ [e33.2.2.2.1], ())))) else some (Sum.inl ((v.1.1, (v.1.2.1, (v.1.2.2.1, ((), IntKind.i64.wrap (v.1.2.2.2.2 + 1))))), (v.2.1, ()))) else some (Sum.inr ((v.1.2.1, (v.1.2.2.1, ())), (v.2.1, ())))
def pledgeref13_Named.l2 (v : ((List (Int × Int × Unit)) × Int × Unit × Int) × List Int × Unit) : Option ((((List (Int × Int × Unit)) × Int × Unit × Int) × List Int × Unit) ⊕ (Unit × List Int × Unit)) :=
  bif decide (v.1.2.2.2 < (v.1.1.length : Int)) then nthK v.1.1 v.1.2.2.2 fun e35 => bif (e35.1 : Int) == v.1.2.1 then nthK v.1.1 v.1.2.2.2 fun e36 => room (v.2.1.length + [e36.2.1].length) (some (Sum.inl ((v.1.1, (v.1.2.1, ((), IntKind.i64.wrap (v.1.2.2.2 + 1)))), (v.2.1 ++ [e36.2.1], ())))) else some (Sum.inl ((v.1.1, (v.1.2.1, ((), IntKind.i64.wrap (v.1.2.2.2 + 1)))), (v.2.1, ()))) else some (Sum.inr ((), (v.2.1, ())))
def pledgeref13_Named (x0 : List (Int × Int × Int × Int × Unit)) (x1 : List (Int × Int × Unit)) (x2 : Int) : Option (Int × Bool × Unit) :=
  (iterL pledgeref13_Named.l1 loopN ((x0, (x1, (x2, ((), 0)))), ([], ()))).bind fun y34 => (iterL pledgeref13_Named.l2 loopN ((y34.1.1, (y34.1.2.1, ((), 0))), (y34.2.1, ()))).bind fun y37 => (pledgeref01_Sum y37.2.1).bind fun r38 => some (r38.1, (r38.2.1, ()))
def pledgeref13_Named.C : Ctx := { ty := tyT, sigs := fun i => bif Nat.beq i 96 then [pledgeref01_Sum.sig] else [], n := 57, mp := mpT }
def pledgeref13_Named.Q : Cuts := { np := 0, loops := fun i => bif Nat.beq i 3 then some ({ env := [(0, .val (.slice kTake)), (1, .val (.slice kLine)), (2, .val (.int .u8)), (8, .row 0), (9, .val (.int .i64))], objs := [.row (.int .i64) false] }, [(.exit 0, { env := [(1, .val (.slice kLine)), (2, .val (.int .u8)), (8, .row 0)], objs := [.row (.int .i64) false] })]) else bif Nat.beq i 8 then some ({ env := [(1, .val (.slice kLine)), (2, .val (.int .u8)), (8, .row 0), (10, .val (.int .i64))], objs := [.row (.int .i64) false] }, [(.exit 2, { env := [(8, .row 0)], objs := [.row (.int .i64) false] })]) else none, seqs := fun i => none, splits := fun i => none }
def pledgeref13_Named.sig : Sig := { args := .tc (.val (.slice kTake)) (.tc (.val (.slice kLine)) (.tc (.val (.int .u8)) .tn)), objs := [], ret := .tup (.tc (.val (.int .i64)) (.tc (.val .bool) .tn)), outs := [], F := fun x => pledgeref13_Named x.1.1 x.1.2.1 x.1.2.2.1 }
theorem pledgeref13_Named.eq : (fun x => body pledgeref13_Named.C pledgeref13_Named.Q Go.Proofs.Try.f82 pledgeref13_Named.sig.args pledgeref13_Named.sig.objs pledgeref13_Named.sig.ret pledgeref13_Named.sig.outs x) = pledgeref13_Named.sig.F := by
  kernel_rfl
set_option maxRecDepth 100000 in
theorem pledgeref13_Named.ctx : CtxOk Go.Proofs.Try.prog pledgeref13_Named.C := ⟨tyOk, mpOk, Nat.le_of_ble_eq_true (by kernel_rfl), fun f sg => fun h => sigs_if h (allS_cons pledgeref01_Sum.ok allS_nil) ((fun h => by cases h))⟩
set_option maxRecDepth 100000 in
theorem pledgeref13_Named.ok : Sound Go.Proofs.Try.prog 82 pledgeref13_Named.sig := body_sound (C := pledgeref13_Named.C) (q := pledgeref13_Named.Q) (fn := Go.Proofs.Try.f82) (sg := pledgeref13_Named.sig) (n := 3) pledgeref13_Named.ctx follows Go.Proofs.Try.func82 (by kernel_rfl) (by kernel_rfl) (by kernel_rfl) (by kernel_rfl) (Nat.le_of_ble_eq_true (by kernel_rfl)) (by kernel_rfl) pledgeref13_Named.eq

def pledgeref13_covered.l1 (v : (Unit × Int) × (Int × Int × Int × (List (Int × Int × Unit)) × (List (Int × Int × Int × Int × Unit)) × (List (Int × Int × Unit)) × Int × Int × Int × Int × Unit) × Unit) : Option (((Unit × Int) × (Int × Int × Int × (List (Int × Int × Unit)) × (List (Int × Int × Int × Int × Unit)) × (List (Int × Int × Unit)) × Int × Int × Int × Int × Unit) × Unit) ⊕ (Unit ⊕ Bool)) :=
  bif decide (v.1.2 < 4) then (pledgeref13_Named v.2.1.2.2.2.2.1 v.2.1.2.2.2.2.2.1 (IntKind.u8.wrap v.1.2)).bind fun r32 => (pledgeref13_Named [] v.2.1.2.2.2.1 (IntKind.u8.wrap v.1.2)).bind fun r33 => bif !r32.2.1 then some (Sum.inr (Sum.inr false)) else bif !r33.2.1 then some (Sum.inr (Sum.inr false)) else bif (r32.1 : Int) != r33.1 then some (Sum.inr (Sum.inr false)) else some (Sum.inl (((), IntKind.i64.wrap (v.1.2 + 1)), (v.2.1, ()))) else some (Sum.inr (Sum.inl ()))
def pledgeref13_covered (x0 : Int × Int × Int × (List (Int × Int × Unit)) × (List (Int × Int × Int × Int × Unit)) × (List (Int × Int × Unit)) × Int × Int × Int × Int × Unit) : Option Bool :=
  (iterL pledgeref13_covered.l1 loopN (((), 0), (x0, ()))).bind fun y34 => (match y34 with | .inl y35 => some true | .inr y36 => some y36)
def pledgeref13_covered.C : Ctx := { ty := tyT, sigs := fun i => bif Nat.beq i 82 then [pledgeref13_Named.sig] else [], n := 41, mp := mpT }
def pledgeref13_covered.Q : Cuts := { np := 0, loops := fun i => bif Nat.beq i 2 then some ({ env := [(1, .ptr 0), (3, .val (.int .i64))], objs := [.cell kProgram (.val kProgram)] }, [(.exit 0, { env := [], objs := [] }), (.ret, { env := [(2, .val .bool)], objs := [] })]) else none, seqs := fun i => none, splits := fun i => none }
def pledgeref13_covered.sig : Sig := { args := .tc (.val kProgram) .tn, objs := [], ret := .val .bool, outs := [], F := fun x => pledgeref13_covered x.1.1 }
theorem pledgeref13_covered.eq : (fun x => body pledgeref13_covered.C pledgeref13_covered.Q Go.Proofs.Try.f40 pledgeref13_covered.sig.args pledgeref13_covered.sig.objs pledgeref13_covered.sig.ret pledgeref13_covered.sig.outs x) = pledgeref13_covered.sig.F := by
  kernel_rfl
set_option maxRecDepth 100000 in
theorem pledgeref13_covered.ctx : CtxOk Go.Proofs.Try.prog pledgeref13_covered.C := ⟨tyOk, mpOk, Nat.le_of_ble_eq_true (by kernel_rfl), fun f sg => fun h => sigs_if h (allS_cons pledgeref13_Named.ok allS_nil) ((fun h => by cases h))⟩
set_option maxRecDepth 100000 in
theorem pledgeref13_covered.ok : Sound Go.Proofs.Try.prog 40 pledgeref13_covered.sig := body_sound (C := pledgeref13_covered.C) (q := pledgeref13_covered.Q) (fn := Go.Proofs.Try.f40) (sg := pledgeref13_covered.sig) (n := 1) pledgeref13_covered.ctx follows Go.Proofs.Try.func40 (by kernel_rfl) (by kernel_rfl) (by kernel_rfl) (by kernel_rfl) (Nat.le_of_ble_eq_true (by kernel_rfl)) (by kernel_rfl) pledgeref13_covered.eq

def pledgeref13_fills.l2 (v : (Unit × (List (Int × Int × Int × Int × Unit)) × Int × Int) × (Int × Int × Int × (List (Int × Int × Unit)) × (List (Int × Int × Int × Int × Unit)) × (List (Int × Int × Unit)) × Int × Int × Int × Int × Unit) × Unit) : Option (((Unit × (List (Int × Int × Int × Int × Unit)) × Int × Int) × (Int × Int × Int × (List (Int × Int × Unit)) × (List (Int × Int × Int × Int × Unit)) × (List (Int × Int × Unit)) × Int × Int × Int × Int × Unit) × Unit) ⊕ (((Unit × (List (Int × Int × Int × Int × Unit)) × Int) × (Int × Int × Int × (List (Int × Int × Unit)) × (List (Int × Int × Int × Int × Unit)) × (List (Int × Int × Unit)) × Int × Int × Int × Int × Unit) × Unit) ⊕ Bool)) :=
  bif decide (v.1.2.2.2 < v.1.2.2.1) then nthK v.1.2.1 v.1.2.2.2 fun e46 => nthK v.1.2.1 v.1.2.2.1 fun e47 => bif (e46.1 : Int) == e47.1 then some (Sum.inr (Sum.inr false)) else some (Sum.inl (((), (v.1.2.1, (v.1.2.2.1, IntKind.i64.wrap (v.1.2.2.2 + 1)))), (v.2.1, ()))) else some (Sum.inr (Sum.inl (((), (v.1.2.1, v.1.2.2.1)), (v.2.1, ()))))
def pledgeref13_fills.l1 (v : (Unit × (List (Int × Int × Int × Int × Unit)) × Int) × (Int × Int × Int × (List (Int × Int × Unit)) × (List (Int × Int × Int × Int × Unit)) × (List (Int × Int × Unit)) × Int × Int × Int × Int × Unit) × Unit) : Option (((Unit × (List (Int × Int × Int × Int × Unit)) × Int) × (Int × Int × Int × (List (Int × Int × Unit)) × (List (Int × Int × Int × Int × Unit)) × (List (Int × Int × Unit)) × Int × Int × Int × Int × Unit) × Unit) ⊕ (((Unit × List (Int × Int × Int × Int × Unit)) × (Int × Int × Int × (List (Int × Int × Unit)) × (List (Int × Int × Int × Int × Unit)) × (List (Int × Int × Unit)) × Int × Int × Int × Int × Unit) × Unit) ⊕ Bool)) :=
  bif decide (v.1.2.2 < (v.1.2.1.length : Int)) then nthK v.1.2.1 v.1.2.2 fun e42 => bif (e42.1 : Int) == 0 then some (Sum.inr (Sum.inr false)) else nthK v.1.2.1 v.1.2.2 fun e43 => bif (e43.2.1 : Int) != v.2.1.2.2.2.2.2.2.1 then some (Sum.inr (Sum.inr false)) else nthK v.1.2.1 v.1.2.2 fun e44 => bif (e44.2.2.1 : Int) != v.2.1.2.2.2.2.2.2.2.2.1 then some (Sum.inr (Sum.inr false)) else nthK v.1.2.1 v.1.2.2 fun e45 => bif decide (e45.2.2.2.1 < 1) then some (Sum.inr (Sum.inr false)) else (iterL pledgeref13_fills.l2 loopN (((), (v.1.2.1, (v.1.2.2, 0))), (v.2.1, ()))).bind fun y48 => (match y48 with | .inl y49 => some (Sum.inl (((), (y49.1.2.1, IntKind.i64.wrap (y49.1.2.2 + 1))), (y49.2.1, ()))) | .inr y50 => some (Sum.inr (Sum.inr y50))) else some (Sum.inr (Sum.inl (((), v.1.2.1), (v.2.1, ()))))
def pledgeref13_fills (x0 : Int × Int × Int × (List (Int × Int × Unit)) × (List (Int × Int × Int × Int × Unit)) × (List (Int × Int × Unit)) × Int × Int × Int × Int × Unit) : Option Bool :=
  (iterL pledgeref13_fills.l1 loopN (((), (x0.2.2.2.2.1, 0)), (x0, ()))).bind fun y51 => (match y51 with | .inl y52 => (pledgeref13_Named y52.1.2 [] y52.2.1.2.2.2.2.2.2.1).bind fun r54 => bif decide ((y52.1.2.length : Int) ≤ 12) then bif r54.2.1 then some (decide (r54.1 ≤ y52.2.1.2.2.2.2.2.2.2.2.2.1)) else some false else some false | .inr y53 => some y53)
def pledgeref13_fills.C : Ctx := { ty := tyT, sigs := fun i => bif Nat.beq i 82 then [pledgeref13_Named.sig] else [], n := 85, mp := mpT }
def pledgeref13_fills.Q : Cuts := { np := 0, loops := fun i => bif Nat.beq i 3 then some ({ env := [(1, .ptr 0), (3, .val (.slice kTake)), (4, .val (.int .i64))], objs := [.cell kProgram (.val kProgram)] }, [(.exit 0, { env := [(1, .ptr 0), (3, .val (.slice kTake))], objs := [.cell kProgram (.val kProgram)] }), (.ret, { env := [(2, .val .bool)], objs := [] })]) else bif Nat.beq i 8 then some ({ env := [(1, .ptr 0), (3, .val (.slice kTake)), (4, .val (.int .i64)), (5, .val (.int .i64))], objs := [.cell kProgram (.val kProgram)] }, [(.exit 2, { env := [(1, .ptr 0), (3, .val (.slice kTake)), (4, .val (.int .i64))], objs := [.cell kProgram (.val kProgram)] }), (.ret, { env := [(2, .val .bool)], objs := [] })]) else none, seqs := fun i => none, splits := fun i => none }
def pledgeref13_fills.sig : Sig := { args := .tc (.val kProgram) .tn, objs := [], ret := .val .bool, outs := [], F := fun x => pledgeref13_fills x.1.1 }
theorem pledgeref13_fills.eq : (fun x => body pledgeref13_fills.C pledgeref13_fills.Q Go.Proofs.Try.f41 pledgeref13_fills.sig.args pledgeref13_fills.sig.objs pledgeref13_fills.sig.ret pledgeref13_fills.sig.outs x) = pledgeref13_fills.sig.F := by
  kernel_rfl
set_option maxRecDepth 100000 in
theorem pledgeref13_fills.ctx : CtxOk Go.Proofs.Try.prog pledgeref13_fills.C := ⟨tyOk, mpOk, Nat.le_of_ble_eq_true (by kernel_rfl), fun f sg => fun h => sigs_if h (allS_cons pledgeref13_Named.ok allS_nil) ((fun h => by cases h))⟩
set_option maxRecDepth 100000 in
theorem pledgeref13_fills.ok : Sound Go.Proofs.Try.prog 41 pledgeref13_fills.sig := body_sound (C := pledgeref13_fills.C) (q := pledgeref13_fills.Q) (fn := Go.Proofs.Try.f41) (sg := pledgeref13_fills.sig) (n := 1) pledgeref13_fills.ctx follows Go.Proofs.Try.func41 (by kernel_rfl) (by kernel_rfl) (by kernel_rfl) (by kernel_rfl) (Nat.le_of_ble_eq_true (by kernel_rfl)) (by kernel_rfl) pledgeref13_fills.eq

def pledgeref12_SameLines.l1 (v : (List (Int × Int × Unit)) × (List (Int × Int × Unit)) × Int) : Option (((List (Int × Int × Unit)) × (List (Int × Int × Unit)) × Int) ⊕ (Unit ⊕ Bool)) :=
  bif decide (v.2.2 < (v.1.length : Int)) then nthK v.1 v.2.2 fun e14 => nthK v.2.1 v.2.2 fun e15 => bif !(eqE kLine e14 e15) then some (Sum.inr (Sum.inr false)) else some (Sum.inl (v.1, (v.2.1, IntKind.i64.wrap (v.2.2 + 1)))) else some (Sum.inr (Sum.inl ()))
def pledgeref12_SameLines (x0 : List (Int × Int × Unit)) (x1 : List (Int × Int × Unit)) : Option Bool :=
  bif ((x0.length : Int) : Int) != (x1.length : Int) then some false else (iterL pledgeref12_SameLines.l1 loopN (x0, (x1, 0))).bind fun y16 => (match y16 with | .inl y17 => some true | .inr y18 => some y18)
def pledgeref12_SameLines.C : Ctx := { ty := tyT, sigs := fun i => [], n := 26, mp := mpT }
def pledgeref12_SameLines.Q : Cuts := { np := 0, loops := fun i => bif Nat.beq i 4 then some ({ env := [(0, .val (.slice kLine)), (1, .val (.slice kLine)), (5, .val (.int .i64))], objs := [] }, [(.exit 0, { env := [], objs := [] }), (.ret, { env := [(4, .val .bool)], objs := [] })]) else none, seqs := fun i => none, splits := fun i => none }
def pledgeref12_SameLines.sig : Sig := { args := .tc (.val (.slice kLine)) (.tc (.val (.slice kLine)) .tn), objs := [], ret := .val .bool, outs := [], F := fun x => pledgeref12_SameLines x.1.1 x.1.2.1 }
theorem pledgeref12_SameLines.eq : (fun x => body pledgeref12_SameLines.C pledgeref12_SameLines.Q Go.Proofs.Try.f57 pledgeref12_SameLines.sig.args pledgeref12_SameLines.sig.objs pledgeref12_SameLines.sig.ret pledgeref12_SameLines.sig.outs x) = pledgeref12_SameLines.sig.F := by
  kernel_rfl
set_option maxRecDepth 100000 in
theorem pledgeref12_SameLines.ctx : CtxOk Go.Proofs.Try.prog pledgeref12_SameLines.C := ⟨tyOk, mpOk, Nat.le_of_ble_eq_true (by kernel_rfl), fun f sg => (fun h => by cases h)⟩
set_option maxRecDepth 100000 in
theorem pledgeref12_SameLines.ok : Sound Go.Proofs.Try.prog 57 pledgeref12_SameLines.sig := body_sound (C := pledgeref12_SameLines.C) (q := pledgeref12_SameLines.Q) (fn := Go.Proofs.Try.f57) (sg := pledgeref12_SameLines.sig) (n := 2) pledgeref12_SameLines.ctx follows Go.Proofs.Try.func57 (by kernel_rfl) (by kernel_rfl) (by kernel_rfl) (by kernel_rfl) (Nat.le_of_ble_eq_true (by kernel_rfl)) (by kernel_rfl) pledgeref12_SameLines.eq

def pledgeref13_SameTakes.l1 (v : (List (Int × Int × Int × Int × Unit)) × (List (Int × Int × Int × Int × Unit)) × Int) : Option (((List (Int × Int × Int × Int × Unit)) × (List (Int × Int × Int × Int × Unit)) × Int) ⊕ (Unit ⊕ Bool)) :=
  bif decide (v.2.2 < (v.1.length : Int)) then nthK v.1 v.2.2 fun e20 => nthK v.2.1 v.2.2 fun e21 => bif !(eqE kTake e20 e21) then some (Sum.inr (Sum.inr false)) else some (Sum.inl (v.1, (v.2.1, IntKind.i64.wrap (v.2.2 + 1)))) else some (Sum.inr (Sum.inl ()))
def pledgeref13_SameTakes (x0 : List (Int × Int × Int × Int × Unit)) (x1 : List (Int × Int × Int × Int × Unit)) : Option Bool :=
  bif ((x0.length : Int) : Int) != (x1.length : Int) then some false else (iterL pledgeref13_SameTakes.l1 loopN (x0, (x1, 0))).bind fun y22 => (match y22 with | .inl y23 => some true | .inr y24 => some y24)
def pledgeref13_SameTakes.C : Ctx := { ty := tyT, sigs := fun i => [], n := 26, mp := mpT }
def pledgeref13_SameTakes.Q : Cuts := { np := 0, loops := fun i => bif Nat.beq i 4 then some ({ env := [(0, .val (.slice kTake)), (1, .val (.slice kTake)), (5, .val (.int .i64))], objs := [] }, [(.exit 0, { env := [], objs := [] }), (.ret, { env := [(4, .val .bool)], objs := [] })]) else none, seqs := fun i => none, splits := fun i => none }
def pledgeref13_SameTakes.sig : Sig := { args := .tc (.val (.slice kTake)) (.tc (.val (.slice kTake)) .tn), objs := [], ret := .val .bool, outs := [], F := fun x => pledgeref13_SameTakes x.1.1 x.1.2.1 }
theorem pledgeref13_SameTakes.eq : (fun x => body pledgeref13_SameTakes.C pledgeref13_SameTakes.Q Go.Proofs.Try.f58 pledgeref13_SameTakes.sig.args pledgeref13_SameTakes.sig.objs pledgeref13_SameTakes.sig.ret pledgeref13_SameTakes.sig.outs x) = pledgeref13_SameTakes.sig.F := by
  kernel_rfl
set_option maxRecDepth 100000 in
theorem pledgeref13_SameTakes.ctx : CtxOk Go.Proofs.Try.prog pledgeref13_SameTakes.C := ⟨tyOk, mpOk, Nat.le_of_ble_eq_true (by kernel_rfl), fun f sg => (fun h => by cases h)⟩
set_option maxRecDepth 100000 in
theorem pledgeref13_SameTakes.ok : Sound Go.Proofs.Try.prog 58 pledgeref13_SameTakes.sig := body_sound (C := pledgeref13_SameTakes.C) (q := pledgeref13_SameTakes.Q) (fn := Go.Proofs.Try.f58) (sg := pledgeref13_SameTakes.sig) (n := 2) pledgeref13_SameTakes.ctx follows Go.Proofs.Try.func58 (by kernel_rfl) (by kernel_rfl) (by kernel_rfl) (by kernel_rfl) (Nat.le_of_ble_eq_true (by kernel_rfl)) (by kernel_rfl) pledgeref13_SameTakes.eq

def pledgeref13_Same (x0 : Int × Int × Int × (List (Int × Int × Unit)) × (List (Int × Int × Int × Int × Unit)) × (List (Int × Int × Unit)) × Int × Int × Int × Int × Unit) (x1 : Int × Int × Int × (List (Int × Int × Unit)) × (List (Int × Int × Int × Int × Unit)) × (List (Int × Int × Unit)) × Int × Int × Int × Int × Unit) : Option Bool :=
  bif (x0.1 : Int) == x1.1 then bif (x0.2.1 : Int) == x1.2.1 then bif (x0.2.2.1 : Int) == x1.2.2.1 then (pledgeref12_SameLines x0.2.2.2.1 x1.2.2.2.1).bind fun r14 => bif r14 then (pledgeref13_SameTakes x0.2.2.2.2.1 x1.2.2.2.2.1).bind fun r15 => bif r15 then (pledgeref12_SameLines x0.2.2.2.2.2.1 x1.2.2.2.2.2.1).bind fun r16 => bif r16 then bif (x0.2.2.2.2.2.2.1 : Int) == x1.2.2.2.2.2.2.1 then bif (x0.2.2.2.2.2.2.2.1 : Int) == x1.2.2.2.2.2.2.2.1 then bif (x0.2.2.2.2.2.2.2.2.1 : Int) == x1.2.2.2.2.2.2.2.2.1 then some ((x0.2.2.2.2.2.2.2.2.2.1 : Int) == x1.2.2.2.2.2.2.2.2.2.1) else some false else some false else some false else some false else some false else some false else some false else some false else some false
def pledgeref13_Same.C : Ctx := { ty := tyT, sigs := fun i => bif Nat.beq i 57 then [pledgeref12_SameLines.sig] else bif Nat.beq i 58 then [pledgeref13_SameTakes.sig] else [], n := 73, mp := mpT }
def pledgeref13_Same.Q : Cuts := { np := 0, loops := fun i => none, seqs := fun i => none, splits := fun i => none }
def pledgeref13_Same.sig : Sig := { args := .tc (.val kProgram) (.tc (.val kProgram) .tn), objs := [], ret := .val .bool, outs := [], F := fun x => pledgeref13_Same x.1.1 x.1.2.1 }
theorem pledgeref13_Same.eq : (fun x => body pledgeref13_Same.C pledgeref13_Same.Q Go.Proofs.Try.f13 pledgeref13_Same.sig.args pledgeref13_Same.sig.objs pledgeref13_Same.sig.ret pledgeref13_Same.sig.outs x) = pledgeref13_Same.sig.F := by
  kernel_rfl
set_option maxRecDepth 100000 in
theorem pledgeref13_Same.ctx : CtxOk Go.Proofs.Try.prog pledgeref13_Same.C := ⟨tyOk, mpOk, Nat.le_of_ble_eq_true (by kernel_rfl), fun f sg => fun h => sigs_if h (allS_cons pledgeref12_SameLines.ok allS_nil) (fun h => sigs_if h (allS_cons pledgeref13_SameTakes.ok allS_nil) ((fun h => by cases h)))⟩
set_option maxRecDepth 100000 in
theorem pledgeref13_Same.ok : Sound Go.Proofs.Try.prog 13 pledgeref13_Same.sig := body_sound (C := pledgeref13_Same.C) (q := pledgeref13_Same.Q) (fn := Go.Proofs.Try.f13) (sg := pledgeref13_Same.sig) (n := 2) pledgeref13_Same.ctx follows Go.Proofs.Try.func13 (by kernel_rfl) (by kernel_rfl) (by kernel_rfl) (by kernel_rfl) (Nat.le_of_ble_eq_true (by kernel_rfl)) (by kernel_rfl) pledgeref13_Same.eq

def pledgeref13_Good (x0 : Int) (x1 : Int) (x2 : Int × Int × Int × (List (Int × Int × Unit)) × (List (Int × Int × Int × Int × Unit)) × (List (Int × Int × Unit)) × Int × Int × Int × Int × Unit) : Option Bool :=
  bif decide (x0 < 1) then some false else bif decide (x0 > 4) then some false else bif decide (x1 < 1) then some false else bif decide (x1 > 4) then some false else (bif (x2.1 : Int) == 1 then bif (x2.2.1 : Int) != 0 then bif decide (x2.2.2.1 ≤ 1) then bif decide ((x2.2.2.2.1.length : Int) > 0) then (pledgeref12_Lines x0 x2.2.2.2.1).bind fun r4 => bif r4 then (pledgeref13_takes x0 x1 x2).bind fun r5 => bif r5 then (pledgeref12_Lines x0 x2.2.2.2.2.2.1).bind fun r6 => bif r6 then (pledgeref13_covered x2).bind fun r7 => bif r7 then bif (x2.2.2.1 : Int) == 0 then some ((((), ((), true)), (x2, ((x2.1, (x2.2.1, (x2.2.2.1, (x2.2.2.2.1, (x2.2.2.2.2.1, (x2.2.2.2.2.2.1, (0, (0, (0, (0, ())))))))))), ())))) else some ((((), ((), ((x2.2.2.2.2.2.1.length : Int) : Int) == 0)), (x2, ((x2.1, (x2.2.1, (x2.2.2.1, (x2.2.2.2.1, (x2.2.2.2.2.1, (x2.2.2.2.2.2.1, (0, (0, (0, (0, ())))))))))), ())))) else some ((((), ((), false)), (x2, ((x2.1, (x2.2.1, (x2.2.2.1, (x2.2.2.2.1, (x2.2.2.2.2.1, (x2.2.2.2.2.2.1, (0, (0, (0, (0, ())))))))))), ())))) else some ((((), ((), false)), (x2, ((x2.1, (x2.2.1, (x2.2.2.1, (x2.2.2.2.1, (x2.2.2.2.2.1, (x2.2.2.2.2.2.1, (0, (0, (0, (0, ())))))))))), ())))) else some ((((), ((), false)), (x2, ((x2.1, (x2.2.1, (x2.2.2.1, (x2.2.2.2.1, (x2.2.2.2.2.1, (x2.2.2.2.2.2.1, (0, (0, (0, (0, ())))))))))), ())))) else some ((((), ((), false)), (x2, ((x2.1, (x2.2.1, (x2.2.2.1, (x2.2.2.2.1, (x2.2.2.2.2.1, (x2.2.2.2.2.2.1, (0, (0, (0, (0, ())))))))))), ())))) else some ((((), ((), false)), (x2, ((x2.1, (x2.2.1, (x2.2.2.1, (x2.2.2.2.1, (x2.2.2.2.2.1, (x2.2.2.2.2.2.1, (0, (0, (0, (0, ())))))))))), ())))) else some ((((), ((), false)), (x2, ((x2.1, (x2.2.1, (x2.2.2.1, (x2.2.2.2.1, (x2.2.2.2.2.1, (x2.2.2.2.2.2.1, (0, (0, (0, (0, ())))))))))), ())))) else some ((((), ((), false)), (x2, ((x2.1, (x2.2.1, (x2.2.2.1, (x2.2.2.2.1, (x2.2.2.2.2.1, (x2.2.2.2.2.2.1, (0, (0, (0, (0, ())))))))))), ())))) else bif (x2.1 : Int) == 2 then bif (x2.2.1 : Int) != 0 then (pledgeref13_takes x0 x1 x2).bind fun r8 => bif r8 then (pledgeref12_Lines x0 x2.2.2.2.2.2.1).bind fun r9 => bif r9 then some ((((), ((), decide ((IntKind.i64.wrap ((x2.2.2.2.2.1.length : Int) + (x2.2.2.2.2.2.1.length : Int))) > 0))), (x2, ((x2.1, (x2.2.1, (0, ([], (x2.2.2.2.2.1, (x2.2.2.2.2.2.1, (0, (0, (0, (0, ())))))))))), ())))) else some ((((), ((), false)), (x2, ((x2.1, (x2.2.1, (0, ([], (x2.2.2.2.2.1, (x2.2.2.2.2.2.1, (0, (0, (0, (0, ())))))))))), ())))) else some ((((), ((), false)), (x2, ((x2.1, (x2.2.1, (0, ([], (x2.2.2.2.2.1, (x2.2.2.2.2.2.1, (0, (0, (0, (0, ())))))))))), ())))) else some ((((), ((), false)), (x2, ((x2.1, (x2.2.1, (0, ([], (x2.2.2.2.2.1, (x2.2.2.2.2.2.1, (0, (0, (0, (0, ())))))))))), ())))) else (bif (x2.1 : Int) == 3 then some (((x0, (x1, ((), ((), (x2.1, (x2.1 : Int) == 3))))), (x2, ((x2.1, (0, (0, ((), (x2.2.2.2.2.1, ((), (0, (0, (0, (0, ())))))))))), ())))) else some (((x0, (x1, ((), ((), (x2.1, (x2.1 : Int) == 4))))), (x2, ((x2.1, (0, (0, ((), (x2.2.2.2.2.1, ((), (0, (0, (0, (0, ())))))))))), ())))) : Option ((Int × Int × Unit × Unit × Int × Bool) × (Int × Int × Int × (List (Int × Int × Unit)) × (List (Int × Int × Int × Int × Unit)) × (List (Int × Int × Unit)) × Int × Int × Int × Int × Unit) × (Int × Int × Int × Unit × (List (Int × Int × Int × Int × Unit)) × Unit × Int × Int × Int × Int × Unit) × Unit)).bind fun y10 => bif y10.1.2.2.2.2.2 then bif (y10.2.1.2.1 : Int) != 0 then (pledgeref13_takes y10.1.1 y10.1.2.1 y10.2.1).bind fun r11 => bif r11 then some ((((), ((), decide ((y10.2.1.2.2.2.2.1.length : Int) > 0))), (y10.2.1, ((y10.2.2.1.1, (y10.2.1.2.1, (y10.2.2.1.2.2.1, ([], (y10.2.2.1.2.2.2.2.1, ([], y10.2.2.1.2.2.2.2.2.2)))))), ())))) else some ((((), ((), false)), (y10.2.1, ((y10.2.2.1.1, (y10.2.1.2.1, (y10.2.2.1.2.2.1, ([], (y10.2.2.1.2.2.2.2.1, ([], y10.2.2.1.2.2.2.2.2.2)))))), ())))) else some ((((), ((), false)), (y10.2.1, ((y10.2.2.1.1, (y10.2.1.2.1, (y10.2.2.1.2.2.1, ([], (y10.2.2.1.2.2.2.2.1, ([], y10.2.2.1.2.2.2.2.2.2)))))), ())))) else bif (y10.1.2.2.2.2.1 : Int) == 5 then bif decide ((IntKind.i64.wrap y10.2.1.2.2.2.2.2.2.1) < y10.1.1) then bif decide ((IntKind.i64.wrap y10.2.1.2.2.2.2.2.2.2.2.1) < y10.1.2.1) then bif decide (y10.2.1.2.2.2.2.2.2.2.2.2.1 ≥ 1) then (pledgeref13_fills y10.2.1).bind fun r12 => some ((((), ((), r12)), (y10.2.1, ((y10.2.2.1.1, (y10.2.2.1.2.1, (y10.2.2.1.2.2.1, ([], (y10.2.2.1.2.2.2.2.1, ([], (y10.2.1.2.2.2.2.2.2.1, (y10.2.2.1.2.2.2.2.2.2.2.1, (y10.2.1.2.2.2.2.2.2.2.2.1, (y10.2.1.2.2.2.2.2.2.2.2.2.1, y10.2.2.1.2.2.2.2.2.2.2.2.2.2)))))))))), ())))) else some ((((), ((), false)), (y10.2.1, ((y10.2.2.1.1, (y10.2.2.1.2.1, (y10.2.2.1.2.2.1, ([], (y10.2.2.1.2.2.2.2.1, ([], (y10.2.1.2.2.2.2.2.2.1, (y10.2.2.1.2.2.2.2.2.2.2.1, (y10.2.1.2.2.2.2.2.2.2.2.1, (y10.2.1.2.2.2.2.2.2.2.2.2.1, y10.2.2.1.2.2.2.2.2.2.2.2.2.2)))))))))), ())))) else some ((((), ((), false)), (y10.2.1, ((y10.2.2.1.1, (y10.2.2.1.2.1, (y10.2.2.1.2.2.1, ([], (y10.2.2.1.2.2.2.2.1, ([], (y10.2.1.2.2.2.2.2.2.1, (y10.2.2.1.2.2.2.2.2.2.2.1, (y10.2.1.2.2.2.2.2.2.2.2.1, (y10.2.1.2.2.2.2.2.2.2.2.2.1, y10.2.2.1.2.2.2.2.2.2.2.2.2.2)))))))))), ())))) else some ((((), ((), false)), (y10.2.1, ((y10.2.2.1.1, (y10.2.2.1.2.1, (y10.2.2.1.2.2.1, ([], (y10.2.2.1.2.2.2.2.1, ([], (y10.2.1.2.2.2.2.2.2.1, (y10.2.2.1.2.2.2.2.2.2.2.1, (y10.2.1.2.2.2.2.2.2.2.2.1, (y10.2.1.2.2.2.2.2.2.2.2.2.1, y10.2.2.1.2.2.2.2.2.2.2.2.2.2)))))))))), ())))) else bif (y10.1.2.2.2.2.1 : Int) == 6 then bif decide ((IntKind.i64.wrap y10.2.1.2.2.2.2.2.2.1) < y10.1.1) then bif decide ((IntKind.i64.wrap y10.2.1.2.2.2.2.2.2.2.1) < y10.1.2.1) then bif decide ((IntKind.i64.wrap y10.2.1.2.2.2.2.2.2.2.2.1) < y10.1.2.1) then bif (y10.2.1.2.2.2.2.2.2.2.1 : Int) != y10.2.1.2.2.2.2.2.2.2.2.1 then some ((((), ((), decide (y10.2.1.2.2.2.2.2.2.2.2.2.1 ≥ 1))), (y10.2.1, ((6, (0, (0, ([], ([], ([], (y10.2.1.2.2.2.2.2.2.1, (y10.2.1.2.2.2.2.2.2.2.1, (y10.2.1.2.2.2.2.2.2.2.2.1, (y10.2.1.2.2.2.2.2.2.2.2.2.1, ())))))))))), ())))) else some ((((), ((), false)), (y10.2.1, ((6, (0, (0, ([], ([], ([], (y10.2.1.2.2.2.2.2.2.1, (y10.2.1.2.2.2.2.2.2.2.1, (y10.2.1.2.2.2.2.2.2.2.2.1, (y10.2.1.2.2.2.2.2.2.2.2.2.1, ())))))))))), ())))) else some ((((), ((), false)), (y10.2.1, ((6, (0, (0, ([], ([], ([], (y10.2.1.2.2.2.2.2.2.1, (y10.2.1.2.2.2.2.2.2.2.1, (y10.2.1.2.2.2.2.2.2.2.2.1, (y10.2.1.2.2.2.2.2.2.2.2.2.1, ())))))))))), ())))) else some ((((), ((), false)), (y10.2.1, ((6, (0, (0, ([], ([], ([], (y10.2.1.2.2.2.2.2.2.1, (y10.2.1.2.2.2.2.2.2.2.1, (y10.2.1.2.2.2.2.2.2.2.2.1, (y10.2.1.2.2.2.2.2.2.2.2.2.1, ())))))))))), ())))) else some ((((), ((), false)), (y10.2.1, ((6, (0, (0, ([], ([], ([], (y10.2.1.2.2.2.2.2.2.1, (y10.2.1.2.2.2.2.2.2.2.1, (y10.2.1.2.2.2.2.2.2.2.2.1, (y10.2.1.2.2.2.2.2.2.2.2.2.1, ())))))))))), ())))) else some ((((), ((), false)), (y10.2.1, ((y10.2.2.1.1, (y10.2.2.1.2.1, (y10.2.2.1.2.2.1, ([], (y10.2.2.1.2.2.2.2.1, ([], y10.2.2.1.2.2.2.2.2.2)))))), ())))) : Option ((Unit × Unit × Bool) × (Int × Int × Int × (List (Int × Int × Unit)) × (List (Int × Int × Int × Int × Unit)) × (List (Int × Int × Unit)) × Int × Int × Int × Int × Unit) × (Int × Int × Int × (List (Int × Int × Unit)) × (List (Int × Int × Int × Int × Unit)) × (List (Int × Int × Unit)) × Int × Int × Int × Int × Unit) × Unit)).bind fun y13 => bif y13.1.2.2 then (pledgeref13_Same y13.2.1 y13.2.2.1).bind fun r14 => some r14 else some false
def pledgeref13_Good.C : Ctx := { ty := tyT, sigs := fun i => bif Nat.beq i 13 then [pledgeref13_Same.sig] else bif Nat.beq i 38 then [pledgeref12_Lines.sig] else bif Nat.beq i 39 then [pledgeref13_takes.sig] else bif Nat.beq i 40 then [pledgeref13_covered.sig] else bif Nat.beq i 41 then [pledgeref13_fills.sig] else [], n := 225, mp := mpT }
def pledgeref13_Good.Q : Cuts := { np := 0, loops := fun i => none, seqs := fun i => bif Nat.beq i 19 then some [(.normal, { env := [(0, .val (.int .i64)), (1, .val (.int .i64)), (5, .ptr 0), (7, .ptr 1), (29, .val (.int .u8)), (124, .val .bool)], objs := [.cell kProgram (.val kProgram), .cell kProgram (.pair (.val (.int .u8)) (.pair (.val (.int .u32)) (.pair (.val (.int .u8)) (.pair (.nils kLine) (.pair (.val (.slice kTake)) (.pair (.nils kLine) (.val (.cons (.int .u8) (.cons (.int .u8) kLine)))))))))] })] else bif Nat.beq i 29 then some [(.normal, { env := [(5, .ptr 0), (7, .ptr 1), (8, .val .bool)], objs := [.cell kProgram (.val kProgram), .cell kProgram (.val kProgram)] })] else none, splits := fun i => none }
def pledgeref13_Good.sig : Sig := { args := .tc (.val (.int .i64)) (.tc (.val (.int .i64)) (.tc (.val kProgram) .tn)), objs := [], ret := .val .bool, outs := [], F := fun x => pledgeref13_Good x.1.1 x.1.2.1 x.1.2.2.1 }
theorem pledgeref13_Good.eq : (fun x => body pledgeref13_Good.C pledgeref13_Good.Q Go.Proofs.Try.f9 pledgeref13_Good.sig.args pledgeref13_Good.sig.objs pledgeref13_Good.sig.ret pledgeref13_Good.sig.outs x) = pledgeref13_Good.sig.F := by
  kernel_rfl
set_option maxRecDepth 100000 in
theorem pledgeref13_Good.ctx : CtxOk Go.Proofs.Try.prog pledgeref13_Good.C := ⟨tyOk, mpOk, Nat.le_of_ble_eq_true (by kernel_rfl), fun f sg => fun h => sigs_if h (allS_cons pledgeref13_Same.ok allS_nil) (fun h => sigs_if h (allS_cons pledgeref12_Lines.ok allS_nil) (fun h => sigs_if h (allS_cons pledgeref13_takes.ok allS_nil) (fun h => sigs_if h (allS_cons pledgeref13_covered.ok allS_nil) (fun h => sigs_if h (allS_cons pledgeref13_fills.ok allS_nil) ((fun h => by cases h))))))⟩
set_option maxRecDepth 100000 in
theorem pledgeref13_Good.ok : Sound Go.Proofs.Try.prog 9 pledgeref13_Good.sig := body_sound (C := pledgeref13_Good.C) (q := pledgeref13_Good.Q) (fn := Go.Proofs.Try.f9) (sg := pledgeref13_Good.sig) (n := 3) pledgeref13_Good.ctx follows Go.Proofs.Try.func9 (by kernel_rfl) (by kernel_rfl) (by kernel_rfl) (by kernel_rfl) (Nat.le_of_ble_eq_true (by kernel_rfl)) (by kernel_rfl) pledgeref13_Good.eq

def pledgeref03_Num.l1 (v : (Int × Int × Unit × Int) × List Int × Unit) : Option (((Int × Int × Unit × Int) × List Int × Unit) ⊕ (Unit × List Int × Unit)) :=
  bif decide (v.1.2.2.2 < v.1.2.1) then room (v.2.1.length + [IntKind.u8.wrap (Int.tmod v.1.1 256)].length) (some (Sum.inl ((IntKind.u64.wrap (Int.tdiv v.1.1 256), (v.1.2.1, ((), IntKind.i64.wrap (v.1.2.2.2 + 1)))), (v.2.1 ++ [IntKind.u8.wrap (Int.tmod v.1.1 256)], ())))) else some (Sum.inr ((), (v.2.1, ())))
def pledgeref03_Num (x0 : Int) (x1 : Int) : Option (Unit × List Int × Unit) :=
  (iterL pledgeref03_Num.l1 loopN ((x0, (x1, ((), 0))), ([], ()))).bind fun y5 => some ((), (y5.2.1, ()))
def pledgeref03_Num.C : Ctx := { ty := tyT, sigs := fun i => [], n := 22, mp := mpT }
def pledgeref03_Num.Q : Cuts := { np := 0, loops := fun i => bif Nat.beq i 3 then some ({ env := [(0, .val (.int .u64)), (1, .val (.int .i64)), (5, .row 0), (6, .val (.int .i64))], objs := [.row (.int .u8) false] }, [(.exit 0, { env := [(5, .row 0)], objs := [.row (.int .u8) false] })]) else none, seqs := fun i => none, splits := fun i => none }
def pledgeref03_Num.sig : Sig := { args := .tc (.val (.int .u64)) (.tc (.val (.int .i64)) .tn), objs := [], ret := .row 0, outs := [.row (.int .u8) false], F := fun x => pledgeref03_Num x.1.1 x.1.2.1 }
theorem pledgeref03_Num.eq : (fun x => body pledgeref03_Num.C pledgeref03_Num.Q Go.Proofs.Try.f42 pledgeref03_Num.sig.args pledgeref03_Num.sig.objs pledgeref03_Num.sig.ret pledgeref03_Num.sig.outs x) = pledgeref03_Num.sig.F := by
  kernel_rfl
set_option maxRecDepth 100000 in
theorem pledgeref03_Num.ctx : CtxOk Go.Proofs.Try.prog pledgeref03_Num.C := ⟨tyOk, mpOk, Nat.le_of_ble_eq_true (by kernel_rfl), fun f sg => (fun h => by cases h)⟩
set_option maxRecDepth 100000 in
theorem pledgeref03_Num.ok : Sound Go.Proofs.Try.prog 42 pledgeref03_Num.sig := body_sound (C := pledgeref03_Num.C) (q := pledgeref03_Num.Q) (fn := Go.Proofs.Try.f42) (sg := pledgeref03_Num.sig) (n := 2) pledgeref03_Num.ctx follows Go.Proofs.Try.func42 (by kernel_rfl) (by kernel_rfl) (by kernel_rfl) (by kernel_rfl) (Nat.le_of_ble_eq_true (by kernel_rfl)) (by kernel_rfl) pledgeref03_Num.eq

def pledgeref03_Int (x0 : Int) : Option (List Int) :=
  (pledgeref03_Num (IntKind.u64.wrap x0) 8).bind fun r8 => some r8.2.1
def pledgeref03_Int.C : Ctx := { ty := tyT, sigs := fun i => bif Nat.beq i 42 then [pledgeref03_Num.sig] else [], n := 6, mp := mpT }
def pledgeref03_Int.Q : Cuts := { np := 0, loops := fun i => none, seqs := fun i => none, splits := fun i => none }
def pledgeref03_Int.sig : Sig := { args := .tc (.val (.int .i64)) .tn, objs := [], ret := .val (.slice (.int .u8)), outs := [], F := fun x => pledgeref03_Int x.1.1 }
theorem pledgeref03_Int.eq : (fun x => body pledgeref03_Int.C pledgeref03_Int.Q Go.Proofs.Try.f44 pledgeref03_Int.sig.args pledgeref03_Int.sig.objs pledgeref03_Int.sig.ret pledgeref03_Int.sig.outs x) = pledgeref03_Int.sig.F := by
  kernel_rfl
set_option maxRecDepth 100000 in
theorem pledgeref03_Int.ctx : CtxOk Go.Proofs.Try.prog pledgeref03_Int.C := ⟨tyOk, mpOk, Nat.le_of_ble_eq_true (by kernel_rfl), fun f sg => fun h => sigs_if h (allS_cons pledgeref03_Num.ok allS_nil) ((fun h => by cases h))⟩
set_option maxRecDepth 100000 in
theorem pledgeref03_Int.ok : Sound Go.Proofs.Try.prog 44 pledgeref03_Int.sig := body_sound (C := pledgeref03_Int.C) (q := pledgeref03_Int.Q) (fn := Go.Proofs.Try.f44) (sg := pledgeref03_Int.sig) (n := 1) pledgeref03_Int.ctx follows Go.Proofs.Try.func44 (by kernel_rfl) (by kernel_rfl) (by kernel_rfl) (by kernel_rfl) (Nat.le_of_ble_eq_true (by kernel_rfl)) (by kernel_rfl) pledgeref03_Int.eq

def pledgeref13_LinesBytes.l1 (v : ((List (Int × Int × Unit)) × Unit × Int) × List Int × Unit) : Option ((((List (Int × Int × Unit)) × Unit × Int) × List Int × Unit) ⊕ (Unit × List Int × Unit)) :=
  bif decide (v.1.2.2 < (v.1.1.length : Int)) then nthK v.1.1 v.1.2.2 fun e6 => room (v.2.1.length + [e6.1].length) (nthK v.1.1 v.1.2.2 fun e7 => (pledgeref03_Int e7.2.1).bind fun r8 => room ((v.2.1 ++ [e6.1]).length + r8.length) (some (Sum.inl ((v.1.1, ((), IntKind.i64.wrap (v.1.2.2 + 1))), ((v.2.1 ++ [e6.1]) ++ r8, ()))))) else some (Sum.inr ((), (v.2.1, ())))
def pledgeref13_LinesBytes (x0 : List (Int × Int × Unit)) : Option (List Int) :=
  (iterL pledgeref13_LinesBytes.l1 loopN ((x0, ((), 0)), ([IntKind.u8.wrap (x0.length : Int)], ()))).bind fun y9 => some y9.2.1
def pledgeref13_LinesBytes.C : Ctx := { ty := tyT, sigs := fun i => bif Nat.beq i 44 then [pledgeref03_Int.sig] else [], n := 32, mp := mpT }
def pledgeref13_LinesBytes.Q : Cuts := { np := 0, loops := fun i => bif Nat.beq i 3 then some ({ env := [(0, .val (.slice kLine)), (3, .row 0), (4, .val (.int .i64))], objs := [.row (.int .u8) false] }, [(.exit 0, { env := [(3, .row 0)], objs := [.row (.int .u8) false] })]) else none, seqs := fun i => none, splits := fun i => none }
def pledgeref13_LinesBytes.sig : Sig := { args := .tc (.val (.slice kLine)) .tn, objs := [], ret := .val (.slice (.int .u8)), outs := [], F := fun x => pledgeref13_LinesBytes x.1.1 }
theorem pledgeref13_LinesBytes.eq : (fun x => body pledgeref13_LinesBytes.C pledgeref13_LinesBytes.Q Go.Proofs.Try.f43 pledgeref13_LinesBytes.sig.args pledgeref13_LinesBytes.sig.objs pledgeref13_LinesBytes.sig.ret pledgeref13_LinesBytes.sig.outs x) = pledgeref13_LinesBytes.sig.F := by
  kernel_rfl
set_option maxRecDepth 100000 in
theorem pledgeref13_LinesBytes.ctx : CtxOk Go.Proofs.Try.prog pledgeref13_LinesBytes.C := ⟨tyOk, mpOk, Nat.le_of_ble_eq_true (by kernel_rfl), fun f sg => fun h => sigs_if h (allS_cons pledgeref03_Int.ok allS_nil) ((fun h => by cases h))⟩
set_option maxRecDepth 100000 in
theorem pledgeref13_LinesBytes.ok : Sound Go.Proofs.Try.prog 43 pledgeref13_LinesBytes.sig := body_sound (C := pledgeref13_LinesBytes.C) (q := pledgeref13_LinesBytes.Q) (fn := Go.Proofs.Try.f43) (sg := pledgeref13_LinesBytes.sig) (n := 1) pledgeref13_LinesBytes.ctx follows Go.Proofs.Try.func43 (by kernel_rfl) (by kernel_rfl) (by kernel_rfl) (by kernel_rfl) (Nat.le_of_ble_eq_true (by kernel_rfl)) (by kernel_rfl) pledgeref13_LinesBytes.eq

def pledgeref13_Bytes.l1 (v : (Unit × Unit × Int) × (Int × Int × Int × (List (Int × Int × Unit)) × (List (Int × Int × Int × Int × Unit)) × (List (Int × Int × Unit)) × Int × Int × Int × Int × Unit) × List Int × Unit) : Option (((Unit × Unit × Int) × (Int × Int × Int × (List (Int × Int × Unit)) × (List (Int × Int × Int × Int × Unit)) × (List (Int × Int × Unit)) × Int × Int × Int × Int × Unit) × List Int × Unit) ⊕ ((Unit × Unit) × (Int × Int × Int × (List (Int × Int × Unit)) × (List (Int × Int × Int × Int × Unit)) × (List (Int × Int × Unit)) × Int × Int × Int × Int × Unit) × List Int × Unit)) :=
  bif decide (v.1.2.2 < (v.2.1.2.2.2.2.1.length : Int)) then nthK v.2.1.2.2.2.2.1 v.1.2.2 fun e7 => (pledgeref03_Num (IntKind.u64.wrap e7.1) 4).bind fun r8 => room (v.2.2.1.length + r8.2.1.length) (nthK v.2.1.2.2.2.2.1 v.1.2.2 fun e9 => nthK v.2.1.2.2.2.2.1 v.1.2.2 fun e10 => room ((v.2.2.1 ++ r8.2.1).length + [e9.2.1, e10.2.2.1].length) (nthK v.2.1.2.2.2.2.1 v.1.2.2 fun e11 => (pledgeref03_Int e11.2.2.2.1).bind fun r12 => room (((v.2.2.1 ++ r8.2.1) ++ [e9.2.1, e10.2.2.1]).length + r12.length) (some (Sum.inl (((), ((), IntKind.i64.wrap (v.1.2.2 + 1))), (v.2.1, (((v.2.2.1 ++ r8.2.1) ++ [e9.2.1, e10.2.2.1]) ++ r12, ()))))))) else some (Sum.inr (((), ()), (v.2.1, (v.2.2.1, ()))))
def pledgeref13_Bytes (x0 : Int × Int × Int × (List (Int × Int × Unit)) × (List (Int × Int × Int × Int × Unit)) × (List (Int × Int × Unit)) × Int × Int × Int × Int × Unit) : Option (List Int) :=
  (pledgeref03_Num (IntKind.u64.wrap x0.2.1) 4).bind fun r5 => room ([x0.1].length + r5.2.1.length) (room (([x0.1] ++ r5.2.1).length + [x0.2.2.1].length) ((pledgeref13_LinesBytes x0.2.2.2.1).bind fun r6 => room ((([x0.1] ++ r5.2.1) ++ [x0.2.2.1]).length + r6.length) (room (((([x0.1] ++ r5.2.1) ++ [x0.2.2.1]) ++ r6).length + [IntKind.u8.wrap (x0.2.2.2.2.1.length : Int)].length) ((iterL pledgeref13_Bytes.l1 loopN (((), ((), 0)), (x0, (((([x0.1] ++ r5.2.1) ++ [x0.2.2.1]) ++ r6) ++ [IntKind.u8.wrap (x0.2.2.2.2.1.length : Int)], ())))).bind fun y13 => (pledgeref13_LinesBytes y13.2.1.2.2.2.2.2.1).bind fun r14 => room (y13.2.2.1.length + r14.length) (room ((y13.2.2.1 ++ r14).length + [y13.2.1.2.2.2.2.2.2.1, y13.2.1.2.2.2.2.2.2.2.1, y13.2.1.2.2.2.2.2.2.2.2.1].length) ((pledgeref03_Int y13.2.1.2.2.2.2.2.2.2.2.2.1).bind fun r15 => room (((y13.2.2.1 ++ r14) ++ [y13.2.1.2.2.2.2.2.2.1, y13.2.1.2.2.2.2.2.2.2.1, y13.2.1.2.2.2.2.2.2.2.2.1]).length + r15.length) (some (((y13.2.2.1 ++ r14) ++ [y13.2.1.2.2.2.2.2.2.1, y13.2.1.2.2.2.2.2.2.2.1, y13.2.1.2.2.2.2.2.2.2.2.1]) ++ r15))))))))
def pledgeref13_Bytes.C : Ctx := { ty := tyT, sigs := fun i => bif Nat.beq i 42 then [pledgeref03_Num.sig] else bif Nat.beq i 43 then [pledgeref13_LinesBytes.sig] else bif Nat.beq i 44 then [pledgeref03_Int.sig] else [], n := 91, mp := mpT }
def pledgeref13_Bytes.Q : Cuts := { np := 0, loops := fun i => bif Nat.beq i 7 then some ({ env := [(1, .ptr 0), (3, .row 1), (4, .val (.int .i64))], objs := [.cell kProgram (.val kProgram), .row (.int .u8) false] }, [(.exit 0, { env := [(1, .ptr 0), (3, .row 1)], objs := [.cell kProgram (.val kProgram), .row (.int .u8) false] })]) else none, seqs := fun i => none, splits := fun i => none }
def pledgeref13_Bytes.sig : Sig := { args := .tc (.val kProgram) .tn, objs := [], ret := .val (.slice (.int .u8)), outs := [], F := fun x => pledgeref13_Bytes x.1.1 }
theorem pledgeref13_Bytes.eq : (fun x => body pledgeref13_Bytes.C pledgeref13_Bytes.Q Go.Proofs.Try.f10 pledgeref13_Bytes.sig.args pledgeref13_Bytes.sig.objs pledgeref13_Bytes.sig.ret pledgeref13_Bytes.sig.outs x) = pledgeref13_Bytes.sig.F := by
  kernel_rfl
set_option maxRecDepth 100000 in
theorem pledgeref13_Bytes.ctx : CtxOk Go.Proofs.Try.prog pledgeref13_Bytes.C := ⟨tyOk, mpOk, Nat.le_of_ble_eq_true (by kernel_rfl), fun f sg => fun h => sigs_if h (allS_cons pledgeref03_Num.ok allS_nil) (fun h => sigs_if h (allS_cons pledgeref13_LinesBytes.ok allS_nil) (fun h => sigs_if h (allS_cons pledgeref03_Int.ok allS_nil) ((fun h => by cases h))))⟩
set_option maxRecDepth 100000 in
theorem pledgeref13_Bytes.ok : Sound Go.Proofs.Try.prog 10 pledgeref13_Bytes.sig := body_sound (C := pledgeref13_Bytes.C) (q := pledgeref13_Bytes.Q) (fn := Go.Proofs.Try.f10) (sg := pledgeref13_Bytes.sig) (n := 1) pledgeref13_Bytes.ctx follows Go.Proofs.Try.func10 (by kernel_rfl) (by kernel_rfl) (by kernel_rfl) (by kernel_rfl) (Nat.le_of_ble_eq_true (by kernel_rfl)) (by kernel_rfl) pledgeref13_Bytes.eq

def wire_Read (x0 : List Int) : Option (Unit × ((Int × Unit) × Unit × Unit) × List Int × Unit) :=
  room (0 + x0.length) (some ((), (((0, ()), ((), ())), ([] ++ x0, ()))))
def wire_Read.C : Ctx := { ty := tyT, sigs := fun i => [], n := 8, mp := mpT }
def wire_Read.Q : Cuts := { np := 0, loops := fun i => none, seqs := fun i => none, splits := fun i => none }
def wire_Read.sig : Sig := { args := .tc (.val (.slice (.int .u8))) .tn, objs := [], ret := .ptr 0, outs := [.cell kReader (.pair (.val (.cons (.int .i64) .unit)) (.pair (.row 1) (.val .unit))), .row (.int .u8) false], F := fun x => wire_Read x.1.1 }
theorem wire_Read.eq : (fun x => body wire_Read.C wire_Read.Q Go.Proofs.Try.f45 wire_Read.sig.args wire_Read.sig.objs wire_Read.sig.ret wire_Read.sig.outs x) = wire_Read.sig.F := by
  kernel_rfl
set_option maxRecDepth 100000 in
theorem wire_Read.ctx : CtxOk Go.Proofs.Try.prog wire_Read.C := ⟨tyOk, mpOk, Nat.le_of_ble_eq_true (by kernel_rfl), fun f sg => (fun h => by cases h)⟩
set_option maxRecDepth 100000 in
theorem wire_Read.ok : Sound Go.Proofs.Try.prog 45 wire_Read.sig := body_sound (C := wire_Read.C) (q := wire_Read.Q) (fn := Go.Proofs.Try.f45) (sg := wire_Read.sig) (n := 1) wire_Read.ctx follows Go.Proofs.Try.func45 (by kernel_rfl) (by kernel_rfl) (by kernel_rfl) (by kernel_rfl) (Nat.le_of_ble_eq_true (by kernel_rfl)) (by kernel_rfl) wire_Read.eq

def wire_Reader_take (x0 : Unit) (x1 : Int) (o0 : (Int × Unit) × Unit × Unit) (o1 : List Int) : Option (List Int × ((Int × Unit) × List Int × Unit) × List Int × Unit) :=
  (wire_fault_fine () o0.1).bind fun r12 => bif !r12.1 then some ([], ((r12.2.1, (o1, o0.2.2)), (o1, ()))) else bif decide (x1 > (o1.length : Int)) then (wire_fault_wrong () 6 r12.2.1).bind fun r13 => some ([], ((r13.2.1, (o1, o0.2.2)), (o1, ()))) else chk (decide (0 ≤ x1) && decide (x1 ≤ (o1.length : Int))) (chk ((x1 : Int) == x1) (chk (decide (0 ≤ x1) && decide (x1 ≤ (o1.length : Int))) (some ((o1.take (x1 : Int).toNat).drop 0, ((r12.2.1, ((o1.take o1.length).drop (x1 : Int).toNat, o0.2.2)), (o1, ()))))))
def wire_Reader_take.C : Ctx := { ty := tyT, sigs := fun i => bif Nat.beq i 80 then [wire_fault_wrong.sig] else bif Nat.beq i 81 then [wire_fault_fine.sig] else [], n := 45, mp := mpT }
def wire_Reader_take.Q : Cuts := { np := 2, loops := fun i => none, seqs := fun i => none, splits := fun i => none }
def wire_Reader_take.sig : Sig := { args := .tc (.ptr 0) (.tc (.val (.int .i64)) .tn), objs := [.cell kReader (.pair (.val (.cons (.int .i64) .unit)) (.pair (.row 1) (.val .unit))), .row (.int .u8) false], ret := .val (.slice (.int .u8)), outs := [.cell kReader (.val kReader), .row (.int .u8) true], F := fun x => wire_Reader_take x.1.1 x.1.2.1 x.2.1 x.2.2.1 }
theorem wire_Reader_take.eq : (fun x => body wire_Reader_take.C wire_Reader_take.Q Go.Proofs.Try.f83 wire_Reader_take.sig.args wire_Reader_take.sig.objs wire_Reader_take.sig.ret wire_Reader_take.sig.outs x) = wire_Reader_take.sig.F := by
  kernel_rfl
set_option maxRecDepth 100000 in
theorem wire_Reader_take.ctx : CtxOk Go.Proofs.Try.prog wire_Reader_take.C := ⟨tyOk, mpOk, Nat.le_of_ble_eq_true (by kernel_rfl), fun f sg => fun h => sigs_if h (allS_cons wire_fault_wrong.ok allS_nil) (fun h => sigs_if h (allS_cons wire_fault_fine.ok allS_nil) ((fun h => by cases h)))⟩
set_option maxRecDepth 100000 in
theorem wire_Reader_take.ok : Sound Go.Proofs.Try.prog 83 wire_Reader_take.sig := body_sound (C := wire_Reader_take.C) (q := wire_Reader_take.Q) (fn := Go.Proofs.Try.f83) (sg := wire_Reader_take.sig) (n := 2) wire_Reader_take.ctx follows Go.Proofs.Try.func83 (by kernel_rfl) (by kernel_rfl) (by kernel_rfl) (by kernel_rfl) (Nat.le_of_ble_eq_true (by kernel_rfl)) (by kernel_rfl) wire_Reader_take.eq

end Go.Proofs.F
