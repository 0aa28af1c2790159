import Derived.Test.YtkcjpifpljgpeaaGreatDNeg
import Derived.Test.YtkcjpifpljgpeaaGreatDJoin
import Derived.Test.YtkcjpifpljgpeaaGreatProg
import Derived.KernelRfl
set_option linter.unusedVariables false
namespace Go.Proofs.F
open Go.Proofs.D
abbrev TyPrg := Int × Int × Int × (List (Int × Int × Unit)) × (List (Int × Int × Int × Int × Unit)) × (List (Int × Int × Unit)) × Int × Int × Int × Int × Unit
abbrev TyTxn := Int × Int × Int × Bool × Bool × (List ((Int × Int × Int × Unit) × Int × Unit)) × Int × Int × Unit
abbrev TyRec := Int × Int × Int × Int × Bool × (Int × Int × Int × Unit) × Int × Int × TyPrg × Unit
abbrev TyCrs := Int × TyPrg × Bool × Int × Int × Int × Unit
def kLine : K := .cons (.int .u8) (.cons (.int .i64) .unit)
def kwide : K := .cons (.int .i64) (.cons (.int .i64) .unit)
def kKey : K := .cons (.int .u8) (.cons (.int .u8) (.cons (.int .u8) .unit))
def kStep : K := .cons (.int .u8) (.cons (.int .u8) (.cons (.slice kLine) .unit))
def kWriter : K := .cons (.cons (.int .i64) .unit) (.cons (.slice (.int .u8)) (.cons (.int .i64) .unit))
def kTake : K := .cons (.int .u32) (.cons (.int .u8) kLine)
def kOp : K := .cons kKey (.cons (.int .i64) .unit)
def kTxn : K := .cons (.int .u32) (.cons (.int .u32) (.cons (.int .u8) (.cons .bool (.cons .bool (.cons (.slice kOp) kwide)))))
def kProgram : K := .cons (.int .u8) (.cons (.int .u32) (.cons (.int .u8) (.cons (.slice kLine) (.cons (.slice kTake) (.cons (.slice kLine) (.cons (.int .u8) (.cons (.int .u8) kLine)))))))
def kPlay : K := .cons kProgram (.cons (.int .u8) (.cons (.slice .bool) .unit))
def kCourse : K := .cons (.int .u32) (.cons kProgram (.cons .bool (.cons (.int .i64) (.cons (.int .i64) (.cons (.int .u32) .unit)))))
def kRec : K := .cons (.int .u8) (.cons (.int .u32) (.cons (.int .u32) (.cons (.int .u8) (.cons .bool (.cons kKey (.cons (.int .i64) (.cons (.int .u8) (.cons kProgram .unit))))))))
def tyL : List (Nat × K) := [(1, .ref 2), (2, .int .i64), (3, .int .i64), (4, .bool), (5, .int .u8), (9, .str), (22, .int .u32), (23, .slice kLine), (24, .slice kTake), (25, kProgram), (26, kProgram), (27, .slice .bool), (28, kPlay), (29, kPlay), (33, kCourse), (34, kCourse), (35, .ref 0), (39, kKey), (40, kKey), (41, kRec), (42, kRec), (44, .int .i64), (50, .slice kOp), (51, kTxn), (52, kTxn), (64, kTake), (65, kTake), (66, kLine), (67, kLine), (68, kStep), (69, kStep), (73, .slice kTxn), (74, .ref 1), (75, .cons (.ref 1) .unit), (76, .cons (.ref 1) .unit), (78, .slice (.int .u8)), (86, kOp), (87, kOp), (99, .slice kStep), (106, .ref 0), (111, .int .u64), (118, .slice (.int .u32)), (120, .ref 2), (121, .ref 2), (124, .slice (.int .i64)), (129, .ref 0), (132, .cons (.int .i64) .unit), (133, .cons (.int .i64) .unit), (134, kWriter), (135, kWriter), (137, .arr 8 (.int .u8)), (139, .int .u64), (144, .ref 2), (145, kwide), (146, kwide), (150, .ref 0), (151, .arr 4 (.slice (.int .i64))), (152, .arr 4 (.int .i64)), (153, .ref 1), (157, .ref 2), (158, .ref 2)]
def tyT (t : Nat) : Option K := lookK tyL t
def mpL : List (Nat × K × K) := [(74, .int .u32, kTxn), (153, .int .u32, .int .i64)]
def mpT (t : Nat) : Option (K × K) := lookM mpL t
theorem tyOk : ∀ t c, tyT t = some c → TyOk Go.Proofs.Tryz.prog tyT t c := tyOk_of (l := tyL) (fun _ => rfl) (by kernel_rfl) (by kernel_rfl)
theorem mpOk : ∀ t k v, mpT t = some (k, v) → ∃ tk tv, Go.Proofs.Tryz.prog.underlying t = some (.map tk tv) ∧ tyT tk = some k ∧ tyT tv = some v ∧ k.flat = true := mpOk_of (l := mpL) (fun _ => rfl) (by kernel_rfl)
theorem follows : Go.Proofs.Tryz.prog.follows .mixedOrders = true := by kernel_rfl
def pledgelaw13_isFew (x0 : TyPrg) : Option Bool :=
  bif decide ((x0.2.2.2.1.length : Int) ≤ 20) then bif decide ((x0.2.2.2.2.1.length : Int) ≤ 30) then some (decide ((x0.2.2.2.2.2.1.length : Int) ≤ 20)) else some false else some false
def pledgelaw13_isFew.C : Ctx := { ty := tyT, sigs := fun i => [], n := 19, mp := mpT }
def pledgelaw13_isFew.Q : Cuts := { np := 0, loops := fun i => none, seqs := fun i => none, splits := fun i => none }
def pledgelaw13_isFew.sig : Sig := { args := .tc (.val kProgram) .tn, objs := [], ret := .val .bool, outs := [], F := fun x => pledgelaw13_isFew x.1.1 }
theorem pledgelaw13_isFew.eq : (fun x => body pledgelaw13_isFew.C pledgelaw13_isFew.Q Go.Proofs.Tryz.f21 pledgelaw13_isFew.sig.args pledgelaw13_isFew.sig.objs pledgelaw13_isFew.sig.ret pledgelaw13_isFew.sig.outs x) = pledgelaw13_isFew.sig.F := by
  kernel_rfl
set_option maxRecDepth 100000 in
theorem pledgelaw13_isFew.ctx : CtxOk Go.Proofs.Tryz.prog pledgelaw13_isFew.C := ⟨tyOk, mpOk, Nat.le_of_ble_eq_true (by kernel_rfl), fun f sg => (fun h => by cases h)⟩
set_option maxRecDepth 100000 in
theorem pledgelaw13_isFew.ok : Sound Go.Proofs.Tryz.prog 21 pledgelaw13_isFew.sig := body_sound (C := pledgelaw13_isFew.C) (q := pledgelaw13_isFew.Q) (fn := Go.Proofs.Tryz.f21) (sg := pledgelaw13_isFew.sig) (n := 1) pledgelaw13_isFew.ctx follows Go.Proofs.Tryz.func21 (by kernel_rfl) (by kernel_rfl) (by kernel_rfl) (by kernel_rfl) (Nat.le_of_ble_eq_true (by kernel_rfl)) (by kernel_rfl) pledgelaw13_isFew.eq

def pledgelaw13_Few (x0 : TyPrg) : Option Int :=
  (pledgelaw13_isFew x0).bind fun r1 => bif r1 then some 1 else some 0
def pledgelaw13_Few.C : Ctx := { ty := tyT, sigs := fun i => bif Nat.beq i 21 then [pledgelaw13_isFew.sig] else [], n := 5, mp := mpT }
def pledgelaw13_Few.Q : Cuts := { np := 0, loops := fun i => none, seqs := fun i => none, splits := fun i => none }
def pledgelaw13_Few.sig : Sig := { args := .tc (.val kProgram) .tn, objs := [], ret := .val (.int .i64), outs := [], F := fun x => pledgelaw13_Few x.1.1 }
theorem pledgelaw13_Few.eq : (fun x => body pledgelaw13_Few.C pledgelaw13_Few.Q Go.Proofs.Tryz.f6 pledgelaw13_Few.sig.args pledgelaw13_Few.sig.objs pledgelaw13_Few.sig.ret pledgelaw13_Few.sig.outs x) = pledgelaw13_Few.sig.F := by
  kernel_rfl
set_option maxRecDepth 100000 in
theorem pledgelaw13_Few.ctx : CtxOk Go.Proofs.Tryz.prog pledgelaw13_Few.C := ⟨tyOk, mpOk, Nat.le_of_ble_eq_true (by kernel_rfl), fun f sg => fun h => sigs_if h (allS_cons pledgelaw13_isFew.ok allS_nil) ((fun h => by cases h))⟩
set_option maxRecDepth 100000 in
theorem pledgelaw13_Few.ok : Sound Go.Proofs.Tryz.prog 6 pledgelaw13_Few.sig := body_sound (C := pledgelaw13_Few.C) (q := pledgelaw13_Few.Q) (fn := Go.Proofs.Tryz.f6) (sg := pledgelaw13_Few.sig) (n := 1) pledgelaw13_Few.ctx follows Go.Proofs.Tryz.func6 (by kernel_rfl) (by kernel_rfl) (by kernel_rfl) (by kernel_rfl) (Nat.le_of_ble_eq_true (by kernel_rfl)) (by kernel_rfl) pledgelaw13_Few.eq

def pledgeref12_Lines.l1 (v : Int × (List (Int × Int × Unit)) × Int) : Option ((Int × (List (Int × Int × Unit)) × Int) ⊕ ((List (Int × Int × Unit)) ⊕ Bool)) :=
  bif decide (v.2.2 < (v.2.1.length : Int)) then nthK v.2.1 v.2.2 fun e3 => bif decide ((IntKind.i64.wrap e3.1) ≥ v.1) then some (Sum.inr (Sum.inr false)) else nthK v.2.1 v.2.2 fun e4 => bif decide (e4.2.1 < 1) then some (Sum.inr (Sum.inr false)) else bif decide (v.2.2 > 0) then nthK v.2.1 (IntKind.i64.wrap (v.2.2 - 1)) fun e5 => nthK v.2.1 v.2.2 fun e6 => bif decide (e5.1 ≥ e6.1) then some (Sum.inr (Sum.inr false)) else some (Sum.inl (v.1, (v.2.1, IntKind.i64.wrap (v.2.2 + 1)))) else some (Sum.inl (v.1, (v.2.1, IntKind.i64.wrap (v.2.2 + 1)))) else some (Sum.inr (Sum.inl v.2.1))
def pledgeref12_Lines (x0 : Int) (x1 : List (Int × Int × Unit)) : Option Bool :=
  (iterL pledgeref12_Lines.l1 loopN (x0, (x1, 0))).bind fun y7 => (match y7 with | .inl y8 => some (decide ((y8.length : Int) ≤ 3)) | .inr y9 => some y9)
def pledgeref12_Lines.C : Ctx := { ty := tyT, sigs := fun i => [], n := 49, mp := mpT }
def pledgeref12_Lines.Q : Cuts := { np := 0, loops := fun i => bif Nat.beq i 2 then some ({ env := [(0, .val (.int .i64)), (1, .val (.slice kLine)), (5, .val (.int .i64))], objs := [] }, [(.exit 0, { env := [(1, .val (.slice kLine))], objs := [] }), (.ret, { env := [(4, .val .bool)], objs := [] })]) else none, seqs := fun i => none, splits := fun i => none }
def pledgeref12_Lines.sig : Sig := { args := .tc (.val (.int .i64)) (.tc (.val (.slice kLine)) .tn), objs := [], ret := .val .bool, outs := [], F := fun x => pledgeref12_Lines x.1.1 x.1.2.1 }
theorem pledgeref12_Lines.eq : (fun x => body pledgeref12_Lines.C pledgeref12_Lines.Q Go.Proofs.Tryz.f22 pledgeref12_Lines.sig.args pledgeref12_Lines.sig.objs pledgeref12_Lines.sig.ret pledgeref12_Lines.sig.outs x) = pledgeref12_Lines.sig.F := by
  kernel_rfl
set_option maxRecDepth 100000 in
theorem pledgeref12_Lines.ctx : CtxOk Go.Proofs.Tryz.prog pledgeref12_Lines.C := ⟨tyOk, mpOk, Nat.le_of_ble_eq_true (by kernel_rfl), fun f sg => (fun h => by cases h)⟩
set_option maxRecDepth 100000 in
theorem pledgeref12_Lines.ok : Sound Go.Proofs.Tryz.prog 22 pledgeref12_Lines.sig := body_sound (C := pledgeref12_Lines.C) (q := pledgeref12_Lines.Q) (fn := Go.Proofs.Tryz.f22) (sg := pledgeref12_Lines.sig) (n := 2) pledgeref12_Lines.ctx follows Go.Proofs.Tryz.func22 (by kernel_rfl) (by kernel_rfl) (by kernel_rfl) (by kernel_rfl) (Nat.le_of_ble_eq_true (by kernel_rfl)) (by kernel_rfl) pledgeref12_Lines.eq

def pledgeref13_takes.l1 (v : (Int × Int × Unit × (List (Int × Int × Int × Int × Unit)) × Int) × TyPrg × Unit) : Option (((Int × Int × Unit × (List (Int × Int × Int × Int × Unit)) × Int) × TyPrg × Unit) ⊕ ((List (Int × Int × Int × Int × Unit)) ⊕ Bool)) :=
  bif decide (v.1.2.2.2.2 < (v.1.2.2.2.1.length : Int)) then nthK v.1.2.2.2.1 v.1.2.2.2.2 fun e11 => bif (e11.1 : Int) != v.2.1.2.1 then some (Sum.inr (Sum.inr false)) else nthK v.1.2.2.2.1 v.1.2.2.2.2 fun e12 => bif decide ((IntKind.i64.wrap e12.2.1) ≥ v.1.1) then some (Sum.inr (Sum.inr false)) else nthK v.1.2.2.2.1 v.1.2.2.2.2 fun e13 => bif decide ((IntKind.i64.wrap e13.2.2.1) ≥ v.1.2.1) then some (Sum.inr (Sum.inr false)) else nthK v.1.2.2.2.1 v.1.2.2.2.2 fun e14 => bif decide (e14.2.2.2.1 < 1) then some (Sum.inr (Sum.inr false)) else (bif decide (v.1.2.2.2.2 > 0) then nthK v.1.2.2.2.1 (IntKind.i64.wrap (v.1.2.2.2.2 - 1)) fun e15 => nthK v.1.2.2.2.1 v.1.2.2.2.2 fun e16 => bif decide (e15.2.2.1 > e16.2.2.1) then some (Sum.inr false) else nthK v.1.2.2.2.1 (IntKind.i64.wrap (v.1.2.2.2.2 - 1)) fun e17 => nthK v.1.2.2.2.1 v.1.2.2.2.2 fun e18 => bif (e17.2.2.1 : Int) == e18.2.2.1 then nthK v.1.2.2.2.1 (IntKind.i64.wrap (v.1.2.2.2.2 - 1)) fun e19 => nthK v.1.2.2.2.1 v.1.2.2.2.2 fun e20 => bif decide (e19.2.1 ≥ e20.2.1) then some (Sum.inr false) else some (Sum.inl ((v.1.1, (v.1.2.1, ((), v.1.2.2.2))), (v.2.1, ()))) else some (Sum.inl ((v.1.1, (v.1.2.1, ((), v.1.2.2.2))), (v.2.1, ()))) else some (Sum.inl ((v.1.1, (v.1.2.1, ((), v.1.2.2.2))), (v.2.1, ()))) : Option (((Int × Int × Unit × (List (Int × Int × Int × Int × Unit)) × Int) × TyPrg × Unit) ⊕ Bool)).bind fun y21 => (match y21 with | .inl y22 => bif decide (y22.1.2.2.2.2 ≥ 3) then nthK y22.1.2.2.2.1 (IntKind.i64.wrap (y22.1.2.2.2.2 - 3)) fun e24 => nthK y22.1.2.2.2.1 y22.1.2.2.2.2 fun e25 => bif (e24.2.2.1 : Int) == e25.2.2.1 then some (Sum.inr (Sum.inr false)) else some (Sum.inl ((y22.1.1, (y22.1.2.1, ((), (y22.1.2.2.2.1, IntKind.i64.wrap (y22.1.2.2.2.2 + 1))))), (y22.2.1, ()))) else some (Sum.inl ((y22.1.1, (y22.1.2.1, ((), (y22.1.2.2.2.1, IntKind.i64.wrap (y22.1.2.2.2.2 + 1))))), (y22.2.1, ()))) | .inr y23 => some (Sum.inr (Sum.inr y23))) else some (Sum.inr (Sum.inl v.1.2.2.2.1))
def pledgeref13_takes (x0 : Int) (x1 : Int) (x2 : TyPrg) : Option Bool :=
  (iterL pledgeref13_takes.l1 loopN ((x0, (x1, ((), (x2.2.2.2.2.1, 0)))), (x2, ()))).bind fun y26 => (match y26 with | .inl y27 => some (decide ((y27.length : Int) ≤ 12)) | .inr y28 => some y28)
def pledgeref13_takes.C : Ctx := { ty := tyT, sigs := fun i => [], n := 116, mp := mpT }
def pledgeref13_takes.Q : Cuts := { np := 0, loops := fun i => bif Nat.beq i 3 then some ({ env := [(0, .val (.int .i64)), (1, .val (.int .i64)), (5, .ptr 0), (7, .val (.slice kTake)), (8, .val (.int .i64))], objs := [.cell kProgram (.val kProgram)] }, [(.exit 0, { env := [(7, .val (.slice kTake))], objs := [] }), (.ret, { env := [(6, .val .bool)], objs := [] })]) else none, seqs := fun i => bif Nat.beq i 9 then some [(.normal, { env := [(0, .val (.int .i64)), (1, .val (.int .i64)), (5, .ptr 0), (7, .val (.slice kTake)), (8, .val (.int .i64))], objs := [.cell kProgram (.val kProgram)] }), (.ret, { env := [(6, .val .bool)], objs := [] })] else none, splits := fun i => none }
def pledgeref13_takes.sig : Sig := { args := .tc (.val (.int .i64)) (.tc (.val (.int .i64)) (.tc (.val kProgram) .tn)), objs := [], ret := .val .bool, outs := [], F := fun x => pledgeref13_takes x.1.1 x.1.2.1 x.1.2.2.1 }
theorem pledgeref13_takes.eq : (fun x => body pledgeref13_takes.C pledgeref13_takes.Q Go.Proofs.Tryz.f23 pledgeref13_takes.sig.args pledgeref13_takes.sig.objs pledgeref13_takes.sig.ret pledgeref13_takes.sig.outs x) = pledgeref13_takes.sig.F := by
  kernel_rfl
set_option maxRecDepth 100000 in
theorem pledgeref13_takes.ctx : CtxOk Go.Proofs.Tryz.prog pledgeref13_takes.C := ⟨tyOk, mpOk, Nat.le_of_ble_eq_true (by kernel_rfl), fun f sg => (fun h => by cases h)⟩
set_option maxRecDepth 100000 in
theorem pledgeref13_takes.ok : Sound Go.Proofs.Tryz.prog 23 pledgeref13_takes.sig := body_sound (C := pledgeref13_takes.C) (q := pledgeref13_takes.Q) (fn := Go.Proofs.Tryz.f23) (sg := pledgeref13_takes.sig) (n := 3) pledgeref13_takes.ctx follows Go.Proofs.Tryz.func23 (by kernel_rfl) (by kernel_rfl) (by kernel_rfl) (by kernel_rfl) (Nat.le_of_ble_eq_true (by kernel_rfl)) (by kernel_rfl) pledgeref13_takes.eq

def pledgeref01_halves_v2 (x0 : Int) : Option (Int × Int × Unit) :=
  bif decide (x0 < 0) then none else some (IntKind.i64.wrap (Int.tdiv x0 4294967296), (Int.tmod x0 4294967296, ()))
def pledgeref01_halves_v2.C : Ctx := { ty := tyT, sigs := fun i => [], n := 22, mp := mpT }
def pledgeref01_halves_v2.Q : Cuts := { np := 0, loops := fun i => none, seqs := fun i => none, splits := fun i => none }
def pledgeref01_halves_v2.sig : Sig := { args := .tc (.val (.int .i64)) .tn, objs := [], ret := .val kwide, outs := [], F := fun x => pledgeref01_halves_v2 x.1.1 }
theorem pledgeref01_halves_v2.eq : (fun x => body pledgeref01_halves_v2.C pledgeref01_halves_v2.Q Go.Proofs.Tryz.f92 pledgeref01_halves_v2.sig.args pledgeref01_halves_v2.sig.objs pledgeref01_halves_v2.sig.ret pledgeref01_halves_v2.sig.outs x) = pledgeref01_halves_v2.sig.F := by
  kernel_rfl
set_option maxRecDepth 100000 in
theorem pledgeref01_halves_v2.ctx : CtxOk Go.Proofs.Tryz.prog pledgeref01_halves_v2.C := ⟨tyOk, mpOk, Nat.le_of_ble_eq_true (by kernel_rfl), fun f sg => (fun h => by cases h)⟩
set_option maxRecDepth 100000 in
theorem pledgeref01_halves_v2.ok : Sound Go.Proofs.Tryz.prog 92 pledgeref01_halves_v2.sig := body_sound (C := pledgeref01_halves_v2.C) (q := pledgeref01_halves_v2.Q) (fn := Go.Proofs.Tryz.f92) (sg := pledgeref01_halves_v2.sig) (n := 1) pledgeref01_halves_v2.ctx follows Go.Proofs.Tryz.func92 (by kernel_rfl) (by kernel_rfl) (by kernel_rfl) (by kernel_rfl) (Nat.le_of_ble_eq_true (by kernel_rfl)) (by kernel_rfl) pledgeref01_halves_v2.eq

def pledgeref01_halves (x0 : Int) : Option (Int × Int × Unit) :=
  bif decide (x0 < 0) then (pledgeref01_halves_v2 (IntKind.i64.wrap (0 - (IntKind.i64.wrap (x0 + 1))))).bind fun r38 => some (IntKind.i64.wrap ((-1) - r38.1), (IntKind.i64.wrap (4294967295 - r38.2.1), ())) else some (IntKind.i64.wrap (Int.tdiv x0 4294967296), (Int.tmod x0 4294967296, ()))
def pledgeref01_halves.C : Ctx := { ty := tyT, sigs := fun i => bif Nat.beq i 92 then [pledgeref01_halves_v2.sig] else [], n := 22, mp := mpT }
def pledgeref01_halves.Q : Cuts := { np := 0, loops := fun i => none, seqs := fun i => none, splits := fun i => none }
def pledgeref01_halves.sig : Sig := { args := .tc (.val (.int .i64)) .tn, objs := [], ret := .val kwide, outs := [], F := fun x => pledgeref01_halves x.1.1 }
theorem pledgeref01_halves.eq : (fun x => body pledgeref01_halves.C pledgeref01_halves.Q Go.Proofs.Tryz.f92 pledgeref01_halves.sig.args pledgeref01_halves.sig.objs pledgeref01_halves.sig.ret pledgeref01_halves.sig.outs x) = pledgeref01_halves.sig.F := by
  kernel_rfl
set_option maxRecDepth 100000 in
theorem pledgeref01_halves.ctx : CtxOk Go.Proofs.Tryz.prog pledgeref01_halves.C := ⟨tyOk, mpOk, Nat.le_of_ble_eq_true (by kernel_rfl), fun f sg => fun h => sigs_if h (allS_cons pledgeref01_halves_v2.ok allS_nil) ((fun h => by cases h))⟩
set_option maxRecDepth 100000 in
theorem pledgeref01_halves.ok : Sound Go.Proofs.Tryz.prog 92 pledgeref01_halves.sig := body_sound (C := pledgeref01_halves.C) (q := pledgeref01_halves.Q) (fn := Go.Proofs.Tryz.f92) (sg := pledgeref01_halves.sig) (n := 1) pledgeref01_halves.ctx follows Go.Proofs.Tryz.func92 (by kernel_rfl) (by kernel_rfl) (by kernel_rfl) (by kernel_rfl) (Nat.le_of_ble_eq_true (by kernel_rfl)) (by kernel_rfl) pledgeref01_halves.eq

def pledgeref01_Sum.l1 (v : (List Int × Unit × Int) × (Int × Int × Unit) × Unit) : Option (((List Int × Unit × Int) × (Int × Int × Unit) × Unit) ⊕ (Unit × (Int × Int × Unit) × Unit)) :=
  bif decide (v.1.2.2 < (v.1.1.length : Int)) then nthK v.1.1 v.1.2.2 fun e37 => (pledgeref01_halves e37).bind fun r38 => bif decide ((IntKind.i64.wrap (v.2.1.2.1 + r38.2.1)) ≥ 4294967296) then some (Sum.inl ((v.1.1, ((), IntKind.i64.wrap (v.1.2.2 + 1))), ((IntKind.i64.wrap ((IntKind.i64.wrap (v.2.1.1 + r38.1)) + 1), (IntKind.i64.wrap ((IntKind.i64.wrap (v.2.1.2.1 + r38.2.1)) - 4294967296), v.2.1.2.2)), ()))) else some (Sum.inl ((v.1.1, ((), IntKind.i64.wrap (v.1.2.2 + 1))), ((IntKind.i64.wrap (v.2.1.1 + r38.1), (IntKind.i64.wrap (v.2.1.2.1 + r38.2.1), v.2.1.2.2)), ()))) else some (Sum.inr ((), (v.2.1, ())))
def pledgeref01_Sum (x0 : List Int) : Option (Int × Bool × Unit) :=
  (iterL pledgeref01_Sum.l1 loopN ((x0, ((), 0)), ((0, (0, ())), ()))).bind fun y39 => bif decide (y39.2.1.1 < (-2147483648)) then some (0, (false, ())) else bif decide (y39.2.1.1 > 2147483647) then some (0, (false, ())) else some (IntKind.i64.wrap ((IntKind.i64.wrap (y39.2.1.1 * 4294967296)) + y39.2.1.2.1), (true, ()))
def pledgeref01_Sum.C : Ctx := { ty := tyT, sigs := fun i => bif Nat.beq i 92 then [pledgeref01_halves.sig] else [], n := 56, mp := mpT }
def pledgeref01_Sum.Q : Cuts := { np := 0, loops := fun i => bif Nat.beq i 3 then some ({ env := [(0, .val (.slice (.int .i64))), (4, .ptr 0), (5, .val (.int .i64))], objs := [.cell kwide (.val kwide)] }, [(.exit 0, { env := [(4, .ptr 0)], objs := [.cell kwide (.val kwide)] })]) else none, seqs := fun i => none, splits := fun i => none }
def pledgeref01_Sum.sig : Sig := { args := .tc (.val (.slice (.int .i64))) .tn, objs := [], ret := .tup (.tc (.val (.int .i64)) (.tc (.val .bool) .tn)), outs := [], F := fun x => pledgeref01_Sum x.1.1 }
theorem pledgeref01_Sum.eq : (fun x => body pledgeref01_Sum.C pledgeref01_Sum.Q Go.Proofs.Tryz.f71 pledgeref01_Sum.sig.args pledgeref01_Sum.sig.objs pledgeref01_Sum.sig.ret pledgeref01_Sum.sig.outs x) = pledgeref01_Sum.sig.F := by
  kernel_rfl
set_option maxRecDepth 100000 in
theorem pledgeref01_Sum.ctx : CtxOk Go.Proofs.Tryz.prog pledgeref01_Sum.C := ⟨tyOk, mpOk, Nat.le_of_ble_eq_true (by kernel_rfl), fun f sg => fun h => sigs_if h (allS_cons pledgeref01_halves.ok allS_nil) ((fun h => by cases h))⟩
set_option maxRecDepth 100000 in
theorem pledgeref01_Sum.ok : Sound Go.Proofs.Tryz.prog 71 pledgeref01_Sum.sig := body_sound (C := pledgeref01_Sum.C) (q := pledgeref01_Sum.Q) (fn := Go.Proofs.Tryz.f71) (sg := pledgeref01_Sum.sig) (n := 1) pledgeref01_Sum.ctx follows Go.Proofs.Tryz.func71 (by kernel_rfl) (by kernel_rfl) (by kernel_rfl) (by kernel_rfl) (Nat.le_of_ble_eq_true (by kernel_rfl)) (by kernel_rfl) pledgeref01_Sum.eq

def pledgeref13_Named.l1 (v : ((List (Int × Int × Int × Int × Unit)) × (List (Int × Int × Unit)) × Int × Unit × Int) × List Int × Unit) : Option ((((List (Int × Int × Int × Int × Unit)) × (List (Int × Int × Unit)) × Int × Unit × Int) × List Int × Unit) ⊕ (((List (Int × Int × Unit)) × Int × Unit) × List Int × Unit)) :=
  bif decide (v.1.2.2.2.2 < (v.1.1.length : Int)) then nthK v.1.1 v.1.2.2.2.2 fun e31 => bif (e31.2.1 : Int) == v.1.2.2.1 then nthK v.1.1 v.1.2.2.2.2 fun e32 => room (v.2.1.length + [e32.2.2.2.1].length) (some (Sum.inl ((v.1.1, (v.1.2.1, (v.1.2.2.1, ((), IntKind.i64.wrap (v.1.2.2.2.2 + 1))))), (v.2.1 ++ [e32.2.2.2.1], ())))) else some (Sum.inl ((v.1.1, (v.1.2.1, (v.1.2.2.1, ((), IntKind.i64.wrap (v.1.2.2.2.2 + 1))))), (v.2.1, ()))) else some (Sum.inr ((v.1.2.1, (v.1.2.2.1, ())), (v.2.1, ())))
def pledgeref13_Named.l2 (v : ((List (Int × Int × Unit)) × Int × Unit × Int) × List Int × Unit) : Option ((((List (Int × Int × Unit)) × Int × Unit × Int) × List Int × Unit) ⊕ (Unit × List Int × Unit)) :=
  bif decide (v.1.2.2.2 < (v.1.1.length : Int)) then nthK v.1.1 v.1.2.2.2 fun e34 => bif (e34.1 : Int) == v.1.2.1 then nthK v.1.1 v.1.2.2.2 fun e35 => room (v.2.1.length + [e35.2.1].length) (some (Sum.inl ((v.1.1, (v.1.2.1, ((), IntKind.i64.wrap (v.1.2.2.2 + 1)))), (v.2.1 ++ [e35.2.1], ())))) else some (Sum.inl ((v.1.1, (v.1.2.1, ((), IntKind.i64.wrap (v.1.2.2.2 + 1)))), (v.2.1, ()))) else some (Sum.inr ((), (v.2.1, ())))
def pledgeref13_Named (x0 : List (Int × Int × Int × Int × Unit)) (x1 : List (Int × Int × Unit)) (x2 : Int) : Option (Int × Bool × Unit) :=
  (iterL pledgeref13_Named.l1 loopN ((x0, (x1, (x2, ((), 0)))), ([], ()))).bind fun y33 => (iterL pledgeref13_Named.l2 loopN ((y33.1.1, (y33.1.2.1, ((), 0))), (y33.2.1, ()))).bind fun y36 => (pledgeref01_Sum y36.2.1).bind fun r37 => some (r37.1, (r37.2.1, ()))
def pledgeref13_Named.C : Ctx := { ty := tyT, sigs := fun i => bif Nat.beq i 71 then [pledgeref01_Sum.sig] else [], n := 57, mp := mpT }
def pledgeref13_Named.Q : Cuts := { np := 0, loops := fun i => bif Nat.beq i 3 then some ({ env := [(0, .val (.slice kTake)), (1, .val (.slice kLine)), (2, .val (.int .u8)), (8, .row 0), (9, .val (.int .i64))], objs := [.row (.int .i64) false] }, [(.exit 0, { env := [(1, .val (.slice kLine)), (2, .val (.int .u8)), (8, .row 0)], objs := [.row (.int .i64) false] })]) else bif Nat.beq i 8 then some ({ env := [(1, .val (.slice kLine)), (2, .val (.int .u8)), (8, .row 0), (10, .val (.int .i64))], objs := [.row (.int .i64) false] }, [(.exit 2, { env := [(8, .row 0)], objs := [.row (.int .i64) false] })]) else none, seqs := fun i => none, splits := fun i => none }
def pledgeref13_Named.sig : Sig := { args := .tc (.val (.slice kTake)) (.tc (.val (.slice kLine)) (.tc (.val (.int .u8)) .tn)), objs := [], ret := .tup (.tc (.val (.int .i64)) (.tc (.val .bool) .tn)), outs := [], F := fun x => pledgeref13_Named x.1.1 x.1.2.1 x.1.2.2.1 }
theorem pledgeref13_Named.eq : (fun x => body pledgeref13_Named.C pledgeref13_Named.Q Go.Proofs.Tryz.f45 pledgeref13_Named.sig.args pledgeref13_Named.sig.objs pledgeref13_Named.sig.ret pledgeref13_Named.sig.outs x) = pledgeref13_Named.sig.F := by
  kernel_rfl
set_option maxRecDepth 100000 in
theorem pledgeref13_Named.ctx : CtxOk Go.Proofs.Tryz.prog pledgeref13_Named.C := ⟨tyOk, mpOk, Nat.le_of_ble_eq_true (by kernel_rfl), fun f sg => fun h => sigs_if h (allS_cons pledgeref01_Sum.ok allS_nil) ((fun h => by cases h))⟩
set_option maxRecDepth 100000 in
theorem pledgeref13_Named.ok : Sound Go.Proofs.Tryz.prog 45 pledgeref13_Named.sig := body_sound (C := pledgeref13_Named.C) (q := pledgeref13_Named.Q) (fn := Go.Proofs.Tryz.f45) (sg := pledgeref13_Named.sig) (n := 3) pledgeref13_Named.ctx follows Go.Proofs.Tryz.func45 (by kernel_rfl) (by kernel_rfl) (by kernel_rfl) (by kernel_rfl) (Nat.le_of_ble_eq_true (by kernel_rfl)) (by kernel_rfl) pledgeref13_Named.eq

def pledgeref13_covered.l1 (v : (Unit × Int) × TyPrg × Unit) : Option (((Unit × Int) × TyPrg × Unit) ⊕ (Unit ⊕ Bool)) :=
  bif decide (v.1.2 < 4) then (pledgeref13_Named v.2.1.2.2.2.2.1 v.2.1.2.2.2.2.2.1 (IntKind.u8.wrap v.1.2)).bind fun r31 => (pledgeref13_Named [] v.2.1.2.2.2.1 (IntKind.u8.wrap v.1.2)).bind fun r32 => bif !r31.2.1 then some (Sum.inr (Sum.inr false)) else bif !r32.2.1 then some (Sum.inr (Sum.inr false)) else bif (r31.1 : Int) != r32.1 then some (Sum.inr (Sum.inr false)) else some (Sum.inl (((), IntKind.i64.wrap (v.1.2 + 1)), (v.2.1, ()))) else some (Sum.inr (Sum.inl ()))
def pledgeref13_covered (x0 : TyPrg) : Option Bool :=
  (iterL pledgeref13_covered.l1 loopN (((), 0), (x0, ()))).bind fun y33 => (match y33 with | .inl y34 => some true | .inr y35 => some y35)
def pledgeref13_covered.C : Ctx := { ty := tyT, sigs := fun i => bif Nat.beq i 45 then [pledgeref13_Named.sig] else [], n := 41, mp := mpT }
def pledgeref13_covered.Q : Cuts := { np := 0, loops := fun i => bif Nat.beq i 2 then some ({ env := [(1, .ptr 0), (3, .val (.int .i64))], objs := [.cell kProgram (.val kProgram)] }, [(.exit 0, { env := [], objs := [] }), (.ret, { env := [(2, .val .bool)], objs := [] })]) else none, seqs := fun i => none, splits := fun i => none }
def pledgeref13_covered.sig : Sig := { args := .tc (.val kProgram) .tn, objs := [], ret := .val .bool, outs := [], F := fun x => pledgeref13_covered x.1.1 }
theorem pledgeref13_covered.eq : (fun x => body pledgeref13_covered.C pledgeref13_covered.Q Go.Proofs.Tryz.f24 pledgeref13_covered.sig.args pledgeref13_covered.sig.objs pledgeref13_covered.sig.ret pledgeref13_covered.sig.outs x) = pledgeref13_covered.sig.F := by
  kernel_rfl
set_option maxRecDepth 100000 in
theorem pledgeref13_covered.ctx : CtxOk Go.Proofs.Tryz.prog pledgeref13_covered.C := ⟨tyOk, mpOk, Nat.le_of_ble_eq_true (by kernel_rfl), fun f sg => fun h => sigs_if h (allS_cons pledgeref13_Named.ok allS_nil) ((fun h => by cases h))⟩
set_option maxRecDepth 100000 in
theorem pledgeref13_covered.ok : Sound Go.Proofs.Tryz.prog 24 pledgeref13_covered.sig := body_sound (C := pledgeref13_covered.C) (q := pledgeref13_covered.Q) (fn := Go.Proofs.Tryz.f24) (sg := pledgeref13_covered.sig) (n := 1) pledgeref13_covered.ctx follows Go.Proofs.Tryz.func24 (by kernel_rfl) (by kernel_rfl) (by kernel_rfl) (by kernel_rfl) (Nat.le_of_ble_eq_true (by kernel_rfl)) (by kernel_rfl) pledgeref13_covered.eq

def pledgeref13_fills.l2 (v : (Unit × (List (Int × Int × Int × Int × Unit)) × Int × Int) × TyPrg × Unit) : Option (((Unit × (List (Int × Int × Int × Int × Unit)) × Int × Int) × TyPrg × Unit) ⊕ (((Unit × (List (Int × Int × Int × Int × Unit)) × Int) × TyPrg × Unit) ⊕ Bool)) :=
  bif decide (v.1.2.2.2 < v.1.2.2.1) then nthK v.1.2.1 v.1.2.2.2 fun e45 => nthK v.1.2.1 v.1.2.2.1 fun e46 => bif (e45.1 : Int) == e46.1 then some (Sum.inr (Sum.inr false)) else some (Sum.inl (((), (v.1.2.1, (v.1.2.2.1, IntKind.i64.wrap (v.1.2.2.2 + 1)))), (v.2.1, ()))) else some (Sum.inr (Sum.inl (((), (v.1.2.1, v.1.2.2.1)), (v.2.1, ()))))
def pledgeref13_fills.l1 (v : (Unit × (List (Int × Int × Int × Int × Unit)) × Int) × TyPrg × Unit) : Option (((Unit × (List (Int × Int × Int × Int × Unit)) × Int) × TyPrg × Unit) ⊕ (((Unit × List (Int × Int × Int × Int × Unit)) × TyPrg × Unit) ⊕ Bool)) :=
  bif decide (v.1.2.2 < (v.1.2.1.length : Int)) then nthK v.1.2.1 v.1.2.2 fun e41 => bif (e41.1 : Int) == 0 then some (Sum.inr (Sum.inr false)) else nthK v.1.2.1 v.1.2.2 fun e42 => bif (e42.2.1 : Int) != v.2.1.2.2.2.2.2.2.1 then some (Sum.inr (Sum.inr false)) else nthK v.1.2.1 v.1.2.2 fun e43 => bif (e43.2.2.1 : Int) != v.2.1.2.2.2.2.2.2.2.2.1 then some (Sum.inr (Sum.inr false)) else nthK v.1.2.1 v.1.2.2 fun e44 => bif decide (e44.2.2.2.1 < 1) then some (Sum.inr (Sum.inr false)) else (iterL pledgeref13_fills.l2 loopN (((), (v.1.2.1, (v.1.2.2, 0))), (v.2.1, ()))).bind fun y47 => (match y47 with | .inl y48 => some (Sum.inl (((), (y48.1.2.1, IntKind.i64.wrap (y48.1.2.2 + 1))), (y48.2.1, ()))) | .inr y49 => some (Sum.inr (Sum.inr y49))) else some (Sum.inr (Sum.inl (((), v.1.2.1), (v.2.1, ()))))
def pledgeref13_fills (x0 : TyPrg) : Option Bool :=
  (iterL pledgeref13_fills.l1 loopN (((), (x0.2.2.2.2.1, 0)), (x0, ()))).bind fun y50 => (match y50 with | .inl y51 => (pledgeref13_Named y51.1.2 [] y51.2.1.2.2.2.2.2.2.1).bind fun r53 => bif decide ((y51.1.2.length : Int) ≤ 12) then bif r53.2.1 then some (decide (r53.1 ≤ y51.2.1.2.2.2.2.2.2.2.2.2.1)) else some false else some false | .inr y52 => some y52)
def pledgeref13_fills.C : Ctx := { ty := tyT, sigs := fun i => bif Nat.beq i 45 then [pledgeref13_Named.sig] else [], n := 85, mp := mpT }
def pledgeref13_fills.Q : Cuts := { np := 0, loops := fun i => bif Nat.beq i 3 then some ({ env := [(1, .ptr 0), (3, .val (.slice kTake)), (4, .val (.int .i64))], objs := [.cell kProgram (.val kProgram)] }, [(.exit 0, { env := [(1, .ptr 0), (3, .val (.slice kTake))], objs := [.cell kProgram (.val kProgram)] }), (.ret, { env := [(2, .val .bool)], objs := [] })]) else bif Nat.beq i 8 then some ({ env := [(1, .ptr 0), (3, .val (.slice kTake)), (4, .val (.int .i64)), (5, .val (.int .i64))], objs := [.cell kProgram (.val kProgram)] }, [(.exit 2, { env := [(1, .ptr 0), (3, .val (.slice kTake)), (4, .val (.int .i64))], objs := [.cell kProgram (.val kProgram)] }), (.ret, { env := [(2, .val .bool)], objs := [] })]) else none, seqs := fun i => none, splits := fun i => none }
def pledgeref13_fills.sig : Sig := { args := .tc (.val kProgram) .tn, objs := [], ret := .val .bool, outs := [], F := fun x => pledgeref13_fills x.1.1 }
theorem pledgeref13_fills.eq : (fun x => body pledgeref13_fills.C pledgeref13_fills.Q Go.Proofs.Tryz.f25 pledgeref13_fills.sig.args pledgeref13_fills.sig.objs pledgeref13_fills.sig.ret pledgeref13_fills.sig.outs x) = pledgeref13_fills.sig.F := by
  kernel_rfl
set_option maxRecDepth 100000 in
theorem pledgeref13_fills.ctx : CtxOk Go.Proofs.Tryz.prog pledgeref13_fills.C := ⟨tyOk, mpOk, Nat.le_of_ble_eq_true (by kernel_rfl), fun f sg => fun h => sigs_if h (allS_cons pledgeref13_Named.ok allS_nil) ((fun h => by cases h))⟩
set_option maxRecDepth 100000 in
theorem pledgeref13_fills.ok : Sound Go.Proofs.Tryz.prog 25 pledgeref13_fills.sig := body_sound (C := pledgeref13_fills.C) (q := pledgeref13_fills.Q) (fn := Go.Proofs.Tryz.f25) (sg := pledgeref13_fills.sig) (n := 1) pledgeref13_fills.ctx follows Go.Proofs.Tryz.func25 (by kernel_rfl) (by kernel_rfl) (by kernel_rfl) (by kernel_rfl) (Nat.le_of_ble_eq_true (by kernel_rfl)) (by kernel_rfl) pledgeref13_fills.eq

def pledgeref12_SameLines.l1 (v : (List (Int × Int × Unit)) × (List (Int × Int × Unit)) × Int) : Option (((List (Int × Int × Unit)) × (List (Int × Int × Unit)) × Int) ⊕ (Unit ⊕ Bool)) :=
  bif decide (v.2.2 < (v.1.length : Int)) then nthK v.1 v.2.2 fun e13 => nthK v.2.1 v.2.2 fun e14 => bif !(eqE kLine e13 e14) then some (Sum.inr (Sum.inr false)) else some (Sum.inl (v.1, (v.2.1, IntKind.i64.wrap (v.2.2 + 1)))) else some (Sum.inr (Sum.inl ()))
def pledgeref12_SameLines (x0 : List (Int × Int × Unit)) (x1 : List (Int × Int × Unit)) : Option Bool :=
  bif ((x0.length : Int) : Int) != (x1.length : Int) then some false else (iterL pledgeref12_SameLines.l1 loopN (x0, (x1, 0))).bind fun y15 => (match y15 with | .inl y16 => some true | .inr y17 => some y17)
def pledgeref12_SameLines.C : Ctx := { ty := tyT, sigs := fun i => [], n := 26, mp := mpT }
def pledgeref12_SameLines.Q : Cuts := { np := 0, loops := fun i => bif Nat.beq i 4 then some ({ env := [(0, .val (.slice kLine)), (1, .val (.slice kLine)), (5, .val (.int .i64))], objs := [] }, [(.exit 0, { env := [], objs := [] }), (.ret, { env := [(4, .val .bool)], objs := [] })]) else none, seqs := fun i => none, splits := fun i => none }
def pledgeref12_SameLines.sig : Sig := { args := .tc (.val (.slice kLine)) (.tc (.val (.slice kLine)) .tn), objs := [], ret := .val .bool, outs := [], F := fun x => pledgeref12_SameLines x.1.1 x.1.2.1 }
theorem pledgeref12_SameLines.eq : (fun x => body pledgeref12_SameLines.C pledgeref12_SameLines.Q Go.Proofs.Tryz.f46 pledgeref12_SameLines.sig.args pledgeref12_SameLines.sig.objs pledgeref12_SameLines.sig.ret pledgeref12_SameLines.sig.outs x) = pledgeref12_SameLines.sig.F := by
  kernel_rfl
set_option maxRecDepth 100000 in
theorem pledgeref12_SameLines.ctx : CtxOk Go.Proofs.Tryz.prog pledgeref12_SameLines.C := ⟨tyOk, mpOk, Nat.le_of_ble_eq_true (by kernel_rfl), fun f sg => (fun h => by cases h)⟩
set_option maxRecDepth 100000 in
theorem pledgeref12_SameLines.ok : Sound Go.Proofs.Tryz.prog 46 pledgeref12_SameLines.sig := body_sound (C := pledgeref12_SameLines.C) (q := pledgeref12_SameLines.Q) (fn := Go.Proofs.Tryz.f46) (sg := pledgeref12_SameLines.sig) (n := 2) pledgeref12_SameLines.ctx follows Go.Proofs.Tryz.func46 (by kernel_rfl) (by kernel_rfl) (by kernel_rfl) (by kernel_rfl) (Nat.le_of_ble_eq_true (by kernel_rfl)) (by kernel_rfl) pledgeref12_SameLines.eq

def pledgeref13_SameTakes.l1 (v : (List (Int × Int × Int × Int × Unit)) × (List (Int × Int × Int × Int × Unit)) × Int) : Option (((List (Int × Int × Int × Int × Unit)) × (List (Int × Int × Int × Int × Unit)) × Int) ⊕ (Unit ⊕ Bool)) :=
  bif decide (v.2.2 < (v.1.length : Int)) then nthK v.1 v.2.2 fun e19 => nthK v.2.1 v.2.2 fun e20 => bif !(eqE kTake e19 e20) then some (Sum.inr (Sum.inr false)) else some (Sum.inl (v.1, (v.2.1, IntKind.i64.wrap (v.2.2 + 1)))) else some (Sum.inr (Sum.inl ()))
def pledgeref13_SameTakes (x0 : List (Int × Int × Int × Int × Unit)) (x1 : List (Int × Int × Int × Int × Unit)) : Option Bool :=
  bif ((x0.length : Int) : Int) != (x1.length : Int) then some false else (iterL pledgeref13_SameTakes.l1 loopN (x0, (x1, 0))).bind fun y21 => (match y21 with | .inl y22 => some true | .inr y23 => some y23)
def pledgeref13_SameTakes.C : Ctx := { ty := tyT, sigs := fun i => [], n := 26, mp := mpT }
def pledgeref13_SameTakes.Q : Cuts := { np := 0, loops := fun i => bif Nat.beq i 4 then some ({ env := [(0, .val (.slice kTake)), (1, .val (.slice kTake)), (5, .val (.int .i64))], objs := [] }, [(.exit 0, { env := [], objs := [] }), (.ret, { env := [(4, .val .bool)], objs := [] })]) else none, seqs := fun i => none, splits := fun i => none }
def pledgeref13_SameTakes.sig : Sig := { args := .tc (.val (.slice kTake)) (.tc (.val (.slice kTake)) .tn), objs := [], ret := .val .bool, outs := [], F := fun x => pledgeref13_SameTakes x.1.1 x.1.2.1 }
theorem pledgeref13_SameTakes.eq : (fun x => body pledgeref13_SameTakes.C pledgeref13_SameTakes.Q Go.Proofs.Tryz.f47 pledgeref13_SameTakes.sig.args pledgeref13_SameTakes.sig.objs pledgeref13_SameTakes.sig.ret pledgeref13_SameTakes.sig.outs x) = pledgeref13_SameTakes.sig.F := by
  kernel_rfl
set_option maxRecDepth 100000 in
theorem pledgeref13_SameTakes.ctx : CtxOk Go.Proofs.Tryz.prog pledgeref13_SameTakes.C := ⟨tyOk, mpOk, Nat.le_of_ble_eq_true (by kernel_rfl), fun f sg => (fun h => by cases h)⟩
set_option maxRecDepth 100000 in
theorem pledgeref13_SameTakes.ok : Sound Go.Proofs.Tryz.prog 47 pledgeref13_SameTakes.sig := body_sound (C := pledgeref13_SameTakes.C) (q := pledgeref13_SameTakes.Q) (fn := Go.Proofs.Tryz.f47) (sg := pledgeref13_SameTakes.sig) (n := 2) pledgeref13_SameTakes.ctx follows Go.Proofs.Tryz.func47 (by kernel_rfl) (by kernel_rfl) (by kernel_rfl) (by kernel_rfl) (Nat.le_of_ble_eq_true (by kernel_rfl)) (by kernel_rfl) pledgeref13_SameTakes.eq

def pledgeref13_Same (x0 : TyPrg) (x1 : TyPrg) : Option Bool :=
  bif (x0.1 : Int) == x1.1 then bif (x0.2.1 : Int) == x1.2.1 then bif (x0.2.2.1 : Int) == x1.2.2.1 then (pledgeref12_SameLines x0.2.2.2.1 x1.2.2.2.1).bind fun r13 => bif r13 then (pledgeref13_SameTakes x0.2.2.2.2.1 x1.2.2.2.2.1).bind fun r14 => bif r14 then (pledgeref12_SameLines x0.2.2.2.2.2.1 x1.2.2.2.2.2.1).bind fun r15 => bif r15 then bif (x0.2.2.2.2.2.2.1 : Int) == x1.2.2.2.2.2.2.1 then bif (x0.2.2.2.2.2.2.2.1 : Int) == x1.2.2.2.2.2.2.2.1 then bif (x0.2.2.2.2.2.2.2.2.1 : Int) == x1.2.2.2.2.2.2.2.2.1 then some ((x0.2.2.2.2.2.2.2.2.2.1 : Int) == x1.2.2.2.2.2.2.2.2.2.1) else some false else some false else some false else some false else some false else some false else some false else some false else some false
def pledgeref13_Same.C : Ctx := { ty := tyT, sigs := fun i => bif Nat.beq i 46 then [pledgeref12_SameLines.sig] else bif Nat.beq i 47 then [pledgeref13_SameTakes.sig] else [], n := 73, mp := mpT }
def pledgeref13_Same.Q : Cuts := { np := 0, loops := fun i => none, seqs := fun i => none, splits := fun i => none }
def pledgeref13_Same.sig : Sig := { args := .tc (.val kProgram) (.tc (.val kProgram) .tn), objs := [], ret := .val .bool, outs := [], F := fun x => pledgeref13_Same x.1.1 x.1.2.1 }
theorem pledgeref13_Same.eq : (fun x => body pledgeref13_Same.C pledgeref13_Same.Q Go.Proofs.Tryz.f26 pledgeref13_Same.sig.args pledgeref13_Same.sig.objs pledgeref13_Same.sig.ret pledgeref13_Same.sig.outs x) = pledgeref13_Same.sig.F := by
  kernel_rfl
set_option maxRecDepth 100000 in
theorem pledgeref13_Same.ctx : CtxOk Go.Proofs.Tryz.prog pledgeref13_Same.C := ⟨tyOk, mpOk, Nat.le_of_ble_eq_true (by kernel_rfl), fun f sg => fun h => sigs_if h (allS_cons pledgeref12_SameLines.ok allS_nil) (fun h => sigs_if h (allS_cons pledgeref13_SameTakes.ok allS_nil) ((fun h => by cases h)))⟩
set_option maxRecDepth 100000 in
theorem pledgeref13_Same.ok : Sound Go.Proofs.Tryz.prog 26 pledgeref13_Same.sig := body_sound (C := pledgeref13_Same.C) (q := pledgeref13_Same.Q) (fn := Go.Proofs.Tryz.f26) (sg := pledgeref13_Same.sig) (n := 2) pledgeref13_Same.ctx follows Go.Proofs.Tryz.func26 (by kernel_rfl) (by kernel_rfl) (by kernel_rfl) (by kernel_rfl) (Nat.le_of_ble_eq_true (by kernel_rfl)) (by kernel_rfl) pledgeref13_Same.eq

def pledgeref13_Good (x0 : Int) (x1 : Int) (x2 : TyPrg) : Option Bool :=
  bif decide (x0 < 1) then some false else bif decide (x0 > 4) then some false else bif decide (x1 < 1) then some false else bif decide (x1 > 4) then some false else (bif (x2.1 : Int) == 1 then bif (x2.2.1 : Int) != 0 then bif decide (x2.2.2.1 ≤ 1) then bif decide ((x2.2.2.2.1.length : Int) > 0) then (pledgeref12_Lines x0 x2.2.2.2.1).bind fun r3 => bif r3 then (pledgeref13_takes x0 x1 x2).bind fun r4 => bif r4 then (pledgeref12_Lines x0 x2.2.2.2.2.2.1).bind fun r5 => bif r5 then (pledgeref13_covered x2).bind fun r6 => bif r6 then bif (x2.2.2.1 : Int) == 0 then some ((((), ((), true)), (x2, ((x2.1, (x2.2.1, (x2.2.2.1, (x2.2.2.2.1, (x2.2.2.2.2.1, (x2.2.2.2.2.2.1, (0, (0, (0, (0, ())))))))))), ())))) else some ((((), ((), ((x2.2.2.2.2.2.1.length : Int) : Int) == 0)), (x2, ((x2.1, (x2.2.1, (x2.2.2.1, (x2.2.2.2.1, (x2.2.2.2.2.1, (x2.2.2.2.2.2.1, (0, (0, (0, (0, ())))))))))), ())))) else some ((((), ((), false)), (x2, ((x2.1, (x2.2.1, (x2.2.2.1, (x2.2.2.2.1, (x2.2.2.2.2.1, (x2.2.2.2.2.2.1, (0, (0, (0, (0, ())))))))))), ())))) else some ((((), ((), false)), (x2, ((x2.1, (x2.2.1, (x2.2.2.1, (x2.2.2.2.1, (x2.2.2.2.2.1, (x2.2.2.2.2.2.1, (0, (0, (0, (0, ())))))))))), ())))) else some ((((), ((), false)), (x2, ((x2.1, (x2.2.1, (x2.2.2.1, (x2.2.2.2.1, (x2.2.2.2.2.1, (x2.2.2.2.2.2.1, (0, (0, (0, (0, ())))))))))), ())))) else some ((((), ((), false)), (x2, ((x2.1, (x2.2.1, (x2.2.2.1, (x2.2.2.2.1, (x2.2.2.2.2.1, (x2.2.2.2.2.2.1, (0, (0, (0, (0, ())))))))))), ())))) else some ((((), ((), false)), (x2, ((x2.1, (x2.2.1, (x2.2.2.1, (x2.2.2.2.1, (x2.2.2.2.2.1, (x2.2.2.2.2.2.1, (0, (0, (0, (0, ())))))))))), ())))) else some ((((), ((), false)), (x2, ((x2.1, (x2.2.1, (x2.2.2.1, (x2.2.2.2.1, (x2.2.2.2.2.1, (x2.2.2.2.2.2.1, (0, (0, (0, (0, ())))))))))), ())))) else some ((((), ((), false)), (x2, ((x2.1, (x2.2.1, (x2.2.2.1, (x2.2.2.2.1, (x2.2.2.2.2.1, (x2.2.2.2.2.2.1, (0, (0, (0, (0, ())))))))))), ())))) else bif (x2.1 : Int) == 2 then bif (x2.2.1 : Int) != 0 then (pledgeref13_takes x0 x1 x2).bind fun r7 => bif r7 then (pledgeref12_Lines x0 x2.2.2.2.2.2.1).bind fun r8 => bif r8 then some ((((), ((), decide ((IntKind.i64.wrap ((x2.2.2.2.2.1.length : Int) + (x2.2.2.2.2.2.1.length : Int))) > 0))), (x2, ((x2.1, (x2.2.1, (0, ([], (x2.2.2.2.2.1, (x2.2.2.2.2.2.1, (0, (0, (0, (0, ())))))))))), ())))) else some ((((), ((), false)), (x2, ((x2.1, (x2.2.1, (0, ([], (x2.2.2.2.2.1, (x2.2.2.2.2.2.1, (0, (0, (0, (0, ())))))))))), ())))) else some ((((), ((), false)), (x2, ((x2.1, (x2.2.1, (0, ([], (x2.2.2.2.2.1, (x2.2.2.2.2.2.1, (0, (0, (0, (0, ())))))))))), ())))) else some ((((), ((), false)), (x2, ((x2.1, (x2.2.1, (0, ([], (x2.2.2.2.2.1, (x2.2.2.2.2.2.1, (0, (0, (0, (0, ())))))))))), ())))) else (bif (x2.1 : Int) == 3 then some (((x0, (x1, ((), ((), (x2.1, (x2.1 : Int) == 3))))), (x2, ((x2.1, (0, (0, ((), (x2.2.2.2.2.1, ((), (0, (0, (0, (0, ())))))))))), ())))) else some (((x0, (x1, ((), ((), (x2.1, (x2.1 : Int) == 4))))), (x2, ((x2.1, (0, (0, ((), (x2.2.2.2.2.1, ((), (0, (0, (0, (0, ())))))))))), ())))) : Option ((Int × Int × Unit × Unit × Int × Bool) × TyPrg × (Int × Int × Int × Unit × (List (Int × Int × Int × Int × Unit)) × Unit × Int × Int × Int × Int × Unit) × Unit)).bind fun y9 => bif y9.1.2.2.2.2.2 then bif (y9.2.1.2.1 : Int) != 0 then (pledgeref13_takes y9.1.1 y9.1.2.1 y9.2.1).bind fun r10 => bif r10 then some ((((), ((), decide ((y9.2.1.2.2.2.2.1.length : Int) > 0))), (y9.2.1, ((y9.2.2.1.1, (y9.2.1.2.1, (y9.2.2.1.2.2.1, ([], (y9.2.2.1.2.2.2.2.1, ([], y9.2.2.1.2.2.2.2.2.2)))))), ())))) else some ((((), ((), false)), (y9.2.1, ((y9.2.2.1.1, (y9.2.1.2.1, (y9.2.2.1.2.2.1, ([], (y9.2.2.1.2.2.2.2.1, ([], y9.2.2.1.2.2.2.2.2.2)))))), ())))) else some ((((), ((), false)), (y9.2.1, ((y9.2.2.1.1, (y9.2.1.2.1, (y9.2.2.1.2.2.1, ([], (y9.2.2.1.2.2.2.2.1, ([], y9.2.2.1.2.2.2.2.2.2)))))), ())))) else bif (y9.1.2.2.2.2.1 : Int) == 5 then bif decide ((IntKind.i64.wrap y9.2.1.2.2.2.2.2.2.1) < y9.1.1) then bif decide ((IntKind.i64.wrap y9.2.1.2.2.2.2.2.2.2.2.1) < y9.1.2.1) then bif decide (y9.2.1.2.2.2.2.2.2.2.2.2.1 ≥ 1) then (pledgeref13_fills y9.2.1).bind fun r11 => some ((((), ((), r11)), (y9.2.1, ((y9.2.2.1.1, (y9.2.2.1.2.1, (y9.2.2.1.2.2.1, ([], (y9.2.2.1.2.2.2.2.1, ([], (y9.2.1.2.2.2.2.2.2.1, (y9.2.2.1.2.2.2.2.2.2.2.1, (y9.2.1.2.2.2.2.2.2.2.2.1, (y9.2.1.2.2.2.2.2.2.2.2.2.1, y9.2.2.1.2.2.2.2.2.2.2.2.2.2)))))))))), ())))) else some ((((), ((), false)), (y9.2.1, ((y9.2.2.1.1, (y9.2.2.1.2.1, (y9.2.2.1.2.2.1, ([], (y9.2.2.1.2.2.2.2.1, ([], (y9.2.1.2.2.2.2.2.2.1, (y9.2.2.1.2.2.2.2.2.2.2.1, (y9.2.1.2.2.2.2.2.2.2.2.1, (y9.2.1.2.2.2.2.2.2.2.2.2.1, y9.2.2.1.2.2.2.2.2.2.2.2.2.2)))))))))), ())))) else some ((((), ((), false)), (y9.2.1, ((y9.2.2.1.1, (y9.2.2.1.2.1, (y9.2.2.1.2.2.1, ([], (y9.2.2.1.2.2.2.2.1, ([], (y9.2.1.2.2.2.2.2.2.1, (y9.2.2.1.2.2.2.2.2.2.2.1, (y9.2.1.2.2.2.2.2.2.2.2.1, (y9.2.1.2.2.2.2.2.2.2.2.2.1, y9.2.2.1.2.2.2.2.2.2.2.2.2.2)))))))))), ())))) else some ((((), ((), false)), (y9.2.1, ((y9.2.2.1.1, (y9.2.2.1.2.1, (y9.2.2.1.2.2.1, ([], (y9.2.2.1.2.2.2.2.1, ([], (y9.2.1.2.2.2.2.2.2.1, (y9.2.2.1.2.2.2.2.2.2.2.1, (y9.2.1.2.2.2.2.2.2.2.2.1, (y9.2.1.2.2.2.2.2.2.2.2.2.1, y9.2.2.1.2.2.2.2.2.2.2.2.2.2)))))))))), ())))) else bif (y9.1.2.2.2.2.1 : Int) == 6 then bif decide ((IntKind.i64.wrap y9.2.1.2.2.2.2.2.2.1) < y9.1.1) then bif decide ((IntKind.i64.wrap y9.2.1.2.2.2.2.2.2.2.1) < y9.1.2.1) then bif decide ((IntKind.i64.wrap y9.2.1.2.2.2.2.2.2.2.2.1) < y9.1.2.1) then bif (y9.2.1.2.2.2.2.2.2.2.1 : Int) != y9.2.1.2.2.2.2.2.2.2.2.1 then some ((((), ((), decide (y9.2.1.2.2.2.2.2.2.2.2.2.1 ≥ 1))), (y9.2.1, ((6, (0, (0, ([], ([], ([], (y9.2.1.2.2.2.2.2.2.1, (y9.2.1.2.2.2.2.2.2.2.1, (y9.2.1.2.2.2.2.2.2.2.2.1, (y9.2.1.2.2.2.2.2.2.2.2.2.1, ())))))))))), ())))) else some ((((), ((), false)), (y9.2.1, ((6, (0, (0, ([], ([], ([], (y9.2.1.2.2.2.2.2.2.1, (y9.2.1.2.2.2.2.2.2.2.1, (y9.2.1.2.2.2.2.2.2.2.2.1, (y9.2.1.2.2.2.2.2.2.2.2.2.1, ())))))))))), ())))) else some ((((), ((), false)), (y9.2.1, ((6, (0, (0, ([], ([], ([], (y9.2.1.2.2.2.2.2.2.1, (y9.2.1.2.2.2.2.2.2.2.1, (y9.2.1.2.2.2.2.2.2.2.2.1, (y9.2.1.2.2.2.2.2.2.2.2.2.1, ())))))))))), ())))) else some ((((), ((), false)), (y9.2.1, ((6, (0, (0, ([], ([], ([], (y9.2.1.2.2.2.2.2.2.1, (y9.2.1.2.2.2.2.2.2.2.1, (y9.2.1.2.2.2.2.2.2.2.2.1, (y9.2.1.2.2.2.2.2.2.2.2.2.1, ())))))))))), ())))) else some ((((), ((), false)), (y9.2.1, ((6, (0, (0, ([], ([], ([], (y9.2.1.2.2.2.2.2.2.1, (y9.2.1.2.2.2.2.2.2.2.1, (y9.2.1.2.2.2.2.2.2.2.2.1, (y9.2.1.2.2.2.2.2.2.2.2.2.1, ())))))))))), ())))) else some ((((), ((), false)), (y9.2.1, ((y9.2.2.1.1, (y9.2.2.1.2.1, (y9.2.2.1.2.2.1, ([], (y9.2.2.1.2.2.2.2.1, ([], y9.2.2.1.2.2.2.2.2.2)))))), ())))) : Option ((Unit × Unit × Bool) × TyPrg × TyPrg × Unit)).bind fun y12 => bif y12.1.2.2 then (pledgeref13_Same y12.2.1 y12.2.2.1).bind fun r13 => some r13 else some false
def pledgeref13_Good.C : Ctx := { ty := tyT, sigs := fun i => bif Nat.beq i 22 then [pledgeref12_Lines.sig] else bif Nat.beq i 23 then [pledgeref13_takes.sig] else bif Nat.beq i 24 then [pledgeref13_covered.sig] else bif Nat.beq i 25 then [pledgeref13_fills.sig] else bif Nat.beq i 26 then [pledgeref13_Same.sig] else [], n := 225, mp := mpT }
def pledgeref13_Good.Q : Cuts := { np := 0, loops := fun i => none, seqs := fun i => bif Nat.beq i 19 then some [(.normal, { env := [(0, .val (.int .i64)), (1, .val (.int .i64)), (5, .ptr 0), (7, .ptr 1), (29, .val (.int .u8)), (124, .val .bool)], objs := [.cell kProgram (.val kProgram), .cell kProgram (.pair (.val (.int .u8)) (.pair (.val (.int .u32)) (.pair (.val (.int .u8)) (.pair (.nils kLine) (.pair (.val (.slice kTake)) (.pair (.nils kLine) (.val (.cons (.int .u8) (.cons (.int .u8) kLine)))))))))] })] else bif Nat.beq i 29 then some [(.normal, { env := [(5, .ptr 0), (7, .ptr 1), (8, .val .bool)], objs := [.cell kProgram (.val kProgram), .cell kProgram (.val kProgram)] })] else none, splits := fun i => none }
def pledgeref13_Good.sig : Sig := { args := .tc (.val (.int .i64)) (.tc (.val (.int .i64)) (.tc (.val kProgram) .tn)), objs := [], ret := .val .bool, outs := [], F := fun x => pledgeref13_Good x.1.1 x.1.2.1 x.1.2.2.1 }
theorem pledgeref13_Good.eq : (fun x => body pledgeref13_Good.C pledgeref13_Good.Q Go.Proofs.Tryz.f7 pledgeref13_Good.sig.args pledgeref13_Good.sig.objs pledgeref13_Good.sig.ret pledgeref13_Good.sig.outs x) = pledgeref13_Good.sig.F := by
  kernel_rfl
set_option maxRecDepth 100000 in
theorem pledgeref13_Good.ctx : CtxOk Go.Proofs.Tryz.prog pledgeref13_Good.C := ⟨tyOk, mpOk, Nat.le_of_ble_eq_true (by kernel_rfl), fun f sg => fun h => sigs_if h (allS_cons pledgeref12_Lines.ok allS_nil) (fun h => sigs_if h (allS_cons pledgeref13_takes.ok allS_nil) (fun h => sigs_if h (allS_cons pledgeref13_covered.ok allS_nil) (fun h => sigs_if h (allS_cons pledgeref13_fills.ok allS_nil) (fun h => sigs_if h (allS_cons pledgeref13_Same.ok allS_nil) ((fun h => by cases h))))))⟩
set_option maxRecDepth 100000 in
theorem pledgeref13_Good.ok : Sound Go.Proofs.Tryz.prog 7 pledgeref13_Good.sig := body_sound (C := pledgeref13_Good.C) (q := pledgeref13_Good.Q) (fn := Go.Proofs.Tryz.f7) (sg := pledgeref13_Good.sig) (n := 3) pledgeref13_Good.ctx follows Go.Proofs.Tryz.func7 (by kernel_rfl) (by kernel_rfl) (by kernel_rfl) (by kernel_rfl) (Nat.le_of_ble_eq_true (by kernel_rfl)) (by kernel_rfl) pledgeref13_Good.eq

def rec_ofSaga (x0 : Int) : Option Bool :=
  bif (x0 : Int) == 1 then some true else bif (x0 : Int) == 2 then some true else bif (x0 : Int) == 8 then some true else some ((x0 : Int) == 9)
def rec_ofSaga.C : Ctx := { ty := tyT, sigs := fun i => [], n := 17, mp := mpT }
def rec_ofSaga.Q : Cuts := { np := 0, loops := fun i => none, seqs := fun i => none, splits := fun i => none }
def rec_ofSaga.sig : Sig := { args := .tc (.val (.int .u8)) .tn, objs := [], ret := .val .bool, outs := [], F := fun x => rec_ofSaga x.1.1 }
theorem rec_ofSaga.eq : (fun x => body rec_ofSaga.C rec_ofSaga.Q Go.Proofs.Tryz.f57 rec_ofSaga.sig.args rec_ofSaga.sig.objs rec_ofSaga.sig.ret rec_ofSaga.sig.outs x) = rec_ofSaga.sig.F := by
  kernel_rfl
set_option maxRecDepth 100000 in
theorem rec_ofSaga.ctx : CtxOk Go.Proofs.Tryz.prog rec_ofSaga.C := ⟨tyOk, mpOk, Nat.le_of_ble_eq_true (by kernel_rfl), fun f sg => (fun h => by cases h)⟩
set_option maxRecDepth 100000 in
theorem rec_ofSaga.ok : Sound Go.Proofs.Tryz.prog 57 rec_ofSaga.sig := body_sound (C := rec_ofSaga.C) (q := rec_ofSaga.Q) (fn := Go.Proofs.Tryz.f57) (sg := rec_ofSaga.sig) (n := 1) rec_ofSaga.ctx follows Go.Proofs.Tryz.func57 (by kernel_rfl) (by kernel_rfl) (by kernel_rfl) (by kernel_rfl) (Nat.le_of_ble_eq_true (by kernel_rfl)) (by kernel_rfl) rec_ofSaga.eq

def rec_ofTxn (x0 : Int) : Option Bool :=
  bif decide (x0 ≥ 2) then some (decide (x0 ≤ 7)) else some false
def rec_ofTxn.C : Ctx := { ty := tyT, sigs := fun i => [], n := 9, mp := mpT }
def rec_ofTxn.Q : Cuts := { np := 0, loops := fun i => none, seqs := fun i => none, splits := fun i => none }
def rec_ofTxn.sig : Sig := { args := .tc (.val (.int .u8)) .tn, objs := [], ret := .val .bool, outs := [], F := fun x => rec_ofTxn x.1.1 }
theorem rec_ofTxn.eq : (fun x => body rec_ofTxn.C rec_ofTxn.Q Go.Proofs.Tryz.f59 rec_ofTxn.sig.args rec_ofTxn.sig.objs rec_ofTxn.sig.ret rec_ofTxn.sig.outs x) = rec_ofTxn.sig.F := by
  kernel_rfl
set_option maxRecDepth 100000 in
theorem rec_ofTxn.ctx : CtxOk Go.Proofs.Tryz.prog rec_ofTxn.C := ⟨tyOk, mpOk, Nat.le_of_ble_eq_true (by kernel_rfl), fun f sg => (fun h => by cases h)⟩
set_option maxRecDepth 100000 in
theorem rec_ofTxn.ok : Sound Go.Proofs.Tryz.prog 59 rec_ofTxn.sig := body_sound (C := rec_ofTxn.C) (q := rec_ofTxn.Q) (fn := Go.Proofs.Tryz.f59) (sg := rec_ofTxn.sig) (n := 1) rec_ofTxn.ctx follows Go.Proofs.Tryz.func59 (by kernel_rfl) (by kernel_rfl) (by kernel_rfl) (by kernel_rfl) (Nat.le_of_ble_eq_true (by kernel_rfl)) (by kernel_rfl) rec_ofTxn.eq

def frame_Size (x0 : Int) : Option Int :=
  bif decide (x0 < 1) then some 0 else bif decide (x0 > 512) then some 0 else some (IntKind.i64.wrap (6 + x0))
def frame_Size.C : Ctx := { ty := tyT, sigs := fun i => [], n := 11, mp := mpT }
def frame_Size.Q : Cuts := { np := 0, loops := fun i => none, seqs := fun i => none, splits := fun i => none }
def frame_Size.sig : Sig := { args := .tc (.val (.int .i64)) .tn, objs := [], ret := .val (.int .i64), outs := [], F := fun x => frame_Size x.1.1 }
theorem frame_Size.eq : (fun x => body frame_Size.C frame_Size.Q Go.Proofs.Tryz.f34 frame_Size.sig.args frame_Size.sig.objs frame_Size.sig.ret frame_Size.sig.outs x) = frame_Size.sig.F := by
  kernel_rfl
set_option maxRecDepth 100000 in
theorem frame_Size.ctx : CtxOk Go.Proofs.Tryz.prog frame_Size.C := ⟨tyOk, mpOk, Nat.le_of_ble_eq_true (by kernel_rfl), fun f sg => (fun h => by cases h)⟩
set_option maxRecDepth 100000 in
theorem frame_Size.ok : Sound Go.Proofs.Tryz.prog 34 frame_Size.sig := body_sound (C := frame_Size.C) (q := frame_Size.Q) (fn := Go.Proofs.Tryz.f34) (sg := frame_Size.sig) (n := 1) frame_Size.ctx follows Go.Proofs.Tryz.func34 (by kernel_rfl) (by kernel_rfl) (by kernel_rfl) (by kernel_rfl) (Nat.le_of_ble_eq_true (by kernel_rfl)) (by kernel_rfl) frame_Size.eq

def rec_Cost (x0 : Int) : Option Int :=
  ((rec_ofSaga x0).bind fun r2 => bif r2 then some ((x0, 4)) else some ((x0, 0)) : Option (Int × Int)).bind fun y3 => ((rec_ofTxn y3.1).bind fun r4 => bif r4 then some ((y3.1, IntKind.i64.wrap (y3.2 + 4))) else some (y3) : Option (Int × Int)).bind fun y5 => (bif (y5.1 : Int) == 2 then some ((y5.1, IntKind.i64.wrap (y5.2 + 2))) else bif (y5.1 : Int) == 3 then bif (y5.1 : Int) == 3 then some ((y5.1, IntKind.i64.wrap (y5.2 + 11))) else bif (y5.1 : Int) == 9 then some ((y5.1, IntKind.i64.wrap (y5.2 + 1))) else some (y5) else bif (y5.1 : Int) == 6 then some ((y5.1, IntKind.i64.wrap (y5.2 + 11))) else bif (y5.1 : Int) == 9 then some ((y5.1, IntKind.i64.wrap (y5.2 + 1))) else some (y5) : Option (Int × Int)).bind fun y6 => bif (y6.2 : Int) == 0 then some 0 else bif (y6.1 : Int) == 1 then some 0 else (frame_Size (IntKind.i64.wrap (y6.2 + 1))).bind fun r7 => some r7
def rec_Cost.C : Ctx := { ty := tyT, sigs := fun i => bif Nat.beq i 34 then [frame_Size.sig] else bif Nat.beq i 57 then [rec_ofSaga.sig] else bif Nat.beq i 59 then [rec_ofTxn.sig] else [], n := 35, mp := mpT }
def rec_Cost.Q : Cuts := { np := 0, loops := fun i => none, seqs := fun i => bif Nat.beq i 4 then some [(.normal, { env := [(0, .val (.int .u8)), (3, .val (.int .i64))], objs := [] })] else bif Nat.beq i 6 then some [(.normal, { env := [(0, .val (.int .u8)), (3, .val (.int .i64))], objs := [] })] else bif Nat.beq i 14 then some [(.normal, { env := [(0, .val (.int .u8)), (3, .val (.int .i64))], objs := [] })] else none, splits := fun i => none }
def rec_Cost.sig : Sig := { args := .tc (.val (.int .u8)) .tn, objs := [], ret := .val (.int .i64), outs := [], F := fun x => rec_Cost x.1.1 }
theorem rec_Cost.eq : (fun x => body rec_Cost.C rec_Cost.Q Go.Proofs.Tryz.f48 rec_Cost.sig.args rec_Cost.sig.objs rec_Cost.sig.ret rec_Cost.sig.outs x) = rec_Cost.sig.F := by
  kernel_rfl
set_option maxRecDepth 100000 in
theorem rec_Cost.ctx : CtxOk Go.Proofs.Tryz.prog rec_Cost.C := ⟨tyOk, mpOk, Nat.le_of_ble_eq_true (by kernel_rfl), fun f sg => fun h => sigs_if h (allS_cons frame_Size.ok allS_nil) (fun h => sigs_if h (allS_cons rec_ofSaga.ok allS_nil) (fun h => sigs_if h (allS_cons rec_ofTxn.ok allS_nil) ((fun h => by cases h))))⟩
set_option maxRecDepth 100000 in
theorem rec_Cost.ok : Sound Go.Proofs.Tryz.prog 48 rec_Cost.sig := body_sound (C := rec_Cost.C) (q := rec_Cost.Q) (fn := Go.Proofs.Tryz.f48) (sg := rec_Cost.sig) (n := 1) rec_Cost.ctx follows Go.Proofs.Tryz.func48 (by kernel_rfl) (by kernel_rfl) (by kernel_rfl) (by kernel_rfl) (Nat.le_of_ble_eq_true (by kernel_rfl)) (by kernel_rfl) rec_Cost.eq

def step_Ops_1 (x0 : Int) (x1 : Int) (x2 : Unit) (x3 : Unit) (x4 : Unit) (o0 : Int × Int × Unit) (o1 : Int × Int × (List (Int × Int × Unit)) × Unit) (o2 : Unit) (o3 : List ((Int × Int × Int × Unit) × Int × Unit)) : Option (Unit × (Int × Int × Unit) × (Int × Int × (List (Int × Int × Unit)) × Unit) × Unit × Unit × (List ((Int × Int × Int × Unit) × Int × Unit)) × Unit) :=
  (bif (x0 : Int) == 1 then some (((x1, ((), ())), (o0, (o1, ((), (o3, ((x0, (o0.1, (o1.2.1, ()))), ()))))))) else bif (x0 : Int) == 2 then some (((x1, ((), ())), (o0, (o1, ((), (o3, ((x0, (o0.1, (o1.2.1, ()))), ()))))))) else some (((x1, ((), ())), (o0, (o1, ((), (o3, ((x0, (o0.1, (0, ()))), ()))))))) : Option ((Int × Unit × Unit) × (Int × Int × Unit) × (Int × Int × (List (Int × Int × Unit)) × Unit) × Unit × (List ((Int × Int × Int × Unit) × Int × Unit)) × (Int × Int × Int × Unit) × Unit)).bind fun y10 => room (y10.2.2.2.2.1.length + [(y10.2.2.2.2.2.1, (y10.1.1, ()))].length) (some ((), (y10.2.1, (y10.2.2.1, ((), ((), (y10.2.2.2.2.1 ++ [(y10.2.2.2.2.2.1, (y10.1.1, ()))], ())))))))
def step_Ops_1.C : Ctx := { ty := tyT, sigs := fun i => [], n := 27, mp := mpT }
def step_Ops_1.Q : Cuts := { np := 4, loops := fun i => none, seqs := fun i => bif Nat.beq i 3 then some [(.normal, { env := [(1, .val (.int .i64)), (4, .ptr 2), (7, .ptr 4)], objs := [.cell kLine (.val kLine), .cell kStep (.val kStep), .cell (.slice kOp) (.row 3), .row kOp false, .cell kKey (.val kKey)] })] else none, splits := fun i => none }
def step_Ops_1.sig : Sig := { args := .tc (.val (.int .u8)) (.tc (.val (.int .i64)) (.tc (.ptr 0) (.tc (.ptr 1) (.tc (.ptr 2) .tn)))), objs := [.cell kLine (.val kLine), .cell kStep (.val kStep), .cell (.slice kOp) (.row 3), .row kOp false], ret := .tup .tn, outs := [.cell kLine (.val kLine), .cell kStep (.val kStep), .cell (.slice kOp) (.row 4), .gone, .row kOp false], F := fun x => step_Ops_1 x.1.1 x.1.2.1 x.1.2.2.1 x.1.2.2.2.1 x.1.2.2.2.2.1 x.2.1 x.2.2.1 x.2.2.2.1 x.2.2.2.2.1 }
theorem step_Ops_1.eq : (fun x => body step_Ops_1.C step_Ops_1.Q Go.Proofs.Tryz.f91 step_Ops_1.sig.args step_Ops_1.sig.objs step_Ops_1.sig.ret step_Ops_1.sig.outs x) = step_Ops_1.sig.F := by
  kernel_rfl
set_option maxRecDepth 100000 in
theorem step_Ops_1.ctx : CtxOk Go.Proofs.Tryz.prog step_Ops_1.C := ⟨tyOk, mpOk, Nat.le_of_ble_eq_true (by kernel_rfl), fun f sg => (fun h => by cases h)⟩
set_option maxRecDepth 100000 in
theorem step_Ops_1.ok : Sound Go.Proofs.Tryz.prog 91 step_Ops_1.sig := body_sound (C := step_Ops_1.C) (q := step_Ops_1.Q) (fn := Go.Proofs.Tryz.f91) (sg := step_Ops_1.sig) (n := 5) step_Ops_1.ctx follows Go.Proofs.Tryz.func91 (by kernel_rfl) (by kernel_rfl) (by kernel_rfl) (by kernel_rfl) (Nat.le_of_ble_eq_true (by kernel_rfl)) (by kernel_rfl) step_Ops_1.eq

def step_Ops.l1 (v : (Unit × Unit × (List (Int × Int × Unit)) × Int × Int) × (Int × Int × (List (Int × Int × Unit)) × Unit) × Unit × (List ((Int × Int × Int × Unit) × Int × Unit)) × Unit) : Option (((Unit × Unit × (List (Int × Int × Unit)) × Int × Int) × (Int × Int × (List (Int × Int × Unit)) × Unit) × Unit × (List ((Int × Int × Int × Unit) × Int × Unit)) × Unit) ⊕ (Unit × Unit × (List ((Int × Int × Int × Unit) × Int × Unit)) × Unit)) :=
  bif decide (v.1.2.2.2.2 < v.1.2.2.2.1) then nthK v.1.2.2.1 v.1.2.2.2.2 fun e9 => bif decide (e9.2.1 < 1) then some (Sum.inl (((), ((), (v.1.2.2.1, (v.1.2.2.2.1, IntKind.i64.wrap (v.1.2.2.2.2 + 1))))), (v.2.1, ((), (v.2.2.2.1, ()))))) else bif (v.2.1.1 : Int) == 1 then (step_Ops_1 1 (IntKind.i64.wrap (0 - e9.2.1)) () () () e9 v.2.1 () v.2.2.2.1).bind fun r10 => (step_Ops_1 2 r10.2.1.2.1 () () () r10.2.1 r10.2.2.1 () r10.2.2.2.2.2.1).bind fun r11 => some (Sum.inl (((), ((), (v.1.2.2.1, (v.1.2.2.2.1, IntKind.i64.wrap (v.1.2.2.2.2 + 1))))), (r11.2.2.1, ((), (r11.2.2.2.2.2.1, ()))))) else bif (v.2.1.1 : Int) == 3 then (step_Ops_1 2 (IntKind.i64.wrap (0 - e9.2.1)) () () () e9 v.2.1 () v.2.2.2.1).bind fun r12 => (step_Ops_1 3 r12.2.1.2.1 () () () r12.2.1 r12.2.2.1 () r12.2.2.2.2.2.1).bind fun r13 => some (Sum.inl (((), ((), (v.1.2.2.1, (v.1.2.2.2.1, IntKind.i64.wrap (v.1.2.2.2.2 + 1))))), (r13.2.2.1, ((), (r13.2.2.2.2.2.1, ()))))) else bif (v.2.1.1 : Int) == 2 then (step_Ops_1 2 (IntKind.i64.wrap (0 - e9.2.1)) () () () e9 v.2.1 () v.2.2.2.1).bind fun r14 => (step_Ops_1 1 r14.2.1.2.1 () () () r14.2.1 r14.2.2.1 () r14.2.2.2.2.2.1).bind fun r15 => some (Sum.inl (((), ((), (v.1.2.2.1, (v.1.2.2.2.1, IntKind.i64.wrap (v.1.2.2.2.2 + 1))))), (r15.2.2.1, ((), (r15.2.2.2.2.2.1, ()))))) else bif (v.2.1.1 : Int) == 5 then (step_Ops_1 1 e9.2.1 () () () e9 v.2.1 () v.2.2.2.1).bind fun r16 => some (Sum.inl (((), ((), (v.1.2.2.1, (v.1.2.2.2.1, IntKind.i64.wrap (v.1.2.2.2.2 + 1))))), (r16.2.2.1, ((), (r16.2.2.2.2.2.1, ()))))) else bif (v.2.1.1 : Int) == 4 then (step_Ops_1 3 (IntKind.i64.wrap (0 - e9.2.1)) () () () e9 v.2.1 () v.2.2.2.1).bind fun r17 => (step_Ops_1 1 r17.2.1.2.1 () () () r17.2.1 r17.2.2.1 () r17.2.2.2.2.2.1).bind fun r18 => some (Sum.inl (((), ((), (v.1.2.2.1, (v.1.2.2.2.1, IntKind.i64.wrap (v.1.2.2.2.2 + 1))))), (r18.2.2.1, ((), (r18.2.2.2.2.2.1, ()))))) else bif (v.2.1.1 : Int) == 6 then (step_Ops_1 1 (IntKind.i64.wrap (0 - e9.2.1)) () () () e9 v.2.1 () v.2.2.2.1).bind fun r19 => some (Sum.inl (((), ((), (v.1.2.2.1, (v.1.2.2.2.1, IntKind.i64.wrap (v.1.2.2.2.2 + 1))))), (r19.2.2.1, ((), (r19.2.2.2.2.2.1, ()))))) else bif (v.2.1.1 : Int) == 7 then (step_Ops_1 4 e9.2.1 () () () e9 v.2.1 () v.2.2.2.1).bind fun r20 => some (Sum.inl (((), ((), (v.1.2.2.1, (v.1.2.2.2.1, IntKind.i64.wrap (v.1.2.2.2.2 + 1))))), (r20.2.2.1, ((), (r20.2.2.2.2.2.1, ()))))) else bif (v.2.1.1 : Int) == 8 then (step_Ops_1 4 (IntKind.i64.wrap (0 - e9.2.1)) () () () e9 v.2.1 () v.2.2.2.1).bind fun r21 => some (Sum.inl (((), ((), (v.1.2.2.1, (v.1.2.2.2.1, IntKind.i64.wrap (v.1.2.2.2.2 + 1))))), (r21.2.2.1, ((), (r21.2.2.2.2.2.1, ()))))) else some (Sum.inl (((), ((), (v.1.2.2.1, (v.1.2.2.2.1, IntKind.i64.wrap (v.1.2.2.2.2 + 1))))), (v.2.1, ((), (v.2.2.2.1, ()))))) else some (Sum.inr ((), ((), (v.2.2.2.1, ()))))
def step_Ops (x0 : Int × Int × (List (Int × Int × Unit)) × Unit) : Option (List ((Int × Int × Int × Unit) × Int × Unit)) :=
  (iterL step_Ops.l1 loopN (((), ((), (x0.2.2.1, ((x0.2.2.1.length : Int), 0)))), (x0, ((), ([], ()))))).bind fun y22 => some y22.2.2.1
def step_Ops.C : Ctx := { ty := tyT, sigs := fun i => bif Nat.beq i 91 then [step_Ops_1.sig] else [], n := 88, mp := mpT }
def step_Ops.Q : Cuts := { np := 0, loops := fun i => bif Nat.beq i 3 then some ({ env := [(1, .ptr 0), (3, .ptr 1), (8, .val (.slice kLine)), (9, .val (.int .i64)), (10, .val (.int .i64))], objs := [.cell kStep (.val kStep), .cell (.slice kOp) (.row 2), .row kOp false] }, [(.exit 0, { env := [(3, .ptr 0)], objs := [.cell (.slice kOp) (.row 1), .row kOp false] })]) else none, seqs := fun i => none, splits := fun i => none }
def step_Ops.sig : Sig := { args := .tc (.val kStep) .tn, objs := [], ret := .val (.slice kOp), outs := [], F := fun x => step_Ops x.1.1 }
theorem step_Ops.eq : (fun x => body step_Ops.C step_Ops.Q Go.Proofs.Tryz.f70 step_Ops.sig.args step_Ops.sig.objs step_Ops.sig.ret step_Ops.sig.outs x) = step_Ops.sig.F := by
  kernel_rfl
set_option maxRecDepth 100000 in
theorem step_Ops.ctx : CtxOk Go.Proofs.Tryz.prog step_Ops.C := ⟨tyOk, mpOk, Nat.le_of_ble_eq_true (by kernel_rfl), fun f sg => fun h => sigs_if h (allS_cons step_Ops_1.ok allS_nil) ((fun h => by cases h))⟩
set_option maxRecDepth 100000 in
theorem step_Ops.ok : Sound Go.Proofs.Tryz.prog 70 step_Ops.sig := body_sound (C := step_Ops.C) (q := step_Ops.Q) (fn := Go.Proofs.Tryz.f70) (sg := step_Ops.sig) (n := 1) step_Ops.ctx follows Go.Proofs.Tryz.func70 (by kernel_rfl) (by kernel_rfl) (by kernel_rfl) (by kernel_rfl) (Nat.le_of_ble_eq_true (by kernel_rfl)) (by kernel_rfl) step_Ops.eq

def need_adds (x0 : Int × Int × (List (Int × Int × Unit)) × Unit) (x1 : Int) : Option Int :=
  (step_Ops x0).bind fun r9 => (rec_Cost x1).bind fun r10 => some (IntKind.i64.wrap ((r9.length : Int) * r10))
def need_adds.C : Ctx := { ty := tyT, sigs := fun i => bif Nat.beq i 48 then [rec_Cost.sig] else bif Nat.beq i 70 then [step_Ops.sig] else [], n := 11, mp := mpT }
def need_adds.Q : Cuts := { np := 0, loops := fun i => none, seqs := fun i => none, splits := fun i => none }
def need_adds.sig : Sig := { args := .tc (.val kStep) (.tc (.val (.int .u8)) .tn), objs := [], ret := .val (.int .i64), outs := [], F := fun x => need_adds x.1.1 x.1.2.1 }
theorem need_adds.eq : (fun x => body need_adds.C need_adds.Q Go.Proofs.Tryz.f49 need_adds.sig.args need_adds.sig.objs need_adds.sig.ret need_adds.sig.outs x) = need_adds.sig.F := by
  kernel_rfl
set_option maxRecDepth 100000 in
theorem need_adds.ctx : CtxOk Go.Proofs.Tryz.prog need_adds.C := ⟨tyOk, mpOk, Nat.le_of_ble_eq_true (by kernel_rfl), fun f sg => fun h => sigs_if h (allS_cons rec_Cost.ok allS_nil) (fun h => sigs_if h (allS_cons step_Ops.ok allS_nil) ((fun h => by cases h)))⟩
set_option maxRecDepth 100000 in
theorem need_adds.ok : Sound Go.Proofs.Tryz.prog 49 need_adds.sig := body_sound (C := need_adds.C) (q := need_adds.Q) (fn := Go.Proofs.Tryz.f49) (sg := need_adds.sig) (n := 2) need_adds.ctx follows Go.Proofs.Tryz.func49 (by kernel_rfl) (by kernel_rfl) (by kernel_rfl) (by kernel_rfl) (Nat.le_of_ble_eq_true (by kernel_rfl)) (by kernel_rfl) need_adds.eq

def need_Pass (x0 : Int × Int × (List (Int × Int × Unit)) × Unit) : Option Int :=
  (rec_Cost 2).bind fun r2 => (need_adds x0 3).bind fun r3 => (rec_Cost 4).bind fun r4 => some (IntKind.i64.wrap ((IntKind.i64.wrap (r2 + r3)) + r4))
def need_Pass.C : Ctx := { ty := tyT, sigs := fun i => bif Nat.beq i 48 then [rec_Cost.sig] else bif Nat.beq i 49 then [need_adds.sig] else [], n := 9, mp := mpT }
def need_Pass.Q : Cuts := { np := 0, loops := fun i => none, seqs := fun i => none, splits := fun i => none }
def need_Pass.sig : Sig := { args := .tc (.val kStep) .tn, objs := [], ret := .val (.int .i64), outs := [], F := fun x => need_Pass x.1.1 }
theorem need_Pass.eq : (fun x => body need_Pass.C need_Pass.Q Go.Proofs.Tryz.f27 need_Pass.sig.args need_Pass.sig.objs need_Pass.sig.ret need_Pass.sig.outs x) = need_Pass.sig.F := by
  kernel_rfl
set_option maxRecDepth 100000 in
theorem need_Pass.ctx : CtxOk Go.Proofs.Tryz.prog need_Pass.C := ⟨tyOk, mpOk, Nat.le_of_ble_eq_true (by kernel_rfl), fun f sg => fun h => sigs_if h (allS_cons rec_Cost.ok allS_nil) (fun h => sigs_if h (allS_cons need_adds.ok allS_nil) ((fun h => by cases h)))⟩
set_option maxRecDepth 100000 in
theorem need_Pass.ok : Sound Go.Proofs.Tryz.prog 27 need_Pass.sig := body_sound (C := need_Pass.C) (q := need_Pass.Q) (fn := Go.Proofs.Tryz.f27) (sg := need_Pass.sig) (n := 1) need_Pass.ctx follows Go.Proofs.Tryz.func27 (by kernel_rfl) (by kernel_rfl) (by kernel_rfl) (by kernel_rfl) (Nat.le_of_ble_eq_true (by kernel_rfl)) (by kernel_rfl) need_Pass.eq

def need_Fail (x0 : Int × Int × (List (Int × Int × Unit)) × Unit) : Option Int :=
  (rec_Cost 2).bind fun r6 => (need_adds x0 3).bind fun r7 => (rec_Cost 5).bind fun r8 => (need_adds x0 6).bind fun r9 => (rec_Cost 7).bind fun r10 => some (IntKind.i64.wrap ((IntKind.i64.wrap ((IntKind.i64.wrap ((IntKind.i64.wrap (r6 + r7)) + r8)) + r9)) + r10))
def need_Fail.C : Ctx := { ty := tyT, sigs := fun i => bif Nat.beq i 48 then [rec_Cost.sig] else bif Nat.beq i 49 then [need_adds.sig] else [], n := 14, mp := mpT }
def need_Fail.Q : Cuts := { np := 0, loops := fun i => none, seqs := fun i => none, splits := fun i => none }
def need_Fail.sig : Sig := { args := .tc (.val kStep) .tn, objs := [], ret := .val (.int .i64), outs := [], F := fun x => need_Fail x.1.1 }
theorem need_Fail.eq : (fun x => body need_Fail.C need_Fail.Q Go.Proofs.Tryz.f28 need_Fail.sig.args need_Fail.sig.objs need_Fail.sig.ret need_Fail.sig.outs x) = need_Fail.sig.F := by
  kernel_rfl
set_option maxRecDepth 100000 in
theorem need_Fail.ctx : CtxOk Go.Proofs.Tryz.prog need_Fail.C := ⟨tyOk, mpOk, Nat.le_of_ble_eq_true (by kernel_rfl), fun f sg => fun h => sigs_if h (allS_cons rec_Cost.ok allS_nil) (fun h => sigs_if h (allS_cons need_adds.ok allS_nil) ((fun h => by cases h)))⟩
set_option maxRecDepth 100000 in
theorem need_Fail.ok : Sound Go.Proofs.Tryz.prog 28 need_Fail.sig := body_sound (C := need_Fail.C) (q := need_Fail.Q) (fn := Go.Proofs.Tryz.f28) (sg := need_Fail.sig) (n := 1) need_Fail.ctx follows Go.Proofs.Tryz.func28 (by kernel_rfl) (by kernel_rfl) (by kernel_rfl) (by kernel_rfl) (Nat.le_of_ble_eq_true (by kernel_rfl)) (by kernel_rfl) need_Fail.eq

def prog_still (x0 : TyPrg) : Option Bool :=
  bif (x0.2.2.2.2.2.2.1 : Int) == 0 then bif (x0.2.2.2.2.2.2.2.1 : Int) == 0 then bif (x0.2.2.2.2.2.2.2.2.1 : Int) == 0 then some ((x0.2.2.2.2.2.2.2.2.2.1 : Int) == 0) else some false else some false else some false
def prog_still.C : Ctx := { ty := tyT, sigs := fun i => [], n := 21, mp := mpT }
def prog_still.Q : Cuts := { np := 0, loops := fun i => none, seqs := fun i => none, splits := fun i => none }
def prog_still.sig : Sig := { args := .tc (.val kProgram) .tn, objs := [], ret := .val .bool, outs := [], F := fun x => prog_still x.1.1 }
theorem prog_still.eq : (fun x => body prog_still.C prog_still.Q Go.Proofs.Tryz.f81 prog_still.sig.args prog_still.sig.objs prog_still.sig.ret prog_still.sig.outs x) = prog_still.sig.F := by
  kernel_rfl
set_option maxRecDepth 100000 in
theorem prog_still.ctx : CtxOk Go.Proofs.Tryz.prog prog_still.C := ⟨tyOk, mpOk, Nat.le_of_ble_eq_true (by kernel_rfl), fun f sg => (fun h => by cases h)⟩
set_option maxRecDepth 100000 in
theorem prog_still.ok : Sound Go.Proofs.Tryz.prog 81 prog_still.sig := body_sound (C := prog_still.C) (q := prog_still.Q) (fn := Go.Proofs.Tryz.f81) (sg := prog_still.sig) (n := 1) prog_still.ctx follows Go.Proofs.Tryz.func81 (by kernel_rfl) (by kernel_rfl) (by kernel_rfl) (by kernel_rfl) (Nat.le_of_ble_eq_true (by kernel_rfl)) (by kernel_rfl) prog_still.eq

def prog_bare (x0 : TyPrg) : Option Bool :=
  bif (x0.2.2.1 : Int) == 0 then some (((x0.2.2.2.1.length : Int) : Int) == 0) else some false
def prog_bare.C : Ctx := { ty := tyT, sigs := fun i => [], n := 12, mp := mpT }
def prog_bare.Q : Cuts := { np := 0, loops := fun i => none, seqs := fun i => none, splits := fun i => none }
def prog_bare.sig : Sig := { args := .tc (.val kProgram) .tn, objs := [], ret := .val .bool, outs := [], F := fun x => prog_bare x.1.1 }
theorem prog_bare.eq : (fun x => body prog_bare.C prog_bare.Q Go.Proofs.Tryz.f82 prog_bare.sig.args prog_bare.sig.objs prog_bare.sig.ret prog_bare.sig.outs x) = prog_bare.sig.F := by
  kernel_rfl
set_option maxRecDepth 100000 in
theorem prog_bare.ctx : CtxOk Go.Proofs.Tryz.prog prog_bare.C := ⟨tyOk, mpOk, Nat.le_of_ble_eq_true (by kernel_rfl), fun f sg => (fun h => by cases h)⟩
set_option maxRecDepth 100000 in
theorem prog_bare.ok : Sound Go.Proofs.Tryz.prog 82 prog_bare.sig := body_sound (C := prog_bare.C) (q := prog_bare.Q) (fn := Go.Proofs.Tryz.f82) (sg := prog_bare.sig) (n := 1) prog_bare.ctx follows Go.Proofs.Tryz.func82 (by kernel_rfl) (by kernel_rfl) (by kernel_rfl) (by kernel_rfl) (Nat.le_of_ble_eq_true (by kernel_rfl)) (by kernel_rfl) prog_bare.eq

def prog_lines.l1 (v : Int × (List (Int × Int × Unit)) × (List (Int × Int × Unit)) × Int × Int) : Option ((Int × (List (Int × Int × Unit)) × (List (Int × Int × Unit)) × Int × Int) ⊕ ((List (Int × Int × Unit)) ⊕ Bool)) :=
  bif decide (v.2.2.2.2 < v.2.2.2.1) then nthK v.2.2.1 v.2.2.2.2 fun e16 => bif decide ((IntKind.i64.wrap e16.1) ≥ v.1) then some (Sum.inr (Sum.inr false)) else bif decide (e16.2.1 < 1) then some (Sum.inr (Sum.inr false)) else bif decide (v.2.2.2.2 > 0) then nthK v.2.1 (IntKind.i64.wrap (v.2.2.2.2 - 1)) fun e17 => bif decide (e17.1 ≥ e16.1) then some (Sum.inr (Sum.inr false)) else some (Sum.inl (v.1, (v.2.1, (v.2.2.1, (v.2.2.2.1, IntKind.i64.wrap (v.2.2.2.2 + 1)))))) else some (Sum.inl (v.1, (v.2.1, (v.2.2.1, (v.2.2.2.1, IntKind.i64.wrap (v.2.2.2.2 + 1)))))) else some (Sum.inr (Sum.inl v.2.1))
def prog_lines (x0 : Int) (x1 : List (Int × Int × Unit)) : Option Bool :=
  (iterL prog_lines.l1 loopN (x0, (x1, (x1, ((x1.length : Int), 0))))).bind fun y18 => (match y18 with | .inl y19 => some (decide ((y19.length : Int) ≤ 3)) | .inr y20 => some y20)
def prog_lines.C : Ctx := { ty := tyT, sigs := fun i => [], n := 43, mp := mpT }
def prog_lines.Q : Cuts := { np := 0, loops := fun i => bif Nat.beq i 2 then some ({ env := [(0, .val (.int .i64)), (1, .val (.slice kLine)), (7, .val (.slice kLine)), (8, .val (.int .i64)), (9, .val (.int .i64))], objs := [] }, [(.exit 0, { env := [(1, .val (.slice kLine))], objs := [] }), (.ret, { env := [(4, .val .bool)], objs := [] })]) else none, seqs := fun i => none, splits := fun i => none }
def prog_lines.sig : Sig := { args := .tc (.val (.int .i64)) (.tc (.val (.slice kLine)) .tn), objs := [], ret := .val .bool, outs := [], F := fun x => prog_lines x.1.1 x.1.2.1 }
theorem prog_lines.eq : (fun x => body prog_lines.C prog_lines.Q Go.Proofs.Tryz.f83 prog_lines.sig.args prog_lines.sig.objs prog_lines.sig.ret prog_lines.sig.outs x) = prog_lines.sig.F := by
  kernel_rfl
set_option maxRecDepth 100000 in
theorem prog_lines.ctx : CtxOk Go.Proofs.Tryz.prog prog_lines.C := ⟨tyOk, mpOk, Nat.le_of_ble_eq_true (by kernel_rfl), fun f sg => (fun h => by cases h)⟩
set_option maxRecDepth 100000 in
theorem prog_lines.ok : Sound Go.Proofs.Tryz.prog 83 prog_lines.sig := body_sound (C := prog_lines.C) (q := prog_lines.Q) (fn := Go.Proofs.Tryz.f83) (sg := prog_lines.sig) (n := 2) prog_lines.ctx follows Go.Proofs.Tryz.func83 (by kernel_rfl) (by kernel_rfl) (by kernel_rfl) (by kernel_rfl) (Nat.le_of_ble_eq_true (by kernel_rfl)) (by kernel_rfl) prog_lines.eq

def prog_takes.l1 (v : (Int × Int × Unit × (List (Int × Int × Int × Int × Unit)) × Int × Int) × TyPrg × Unit) : Option (((Int × Int × Unit × (List (Int × Int × Int × Int × Unit)) × Int × Int) × TyPrg × Unit) ⊕ ((Unit × TyPrg × Unit) ⊕ Bool)) :=
  bif decide (v.1.2.2.2.2.2 < v.1.2.2.2.2.1) then nthK v.1.2.2.2.1 v.1.2.2.2.2.2 fun e22 => bif (e22.1 : Int) != v.2.1.2.1 then some (Sum.inr (Sum.inr false)) else bif decide ((IntKind.i64.wrap e22.2.1) ≥ v.1.1) then some (Sum.inr (Sum.inr false)) else bif decide ((IntKind.i64.wrap e22.2.2.1) ≥ v.1.2.1) then some (Sum.inr (Sum.inr false)) else bif decide (e22.2.2.2.1 < 1) then some (Sum.inr (Sum.inr false)) else (bif decide (v.1.2.2.2.2.2 ≥ 3) then nthK v.2.1.2.2.2.2.1 (IntKind.i64.wrap (v.1.2.2.2.2.2 - 3)) fun e23 => bif (e23.2.2.1 : Int) == e22.2.2.1 then some (Sum.inr false) else some (Sum.inl ((v.1.1, (v.1.2.1, ((), (v.1.2.2.2.2.2, ((), v.1.2.2.2))))), (v.2.1, (e22, ())))) else some (Sum.inl ((v.1.1, (v.1.2.1, ((), (v.1.2.2.2.2.2, ((), v.1.2.2.2))))), (v.2.1, (e22, ())))) : Option (((Int × Int × Unit × Int × Unit × (List (Int × Int × Int × Int × Unit)) × Int × Int) × TyPrg × (Int × Int × Int × Int × Unit) × Unit) ⊕ Bool)).bind fun y24 => (match y24 with | .inl y25 => bif decide (y25.1.2.2.2.1 > 0) then nthK y25.2.1.2.2.2.2.1 (IntKind.i64.wrap (y25.1.2.2.2.1 - 1)) fun e27 => bif decide (e27.2.2.1 > y25.2.2.1.2.2.1) then some (Sum.inr (Sum.inr false)) else nthK y25.2.1.2.2.2.2.1 (IntKind.i64.wrap (y25.1.2.2.2.1 - 1)) fun e28 => bif (e28.2.2.1 : Int) == y25.2.2.1.2.2.1 then nthK y25.2.1.2.2.2.2.1 (IntKind.i64.wrap (y25.1.2.2.2.1 - 1)) fun e29 => bif decide (e29.2.1 ≥ y25.2.2.1.2.1) then some (Sum.inr (Sum.inr false)) else some (Sum.inl ((y25.1.1, (y25.1.2.1, ((), (y25.1.2.2.2.2.2.1, (y25.1.2.2.2.2.2.2.1, IntKind.i64.wrap (y25.1.2.2.2.2.2.2.2 + 1)))))), (y25.2.1, ()))) else some (Sum.inl ((y25.1.1, (y25.1.2.1, ((), (y25.1.2.2.2.2.2.1, (y25.1.2.2.2.2.2.2.1, IntKind.i64.wrap (y25.1.2.2.2.2.2.2.2 + 1)))))), (y25.2.1, ()))) else some (Sum.inl ((y25.1.1, (y25.1.2.1, ((), (y25.1.2.2.2.2.2.1, (y25.1.2.2.2.2.2.2.1, IntKind.i64.wrap (y25.1.2.2.2.2.2.2.2 + 1)))))), (y25.2.1, ()))) | .inr y26 => some (Sum.inr (Sum.inr y26))) else some (Sum.inr (Sum.inl ((), (v.2.1, ()))))
def prog_takes (x0 : Int) (x1 : Int) (x2 : TyPrg) : Option Bool :=
  (iterL prog_takes.l1 loopN ((x0, (x1, ((), (x2.2.2.2.2.1, ((x2.2.2.2.2.1.length : Int), 0))))), (x2, ()))).bind fun y30 => (match y30 with | .inl y31 => some (decide ((y31.2.1.2.2.2.2.1.length : Int) ≤ 12)) | .inr y32 => some y32)
def prog_takes.C : Ctx := { ty := tyT, sigs := fun i => [], n := 98, mp := mpT }
def prog_takes.Q : Cuts := { np := 0, loops := fun i => bif Nat.beq i 2 then some ({ env := [(0, .val (.int .i64)), (1, .val (.int .i64)), (5, .ptr 0), (10, .val (.slice kTake)), (11, .val (.int .i64)), (12, .val (.int .i64))], objs := [.cell kProgram (.val kProgram)] }, [(.exit 0, { env := [(5, .ptr 0)], objs := [.cell kProgram (.val kProgram)] }), (.ret, { env := [(6, .val .bool)], objs := [] })]) else none, seqs := fun i => bif Nat.beq i 8 then some [(.normal, { env := [(0, .val (.int .i64)), (1, .val (.int .i64)), (5, .ptr 0), (7, .val (.int .i64)), (8, .ptr 1), (10, .val (.slice kTake)), (11, .val (.int .i64)), (12, .val (.int .i64))], objs := [.cell kProgram (.val kProgram), .cell kTake (.val kTake)] }), (.ret, { env := [(6, .val .bool)], objs := [] })] else none, splits := fun i => none }
def prog_takes.sig : Sig := { args := .tc (.val (.int .i64)) (.tc (.val (.int .i64)) (.tc (.val kProgram) .tn)), objs := [], ret := .val .bool, outs := [], F := fun x => prog_takes x.1.1 x.1.2.1 x.1.2.2.1 }
theorem prog_takes.eq : (fun x => body prog_takes.C prog_takes.Q Go.Proofs.Tryz.f84 prog_takes.sig.args prog_takes.sig.objs prog_takes.sig.ret prog_takes.sig.outs x) = prog_takes.sig.F := by
  kernel_rfl
set_option maxRecDepth 100000 in
theorem prog_takes.ctx : CtxOk Go.Proofs.Tryz.prog prog_takes.C := ⟨tyOk, mpOk, Nat.le_of_ble_eq_true (by kernel_rfl), fun f sg => (fun h => by cases h)⟩
set_option maxRecDepth 100000 in
theorem prog_takes.ok : Sound Go.Proofs.Tryz.prog 84 prog_takes.sig := body_sound (C := prog_takes.C) (q := prog_takes.Q) (fn := Go.Proofs.Tryz.f84) (sg := prog_takes.sig) (n := 3) prog_takes.ctx follows Go.Proofs.Tryz.func84 (by kernel_rfl) (by kernel_rfl) (by kernel_rfl) (by kernel_rfl) (Nat.le_of_ble_eq_true (by kernel_rfl)) (by kernel_rfl) prog_takes.eq

def bits_Add64.sig : Sig := { args := .tc (.val (.int .u64)) (.tc (.val (.int .u64)) (.tc (.val (.int .u64)) .tn)), objs := [], ret := .tup (.tc (.val (.int .u64)) (.tc (.val (.int .u64)) .tn)), outs := [], F := fun x => add64 x.1.1 x.1.2.1 x.1.2.2.1 }
set_option maxRecDepth 100000 in
theorem bits_Add64.ok : Sound Go.Proofs.Tryz.prog 104 bits_Add64.sig := add64_sound Go.Proofs.Tryz.func104 (by kernel_rfl) (by kernel_rfl) (by kernel_rfl) (by kernel_rfl)

def calc_Sum.l1 (v : Int × Int × List Int × Int × Int) : Option ((Int × Int × List Int × Int × Int) ⊕ (Int × Int)) :=
  bif decide (v.2.2.2.2 < v.2.2.2.1) then nthK v.2.2.1 v.2.2.2.2 fun e44 => (add64 v.2.1 (IntKind.u64.wrap e44) 0).bind fun r45 => (add64 v.1 (IntKind.u64.wrap (Int.fdiv e44 (2 ^ 63))) r45.2.1).bind fun r46 => some (Sum.inl (r46.1, (r45.1, (v.2.2.1, (v.2.2.2.1, IntKind.i64.wrap (v.2.2.2.2 + 1)))))) else some (Sum.inr (v.1, v.2.1))
def calc_Sum (x0 : List Int) : Option (Int × Bool × Unit) :=
  (iterL calc_Sum.l1 loopN (0, (0, (x0, ((x0.length : Int), 0))))).bind fun y47 => bif (IntKind.u64.wrap (Int.fdiv (IntKind.i64.wrap y47.2) (2 ^ 63)) : Int) == y47.1 then some (IntKind.i64.wrap y47.2, (true, ())) else some (0, (false, ()))
def calc_Sum.C : Ctx := { ty := tyT, sigs := fun i => bif Nat.beq i 104 then [bits_Add64.sig] else [], n := 41, mp := mpT }
def calc_Sum.Q : Cuts := { np := 0, loops := fun i => bif Nat.beq i 3 then some ({ env := [(4, .val (.int .u64)), (5, .val (.int .u64)), (10, .val (.slice (.int .i64))), (11, .val (.int .i64)), (12, .val (.int .i64))], objs := [] }, [(.exit 0, { env := [(4, .val (.int .u64)), (5, .val (.int .u64))], objs := [] })]) else none, seqs := fun i => none, splits := fun i => none }
def calc_Sum.sig : Sig := { args := .tc (.val (.slice (.int .i64))) .tn, objs := [], ret := .tup (.tc (.val (.int .i64)) (.tc (.val .bool) .tn)), outs := [], F := fun x => calc_Sum x.1.1 }
theorem calc_Sum.eq : (fun x => body calc_Sum.C calc_Sum.Q Go.Proofs.Tryz.f93 calc_Sum.sig.args calc_Sum.sig.objs calc_Sum.sig.ret calc_Sum.sig.outs x) = calc_Sum.sig.F := by
  kernel_rfl
set_option maxRecDepth 100000 in
theorem calc_Sum.ctx : CtxOk Go.Proofs.Tryz.prog calc_Sum.C := ⟨tyOk, mpOk, Nat.le_of_ble_eq_true (by kernel_rfl), fun f sg => fun h => sigs_if h (allS_cons bits_Add64.ok allS_nil) ((fun h => by cases h))⟩
set_option maxRecDepth 100000 in
theorem calc_Sum.ok : Sound Go.Proofs.Tryz.prog 93 calc_Sum.sig := body_sound (C := calc_Sum.C) (q := calc_Sum.Q) (fn := Go.Proofs.Tryz.f93) (sg := calc_Sum.sig) (n := 1) calc_Sum.ctx follows Go.Proofs.Tryz.func93 (by kernel_rfl) (by kernel_rfl) (by kernel_rfl) (by kernel_rfl) (Nat.le_of_ble_eq_true (by kernel_rfl)) (by kernel_rfl) calc_Sum.eq

def prog_covered.l1 (v : (Unit × Unit × (List (Int × Int × Int × Int × Unit)) × Int × Int) × TyPrg × (Unit × Unit × Unit × Unit × Unit) × List Int × List Int × List Int × List Int × Unit) : Option (((Unit × Unit × (List (Int × Int × Int × Int × Unit)) × Int × Int) × TyPrg × (Unit × Unit × Unit × Unit × Unit) × List Int × List Int × List Int × List Int × Unit) ⊕ ((Unit × Unit) × TyPrg × (Unit × Unit × Unit × Unit × Unit) × List Int × List Int × List Int × List Int × Unit)) :=
  bif decide (v.1.2.2.2.2 < v.1.2.2.2.1) then nthK v.1.2.2.1 v.1.2.2.2.2 fun e35 => split4n e35.2.1 (room (v.2.2.2.1.length + [e35.2.2.2.1].length) (some (Sum.inl (((), ((), (v.1.2.2.1, (v.1.2.2.2.1, IntKind.i64.wrap (v.1.2.2.2.2 + 1))))), (v.2.1, (((), ((), ((), ((), ())))), (v.2.2.2.1 ++ [e35.2.2.2.1], (v.2.2.2.2.1, (v.2.2.2.2.2.1, (v.2.2.2.2.2.2.1, ())))))))))) (room (v.2.2.2.2.1.length + [e35.2.2.2.1].length) (some (Sum.inl (((), ((), (v.1.2.2.1, (v.1.2.2.2.1, IntKind.i64.wrap (v.1.2.2.2.2 + 1))))), (v.2.1, (((), ((), ((), ((), ())))), (v.2.2.2.1, (v.2.2.2.2.1 ++ [e35.2.2.2.1], (v.2.2.2.2.2.1, (v.2.2.2.2.2.2.1, ())))))))))) (room (v.2.2.2.2.2.1.length + [e35.2.2.2.1].length) (some (Sum.inl (((), ((), (v.1.2.2.1, (v.1.2.2.2.1, IntKind.i64.wrap (v.1.2.2.2.2 + 1))))), (v.2.1, (((), ((), ((), ((), ())))), (v.2.2.2.1, (v.2.2.2.2.1, (v.2.2.2.2.2.1 ++ [e35.2.2.2.1], (v.2.2.2.2.2.2.1, ())))))))))) (room (v.2.2.2.2.2.2.1.length + [e35.2.2.2.1].length) (some (Sum.inl (((), ((), (v.1.2.2.1, (v.1.2.2.2.1, IntKind.i64.wrap (v.1.2.2.2.2 + 1))))), (v.2.1, (((), ((), ((), ((), ())))), (v.2.2.2.1, (v.2.2.2.2.1, (v.2.2.2.2.2.1, (v.2.2.2.2.2.2.1 ++ [e35.2.2.2.1], ())))))))))) else some (Sum.inr (((), ()), (v.2.1, (((), ((), ((), ((), ())))), (v.2.2.2.1, (v.2.2.2.2.1, (v.2.2.2.2.2.1, (v.2.2.2.2.2.2.1, ()))))))))
def prog_covered.l2 (v : (Unit × Unit × (List (Int × Int × Unit)) × Int × Int) × TyPrg × (Unit × Unit × Unit × Unit × Unit) × List Int × List Int × List Int × List Int × Unit) : Option (((Unit × Unit × (List (Int × Int × Unit)) × Int × Int) × TyPrg × (Unit × Unit × Unit × Unit × Unit) × List Int × List Int × List Int × List Int × Unit) ⊕ ((Unit × Unit) × TyPrg × (Unit × Unit × Unit × Unit × Unit) × List Int × List Int × List Int × List Int × Unit)) :=
  bif decide (v.1.2.2.2.2 < v.1.2.2.2.1) then nthK v.1.2.2.1 v.1.2.2.2.2 fun e37 => split4n e37.1 (room (v.2.2.2.1.length + [e37.2.1].length) (some (Sum.inl (((), ((), (v.1.2.2.1, (v.1.2.2.2.1, IntKind.i64.wrap (v.1.2.2.2.2 + 1))))), (v.2.1, (((), ((), ((), ((), ())))), (v.2.2.2.1 ++ [e37.2.1], (v.2.2.2.2.1, (v.2.2.2.2.2.1, (v.2.2.2.2.2.2.1, ())))))))))) (room (v.2.2.2.2.1.length + [e37.2.1].length) (some (Sum.inl (((), ((), (v.1.2.2.1, (v.1.2.2.2.1, IntKind.i64.wrap (v.1.2.2.2.2 + 1))))), (v.2.1, (((), ((), ((), ((), ())))), (v.2.2.2.1, (v.2.2.2.2.1 ++ [e37.2.1], (v.2.2.2.2.2.1, (v.2.2.2.2.2.2.1, ())))))))))) (room (v.2.2.2.2.2.1.length + [e37.2.1].length) (some (Sum.inl (((), ((), (v.1.2.2.1, (v.1.2.2.2.1, IntKind.i64.wrap (v.1.2.2.2.2 + 1))))), (v.2.1, (((), ((), ((), ((), ())))), (v.2.2.2.1, (v.2.2.2.2.1, (v.2.2.2.2.2.1 ++ [e37.2.1], (v.2.2.2.2.2.2.1, ())))))))))) (room (v.2.2.2.2.2.2.1.length + [e37.2.1].length) (some (Sum.inl (((), ((), (v.1.2.2.1, (v.1.2.2.2.1, IntKind.i64.wrap (v.1.2.2.2.2 + 1))))), (v.2.1, (((), ((), ((), ((), ())))), (v.2.2.2.1, (v.2.2.2.2.1, (v.2.2.2.2.2.1, (v.2.2.2.2.2.2.1 ++ [e37.2.1], ())))))))))) else some (Sum.inr (((), ()), (v.2.1, (((), ((), ((), ((), ())))), (v.2.2.2.1, (v.2.2.2.2.1, (v.2.2.2.2.2.1, (v.2.2.2.2.2.2.1, ()))))))))
def prog_covered.l3 (v : (Unit × Unit × (List (Int × Int × Unit)) × Int × Int) × (Unit × Unit × Unit × Unit × Unit) × List Int × List Int × List Int × List Int × List Int × Unit) : Option (((Unit × Unit × (List (Int × Int × Unit)) × Int × Int) × (Unit × Unit × Unit × Unit × Unit) × List Int × List Int × List Int × List Int × List Int × Unit) ⊕ ((Unit × Unit) × (Unit × Unit × Unit × Unit × Unit) × List Int × List Int × List Int × List Int × List Int × Unit)) :=
  bif decide (v.1.2.2.2.2 < v.1.2.2.2.1) then nthK v.1.2.2.1 v.1.2.2.2.2 fun e39 => chk (decide (0 ≤ e39.1) && decide (e39.1 < 4)) (natK e39.1 fun n40 => nthN v.2.2.1 n40 fun e41 => some (Sum.inl (((), ((), (v.1.2.2.1, (v.1.2.2.2.1, IntKind.i64.wrap (v.1.2.2.2.2 + 1))))), (((), ((), ((), ((), ())))), (v.2.2.1.set n40 e39.2.1, (v.2.2.2.1, (v.2.2.2.2.1, (v.2.2.2.2.2.1, (v.2.2.2.2.2.2.1, ()))))))))) else some (Sum.inr (((), ()), (((), ((), ((), ((), ())))), (v.2.2.1, (v.2.2.2.1, (v.2.2.2.2.1, (v.2.2.2.2.2.1, (v.2.2.2.2.2.2.1, ()))))))))
def prog_covered.l4 (v : (Unit × (Unit × Unit × Unit × Unit × Unit) × Int) × List Int × List Int × List Int × List Int × List Int × Unit) : Option (((Unit × (Unit × Unit × Unit × Unit × Unit) × Int) × List Int × List Int × List Int × List Int × List Int × Unit) ⊕ (Unit ⊕ Bool)) :=
  bif decide (v.1.2.2 < 4) then (split4n v.1.2.2 (some ((((), (0, (v.2.2.1, (((), ((), ((), ((), ())))), 0)))), (v.2.1, (v.2.2.1, (v.2.2.2.1, (v.2.2.2.2.1, (v.2.2.2.2.2.1, ())))))))) (some ((((), (1, (v.2.2.2.1, (((), ((), ((), ((), ())))), 1)))), (v.2.1, (v.2.2.1, (v.2.2.2.1, (v.2.2.2.2.1, (v.2.2.2.2.2.1, ())))))))) (some ((((), (2, (v.2.2.2.2.1, (((), ((), ((), ((), ())))), 2)))), (v.2.1, (v.2.2.1, (v.2.2.2.1, (v.2.2.2.2.1, (v.2.2.2.2.2.1, ())))))))) (some ((((), (3, (v.2.2.2.2.2.1, (((), ((), ((), ((), ())))), 3)))), (v.2.1, (v.2.2.1, (v.2.2.2.1, (v.2.2.2.2.1, (v.2.2.2.2.2.1, ())))))))) : Option ((Unit × Int × List Int × (Unit × Unit × Unit × Unit × Unit) × Int) × List Int × List Int × List Int × List Int × List Int × Unit)).bind fun y43 => (calc_Sum y43.1.2.2.1).bind fun r44 => bif !r44.2.1 then some (Sum.inr (Sum.inr false)) else chk (decide (0 ≤ y43.1.2.1) && decide (y43.1.2.1 < 4)) (nthK y43.2.1 y43.1.2.1 fun e45 => bif (r44.1 : Int) != e45 then some (Sum.inr (Sum.inr false)) else some (Sum.inl (((), (((), ((), ((), ((), ())))), IntKind.i64.wrap (y43.1.2.2.2.2 + 1))), (y43.2.1, (y43.2.2.1, (y43.2.2.2.1, (y43.2.2.2.2.1, (y43.2.2.2.2.2.1, ())))))))) else some (Sum.inr (Sum.inl ()))
def prog_covered (x0 : TyPrg) : Option Bool :=
  (iterL prog_covered.l1 loopN (((), ((), (x0.2.2.2.2.1, ((x0.2.2.2.2.1.length : Int), 0)))), (x0, (((), ((), ((), ((), ())))), ([], ([], ([], ([], ())))))))).bind fun y36 => (iterL prog_covered.l2 loopN (((), ((), (y36.2.1.2.2.2.2.2.1, ((y36.2.1.2.2.2.2.2.1.length : Int), 0)))), (y36.2.1, (((), ((), ((), ((), ())))), (y36.2.2.2.1, (y36.2.2.2.2.1, (y36.2.2.2.2.2.1, (y36.2.2.2.2.2.2.1, ())))))))).bind fun y38 => (iterL prog_covered.l3 loopN (((), ((), (y38.2.1.2.2.2.1, ((y38.2.1.2.2.2.1.length : Int), 0)))), (((), ((), ((), ((), ())))), (List.replicate 4 0, (y38.2.2.2.1, (y38.2.2.2.2.1, (y38.2.2.2.2.2.1, (y38.2.2.2.2.2.2.1, ())))))))).bind fun y42 => (iterL prog_covered.l4 loopN (((), (((), ((), ((), ((), ())))), 0)), (y42.2.2.1, (y42.2.2.2.1, (y42.2.2.2.2.1, (y42.2.2.2.2.2.1, (y42.2.2.2.2.2.2.1, ()))))))).bind fun y46 => (match y46 with | .inl y47 => some true | .inr y48 => some y48)
def prog_covered.C : Ctx := { ty := tyT, sigs := fun i => bif Nat.beq i 93 then [calc_Sum.sig] else [], n := 86, mp := mpT }
def prog_covered.Q : Cuts := { np := 0, loops := fun i => bif Nat.beq i 3 then some ({ env := [(1, .ptr 0), (3, .ptr 1), (16, .val (.slice kTake)), (17, .val (.int .i64)), (18, .val (.int .i64))], objs := [.cell kProgram (.val kProgram), .cell (.arr 4 (.slice (.int .i64))) (.pair (.row 2) (.pair (.row 3) (.pair (.row 4) (.pair (.row 5) .unit)))), .row (.int .i64) false, .row (.int .i64) false, .row (.int .i64) false, .row (.int .i64) false] }, [(.exit 0, { env := [(1, .ptr 0), (3, .ptr 1)], objs := [.cell kProgram (.val kProgram), .cell (.arr 4 (.slice (.int .i64))) (.pair (.row 2) (.pair (.row 3) (.pair (.row 4) (.pair (.row 5) .unit)))), .row (.int .i64) false, .row (.int .i64) false, .row (.int .i64) false, .row (.int .i64) false] })]) else bif Nat.beq i 8 then some ({ env := [(1, .ptr 0), (3, .ptr 1), (35, .val (.slice kLine)), (36, .val (.int .i64)), (37, .val (.int .i64))], objs := [.cell kProgram (.val kProgram), .cell (.arr 4 (.slice (.int .i64))) (.pair (.row 2) (.pair (.row 3) (.pair (.row 4) (.pair (.row 5) .unit)))), .row (.int .i64) false, .row (.int .i64) false, .row (.int .i64) false, .row (.int .i64) false] }, [(.exit 2, { env := [(1, .ptr 0), (3, .ptr 1)], objs := [.cell kProgram (.val kProgram), .cell (.arr 4 (.slice (.int .i64))) (.pair (.row 2) (.pair (.row 3) (.pair (.row 4) (.pair (.row 5) .unit)))), .row (.int .i64) false, .row (.int .i64) false, .row (.int .i64) false, .row (.int .i64) false] })]) else bif Nat.beq i 14 then some ({ env := [(3, .ptr 0), (8, .ptr 1), (54, .val (.slice kLine)), (55, .val (.int .i64)), (56, .val (.int .i64))], objs := [.cell (.arr 4 (.slice (.int .i64))) (.pair (.row 2) (.pair (.row 3) (.pair (.row 4) (.pair (.row 5) .unit)))), .cell (.arr 4 (.int .i64)) (.val (.arr 4 (.int .i64))), .row (.int .i64) false, .row (.int .i64) false, .row (.int .i64) false, .row (.int .i64) false] }, [(.exit 4, { env := [(3, .ptr 0), (8, .ptr 1)], objs := [.cell (.arr 4 (.slice (.int .i64))) (.pair (.row 2) (.pair (.row 3) (.pair (.row 4) (.pair (.row 5) .unit)))), .cell (.arr 4 (.int .i64)) (.val (.arr 4 (.int .i64))), .row (.int .i64) false, .row (.int .i64) false, .row (.int .i64) false, .row (.int .i64) false] })]) else bif Nat.beq i 19 then some ({ env := [(8, .ptr 0), (66, .pair (.row 1) (.pair (.row 2) (.pair (.row 3) (.pair (.row 4) .unit)))), (67, .val (.int .i64))], objs := [.cell (.arr 4 (.int .i64)) (.val (.arr 4 (.int .i64))), .row (.int .i64) true, .row (.int .i64) true, .row (.int .i64) true, .row (.int .i64) true] }, [(.exit 6, { env := [], objs := [] }), (.ret, { env := [(2, .val .bool)], objs := [] })]) else none, seqs := fun i => bif Nat.beq i 21 then some [(.normal, { env := [(8, .ptr 0), (11, .val (.int .i64)), (12, .val (.slice (.int .i64))), (66, .pair (.row 1) (.pair (.row 2) (.pair (.row 3) (.pair (.row 4) .unit)))), (67, .val (.int .i64))], objs := [.cell (.arr 4 (.int .i64)) (.val (.arr 4 (.int .i64))), .row (.int .i64) true, .row (.int .i64) true, .row (.int .i64) true, .row (.int .i64) true] })] else none, splits := fun i => bif Nat.beq i 5 then some (5, some [1]) else bif Nat.beq i 10 then some (7, some [0]) else bif Nat.beq i 20 then some (67, none) else none }
def prog_covered.sig : Sig := { args := .tc (.val kProgram) .tn, objs := [], ret := .val .bool, outs := [], F := fun x => prog_covered x.1.1 }
theorem prog_covered.eq : (fun x => body prog_covered.C prog_covered.Q Go.Proofs.Tryz.f85 prog_covered.sig.args prog_covered.sig.objs prog_covered.sig.ret prog_covered.sig.outs x) = prog_covered.sig.F := by
  kernel_rfl
set_option maxRecDepth 100000 in
theorem prog_covered.ctx : CtxOk Go.Proofs.Tryz.prog prog_covered.C := ⟨tyOk, mpOk, Nat.le_of_ble_eq_true (by kernel_rfl), fun f sg => fun h => sigs_if h (allS_cons calc_Sum.ok allS_nil) ((fun h => by cases h))⟩
set_option maxRecDepth 100000 in
theorem prog_covered.ok : Sound Go.Proofs.Tryz.prog 85 prog_covered.sig := body_sound (C := prog_covered.C) (q := prog_covered.Q) (fn := Go.Proofs.Tryz.f85) (sg := prog_covered.sig) (n := 1) prog_covered.ctx follows Go.Proofs.Tryz.func85 (by kernel_rfl) (by kernel_rfl) (by kernel_rfl) (by kernel_rfl) (Nat.le_of_ble_eq_true (by kernel_rfl)) (by kernel_rfl) prog_covered.eq

def prog_together.l1 (v : (Unit × (List (Int × Int × Int × Int × Unit)) × Int × Int) × List Int × Unit) : Option (((Unit × (List (Int × Int × Int × Int × Unit)) × Int × Int) × List Int × Unit) ⊕ (Unit × List Int × Unit)) :=
  bif decide (v.1.2.2.2 < v.1.2.2.1) then nthK v.1.2.1 v.1.2.2.2 fun e60 => room (v.2.1.length + [e60.2.2.2.1].length) (some (Sum.inl (((), (v.1.2.1, (v.1.2.2.1, IntKind.i64.wrap (v.1.2.2.2 + 1)))), (v.2.1 ++ [e60.2.2.2.1], ())))) else some (Sum.inr ((), (v.2.1, ())))
def prog_together (x0 : List (Int × Int × Int × Int × Unit)) : Option (Int × Bool × Unit) :=
  (iterL prog_together.l1 loopN (((), (x0, ((x0.length : Int), 0))), ([], ()))).bind fun y61 => (calc_Sum y61.2.1).bind fun r62 => some (r62.1, (r62.2.1, ()))
def prog_together.C : Ctx := { ty := tyT, sigs := fun i => bif Nat.beq i 93 then [calc_Sum.sig] else [], n := 23, mp := mpT }
def prog_together.Q : Cuts := { np := 0, loops := fun i => bif Nat.beq i 3 then some ({ env := [(4, .row 0), (7, .val (.slice kTake)), (8, .val (.int .i64)), (9, .val (.int .i64))], objs := [.row (.int .i64) false] }, [(.exit 0, { env := [(4, .row 0)], objs := [.row (.int .i64) false] })]) else none, seqs := fun i => none, splits := fun i => none }
def prog_together.sig : Sig := { args := .tc (.val (.slice kTake)) .tn, objs := [], ret := .tup (.tc (.val (.int .i64)) (.tc (.val .bool) .tn)), outs := [], F := fun x => prog_together x.1.1 }
theorem prog_together.eq : (fun x => body prog_together.C prog_together.Q Go.Proofs.Tryz.f73 prog_together.sig.args prog_together.sig.objs prog_together.sig.ret prog_together.sig.outs x) = prog_together.sig.F := by
  kernel_rfl
set_option maxRecDepth 100000 in
theorem prog_together.ctx : CtxOk Go.Proofs.Tryz.prog prog_together.C := ⟨tyOk, mpOk, Nat.le_of_ble_eq_true (by kernel_rfl), fun f sg => fun h => sigs_if h (allS_cons calc_Sum.ok allS_nil) ((fun h => by cases h))⟩
set_option maxRecDepth 100000 in
theorem prog_together.ok : Sound Go.Proofs.Tryz.prog 73 prog_together.sig := body_sound (C := prog_together.C) (q := prog_together.Q) (fn := Go.Proofs.Tryz.f73) (sg := prog_together.sig) (n := 1) prog_together.ctx follows Go.Proofs.Tryz.func73 (by kernel_rfl) (by kernel_rfl) (by kernel_rfl) (by kernel_rfl) (Nat.le_of_ble_eq_true (by kernel_rfl)) (by kernel_rfl) prog_together.eq

def prog_fills.l1 (v : (Unit × Unit × (List (Int × Int × Int × Int × Unit)) × Int × Int) × TyPrg × (List (Int × Int)) × Unit) : Option (((Unit × Unit × (List (Int × Int × Int × Int × Unit)) × Int × Int) × TyPrg × (List (Int × Int)) × Unit) ⊕ ((Unit × TyPrg × Unit) ⊕ Bool)) :=
  bif decide (v.1.2.2.2.2 < v.1.2.2.2.1) then nthK v.1.2.2.1 v.1.2.2.2.2 fun e56 => bif decide ((getM (.int .u32) (.int .i64) (putM (.int .u32) (.int .i64) v.2.2.1 e56.1 (IntKind.i64.wrap ((getM (.int .u32) (.int .i64) v.2.2.1 e56.1) + 1))) e56.1) > 1) then some (Sum.inr (Sum.inr false)) else bif (e56.1 : Int) == 0 then some (Sum.inr (Sum.inr false)) else bif (e56.2.1 : Int) != v.2.1.2.2.2.2.2.2.1 then some (Sum.inr (Sum.inr false)) else bif (e56.2.2.1 : Int) != v.2.1.2.2.2.2.2.2.2.2.1 then some (Sum.inr (Sum.inr false)) else bif decide (e56.2.2.2.1 < 1) then some (Sum.inr (Sum.inr false)) else some (Sum.inl (((), ((), (v.1.2.2.1, (v.1.2.2.2.1, IntKind.i64.wrap (v.1.2.2.2.2 + 1))))), (v.2.1, (putM (.int .u32) (.int .i64) v.2.2.1 e56.1 (IntKind.i64.wrap ((getM (.int .u32) (.int .i64) v.2.2.1 e56.1) + 1)), ())))) else some (Sum.inr (Sum.inl ((), (v.2.1, ()))))
def prog_fills (x0 : TyPrg) : Option Bool :=
  (iterL prog_fills.l1 loopN (((), ((), (x0.2.2.2.2.1, ((x0.2.2.2.2.1.length : Int), 0)))), (x0, ([], ())))).bind fun y57 => (match y57 with | .inl y58 => (prog_together y58.2.1.2.2.2.2.1).bind fun r60 => bif decide ((y58.2.1.2.2.2.2.1.length : Int) ≤ 12) then bif r60.2.1 then some (decide (r60.1 ≤ y58.2.1.2.2.2.2.2.2.2.2.2.1)) else some false else some false | .inr y59 => some y59)
def prog_fills.C : Ctx := { ty := tyT, sigs := fun i => bif Nat.beq i 73 then [prog_together.sig] else [], n := 70, mp := mpT }
def prog_fills.Q : Cuts := { np := 0, loops := fun i => bif Nat.beq i 3 then some ({ env := [(1, .ptr 0), (3, .mapr 1), (10, .val (.slice kTake)), (11, .val (.int .i64)), (12, .val (.int .i64))], objs := [.cell kProgram (.val kProgram), .map (.int .u32) (.int .i64)] }, [(.exit 0, { env := [(1, .ptr 0)], objs := [.cell kProgram (.val kProgram)] }), (.ret, { env := [(2, .val .bool)], objs := [] })]) else none, seqs := fun i => none, splits := fun i => none }
def prog_fills.sig : Sig := { args := .tc (.val kProgram) .tn, objs := [], ret := .val .bool, outs := [], F := fun x => prog_fills x.1.1 }
theorem prog_fills.eq : (fun x => body prog_fills.C prog_fills.Q Go.Proofs.Tryz.f86 prog_fills.sig.args prog_fills.sig.objs prog_fills.sig.ret prog_fills.sig.outs x) = prog_fills.sig.F := by
  kernel_rfl
set_option maxRecDepth 100000 in
theorem prog_fills.ctx : CtxOk Go.Proofs.Tryz.prog prog_fills.C := ⟨tyOk, mpOk, Nat.le_of_ble_eq_true (by kernel_rfl), fun f sg => fun h => sigs_if h (allS_cons prog_together.ok allS_nil) ((fun h => by cases h))⟩
set_option maxRecDepth 100000 in
theorem prog_fills.ok : Sound Go.Proofs.Tryz.prog 86 prog_fills.sig := body_sound (C := prog_fills.C) (q := prog_fills.Q) (fn := Go.Proofs.Tryz.f86) (sg := prog_fills.sig) (n := 1) prog_fills.ctx follows Go.Proofs.Tryz.func86 (by kernel_rfl) (by kernel_rfl) (by kernel_rfl) (by kernel_rfl) (Nat.le_of_ble_eq_true (by kernel_rfl)) (by kernel_rfl) prog_fills.eq

def prog_Good (x0 : Int) (x1 : Int) (x2 : TyPrg) : Option Bool :=
  bif decide (x0 < 1) then some false else bif decide (x0 > 4) then some false else bif decide (x1 < 1) then some false else bif decide (x1 > 4) then some false else (bif (x2.2.1 : Int) != 0 then (prog_still x2).bind fun r12 => some (((x0, (x1, ((), r12))), (x2, ()))) else some (((x0, (x1, ((), false))), (x2, ()))) : Option ((Int × Int × Unit × Bool) × TyPrg × Unit)).bind fun y13 => (bif (y13.2.1.2.1 : Int) == 0 then (prog_bare y13.2.1).bind fun r14 => bif r14 then bif ((y13.2.1.2.2.2.2.2.1.length : Int) : Int) == 0 then bif decide ((IntKind.i64.wrap y13.2.1.2.2.2.2.2.2.1) < y13.1.1) then bif decide ((IntKind.i64.wrap y13.2.1.2.2.2.2.2.2.2.2.1) < y13.1.2.1) then some (((y13.1.1, (y13.1.2.1, ((), (y13.1.2.2.2, decide (y13.2.1.2.2.2.2.2.2.2.2.2.1 ≥ 1))))), (y13.2.1, ()))) else some (((y13.1.1, (y13.1.2.1, ((), (y13.1.2.2.2, false)))), (y13.2.1, ()))) else some (((y13.1.1, (y13.1.2.1, ((), (y13.1.2.2.2, false)))), (y13.2.1, ()))) else some (((y13.1.1, (y13.1.2.1, ((), (y13.1.2.2.2, false)))), (y13.2.1, ()))) else some (((y13.1.1, (y13.1.2.1, ((), (y13.1.2.2.2, false)))), (y13.2.1, ()))) else some (((y13.1.1, (y13.1.2.1, ((), (y13.1.2.2.2, false)))), (y13.2.1, ()))) : Option ((Int × Int × Unit × Bool × Bool) × TyPrg × Unit)).bind fun y15 => bif (y15.2.1.1 : Int) == 1 then bif y15.1.2.2.2.1 then bif decide (y15.2.1.2.2.1 ≤ 1) then bif decide ((y15.2.1.2.2.2.1.length : Int) > 0) then (prog_lines y15.1.1 y15.2.1.2.2.2.1).bind fun r16 => bif r16 then (prog_takes y15.1.1 y15.1.2.1 y15.2.1).bind fun r17 => bif r17 then (prog_lines y15.1.1 y15.2.1.2.2.2.2.2.1).bind fun r18 => bif r18 then (prog_covered y15.2.1).bind fun r19 => bif r19 then bif (y15.2.1.2.2.1 : Int) == 0 then some true else some (((y15.2.1.2.2.2.2.2.1.length : Int) : Int) == 0) else some false else some false else some false else some false else some false else some false else some false else bif (y15.2.1.1 : Int) == 2 then bif y15.1.2.2.2.1 then (prog_bare y15.2.1).bind fun r20 => bif r20 then (prog_takes y15.1.1 y15.1.2.1 y15.2.1).bind fun r21 => bif r21 then (prog_lines y15.1.1 y15.2.1.2.2.2.2.2.1).bind fun r22 => bif r22 then some (decide ((IntKind.i64.wrap ((y15.2.1.2.2.2.2.1.length : Int) + (y15.2.1.2.2.2.2.2.1.length : Int))) > 0)) else some false else some false else some false else some false else (bif (y15.2.1.1 : Int) == 3 then some (((y15.1.1, (y15.1.2.1, ((), (y15.1.2.2.2.1, (y15.1.2.2.2.2, (y15.2.1.1, (y15.2.1.1 : Int) == 3)))))), (y15.2.1, ()))) else some (((y15.1.1, (y15.1.2.1, ((), (y15.1.2.2.2.1, (y15.1.2.2.2.2, (y15.2.1.1, (y15.2.1.1 : Int) == 4)))))), (y15.2.1, ()))) : Option ((Int × Int × Unit × Bool × Bool × Int × Bool) × TyPrg × Unit)).bind fun y23 => bif y23.1.2.2.2.2.2.2 then bif y23.1.2.2.2.1 then (prog_bare y23.2.1).bind fun r24 => bif r24 then (prog_takes y23.1.1 y23.1.2.1 y23.2.1).bind fun r25 => bif r25 then bif decide ((y23.2.1.2.2.2.2.1.length : Int) > 0) then some (((y23.2.1.2.2.2.2.2.1.length : Int) : Int) == 0) else some false else some false else some false else some false else bif (y23.1.2.2.2.2.2.1 : Int) == 5 then bif y23.1.2.2.2.2.1 then bif (y23.2.1.2.2.2.2.2.2.2.1 : Int) == 0 then (prog_fills y23.2.1).bind fun r26 => some r26 else some false else some false else bif (y23.1.2.2.2.2.2.1 : Int) == 6 then bif y23.1.2.2.2.2.1 then bif ((y23.2.1.2.2.2.2.1.length : Int) : Int) == 0 then bif decide ((IntKind.i64.wrap y23.2.1.2.2.2.2.2.2.2.1) < y23.1.2.1) then some ((y23.2.1.2.2.2.2.2.2.2.1 : Int) != y23.2.1.2.2.2.2.2.2.2.2.1) else some false else some false else some false else some false
def prog_Good.C : Ctx := { ty := tyT, sigs := fun i => bif Nat.beq i 81 then [prog_still.sig] else bif Nat.beq i 82 then [prog_bare.sig] else bif Nat.beq i 83 then [prog_lines.sig] else bif Nat.beq i 84 then [prog_takes.sig] else bif Nat.beq i 85 then [prog_covered.sig] else bif Nat.beq i 86 then [prog_fills.sig] else [], n := 201, mp := mpT }
def prog_Good.Q : Cuts := { np := 0, loops := fun i => none, seqs := fun i => bif Nat.beq i 4 then some [(.normal, { env := [(0, .val (.int .i64)), (1, .val (.int .i64)), (5, .ptr 0), (7, .val .bool)], objs := [.cell kProgram (.val kProgram)] })] else bif Nat.beq i 5 then some [(.normal, { env := [(0, .val (.int .i64)), (1, .val (.int .i64)), (5, .ptr 0), (7, .val .bool), (8, .val .bool)], objs := [.cell kProgram (.val kProgram)] })] else bif Nat.beq i 12 then some [(.normal, { env := [(0, .val (.int .i64)), (1, .val (.int .i64)), (5, .ptr 0), (7, .val .bool), (8, .val .bool), (63, .val (.int .u8)), (140, .val .bool)], objs := [.cell kProgram (.val kProgram)] })] else none, splits := fun i => none }
def prog_Good.sig : Sig := { args := .tc (.val (.int .i64)) (.tc (.val (.int .i64)) (.tc (.val kProgram) .tn)), objs := [], ret := .val .bool, outs := [], F := fun x => prog_Good x.1.1 x.1.2.1 x.1.2.2.1 }
theorem prog_Good.eq : (fun x => body prog_Good.C prog_Good.Q Go.Proofs.Tryz.f65 prog_Good.sig.args prog_Good.sig.objs prog_Good.sig.ret prog_Good.sig.outs x) = prog_Good.sig.F := by
  kernel_rfl
set_option maxRecDepth 100000 in
theorem prog_Good.ctx : CtxOk Go.Proofs.Tryz.prog prog_Good.C := ⟨tyOk, mpOk, Nat.le_of_ble_eq_true (by kernel_rfl), fun f sg => fun h => sigs_if h (allS_cons prog_still.ok allS_nil) (fun h => sigs_if h (allS_cons prog_bare.ok allS_nil) (fun h => sigs_if h (allS_cons prog_lines.ok allS_nil) (fun h => sigs_if h (allS_cons prog_takes.ok allS_nil) (fun h => sigs_if h (allS_cons prog_covered.ok allS_nil) (fun h => sigs_if h (allS_cons prog_fills.ok allS_nil) ((fun h => by cases h)))))))⟩
set_option maxRecDepth 100000 in
theorem prog_Good.ok : Sound Go.Proofs.Tryz.prog 65 prog_Good.sig := body_sound (C := prog_Good.C) (q := prog_Good.Q) (fn := Go.Proofs.Tryz.f65) (sg := prog_Good.sig) (n := 3) prog_Good.ctx follows Go.Proofs.Tryz.func65 (by kernel_rfl) (by kernel_rfl) (by kernel_rfl) (by kernel_rfl) (Nat.le_of_ble_eq_true (by kernel_rfl)) (by kernel_rfl) prog_Good.eq

def prog_one (x0 : Int) (x1 : Int) (x2 : Int) (x3 : Int) : Option (Int × Int × (List (Int × Int × Unit)) × Unit) :=
  some (x0, (x1, ([(x2, (x3, ()))], ())))
def prog_one.C : Ctx := { ty := tyT, sigs := fun i => [], n := 16, mp := mpT }
def prog_one.Q : Cuts := { np := 0, loops := fun i => none, seqs := fun i => none, splits := fun i => none }
def prog_one.sig : Sig := { args := .tc (.val (.int .u8)) (.tc (.val (.int .u8)) (.tc (.val (.int .u8)) (.tc (.val (.int .i64)) .tn))), objs := [], ret := .val kStep, outs := [], F := fun x => prog_one x.1.1 x.1.2.1 x.1.2.2.1 x.1.2.2.2.1 }
theorem prog_one.eq : (fun x => body prog_one.C prog_one.Q Go.Proofs.Tryz.f72 prog_one.sig.args prog_one.sig.objs prog_one.sig.ret prog_one.sig.outs x) = prog_one.sig.F := by
  kernel_rfl
set_option maxRecDepth 100000 in
theorem prog_one.ctx : CtxOk Go.Proofs.Tryz.prog prog_one.C := ⟨tyOk, mpOk, Nat.le_of_ble_eq_true (by kernel_rfl), fun f sg => (fun h => by cases h)⟩
set_option maxRecDepth 100000 in
theorem prog_one.ok : Sound Go.Proofs.Tryz.prog 72 prog_one.sig := body_sound (C := prog_one.C) (q := prog_one.Q) (fn := Go.Proofs.Tryz.f72) (sg := prog_one.sig) (n := 4) prog_one.ctx follows Go.Proofs.Tryz.func72 (by kernel_rfl) (by kernel_rfl) (by kernel_rfl) (by kernel_rfl) (Nat.le_of_ble_eq_true (by kernel_rfl)) (by kernel_rfl) prog_one.eq

def prog_tag (x0 : Int) : Option Int :=
  bif (x0 : Int) == 1 then some 1 else bif (x0 : Int) == 2 then some 2 else bif (x0 : Int) == 3 then some 3 else some 4
def prog_tag.C : Ctx := { ty := tyT, sigs := fun i => [], n := 10, mp := mpT }
def prog_tag.Q : Cuts := { np := 0, loops := fun i => none, seqs := fun i => none, splits := fun i => none }
def prog_tag.sig : Sig := { args := .tc (.val (.int .u8)) .tn, objs := [], ret := .val (.int .u8), outs := [], F := fun x => prog_tag x.1.1 }
theorem prog_tag.eq : (fun x => body prog_tag.C prog_tag.Q Go.Proofs.Tryz.f74 prog_tag.sig.args prog_tag.sig.objs prog_tag.sig.ret prog_tag.sig.outs x) = prog_tag.sig.F := by
  kernel_rfl
set_option maxRecDepth 100000 in
theorem prog_tag.ctx : CtxOk Go.Proofs.Tryz.prog prog_tag.C := ⟨tyOk, mpOk, Nat.le_of_ble_eq_true (by kernel_rfl), fun f sg => (fun h => by cases h)⟩
set_option maxRecDepth 100000 in
theorem prog_tag.ok : Sound Go.Proofs.Tryz.prog 74 prog_tag.sig := body_sound (C := prog_tag.C) (q := prog_tag.Q) (fn := Go.Proofs.Tryz.f74) (sg := prog_tag.sig) (n := 1) prog_tag.ctx follows Go.Proofs.Tryz.func74 (by kernel_rfl) (by kernel_rfl) (by kernel_rfl) (by kernel_rfl) (Nat.le_of_ble_eq_true (by kernel_rfl)) (by kernel_rfl) prog_tag.eq

def slices_Clone_api_Line_api_Line (x0 : List (Int × Int × Unit)) : Option (Unit × List (Int × Int × Unit) × Unit) :=
  room (0 + x0.length) (some ((), (x0, ())))
def slices_Clone_api_Line_api_Line.sig : Sig := { args := .tc (.val (.slice kLine)) .tn, objs := [], ret := .row 0, outs := [.row kLine false], F := fun x => slices_Clone_api_Line_api_Line x.1.1 }
set_option maxRecDepth 100000 in
theorem slices_Clone_api_Line_api_Line.ok : Sound Go.Proofs.Tryz.prog 53 slices_Clone_api_Line_api_Line.sig := clone_ok (ty := tyT) tyOk follows (fn := Go.Proofs.Tryz.f53) (t := 23) (e := kLine) Go.Proofs.Tryz.func53 (by kernel_rfl) (by kernel_rfl) (by kernel_rfl) (by kernel_rfl) (by kernel_rfl) (by kernel_rfl) (by kernel_rfl) (by kernel_rfl) (fun l => by kernel_rfl) (fun l => by kernel_rfl) (fun l => by kernel_rfl) (fun l => by kernel_rfl)

def step_atWare (x0 : Int) : Option Bool :=
  bif (x0 : Int) != 7 then some ((x0 : Int) != 8) else some false
def step_atWare.C : Ctx := { ty := tyT, sigs := fun i => [], n := 9, mp := mpT }
def step_atWare.Q : Cuts := { np := 0, loops := fun i => none, seqs := fun i => none, splits := fun i => none }
def step_atWare.sig : Sig := { args := .tc (.val (.int .u8)) .tn, objs := [], ret := .val .bool, outs := [], F := fun x => step_atWare x.1.1 }
theorem step_atWare.eq : (fun x => body step_atWare.C step_atWare.Q Go.Proofs.Tryz.f94 step_atWare.sig.args step_atWare.sig.objs step_atWare.sig.ret step_atWare.sig.outs x) = step_atWare.sig.F := by
  kernel_rfl
set_option maxRecDepth 100000 in
theorem step_atWare.ctx : CtxOk Go.Proofs.Tryz.prog step_atWare.C := ⟨tyOk, mpOk, Nat.le_of_ble_eq_true (by kernel_rfl), fun f sg => (fun h => by cases h)⟩
set_option maxRecDepth 100000 in
theorem step_atWare.ok : Sound Go.Proofs.Tryz.prog 94 step_atWare.sig := body_sound (C := step_atWare.C) (q := step_atWare.Q) (fn := Go.Proofs.Tryz.f94) (sg := step_atWare.sig) (n := 1) step_atWare.ctx follows Go.Proofs.Tryz.func94 (by kernel_rfl) (by kernel_rfl) (by kernel_rfl) (by kernel_rfl) (Nat.le_of_ble_eq_true (by kernel_rfl)) (by kernel_rfl) step_atWare.eq

def key_fine (x0 : Int) (x1 : Int) : Option Bool :=
  bif decide (x0 ≥ 1) then bif decide (x0 ≤ 4) then bif decide (x1 ≥ 1) then some (decide (x1 ≤ 4)) else some false else some false else some false
def key_fine.C : Ctx := { ty := tyT, sigs := fun i => [], n := 19, mp := mpT }
def key_fine.Q : Cuts := { np := 0, loops := fun i => none, seqs := fun i => none, splits := fun i => none }
def key_fine.sig : Sig := { args := .tc (.val (.int .i64)) (.tc (.val (.int .i64)) .tn), objs := [], ret := .val .bool, outs := [], F := fun x => key_fine x.1.1 x.1.2.1 }
theorem key_fine.eq : (fun x => body key_fine.C key_fine.Q Go.Proofs.Tryz.f95 key_fine.sig.args key_fine.sig.objs key_fine.sig.ret key_fine.sig.outs x) = key_fine.sig.F := by
  kernel_rfl
set_option maxRecDepth 100000 in
theorem key_fine.ctx : CtxOk Go.Proofs.Tryz.prog key_fine.C := ⟨tyOk, mpOk, Nat.le_of_ble_eq_true (by kernel_rfl), fun f sg => (fun h => by cases h)⟩
set_option maxRecDepth 100000 in
theorem key_fine.ok : Sound Go.Proofs.Tryz.prog 95 key_fine.sig := body_sound (C := key_fine.C) (q := key_fine.Q) (fn := Go.Proofs.Tryz.f95) (sg := key_fine.sig) (n := 2) key_fine.ctx follows Go.Proofs.Tryz.func95 (by kernel_rfl) (by kernel_rfl) (by kernel_rfl) (by kernel_rfl) (Nat.le_of_ble_eq_true (by kernel_rfl)) (by kernel_rfl) key_fine.eq

def key_both (x0 : Int) : Option Bool :=
  bif (x0 : Int) == 1 then some true else some ((x0 : Int) == 2)
def key_both.C : Ctx := { ty := tyT, sigs := fun i => [], n := 9, mp := mpT }
def key_both.Q : Cuts := { np := 0, loops := fun i => none, seqs := fun i => none, splits := fun i => none }
def key_both.sig : Sig := { args := .tc (.val (.int .u8)) .tn, objs := [], ret := .val .bool, outs := [], F := fun x => key_both x.1.1 }
theorem key_both.eq : (fun x => body key_both.C key_both.Q Go.Proofs.Tryz.f96 key_both.sig.args key_both.sig.objs key_both.sig.ret key_both.sig.outs x) = key_both.sig.F := by
  kernel_rfl
set_option maxRecDepth 100000 in
theorem key_both.ctx : CtxOk Go.Proofs.Tryz.prog key_both.C := ⟨tyOk, mpOk, Nat.le_of_ble_eq_true (by kernel_rfl), fun f sg => (fun h => by cases h)⟩
set_option maxRecDepth 100000 in
theorem key_both.ok : Sound Go.Proofs.Tryz.prog 96 key_both.sig := body_sound (C := key_both.C) (q := key_both.Q) (fn := Go.Proofs.Tryz.f96) (sg := key_both.sig) (n := 1) key_both.ctx follows Go.Proofs.Tryz.func96 (by kernel_rfl) (by kernel_rfl) (by kernel_rfl) (by kernel_rfl) (Nat.le_of_ble_eq_true (by kernel_rfl)) (by kernel_rfl) key_both.eq

def key_Good (x0 : Int) (x1 : Int) (x2 : Int × Int × Int × Unit) : Option Bool :=
  (key_fine x0 x1).bind fun r29 => bif !r29 then some false else bif decide (x2.1 < 1) then some false else bif decide (x2.1 > 4) then some false else bif decide ((IntKind.i64.wrap x2.2.1) ≥ x0) then some false else (key_both x2.1).bind fun r30 => bif r30 then bif decide ((IntKind.i64.wrap x2.2.2.1) < x1) then some true else (key_both x2.1).bind fun r31 => bif !r31 then some ((x2.2.2.1 : Int) == 0) else some false else (key_both x2.1).bind fun r32 => bif !r32 then some ((x2.2.2.1 : Int) == 0) else some false
def key_Good.C : Ctx := { ty := tyT, sigs := fun i => bif Nat.beq i 95 then [key_fine.sig] else bif Nat.beq i 96 then [key_both.sig] else [], n := 49, mp := mpT }
def key_Good.Q : Cuts := { np := 0, loops := fun i => none, seqs := fun i => none, splits := fun i => none }
def key_Good.sig : Sig := { args := .tc (.val (.int .i64)) (.tc (.val (.int .i64)) (.tc (.val kKey) .tn)), objs := [], ret := .val .bool, outs := [], F := fun x => key_Good x.1.1 x.1.2.1 x.1.2.2.1 }
theorem key_Good.eq : (fun x => body key_Good.C key_Good.Q Go.Proofs.Tryz.f76 key_Good.sig.args key_Good.sig.objs key_Good.sig.ret key_Good.sig.outs x) = key_Good.sig.F := by
  kernel_rfl
set_option maxRecDepth 100000 in
theorem key_Good.ctx : CtxOk Go.Proofs.Tryz.prog key_Good.C := ⟨tyOk, mpOk, Nat.le_of_ble_eq_true (by kernel_rfl), fun f sg => fun h => sigs_if h (allS_cons key_fine.ok allS_nil) (fun h => sigs_if h (allS_cons key_both.ok allS_nil) ((fun h => by cases h)))⟩
set_option maxRecDepth 100000 in
theorem key_Good.ok : Sound Go.Proofs.Tryz.prog 76 key_Good.sig := body_sound (C := key_Good.C) (q := key_Good.Q) (fn := Go.Proofs.Tryz.f76) (sg := key_Good.sig) (n := 3) key_Good.ctx follows Go.Proofs.Tryz.func76 (by kernel_rfl) (by kernel_rfl) (by kernel_rfl) (by kernel_rfl) (Nat.le_of_ble_eq_true (by kernel_rfl)) (by kernel_rfl) key_Good.eq

def step_Good.l1 (v : (Int × Int × Unit × (List (Int × Int × Unit)) × Int × Int) × (Int × Int × (List (Int × Int × Unit)) × Unit) × Unit) : Option (((Int × Int × Unit × (List (Int × Int × Unit)) × Int × Int) × (Int × Int × (List (Int × Int × Unit)) × Unit) × Unit) ⊕ (Unit ⊕ Bool)) :=
  bif decide (v.1.2.2.2.2.2 < v.1.2.2.2.2.1) then nthK v.1.2.2.2.1 v.1.2.2.2.2.2 fun e27 => bif decide (e27.2.1 < 1) then some (Sum.inr (Sum.inr false)) else bif decide (v.1.2.2.2.2.2 > 0) then nthK v.2.1.2.2.1 (IntKind.i64.wrap (v.1.2.2.2.2.2 - 1)) fun e28 => bif decide (e28.1 ≥ e27.1) then some (Sum.inr (Sum.inr false)) else (key_Good v.1.1 v.1.2.1 (1, (e27.1, (v.2.1.2.1, ())))).bind fun r29 => bif !r29 then some (Sum.inr (Sum.inr false)) else some (Sum.inl ((v.1.1, (v.1.2.1, ((), (v.1.2.2.2.1, (v.1.2.2.2.2.1, IntKind.i64.wrap (v.1.2.2.2.2.2 + 1)))))), (v.2.1, ()))) else (key_Good v.1.1 v.1.2.1 (1, (e27.1, (v.2.1.2.1, ())))).bind fun r30 => bif !r30 then some (Sum.inr (Sum.inr false)) else some (Sum.inl ((v.1.1, (v.1.2.1, ((), (v.1.2.2.2.1, (v.1.2.2.2.2.1, IntKind.i64.wrap (v.1.2.2.2.2.2 + 1)))))), (v.2.1, ()))) else some (Sum.inr (Sum.inl ()))
def step_Good (x0 : Int) (x1 : Int) (x2 : Int × Int × (List (Int × Int × Unit)) × Unit) : Option Bool :=
  (bif decide (x2.1 < 1) then some (Sum.inr false) else bif decide (x2.1 > 8) then some (Sum.inr false) else bif decide ((x2.2.2.1.length : Int) < 1) then some (Sum.inr false) else bif decide ((x2.2.2.1.length : Int) > 3) then some (Sum.inr false) else (step_atWare x2.1).bind fun r23 => bif !r23 then bif (x2.2.1 : Int) != 0 then some (Sum.inr false) else some (Sum.inl ((x0, (x1, ())), (x2, ()))) else some (Sum.inl ((x0, (x1, ())), (x2, ()))) : Option (((Int × Int × Unit) × (Int × Int × (List (Int × Int × Unit)) × Unit) × Unit) ⊕ Bool)).bind fun y24 => (match y24 with | .inl y25 => (iterL step_Good.l1 loopN ((y25.1.1, (y25.1.2.1, ((), (y25.2.1.2.2.1, ((y25.2.1.2.2.1.length : Int), 0))))), (y25.2.1, ()))).bind fun y31 => (match y31 with | .inl y32 => some true | .inr y33 => some y33) | .inr y26 => some y26)
def step_Good.C : Ctx := { ty := tyT, sigs := fun i => bif Nat.beq i 76 then [key_Good.sig] else bif Nat.beq i 94 then [step_atWare.sig] else [], n := 79, mp := mpT }
def step_Good.Q : Cuts := { np := 0, loops := fun i => bif Nat.beq i 4 then some ({ env := [(0, .val (.int .i64)), (1, .val (.int .i64)), (5, .ptr 0), (41, .val (.slice kLine)), (42, .val (.int .i64)), (43, .val (.int .i64))], objs := [.cell kStep (.val kStep)] }, [(.exit 0, { env := [], objs := [] }), (.ret, { env := [(6, .val .bool)], objs := [] })]) else none, seqs := fun i => bif Nat.beq i 3 then some [(.normal, { env := [(0, .val (.int .i64)), (1, .val (.int .i64)), (5, .ptr 0)], objs := [.cell kStep (.val kStep)] }), (.ret, { env := [(6, .val .bool)], objs := [] })] else none, splits := fun i => none }
def step_Good.sig : Sig := { args := .tc (.val (.int .i64)) (.tc (.val (.int .i64)) (.tc (.val kStep) .tn)), objs := [], ret := .val .bool, outs := [], F := fun x => step_Good x.1.1 x.1.2.1 x.1.2.2.1 }
theorem step_Good.eq : (fun x => body step_Good.C step_Good.Q Go.Proofs.Tryz.f75 step_Good.sig.args step_Good.sig.objs step_Good.sig.ret step_Good.sig.outs x) = step_Good.sig.F := by
  kernel_rfl
set_option maxRecDepth 100000 in
theorem step_Good.ctx : CtxOk Go.Proofs.Tryz.prog step_Good.C := ⟨tyOk, mpOk, Nat.le_of_ble_eq_true (by kernel_rfl), fun f sg => fun h => sigs_if h (allS_cons key_Good.ok allS_nil) (fun h => sigs_if h (allS_cons step_atWare.ok allS_nil) ((fun h => by cases h)))⟩
set_option maxRecDepth 100000 in
theorem step_Good.ok : Sound Go.Proofs.Tryz.prog 75 step_Good.sig := body_sound (C := step_Good.C) (q := step_Good.Q) (fn := Go.Proofs.Tryz.f75) (sg := step_Good.sig) (n := 3) step_Good.ctx follows Go.Proofs.Tryz.func75 (by kernel_rfl) (by kernel_rfl) (by kernel_rfl) (by kernel_rfl) (Nat.le_of_ble_eq_true (by kernel_rfl)) (by kernel_rfl) step_Good.eq

abbrev prog_Steps.TK := Int × Int × Int × Int × Unit
abbrev prog_Steps.LN := Int × Int × Unit
abbrev prog_Steps.PR := Int × Int × Int × List prog_Steps.LN × List prog_Steps.TK × List prog_Steps.LN × Int × Int × Int × Int × Unit
abbrev prog_Steps.SP := Int × Int × List prog_Steps.LN × Unit
/-- The steps at warehouses, take by take. -/
def prog_Steps.stepsGo (tg : Int) (pt : List prog_Steps.TK) : Nat → List prog_Steps.TK → List prog_Steps.SP → Option (List prog_Steps.SP)
  | _, [], acc => some acc
  | i, x :: l, acc => (match i with | 0 => some true | j + 1 => (pt[j]?).map fun (y : prog_Steps.TK) => (y.2.2.1 != x.2.2.1)).bind fun nw =>
    match nw with
    | true => prog_Steps.stepsGo tg pt (i + 1) l (acc ++ [(tg, (x.2.2.1, ([(x.2.1, (x.2.2.2.1, ()))], ())))])
    | false => match acc.getLast? with
      | none => none
      | some z => prog_Steps.stepsGo tg pt (i + 1) l (acc.dropLast ++ [(z.1, (z.2.1, (z.2.2.1 ++ [(x.2.1, (x.2.2.2.1, ()))], ())))])
def prog_Steps.stepsG (v : (Unit × Unit × List prog_Steps.TK × Int × Int) × (prog_Steps.PR × Unit)) : Option ((Unit × Unit) × (prog_Steps.PR × List prog_Steps.SP × Unit)) :=
  bif decide (v.1.2.2.2.1 = v.1.2.2.1.length) && (decide (v.1.2.2.2.2 = 0) && Nat.ble v.1.2.2.1.length 100000) then
    (prog_tag v.2.1.1).bind fun tg => (prog_Steps.stepsGo tg v.2.1.2.2.2.2.1 0 v.1.2.2.1 []).map fun l => (((), ()), (v.2.1, (l, ())))
  else none
def prog_Steps.g14 : Given := { hd := { env := [(1, .ptr 0), (6, .nils kStep), (67, .val (.slice kTake)), (68, .val (.int .i64)), (69, .val (.int .i64))], objs := [.cell kProgram (.val kProgram)] }, outs := [(.exit 1, { env := [(1, .ptr 0), (6, .row 1)], objs := [.cell kProgram (.val kProgram), .row kStep false] })], G := prog_Steps.stepsG }

def prog_Steps.l1 (v : (Unit × Int × Int) × (List (Int × Int × (List (Int × Int × Unit)) × Unit)) × Unit) : Option (((Unit × Int × Int) × (List (Int × Int × (List (Int × Int × Unit)) × Unit)) × Unit) ⊕ ((Unit × (List (Int × Int × (List (Int × Int × Unit)) × Unit)) × Unit) ⊕ Unit)) :=
  bif decide (v.1.2.2 < v.1.2.1) then chk (decide (0 ≤ v.1.2.2) && decide (v.1.2.2 < (v.2.1.length : Int))) (nthK v.2.1 v.1.2.2 fun e22 => (step_Good 4 4 e22).bind fun r23 => bif !r23 then some (Sum.inr (Sum.inr ())) else some (Sum.inl (((), (v.1.2.1, IntKind.i64.wrap (v.1.2.2 + 1))), (v.2.1, ())))) else some (Sum.inr (Sum.inl ((), (v.2.1, ()))))
def prog_Steps (x0 : TyPrg) : Option (List (Int × Int × (List (Int × Int × Unit)) × Unit)) :=
  (prog_Good 4 4 x0).bind fun r12 => bif !r12 then some [] else bif (x0.1 : Int) == 6 then (prog_one 6 x0.2.2.2.2.2.2.2.1 x0.2.2.2.2.2.2.1 x0.2.2.2.2.2.2.2.2.2.1).bind fun r13 => (prog_one 5 x0.2.2.2.2.2.2.2.2.1 x0.2.2.2.2.2.2.1 x0.2.2.2.2.2.2.2.2.2.1).bind fun r14 => some [r13, r14] else bif (x0.1 : Int) == 5 then (prog_one 5 x0.2.2.2.2.2.2.2.2.1 x0.2.2.2.2.2.2.1 x0.2.2.2.2.2.2.2.2.2.1).bind fun r15 => (prog_together x0.2.2.2.2.1).bind fun r16 => bif decide (r16.1 > 0) then (prog_one 1 x0.2.2.2.2.2.2.2.2.1 x0.2.2.2.2.2.2.1 r16.1).bind fun r17 => (prog_one 8 0 x0.2.2.2.2.2.2.1 r16.1).bind fun r18 => room ([r15].length + [r17, r18].length) (some ([r15] ++ [r17, r18])) else some [r15] else (prog_Steps.stepsG (((), ((), (x0.2.2.2.2.1, ((x0.2.2.2.2.1.length : Int), 0)))), (x0, ()))).bind fun y19 => (bif decide ((y19.2.1.2.2.2.2.2.1.length : Int) > 0) then (slices_Clone_api_Line_api_Line y19.2.1.2.2.2.2.2.1).bind fun r20 => bif (y19.2.1.1 : Int) == 2 then room (y19.2.2.1.length + [(8, (0, (r20.2.1, ())))].length) (some (((), (y19.2.2.1 ++ [(8, (0, (r20.2.1, ())))], ())))) else room (y19.2.2.1.length + [(7, (0, (r20.2.1, ())))].length) (some (((), (y19.2.2.1 ++ [(7, (0, (r20.2.1, ())))], ())))) else some (((), (y19.2.2.1, ()))) : Option (Unit × (List (Int × Int × (List (Int × Int × Unit)) × Unit)) × Unit)).bind fun y21 => (iterL prog_Steps.l1 loopN (((), ((y21.2.1.length : Int), 0)), (y21.2.1, ()))).bind fun y24 => (match y24 with | .inl y25 => some y25.2.1 | .inr y26 => some [])
def prog_Steps.C : Ctx := { ty := tyT, sigs := fun i => bif Nat.beq i 53 then [slices_Clone_api_Line_api_Line.sig] else bif Nat.beq i 65 then [prog_Good.sig] else bif Nat.beq i 72 then [prog_one.sig] else bif Nat.beq i 73 then [prog_together.sig] else bif Nat.beq i 74 then [prog_tag.sig] else bif Nat.beq i 75 then [step_Good.sig] else [], n := 146, mp := mpT }
def prog_Steps.Q : Cuts := { np := 0, loops := fun i => bif Nat.beq i 27 then some ({ env := [(6, .row 0), (134, .val (.int .i64)), (135, .val (.int .i64))], objs := [.row kStep false] }, [(.exit 3, { env := [(6, .row 0)], objs := [.row kStep false] }), (.ret, { env := [(2, .nils kStep)], objs := [] })]) else none, seqs := fun i => bif Nat.beq i 26 then some [(.normal, { env := [(6, .row 0)], objs := [.row kStep false] })] else none, splits := fun i => none, given := fun k i => bif Nat.beq k 0 && Nat.beq i 14 then some prog_Steps.g14 else none }
def prog_Steps.sig : Sig := { args := .tc (.val kProgram) .tn, objs := [], ret := .val (.slice kStep), outs := [], F := fun x => prog_Steps x.1.1 }
theorem prog_Steps.eq : (fun x => body prog_Steps.C prog_Steps.Q Go.Proofs.Tryz.f50 prog_Steps.sig.args prog_Steps.sig.objs prog_Steps.sig.ret prog_Steps.sig.outs x) = prog_Steps.sig.F := by
  kernel_rfl
set_option maxRecDepth 100000 in
theorem prog_Steps.ctx : CtxOk Go.Proofs.Tryz.prog prog_Steps.C := ⟨tyOk, mpOk, Nat.le_of_ble_eq_true (by kernel_rfl), fun f sg => fun h => sigs_if h (allS_cons slices_Clone_api_Line_api_Line.ok allS_nil) (fun h => sigs_if h (allS_cons prog_Good.ok allS_nil) (fun h => sigs_if h (allS_cons prog_one.ok allS_nil) (fun h => sigs_if h (allS_cons prog_together.ok allS_nil) (fun h => sigs_if h (allS_cons prog_tag.ok allS_nil) (fun h => sigs_if h (allS_cons step_Good.ok allS_nil) ((fun h => by cases h)))))))⟩
def prog_Steps.CR : Ctx := { ty := lookK [(1, .ref 2), (2, .int .i64), (3, .int .i64), (4, .bool), (5, .int .u8), (22, .int .u32), (23, .hdr), (24, .slice kTake), (25, .cons (.int .u8) (.cons (.int .u32) (.cons (.int .u8) (.cons .hdr (.cons (.slice kTake) (.cons .hdr (.cons (.int .u8) (.cons (.int .u8) kLine)))))))), (26, .cons (.int .u8) (.cons (.int .u32) (.cons (.int .u8) (.cons .hdr (.cons (.slice kTake) (.cons .hdr (.cons (.int .u8) (.cons (.int .u8) kLine)))))))), (64, kTake), (65, kTake), (66, kLine), (67, kLine), (68, .cons (.int .u8) (.cons (.int .u8) (.cons .hdr .unit))), (69, .cons (.int .u8) (.cons (.int .u8) (.cons .hdr .unit))), (99, .slice (.cons (.int .u8) (.cons (.int .u8) (.cons .hdr .unit)))), (129, .ref 0)], sigs := fun i => bif Nat.beq i 74 then [prog_tag.sig] else [], n := prog_Steps.C.n, mp := fun _ => none }
set_option maxRecDepth 100000 in
theorem prog_Steps.ctxR : CtxOk Go.Proofs.Tryz.prog prog_Steps.CR := ⟨tyOk_of (l := [(1, .ref 2), (2, .int .i64), (3, .int .i64), (4, .bool), (5, .int .u8), (22, .int .u32), (23, .hdr), (24, .slice kTake), (25, .cons (.int .u8) (.cons (.int .u32) (.cons (.int .u8) (.cons .hdr (.cons (.slice kTake) (.cons .hdr (.cons (.int .u8) (.cons (.int .u8) kLine)))))))), (26, .cons (.int .u8) (.cons (.int .u32) (.cons (.int .u8) (.cons .hdr (.cons (.slice kTake) (.cons .hdr (.cons (.int .u8) (.cons (.int .u8) kLine)))))))), (64, kTake), (65, kTake), (66, kLine), (67, kLine), (68, .cons (.int .u8) (.cons (.int .u8) (.cons .hdr .unit))), (69, .cons (.int .u8) (.cons (.int .u8) (.cons .hdr .unit))), (99, .slice (.cons (.int .u8) (.cons (.int .u8) (.cons .hdr .unit)))), (129, .ref 0)]) (fun _ => rfl) (by kernel_rfl) (by kernel_rfl), (fun t k v h => by cases h), Nat.le_of_ble_eq_true (by kernel_rfl), fun f sg => fun h => sigs_if h (allS_cons prog_tag.ok allS_nil) (fun h => by cases h)⟩
def prog_Steps.bodyL (f : Func) : Code := .seq (.region 14 (rops (bodyOf f) 14) false) (.seq (.cond (.tmp 70) .skip (.exit 1)) (.seq (.block 2 (.seq (.region 15 (rops (bodyOf f) 15) false) (.seq (.seq (.region 16 (rops (bodyOf f) 16) true) (.cond (.tmp 87) (.region 17 (rops (bodyOf f) 17) true) .skip)) (.seq (.region 18 (rops (bodyOf f) 18) false) (.region 19 (rops (bodyOf f) 19) true))))) (.region 20 (rops (bodyOf f) 20) false)))
theorem prog_Steps.givens : givens prog_Steps.Q (bodyOf Go.Proofs.Tryz.f50) = [(.loop (prog_Steps.bodyL Go.Proofs.Tryz.f50), prog_Steps.g14)] := by kernel_rfl
abbrev prog_Steps.KP : K := hK kLine kProgram
abbrev prog_Steps.KS : K := .cons (.int .u8) (.cons (.int .u8) (.cons .hdr .unit))
abbrev prog_Steps.PH := Int × Int × Int × Value × List prog_Steps.TK × Value × Int × Int × Int × Int × Unit
abbrev prog_Steps.SH := Int × Int × Value × Unit
def prog_Steps.E0 (takes : List prog_Steps.TK) (n i : Int) : List (Nat × T) := [(1, .ptr 0 []), (6, .row 1), (67, .val (.slice kTake) takes), (68, .val (.int .i64) n), (69, .val (.int .i64) i)]
def prog_Steps.O0 (p : prog_Steps.PH) (L : List prog_Steps.SH) (items : List prog_Steps.LN) : List (Nat × D.Obj) := [(0, .cell prog_Steps.KP false (.val prog_Steps.KP p)), (1, .row prog_Steps.KS false L), (2, .row kLine false items)]
def prog_Steps.E14 (takes : List prog_Steps.TK) (n i : Int) : List (Nat × T) := [(1, .ptr 0 []), (6, .row 1), (67, .val (.slice kTake) takes), (68, .val (.int .i64) n), (69, .val (.int .i64) i), (70, .val .bool (decide (i < n)))]
def prog_Steps.E15 (takes : List prog_Steps.TK) (n i : Int) : List (Nat × T) := [(1, .ptr 0 []), (6, .row 1), (67, .val (.slice kTake) takes), (68, .val (.int .i64) n), (69, .val (.int .i64) i), (7, .val (.int .i64) i), (8, .ptr 1008 [])]
def prog_Steps.O15 (p : prog_Steps.PH) (L : List prog_Steps.SH) (items : List prog_Steps.LN) (x : prog_Steps.TK) : List (Nat × D.Obj) := [(0, .cell prog_Steps.KP false (.val prog_Steps.KP p)), (1, .row prog_Steps.KS false L), (2, .row kLine false items), (1008, .cell kTake false (.val kTake x))]
def prog_Steps.E16 (takes : List prog_Steps.TK) (n i : Int) (b : Bool) : List (Nat × T) := [(1, .ptr 0 []), (6, .row 1), (67, .val (.slice kTake) takes), (68, .val (.int .i64) n), (69, .val (.int .i64) i), (8, .ptr 1008 []), (87, .val .bool b)]
def prog_Steps.E17 (takes : List prog_Steps.TK) (n i : Int) : List (Nat × T) := [(1, .ptr 0 []), (6, .row 1096), (67, .val (.slice kTake) takes), (68, .val (.int .i64) n), (69, .val (.int .i64) i), (8, .ptr 1008 [])]
def prog_Steps.O17 (p : prog_Steps.PH) (L : List prog_Steps.SH) (items : List prog_Steps.LN) (x : prog_Steps.TK) (tg : Int) : List (Nat × D.Obj) := [(0, .cell prog_Steps.KP false (.val prog_Steps.KP p)), (1096, .row prog_Steps.KS false (L ++ [((tg, (x.2.2.1, ((Value.slice none 0 0), ()))) : prog_Steps.SH)])), (1008, .cell kTake false (.val kTake x)), (2, .row kLine false items)]
def prog_Steps.Em (takes : List prog_Steps.TK) (n i : Int) : List (Nat × T) := [(1, .ptr 0 []), (6, .row 1), (67, .val (.slice kTake) takes), (68, .val (.int .i64) n), (69, .val (.int .i64) i), (8, .ptr 3 [])]
def prog_Steps.Om (p : prog_Steps.PH) (L : List prog_Steps.SH) (items : List prog_Steps.LN) (x : prog_Steps.TK) : List (Nat × D.Obj) := [(0, .cell prog_Steps.KP false (.val prog_Steps.KP p)), (1, .row prog_Steps.KS false L), (2, .row kLine false items), (3, .cell kTake false (.val kTake x))]
def prog_Steps.E18 (takes : List prog_Steps.TK) (n i k : Int) : List (Nat × T) := [(1, .ptr 0 []), (6, .row 1), (67, .val (.slice kTake) takes), (68, .val (.int .i64) n), (69, .val (.int .i64) i), (8, .ptr 3 []), (9, .ptr 1 [.idx k])]
def prog_Steps.Eg (takes : List prog_Steps.TK) (n i : Int) (v : Value) : List (Nat × T) := [(1, .ptr 0 []), (6, .val .hdr v), (67, .val (.slice kTake) takes), (68, .val (.int .i64) n), (69, .val (.int .i64) i), (8, .ptr 3 []), (9, .ptr 99011 [])]
def prog_Steps.lastT (a b : Int) (r : Nat) : T := .pair (.val (.int .u8) a) (.pair (.val (.int .u8) b) (.pair (.row r) (.val .unit ())))
def prog_Steps.Og (p : prog_Steps.PH) (Lc : List prog_Steps.SH) (items : List prog_Steps.LN) (x : prog_Steps.TK) (a b : Int) : List (Nat × D.Obj) := [(0, .cell prog_Steps.KP false (.val prog_Steps.KP p)), (2, .row kLine false items), (3, .cell kTake false (.val kTake x)), (99010, .row prog_Steps.KS false Lc), (99011, .cell kStep false (prog_Steps.lastT a b 2)), (99012, .row prog_Steps.KS false [])]
def prog_Steps.E19 (takes : List prog_Steps.TK) (n i : Int) (v : Value) : List (Nat × T) := [(1, .ptr 0 []), (6, .val .hdr v), (67, .val (.slice kTake) takes), (68, .val (.int .i64) n), (69, .val (.int .i64) i), (113, .row 1113)]
def prog_Steps.O19 (p : prog_Steps.PH) (Lc : List prog_Steps.SH) (items : List prog_Steps.LN) (x : prog_Steps.TK) (a b : Int) : List (Nat × D.Obj) := [(0, .cell prog_Steps.KP false (.val prog_Steps.KP p)), (1113, .row kLine false (items ++ [((x.2.1, (x.2.2.2.1, ())) : prog_Steps.LN)])), (99010, .row prog_Steps.KS false Lc), (99011, .cell kStep false (prog_Steps.lastT a b 1113)), (99012, .row prog_Steps.KS false [])]
def prog_Steps.Ej (takes : List prog_Steps.TK) (n i : Int) : List (Nat × T) := [(1, .ptr 0 []), (6, .row 99020), (67, .val (.slice kTake) takes), (68, .val (.int .i64) n), (69, .val (.int .i64) i)]
def prog_Steps.Oj (p : prog_Steps.PH) (L : List prog_Steps.SH) (items : List prog_Steps.LN) : List (Nat × D.Obj) := [(0, .cell prog_Steps.KP false (.val prog_Steps.KP p)), (99020, .row prog_Steps.KS false L), (1113, .row kLine false items)]

section
variable (takes : List prog_Steps.TK) (n i k : Int) (p : prog_Steps.PH) (L : List prog_Steps.SH) (items : List prog_Steps.LN) (x : prog_Steps.TK) (a b : Int) (v : Value) (q : Bool)
theorem prog_Steps.e14 : evalReg prog_Steps.CR false (rops (bodyOf Go.Proofs.Tryz.f50) 14).toList (mkS (prog_Steps.E0 takes n i) (prog_Steps.O0 p L items) []) (fun sF => some (facts [1, 6, 67, 68, 69, 70] [0, 1, 2] sF)) = some (told (prog_Steps.E14 takes n i) (prog_Steps.O0 p L items) []) := by kernel_rfl
theorem prog_Steps.e15 : evalReg prog_Steps.CR false (rops (bodyOf Go.Proofs.Tryz.f50) 15).toList (mkS (prog_Steps.E14 takes n i) (prog_Steps.O0 p L items) []) (fun sF => some (facts [1, 6, 67, 68, 69, 7, 8] [0, 1, 2, 1008] sF)) = nthK takes i fun x => some (told (prog_Steps.E15 takes n i) (prog_Steps.O15 p L items x) [8]) := by kernel_rfl
theorem prog_Steps.e16 : evalReg prog_Steps.CR true (rops (bodyOf Go.Proofs.Tryz.f50) 16).toList (mkS (prog_Steps.E15 takes n i) (prog_Steps.O15 p L items x) [8]) (fun sF => some (facts [1, 6, 67, 68, 69, 8, 87] [0, 1, 2, 1008] sF)) =
    bif i == 0 then some (told (prog_Steps.E16 takes n i true) (prog_Steps.O15 p L items x) [8]) else nthK p.2.2.2.2.1 (IntKind.i64.wrap (i - 1)) fun y => some (told (prog_Steps.E16 takes n i (y.2.2.1 != x.2.2.1)) (prog_Steps.O15 p L items x) [8]) := by kernel_rfl
theorem prog_Steps.e17 : evalReg prog_Steps.CR true (rops (bodyOf Go.Proofs.Tryz.f50) 17).toList (mkS (prog_Steps.E16 takes n i q) (prog_Steps.O15 p L items x) [8]) (fun sF => some (facts [1, 6, 67, 68, 69, 8] [0, 1096, 1008, 2] sF)) =
    (prog_tag p.1).bind fun tg => room (L.length + 1) (some (told (prog_Steps.E17 takes n i) (prog_Steps.O17 p L items x tg) [96, 95, 91, 8])) := by kernel_rfl
theorem prog_Steps.e18 : evalReg prog_Steps.CR false (rops (bodyOf Go.Proofs.Tryz.f50) 18).toList (mkS (prog_Steps.Em takes n i) (prog_Steps.Om p L items x) []) (fun sF => some (facts [1, 6, 67, 68, 69, 8, 9] [0, 1, 2, 3] sF)) =
    chk (decide (0 ≤ IntKind.i64.wrap ((L.length : Int) - 1)) && decide (IntKind.i64.wrap ((L.length : Int) - 1) < (L.length : Int))) (some (told (prog_Steps.E18 takes n i (IntKind.i64.wrap ((L.length : Int) - 1))) (prog_Steps.Om p L items x) [])) := by kernel_rfl
theorem prog_Steps.e19 : evalReg prog_Steps.C true (rops (bodyOf Go.Proofs.Tryz.f50) 19).toList (mkS (prog_Steps.Eg takes n i v) (prog_Steps.Og p L items x a b) [98010, 98011, 98012]) (fun sF => some (facts [1, 6, 67, 68, 69, 113] [0, 1113, 99010, 99011, 99012] sF)) =
    room (items.length + 1) (some (told (prog_Steps.E19 takes n i v) (prog_Steps.O19 p L items x a b) [113, 112, 98010, 98011, 98012])) := by kernel_rfl
theorem prog_Steps.e20 : evalReg prog_Steps.CR false (rops (bodyOf Go.Proofs.Tryz.f50) 20).toList (mkS (prog_Steps.Ej takes n i) (prog_Steps.Oj p L items) [98020, 113, 112, 98010, 98011, 98012]) (fun sF => some (facts [1, 6, 67, 68, 69] [0, 99020, 1113] sF)) =
    some (told (prog_Steps.Ej takes n (IntKind.i64.wrap (i + 1))) (prog_Steps.Oj p L items) [98020, 113, 112, 98010, 98011, 98012]) := by kernel_rfl
end

def prog_Steps.Clo (w : World) (S : Cells) (Lc : List prog_Steps.SH) (Dc : List prog_Steps.SP) : Prop := Lc.length = Dc.length ∧ ∀ (k : Nat) (x : prog_Steps.SH) (y : prog_Steps.SP), Lc[k]? = some x → Dc[k]? = some y → x.1 = y.1 ∧ x.2.1 = y.2.1 ∧ Rep w S (.slice kLine) y.2.2.1 [x.2.2.1]
theorem prog_Steps.Clo.keep {w w' : World} {S S' : Cells} {Lc : List prog_Steps.SH} {Dc : List prog_Steps.SP} (h : prog_Steps.Clo w S Lc Dc) (k : Keeps w S w' S') : prog_Steps.Clo w' S' Lc Dc :=
  ⟨h.1, fun i x y a b => let ⟨c, d, e⟩ := h.2 i x y a b; ⟨c, d, e.keep k⟩⟩
theorem prog_Steps.Clo.snoc {w : World} {S : Cells} {Lc : List prog_Steps.SH} {Dc : List prog_Steps.SP} (h : prog_Steps.Clo w S Lc Dc) {x : prog_Steps.SH} {y : prog_Steps.SP} (h1 : x.1 = y.1) (h2 : x.2.1 = y.2.1) (h3 : Rep w S (.slice kLine) y.2.2.1 [x.2.2.1]) : prog_Steps.Clo w S (Lc ++ [x]) (Dc ++ [y]) := by
  refine ⟨by simp [h.1], fun k x' y' hx hy => ?_⟩
  by_cases hk : k < Lc.length
  · rw [List.getElem?_append_left hk] at hx
    rw [List.getElem?_append_left (by rw [← h.1]; exact hk)] at hy
    exact h.2 k x' y' hx hy
  · have hk2 : k = Lc.length := by have := (List.getElem?_eq_some_iff.1 hx).1; simp at this; omega
    subst hk2
    rw [h.1] at hy
    simp at hx hy
    subst hx; subst hy
    exact ⟨h1, h2, h3⟩
def prog_Steps.Link (w : World) (S : Cells) (m : Nat → Option MB) (L : List prog_Steps.SH) (D : List prog_Steps.SP) (items : List prog_Steps.LN) : Prop :=
  (L = [] ∧ D = []) ∨ ∃ Lc Dc a b hv u, L = Lc ++ [((a, (b, (hv, ()))) : prog_Steps.SH)] ∧ D = Dc ++ [((a, (b, (items, ()))) : prog_Steps.SP)] ∧ prog_Steps.Clo w S Lc Dc ∧ m 2 = some u ∧ u.hv = hv
def prog_Steps.Back (w : World) (S : Cells) (p : prog_Steps.PH) (pd : prog_Steps.PR) : Prop := ∀ (w' : World) (S' : Cells) (cs : List Value), Keeps w S w' S' → Rep w' S' prog_Steps.KP p cs → Rep w' S' kProgram pd cs

section
variable {O0 : Cells} {w0 : World} {S0 : Cells} {m0 : Nat → Option MB}
theorem prog_Steps.tail {takes : List prog_Steps.TK} {n i : Int} {p : prog_Steps.PH} {x : prog_Steps.TK} {Lc : List prog_Steps.SH} {a b : Int} {hv : Value} {items : List prog_Steps.LN} {u : MB} {act : Act} {w : World} {S : Cells} {m : Nat → Option MB}
    (h : At prog_Steps.C 0 O0 w0 S0 m0 (mkS (prog_Steps.Em takes n i) (prog_Steps.Om p (Lc ++ [((a, (b, (hv, ()))) : prog_Steps.SH)]) items x) []) act w S m) (hu : m 2 = some u) (hv' : u.hv = hv) (hl : Lc.length < 1000000) (hi : items.length < 1000000)
    (Q : Exit → Act → World → Prop) (hQ : ∀ act' w' S' m' u', At prog_Steps.C 0 O0 w0 S0 m0 (mkS (prog_Steps.Ej takes n i) (prog_Steps.Oj p (Lc ++ [((a, (b, (u'.hv, ()))) : prog_Steps.SH)]) (items ++ [((x.2.1, (x.2.2.2.1, ())) : prog_Steps.LN)])) [98020, 113, 112, 98010, 98011, 98012]) act' w' S' m' →
      Keeps w S w' S' → m' 1113 = some u' → Q .normal act' w') : (Code.seq (.region 18 (rops (bodyOf Go.Proofs.Tryz.f50) 18) false) (.region 19 (rops (bodyOf Go.Proofs.Tryz.f50) 19) true)).wp Go.Proofs.Tryz.prog Q act w := by
  have hk : IntKind.i64.wrap (((Lc ++ [((a, (b, (hv, ()))) : prog_Steps.SH)]).length : Int) - 1) = (Lc.length : Int) := by
    rw [List.length_append, List.length_singleton, wrap_i64 (by omega) (by omega)]; omega
  refine wp_seq (At.region (C := prog_Steps.C) prog_Steps.ctxR follows rfl h (E' := prog_Steps.E18 takes n i Lc.length) (O' := prog_Steps.Om p (Lc ++ [((a, (b, (hv, ()))) : prog_Steps.SH)]) items x) (d' := []) rfl rfl ?_ ?_)
  · exact (prog_Steps.e18 ..).trans (by rw [hk]; exact chk_true (by rw [List.length_append, List.length_singleton, dec_t (by omega), dec_t (by omega)]; rfl))
  intro a1 w1 S1 m1 h1 k1 hm1
  show (Code.region 19 _ true).wp _ _ _ _
  obtain ⟨u1, hu1, ho1⟩ := h1.rel.sto 1 _ rfl
  obtain ⟨bb, oo, cap, eu, hcap⟩ := mbRow_of ho1 (by simp)
  subst eu
  have hu2 := hm1 2 u hu
  rw [List.length_append, List.length_singleton] at hu1 hcap
  have n10 : m1 99010 = none := h1.freshId 98010 (by omega) rfl
  have n11 : m1 99011 = none := h1.freshId 98011 (by omega) rfl
  have n12 : m1 99012 = none := h1.freshId 98012 (by omega) rfl
  have st := StoRel.part h1.rel.toStoRel (id := 1) (i1 := 99010) (i2 := 99011) (i3 := 99012) (c := kStep) (t := prog_Steps.lastT a b 2) (e := prog_Steps.KS) (L := Lc) (x := (a, (b, (hv, ())))) rfl hu1 hcap n10 n11 n12 (by decide) (by decide) (by decide) rfl rfl
    (fun cs ⟨c1, c2, e1, g1, d1, d2, e2, g2, f1, f2, e3, ⟨g3, A, nn, cc, g4⟩, g5⟩ => ⟨c1, c2, e1, g1, d1, d2, e2, g2, f1, f2, e3, ⟨u, hu2, by rw [g3, hv'], A, nn, cc, hv'.trans g4⟩, g5⟩)
  have g1 := h1.ghost st (E' := prog_Steps.Eg takes n i (.slice (some ⟨bb, oo, none⟩) (Lc.length + 1) cap)) (O' := prog_Steps.Og p Lc items x a b) (d' := [98010, 98011, 98012])
    (fun q hq => by
      simp only [prog_Steps.Og, List.mem_cons, List.not_mem_nil, or_false] at hq
      rcases hq with e | e | e | e | e | e <;> subst e <;> rfl)
    (fun q hq => by
      simp only [prog_Steps.Eg, List.mem_cons, List.not_mem_nil, or_false] at hq
      rcases hq with e | e | e | e | e | e | e <;> subst e
      · exact (h1.rel.env 1).keep st.keeps st.ext.maps
      · obtain ⟨u', q1, q2, _⟩ := repV_row (i := 1) (h1.rel.env 6)
        rw [hu1] at q1; cases q1
        show RepV w1 S1 _ (.val .hdr _) _
        rw [q2]; exact repV_mkHdr ⟨_, _, _, rfl⟩
      · exact (h1.rel.env 67).keep st.keeps st.ext.maps
      · exact (h1.rel.env 68).keep st.keeps st.ext.maps
      · exact (h1.rel.env 69).keep st.keeps st.ext.maps
      · exact (h1.rel.env 8).keep st.keeps st.ext.maps
      · obtain ⟨u', q1, q2⟩ := repV_ptr (i := 1) (p := [.idx Lc.length]) (h1.rel.env 9)
        rw [hu1] at q1; cases q1
        show RepV w1 S1 _ (.ptr 99011 []) _
        rw [q2]
        have := repV_mkPtr (w := w1) (S := S1) (i := 99011) (p := []) (m := put3 m1 99010 99011 99012 (mbRow bb oo Lc.length Lc.length prog_Steps.KS) (mbCell bb (oo + Lc.length * prog_Steps.KS.size) kStep) (mbRow bb (oo + (Lc.length + 1) * prog_Steps.KS.size) 0 (cap - (Lc.length + 1)) prog_Steps.KS)) (u := mbCell bb (oo + Lc.length * prog_Steps.KS.size) kStep) rfl
        simpa [mbCell, mbRow, offK, offK_nil] using this)
    (fun x _ => rfl)
    (fun j => by
      unfold put3
      by_cases e1 : j = 99010
      · exact .inr ⟨98010, e1, by omega, rfl⟩
      by_cases e2 : j = 99011
      · exact .inr ⟨98011, e2, by omega, rfl⟩
      by_cases e3 : j = 99012
      · exact .inr ⟨98012, e3, by omega, rfl⟩
      rw [if_neg e1, if_neg e2, if_neg e3]; exact .inl rfl)
  refine At.region (C := prog_Steps.C) prog_Steps.ctx follows rfl g1 (E' := prog_Steps.E19 takes n i (.slice (some ⟨bb, oo, none⟩) (Lc.length + 1) cap)) (O' := prog_Steps.O19 p Lc items x a b) (d' := [113, 112, 98010, 98011, 98012]) rfl rfl ((prog_Steps.e19 ..).trans (room_ok (by omega))) ?_
  intro a2 w2 S2 m2 h2 k2 hm2
  obtain ⟨u3, hu3, ho3⟩ := h2.rel.sto 1113 _ rfl
  have q1 := hm2 99010 (mbRow bb oo Lc.length Lc.length prog_Steps.KS) rfl
  have q2 := hm2 99011 (mbCell bb (oo + Lc.length * prog_Steps.KS.size) kStep) rfl
  have q3 := hm2 99012 (mbRow bb (oo + (Lc.length + 1) * prog_Steps.KS.size) 0 (cap - (Lc.length + 1)) prog_Steps.KS) rfl
  have n20 : m2 99020 = none := h2.freshId 98020 (by omega) rfl
  have st2 := StoRel.join h2.rel.toStoRel (i0 := 99020) (i1 := 99010) (i2 := 99011) (i3 := 99012) (e := prog_Steps.KS) (c := kStep) (L := Lc) (x := (a, (b, (u3.hv, ())))) (t := prog_Steps.lastT a b 1113) rfl rfl rfl q1 q2 q3 hcap n20 (by decide) (by decide) (by decide) rfl
    (fun cs ⟨c1, c2, e1, g1, d1, d2, e2, g2, f1, f2, e3, ⟨u', g3, g4, A, nn, cc, g5⟩, g6⟩ => by
      rw [hu3] at g3; cases g3
      exact ⟨c1, c2, e1, g1, d1, d2, e2, g2, f1, f2, e3, ⟨g4, A, nn, cc, g5⟩, g6⟩)
  have g2 := h2.ghost st2 (E' := prog_Steps.Ej takes n i) (O' := prog_Steps.Oj p (Lc ++ [((a, (b, (u3.hv, ()))) : prog_Steps.SH)]) (items ++ [((x.2.1, (x.2.2.2.1, ())) : prog_Steps.LN)])) (d' := [98020, 113, 112, 98010, 98011, 98012])
    (fun q hq => by
      simp only [prog_Steps.Oj, List.mem_cons, List.not_mem_nil, or_false] at hq
      rcases hq with e | e | e <;> subst e <;> rfl)
    (fun q hq => by
      simp only [prog_Steps.Ej, List.mem_cons, List.not_mem_nil, or_false] at hq
      rcases hq with e | e | e | e | e <;> subst e
      · exact (h2.rel.env 1).keep st2.keeps st2.ext.maps
      · obtain ⟨r1, _⟩ := repV_hdr (x := .slice (some ⟨bb, oo, none⟩) (Lc.length + 1) cap) (h2.rel.env 6)
        show RepV w2 S2 _ (.row 99020) _
        rw [r1]
        exact repV_mkRow (u := mbRow bb oo (Lc.length + 1) cap prog_Steps.KS) putM1_new rfl
      · exact (h2.rel.env 67).keep st2.keeps st2.ext.maps
      · exact (h2.rel.env 68).keep st2.keeps st2.ext.maps
      · exact (h2.rel.env 69).keep st2.keeps st2.ext.maps)
    (fun x hx => by
      simp only [elemN, Bool.or_eq_false_iff] at hx
      show elemN x [113, 112, 98010, 98011, 98012] = false
      simp only [elemN, Bool.or_eq_false_iff]
      exact hx.2)
    (fun j => by
      unfold putM1
      by_cases e1 : j = 99020
      · exact .inr ⟨98020, e1, by omega, rfl⟩
      rw [if_neg e1]; exact .inl rfl)
  exact hQ _ _ _ _ u3 g2 ((k1.trans k2).trans st2.keeps) (putM1_old n20 _ _ hu3)

def prog_Steps.m4 (m : Nat → Option MB) (a b c d : Nat) : Nat → Option MB := fun i => if i = 0 then m a else if i = 1 then m b else if i = 2 then m c else if i = 3 then m d else none
def prog_Steps.f4 (a b c d : Nat) : Nat → Nat := fun i => if i = 0 then a else if i = 1 then b else if i = 2 then c else d
theorem prog_Steps.m4_big {m : Nat → Option MB} {a b c d i : Nat} (h : 1000 ≤ i) : prog_Steps.m4 m a b c d i = none := by
  unfold prog_Steps.m4; rw [if_neg (by omega), if_neg (by omega), if_neg (by omega), if_neg (by omega)]
theorem prog_Steps.repD {w : World} {S : Cells} {m m' : Nat → Option MB} {c : K} {x : El c} {v : Value} (h : RepV w S m (.val c x) v) : RepV w S m' (.val c x) v := h
theorem prog_Steps.repI {w : World} {S : Cells} {m m' : Nat → Option MB} {i j : Nat} {v : Value} (h : RepV w S m (.ptr i []) v) (e : m' j = m i) : RepV w S m' (.ptr j []) v := by
  obtain ⟨u, h1, h2⟩ := repV_ptr h
  rw [h2]; exact repV_mkPtr (by rw [e]; exact h1)
theorem prog_Steps.repR {w : World} {S : Cells} {m m' : Nat → Option MB} {i j : Nat} {v : Value} (h : RepV w S m (.row i) v) (e : m' j = m i) : RepV w S m' (.row j) v := by
  obtain ⟨u, h1, h2, A, n, cap, h3⟩ := repV_row h
  rw [h2]; exact repV_mkRow (by rw [e]; exact h1) h3

/-- All takes are through. -/
theorem prog_Steps.exit {takes : List prog_Steps.TK} {n j : Int} {p : prog_Steps.PH} {pd : prog_Steps.PR} {L : List prog_Steps.SH} {D : List prog_Steps.SP} {items : List prog_Steps.LN} {act : Act} {w : World} {S : Cells} {m : Nat → Option MB}
    (h : At prog_Steps.C 0 O0 w0 S0 m0 (mkS (prog_Steps.E14 takes n j) (prog_Steps.O0 p L items) []) act w S m) (hl : prog_Steps.Link w S m L D items) (hb : prog_Steps.Back w S p pd) :
    ∃ S' m', At prog_Steps.C 0 O0 w0 S0 m0 (fillSt { env := [(1, .ptr 0), (6, .row 1)], objs := [.cell kProgram (.val kProgram), .row kStep false] } (((), ()), (pd, (D, ())))) act w S' m' := by
  obtain ⟨u2, hu2, _⟩ := h.rel.sto 2 _ rfl
  obtain ⟨S2, st, hrep, _⟩ := StoRel.freezeRow h.rel.toStoRel (id := 2) rfl hu2
  have g1 := h.ghost st (E' := [(1, .ptr 0 []), (6, .row 1)]) (O' := [(0, .cell prog_Steps.KP false (.val prog_Steps.KP p)), (1, .row prog_Steps.KS false L)]) (d' := [])
    (fun q hq => by
      simp only [List.mem_cons, List.not_mem_nil, or_false] at hq
      rcases hq with e | e <;> subst e <;> rfl)
    (fun q hq => by
      simp only [List.mem_cons, List.not_mem_nil, or_false] at hq
      rcases hq with e | e <;> subst e
      · exact (h.rel.env 1).keep st.keeps st.ext.maps
      · exact (h.rel.env 6).keep st.keeps st.ext.maps)
    (fun x _ => rfl) (fun _ => .inl rfl)
  have hclo : prog_Steps.Clo w S2 L D := by
    rcases hl with ⟨e1, e2⟩ | ⟨Lc, Dc, a, b, hv, u, e1, e2, hc, hu, hh⟩
    · subst e1; subst e2; exact ⟨rfl, fun k x y hx => by simp at hx⟩
    · subst e1; subst e2
      rw [hu2] at hu; cases hu
      exact (hc.keep st.keeps).snoc rfl rfl (by rw [← hh]; exact hrep)
  obtain ⟨u1, hu1, _⟩ := g1.rel.sto 1 _ rfl
  have n30 : m 99030 = none := g1.freshId 98030 (by omega) rfl
  have st2 := StoRel.rerow g1.rel.toStoRel (id := 1) (i1 := 99030) (e := prog_Steps.KS) (e' := kStep) (L := L) (D := D) rfl hu1 n30 rfl hclo.1.symm
    (fun k x y cs hx hy ⟨c1, c2, e1, q1, d1, d2, e2, q2, f1, f2, e3, ⟨q3, _⟩, q4⟩ => by
      obtain ⟨r1, r2, r3⟩ := hclo.2 k x y hx hy
      refine ⟨c1, c2, e1, ?_, d1, d2, e2, ?_, f1, f2, e3, ?_, q4⟩
      · rw [← r1]; exact q1
      · rw [← r2]; exact q2
      · rw [q3]; exact r3)
  have g2 := g1.ghost st2 (E' := [(1, .ptr 0 []), (6, .row 99030)]) (O' := [(0, .cell prog_Steps.KP false (.val prog_Steps.KP p)), (99030, .row kStep false D)]) (d' := [98030])
    (fun q hq => by
      simp only [List.mem_cons, List.not_mem_nil, or_false] at hq
      rcases hq with e | e <;> subst e <;> rfl)
    (fun q hq => by
      simp only [List.mem_cons, List.not_mem_nil, or_false] at hq
      rcases hq with e | e <;> subst e
      · exact (g1.rel.env 1).keep st2.keeps st2.ext.maps
      · obtain ⟨u', r1, r2, A, nn, cc, r3⟩ := repV_row (i := 1) (g1.rel.env 6)
        rw [hu1] at r1; cases r1
        show RepV w S2 _ (.row 99030) _
        rw [r2]
        exact repV_mkRow (u := { u1 with code := .arr 0 kStep }) putM1_new r3)
    (fun x _ => rfl)
    (fun i => by
      unfold putM1
      by_cases e1 : i = 99030
      · exact .inr ⟨98030, e1, by omega, rfl⟩
      rw [if_neg e1]; exact .inl rfl)
  obtain ⟨u0, hu0, _⟩ := g2.rel.sto 0 _ rfl
  have n31 := g2.freshId 98031 (by omega) rfl
  have kk : Keeps w S w S2 := st.keeps
  have st3 := StoRel.recell g2.rel.toStoRel (id := 0) (i1 := 99031) (c := prog_Steps.KP) (c' := kProgram) (t := .val prog_Steps.KP p) (t' := .val kProgram pd) rfl hu0 n31 rfl (fits_self _ _) (fun cs _ hr => hb w S2 cs kk hr)
  have g3 := g2.ghost st3 (E' := [(1, .ptr 99031 []), (6, .row 99030)]) (O' := [(99031, .cell kProgram false (.val kProgram pd)), (99030, .row kStep false D)]) (d' := [98031, 98030])
    (fun q hq => by
      simp only [List.mem_cons, List.not_mem_nil, or_false] at hq
      rcases hq with e | e <;> subst e <;> rfl)
    (fun q hq => by
      simp only [List.mem_cons, List.not_mem_nil, or_false] at hq
      rcases hq with e | e <;> subst e
      · obtain ⟨u', r1, r2⟩ := repV_ptr (i := 0) (p := []) (g2.rel.env 1)
        rw [hu0] at r1; cases r1
        show RepV w S2 _ (.ptr 99031 []) _
        rw [r2, offK_nil]
        have := repV_mkPtr (w := w) (S := S2) (i := 99031) (p := []) (m := putM1 (putM1 m 99030 { u1 with code := .arr 0 kStep }) 99031 { u0 with code := kProgram }) (u := { u0 with code := kProgram }) putM1_new
        rw [offK_nil] at this
        exact this
      · exact (g2.rel.env 6).keep st3.keeps st3.ext.maps)
    (fun x hx => by
      simp only [elemN, Bool.or_eq_false_iff] at hx
      show elemN x [98030] = false
      simp only [elemN, Bool.or_eq_false_iff]
      exact hx.2)
    (fun i => by
      unfold putM1
      by_cases e1 : i = 99031
      · exact .inr ⟨98031, e1, by omega, rfl⟩
      rw [if_neg e1]; exact .inl rfl)
  have g4 := g3.recut (E' := [(1, .ptr 0 []), (6, .row 1)]) (O' := [(0, .cell kProgram false (.val kProgram pd)), (1, .row kStep false D)]) (d' := []) (m' := prog_Steps.m4 (putM1 (putM1 m 99030 { u1 with code := .arr 0 kStep }) 99031 { u0 with code := kProgram }) 99031 99030 0 0) (prog_Steps.f4 99031 99030 0 0)
    (fun q hq r hr => by
      simp only [List.mem_cons, List.not_mem_nil, or_false] at hq hr
      rcases hq with e | e <;> rcases hr with e' | e' <;> subst e <;> subst e' <;> simp [prog_Steps.f4])
    (fun q hq => by
      simp only [List.mem_cons, List.not_mem_nil, or_false] at hq
      rcases hq with e | e <;> subst e <;> exact ⟨rfl, rfl, rfl⟩)
    (fun q hq => by
      simp only [List.mem_cons, List.not_mem_nil, or_false] at hq
      rcases hq with e | e <;> subst e
      · exact prog_Steps.repI (i := 99031) (g3.rel.env 1) rfl
      · exact prog_Steps.repR (i := 99030) (g3.rel.env 6) rfl)
    (fun i hi => prog_Steps.m4_big hi)
  exact ⟨S2, _, g4.same (fun t => rfl) (fun i o ho => by
    match i, ho with
    | 0, ho => exact ho
    | 1, ho => exact ho
    | i + 2, ho => cases ho)⟩

/-- Rounds. -/
theorem prog_Steps.loop {takes : List prog_Steps.TK} {p : prog_Steps.PH} {pd : prog_Steps.PR} {tg : Int} {res : List prog_Steps.SP} (htl : takes.length ≤ 100000) (hp0 : prog_tag p.1 = some tg) {Q : Exit → Act → World → Prop}
    (hQ : ∀ act w S m, At prog_Steps.C 0 O0 w0 S0 m0 (fillSt { env := [(1, .ptr 0), (6, .row 1)], objs := [.cell kProgram (.val kProgram), .row kStep false] } (((), ()), (pd, (res, ())))) act w S m → Q (.exit 1) act w) :
    ∀ (l : List prog_Steps.TK) (j : Nat) (L : List prog_Steps.SH) (D : List prog_Steps.SP) (items : List prog_Steps.LN) (act : Act) (w : World) (S : Cells) (m : Nat → Option MB), takes.drop j = l → prog_Steps.stepsGo tg p.2.2.2.2.1 j l D = some res →
      At prog_Steps.C 0 O0 w0 S0 m0 (mkS (prog_Steps.E0 takes takes.length j) (prog_Steps.O0 p L items) []) act w S m → prog_Steps.Link w S m L D items → prog_Steps.Back w S p pd → L.length ≤ j → items.length ≤ j → j ≤ takes.length →
      Code.rounds Go.Proofs.Tryz.prog (prog_Steps.bodyL Go.Proofs.Tryz.f50) Q (l.length + 1) act w := by
  intro l
  induction l with
  | nil =>
    intro j L D items act w S m hd hs h hl hb hL hi hj
    have hjl : j = takes.length := by
      have := congrArg List.length hd
      simp at this; omega
    cases hs
    rw [rounds_succ]
    refine wp_seq (At.region (C := prog_Steps.C) prog_Steps.ctxR follows rfl h (E' := prog_Steps.E14 takes takes.length j) (O' := prog_Steps.O0 p L items) (d' := []) rfl rfl (prog_Steps.e14 ..) fun a1 w1 S1 m1 h1 k1 hm1 => ?_)
    refine wp_seq (wp_cond_env h1 (b := decide ((j : Int) < takes.length)) rfl (fun q => ?_) fun q => wp_exit ?_)
    · simp only [decide_eq_true_eq] at q; omega
    · have hl1 : prog_Steps.Link w1 S1 m1 L res items := by
        rcases hl with e | ⟨Lc, Dc, a, b, hv, u, e1, e2, hc, hu, hh⟩
        · exact .inl e
        · exact .inr ⟨Lc, Dc, a, b, hv, u, e1, e2, hc.keep k1, hm1 _ _ hu, hh⟩
      obtain ⟨S2, m2, h2⟩ := prog_Steps.exit h1 hl1 (fun w' S' cs q => hb w' S' cs (k1.trans q))
      exact hQ a1 w1 S2 m2 h2
  | cons x l ih =>
    intro j L D items act w S m hd hs h hl hb hL hi hj
    have hjl : j < takes.length := by
      have := congrArg List.length hd
      simp at this; omega
    have hx : takes[j]? = some x := by
      have := congrArg (fun l : List prog_Steps.TK => l[0]?) hd
      simpa using this
    have hd' : takes.drop (j + 1) = l := by
      have := congrArg (fun l : List prog_Steps.TK => l.drop 1) hd
      simpa [List.drop_drop, Nat.add_comm] using this
    rw [rounds_succ]
    refine wp_seq (At.region (C := prog_Steps.C) prog_Steps.ctxR follows rfl h (E' := prog_Steps.E14 takes takes.length j) (O' := prog_Steps.O0 p L items) (d' := []) rfl rfl (prog_Steps.e14 ..) fun a1 w1 S1 m1 h1 k1 hm1 => ?_)
    refine wp_seq (wp_cond_env h1 (b := decide ((j : Int) < takes.length)) rfl (fun q => wp_skip ?_) fun q => (by simp only [decide_eq_false_iff_not] at q; omega))
    show (Code.seq (.block 2 _) _).wp _ _ _ _
    refine wp_seq (wp_block ?_)
    refine wp_seq (At.region (C := prog_Steps.C) prog_Steps.ctxR follows rfl h1 (E' := prog_Steps.E15 takes takes.length j) (O' := prog_Steps.O15 p L items x) (d' := [8]) rfl rfl ((prog_Steps.e15 ..).trans (nthK_get hx)) fun a2 w2 S2 m2 h2 k2 hm2 => ?_)
    show (Code.seq (.seq _ _) _).wp _ _ _ _
    -- the end of a round
    have rest : ∀ (D' : List prog_Steps.SP) (Lc : List prog_Steps.SH) (Dc : List prog_Steps.SP) (a b : Int) (items' : List prog_Steps.LN) (act' : Act) (w' : World) (S' : Cells) (m' : Nat → Option MB) (u' : MB), prog_Steps.stepsGo tg p.2.2.2.2.1 (j + 1) l D' = some res → D' = Dc ++ [((a, (b, (items', ()))) : prog_Steps.SP)] →
        At prog_Steps.C 0 O0 w0 S0 m0 (mkS (prog_Steps.Ej takes takes.length j) (prog_Steps.Oj p (Lc ++ [((a, (b, (u'.hv, ()))) : prog_Steps.SH)]) items') [98020, 113, 112, 98010, 98011, 98012]) act' w' S' m' → Keeps w S w' S' → prog_Steps.Clo w' S' Lc Dc → m' 1113 = some u' → Lc.length ≤ j → items'.length ≤ j + 1 →
        (Code.region 20 (rops (bodyOf Go.Proofs.Tryz.f50) 20) false).wp Go.Proofs.Tryz.prog (Exit.then (Code.rounds Go.Proofs.Tryz.prog (prog_Steps.bodyL Go.Proofs.Tryz.f50) Q (l.length + 1)) Q) act' w' := by
      intro D' Lc Dc a b items' act' w' S' m' u' hs' hD h5 kk hc hu' hlc hi'
      refine At.region (C := prog_Steps.C) prog_Steps.ctxR follows rfl h5 (E' := prog_Steps.Ej takes takes.length (IntKind.i64.wrap ((j : Int) + 1))) (O' := prog_Steps.Oj p (Lc ++ [((a, (b, (u'.hv, ()))) : prog_Steps.SH)]) items') (d' := [98020, 113, 112, 98010, 98011, 98012]) rfl rfl (prog_Steps.e20 ..) fun a6 w6 S6 m6 h6 k6 hm6 => ?_
      rw [succ_i64 (by omega)] at h6
      have h7 := h6.recut (E' := prog_Steps.E0 takes takes.length ((j + 1 : Nat) : Int)) (O' := prog_Steps.O0 p (Lc ++ [((a, (b, (u'.hv, ()))) : prog_Steps.SH)]) items') (d' := []) (m' := prog_Steps.m4 m6 0 99020 1113 0) (prog_Steps.f4 0 99020 1113 0)
        (fun q hq r hr => by
          simp only [prog_Steps.O0, List.mem_cons, List.not_mem_nil, or_false] at hq hr
          rcases hq with e | e | e <;> rcases hr with e' | e' | e' <;> subst e <;> subst e' <;> simp [prog_Steps.f4])
        (fun q hq => by
          simp only [prog_Steps.O0, List.mem_cons, List.not_mem_nil, or_false] at hq
          rcases hq with e | e | e <;> subst e <;> exact ⟨rfl, rfl, rfl⟩)
        (fun q hq => by
          simp only [prog_Steps.E0, List.mem_cons, List.not_mem_nil, or_false] at hq
          rcases hq with e | e | e | e | e <;> subst e
          · exact prog_Steps.repI (i := 0) (h6.rel.env 1) rfl
          · exact prog_Steps.repR (i := 99020) (h6.rel.env 6) rfl
          · exact h6.rel.env 67
          · exact h6.rel.env 68
          · exact h6.rel.env 69)
        (fun i hi => prog_Steps.m4_big hi)
      refine ih (j + 1) _ D' items' a6 w6 S6 _ hd' hs' h7 (.inr ⟨Lc, Dc, a, b, u'.hv, u', rfl, hD, hc.keep k6, hm6 _ _ hu', rfl⟩) (fun w'' S'' cs q => hb w'' S'' cs ((kk.trans k6).trans q)) (by simp; omega) hi' (by omega)
    have go : ∀ nw : Bool, evalReg prog_Steps.CR true (rops (bodyOf Go.Proofs.Tryz.f50) 16).toList (mkS (prog_Steps.E15 takes takes.length j) (prog_Steps.O15 p L items x) [8]) (fun sF => some (facts [1, 6, 67, 68, 69, 8, 87] [0, 1, 2, 1008] sF)) = some (told (prog_Steps.E16 takes takes.length j nw) (prog_Steps.O15 p L items x) [8]) →
        (match nw with
          | true => prog_Steps.stepsGo tg p.2.2.2.2.1 (j + 1) l (D ++ [(tg, (x.2.2.1, ([(x.2.1, (x.2.2.2.1, ()))], ())))])
          | false => match D.getLast? with
            | none => none
            | some z => prog_Steps.stepsGo tg p.2.2.2.2.1 (j + 1) l (D.dropLast ++ [(z.1, (z.2.1, (z.2.2.1 ++ [(x.2.1, (x.2.2.2.1, ()))], ())))])) = some res →
        (Code.seq (.seq (.region 16 (rops (bodyOf Go.Proofs.Tryz.f50) 16) true) (.cond (.tmp 87) (.region 17 (rops (bodyOf Go.Proofs.Tryz.f50) 17) true) .skip)) (.seq (.region 18 (rops (bodyOf Go.Proofs.Tryz.f50) 18) false) (.region 19 (rops (bodyOf Go.Proofs.Tryz.f50) 19) true))).wp Go.Proofs.Tryz.prog
          (Exit.inBlock 2 (Exit.then ((Code.region 20 (rops (bodyOf Go.Proofs.Tryz.f50) 20) false).wp Go.Proofs.Tryz.prog (Exit.then (Code.rounds Go.Proofs.Tryz.prog (prog_Steps.bodyL Go.Proofs.Tryz.f50) Q (l.length + 1)) Q)) (Exit.then (Code.rounds Go.Proofs.Tryz.prog (prog_Steps.bodyL Go.Proofs.Tryz.f50) Q (l.length + 1)) Q))) a2 w2 := by
      intro nw he hs'
      refine wp_seq (wp_seq (At.region (C := prog_Steps.C) prog_Steps.ctxR follows rfl h2 (E' := prog_Steps.E16 takes takes.length j nw) (O' := prog_Steps.O15 p L items x) (d' := [8]) rfl rfl he fun a3 w3 S3 m3 h3 k3 hm3 => ?_))
      have kk3 := (k1.trans k2).trans k3
      have mm3 : ∀ i u, m i = some u → m3 i = some u := fun i u q => hm3 _ _ (hm2 _ _ (hm1 _ _ q))
      refine wp_cond_env h3 (b := nw) rfl (fun q => ?_) fun q => wp_skip ?_
      · subst q
        refine At.region (C := prog_Steps.C) prog_Steps.ctxR follows rfl h3 (E' := prog_Steps.E17 takes takes.length j) (O' := prog_Steps.O17 p L items x tg) (d' := [96, 95, 91, 8]) rfl rfl ((prog_Steps.e17 ..).trans (by rw [hp0]; exact room_ok (by omega))) fun a4 w4 S4 m4' h4 k4 hm4 => ?_
        show (Code.seq (.region 18 _ _) _).wp _ _ _ _
        obtain ⟨u2, hu2, _⟩ := h4.rel.sto 2 _ rfl
        obtain ⟨S5, st, hrep, _⟩ := StoRel.freezeRow h4.rel.toStoRel (id := 2) rfl hu2
        have g1 := h4.ghost st (E' := prog_Steps.E17 takes takes.length j) (O' := [(0, .cell prog_Steps.KP false (.val prog_Steps.KP p)), (1096, .row prog_Steps.KS false (L ++ [((tg, (x.2.2.1, ((Value.slice none 0 0), ()))) : prog_Steps.SH)])), (1008, .cell kTake false (.val kTake x))]) (d' := [96, 95, 91, 8])
          (fun q hq => by
            simp only [List.mem_cons, List.not_mem_nil, or_false] at hq
            rcases hq with e | e | e <;> subst e <;> rfl)
          (fun q hq => by
            simp only [prog_Steps.E17, List.mem_cons, List.not_mem_nil, or_false] at hq
            rcases hq with e | e | e | e | e | e <;> subst e
            · exact (h4.rel.env 1).keep st.keeps st.ext.maps
            · exact (h4.rel.env 6).keep st.keeps st.ext.maps
            · exact (h4.rel.env 67).keep st.keeps st.ext.maps
            · exact (h4.rel.env 68).keep st.keeps st.ext.maps
            · exact (h4.rel.env 69).keep st.keeps st.ext.maps
            · exact (h4.rel.env 8).keep st.keeps st.ext.maps)
          (fun x q => q) (fun _ => .inl rfl)
        have hclo : prog_Steps.Clo w4 S5 L D := by
          rcases hl with ⟨e1, e2⟩ | ⟨Lc, Dc, a, b, hv, u, e1, e2, hc, hu, hh⟩
          · subst e1; subst e2; exact ⟨rfl, fun k x y hx => by simp at hx⟩
          · subst e1; subst e2
            have := hm4 _ _ (mm3 _ _ hu)
            rw [hu2] at this; cases this
            exact (((hc.keep kk3).keep k4).keep st.keeps).snoc rfl rfl (by rw [← hh]; exact hrep)
        have n3 : m4' 99003 = none := g1.freshId 98003 (by omega) rfl
        have st2 := StoRel.newNil g1.rel.toStoRel (id := 99003) n3 kLine false
        have g2 := g1.ghost st2 (E' := prog_Steps.E17 takes takes.length j) (O' := [(0, .cell prog_Steps.KP false (.val prog_Steps.KP p)), (1096, .row prog_Steps.KS false (L ++ [((tg, (x.2.2.1, ((Value.slice none 0 0), ()))) : prog_Steps.SH)])), (99003, .row kLine false []), (1008, .cell kTake false (.val kTake x))]) (d' := [98003, 96, 95, 91, 8])
          (fun q hq => by
            simp only [List.mem_cons, List.not_mem_nil, or_false] at hq
            rcases hq with e | e | e | e <;> subst e <;> rfl)
          (fun q hq => by
            simp only [prog_Steps.E17, List.mem_cons, List.not_mem_nil, or_false] at hq
            rcases hq with e | e | e | e | e | e <;> subst e
            · exact (g1.rel.env 1).keep st2.keeps st2.ext.maps
            · exact (g1.rel.env 6).keep st2.keeps st2.ext.maps
            · exact (g1.rel.env 67).keep st2.keeps st2.ext.maps
            · exact (g1.rel.env 68).keep st2.keeps st2.ext.maps
            · exact (g1.rel.env 69).keep st2.keeps st2.ext.maps
            · exact (g1.rel.env 8).keep st2.keeps st2.ext.maps)
          (fun x hx => by
            simp only [elemN, Bool.or_eq_false_iff] at hx
            show elemN x [96, 95, 91, 8] = false
            simp only [elemN, Bool.or_eq_false_iff]
            exact hx.2)
          (fun i => by
            unfold putM1
            by_cases e1 : i = 99003
            · exact .inr ⟨98003, e1, by omega, rfl⟩
            rw [if_neg e1]; exact .inl rfl)
        have g3 := g2.recut (E' := prog_Steps.Em takes takes.length j) (O' := prog_Steps.Om p (L ++ [((tg, (x.2.2.1, ((Value.slice none 0 0), ()))) : prog_Steps.SH)]) [] x) (d' := []) (m' := prog_Steps.m4 (putM1 m4' 99003 ⟨.slice none 0 0, 0, 0, .arr 0 kLine⟩) 0 1096 99003 1008) (prog_Steps.f4 0 1096 99003 1008)
          (fun q hq r hr => by
            simp only [prog_Steps.Om, List.mem_cons, List.not_mem_nil, or_false] at hq hr
            rcases hq with e | e | e | e <;> rcases hr with e' | e' | e' | e' <;> subst e <;> subst e' <;> simp [prog_Steps.f4])
          (fun q hq => by
            simp only [prog_Steps.Om, List.mem_cons, List.not_mem_nil, or_false] at hq
            rcases hq with e | e | e | e <;> subst e <;> exact ⟨rfl, rfl, rfl⟩)
          (fun q hq => by
            simp only [prog_Steps.Em, List.mem_cons, List.not_mem_nil, or_false] at hq
            rcases hq with e | e | e | e | e | e <;> subst e
            · exact prog_Steps.repI (i := 0) (g2.rel.env 1) rfl
            · exact prog_Steps.repR (i := 1096) (g2.rel.env 6) rfl
            · exact g2.rel.env 67
            · exact g2.rel.env 68
            · exact g2.rel.env 69
            · exact prog_Steps.repI (i := 1008) (g2.rel.env 8) rfl)
          (fun i hi => prog_Steps.m4_big hi)
        refine prog_Steps.tail g3 (u := ⟨.slice none 0 0, 0, 0, .arr 0 kLine⟩) (by show putM1 m4' 99003 _ 99003 = _; exact putM1_new) rfl (by omega) (by simp) _ fun a5 w5 S6 m5 u5 h5 k5 hu5 => ?_
        exact rest _ L D tg x.2.2.1 _ a5 w5 S6 m5 u5 hs' rfl h5 ((((kk3.trans k4).trans st.keeps).trans st2.keeps).trans k5) (((hclo.keep st2.keeps)).keep k5) hu5 hL (by simp)
      · subst q
        show (Code.seq (.region 18 _ _) _).wp _ _ _ _
        rcases hl with ⟨e1, e2⟩ | ⟨Lc, Dc, a, b, hv, u, e1, e2, hc, hu, hh⟩
        · subst e2; cases hs'
        subst e1; subst e2
        simp only [List.getLast?_append, List.getLast?_singleton, Option.some_or, List.dropLast_concat] at hs'
        have g3 := h3.recut (E' := prog_Steps.Em takes takes.length j) (O' := prog_Steps.Om p (Lc ++ [((a, (b, (hv, ()))) : prog_Steps.SH)]) items x) (d' := []) (m' := prog_Steps.m4 m3 0 1 2 1008) (prog_Steps.f4 0 1 2 1008)
          (fun q hq r hr => by
            simp only [prog_Steps.Om, List.mem_cons, List.not_mem_nil, or_false] at hq hr
            rcases hq with e | e | e | e <;> rcases hr with e' | e' | e' | e' <;> subst e <;> subst e' <;> simp [prog_Steps.f4])
          (fun q hq => by
            simp only [prog_Steps.Om, List.mem_cons, List.not_mem_nil, or_false] at hq
            rcases hq with e | e | e | e <;> subst e <;> exact ⟨rfl, rfl, rfl⟩)
          (fun q hq => by
            simp only [prog_Steps.Em, List.mem_cons, List.not_mem_nil, or_false] at hq
            rcases hq with e | e | e | e | e | e <;> subst e
            · exact prog_Steps.repI (i := 0) (h3.rel.env 1) rfl
            · exact prog_Steps.repR (i := 1) (h3.rel.env 6) rfl
            · exact h3.rel.env 67
            · exact h3.rel.env 68
            · exact h3.rel.env 69
            · exact prog_Steps.repI (i := 1008) (h3.rel.env 8) rfl)
          (fun i hi => prog_Steps.m4_big hi)
        have hLc : Lc.length + 1 ≤ j := by simpa using hL
        refine prog_Steps.tail g3 (u := u) (mm3 _ _ hu) hh (by omega) (by omega) _ fun a5 w5 S6 m5 u5 h5 k5 hu5 => ?_
        exact rest _ Lc Dc a b _ a5 w5 S6 m5 u5 hs' rfl h5 (kk3.trans k5) ((hc.keep kk3).keep k5) hu5 (by omega) (by simp; omega)
    cases j with
    | zero =>
      simp only [prog_Steps.stepsGo, Option.bind_some] at hs
      exact go true (prog_Steps.e16 ..) hs
    | succ j =>
      simp only [prog_Steps.stepsGo] at hs
      obtain ⟨nw, hn, hs'⟩ := Option.bind_eq_some_iff.1 hs
      obtain ⟨y, hy, en⟩ := Option.map_eq_some_iff.1 hn
      subst en
      refine go _ ((prog_Steps.e16 ..).trans ?_) hs'
      rw [show (((j + 1 : Nat) : Int) == 0) = false by simp; omega, cond_false, pred_i64 (by omega)]
      exact nthK_get hy
end

theorem prog_Steps.codeOk : CodeOk Go.Proofs.Tryz.prog prog_Steps.C 0 (.loop (prog_Steps.bodyL Go.Proofs.Tryz.f50)) prog_Steps.g14 := by
  intro O0 w0 S0 m0 v z act w S m hG h Q hQ
  obtain ⟨⟨_, _, takes, n, i⟩, pd, _⟩ := v
  have hG : prog_Steps.stepsG (((), ((), (takes, (n, i)))), (pd, ())) = some z := hG
  unfold prog_Steps.stepsG at hG
  obtain ⟨hb, hG⟩ := bif_some hG
  simp only [Bool.and_eq_true, decide_eq_true_eq] at hb
  obtain ⟨hn, hi, htl⟩ := hb
  have htl := Nat.le_of_ble_eq_true htl
  obtain ⟨tg, ht, hG⟩ := Option.bind_eq_some_iff.1 hG
  obtain ⟨res, hr, hG⟩ := Option.map_eq_some_iff.1 hG
  subst hn; subst hi; subst hG
  obtain ⟨u0, hu0, ho0⟩ := h.rel.sto 0 _ rfl
  obtain ⟨_, _, _, cs, hrg, hcs, _⟩ := ho0
  have hlen0 : cs.length = kProgram.size := Rep.length (show Rep w S kProgram pd cs from hcs)
  obtain ⟨p, hp1, hp2, hp3, hp4⟩ : ∃ p : prog_Steps.PH, Rep w S prog_Steps.KP p cs ∧ prog_Steps.Back w S p pd ∧ p.1 = pd.1 ∧ p.2.2.2.2.1 = pd.2.2.2.2.1 := by
    obtain ⟨a1, r1, e1, h1, a2, r2, e2, h2, a3, r3, e3, h3, a4, r4, e4, ⟨A4, k4, q4, t4, z4⟩, a5, r5, e5, h5, a6, r6, e6, ⟨A6, k6, q6, t6, z6⟩, h7⟩ := (show Rep w S kProgram pd cs from hcs)
    refine ⟨(pd.1, (pd.2.1, (pd.2.2.1, (.slice A4 pd.2.2.2.1.length k4, (pd.2.2.2.2.1, (.slice A6 pd.2.2.2.2.2.1.length k6, pd.2.2.2.2.2.2)))))), ⟨a1, r1, e1, h1, a2, r2, e2, h2, a3, r3, e3, h3, a4, r4, e4, ⟨q4, _, _, _, rfl⟩, a5, r5, e5, h5, a6, r6, e6, ⟨q6, _, _, _, rfl⟩, h7⟩, ?_, rfl, rfl⟩
    intro w' S' cs' k ⟨b1, s1, f1, g1, b2, s2, f2, g2, b3, s3, f3, g3, b4, s4, f4, ⟨g4, _⟩, b5, s5, f5, g5, b6, s6, f6, ⟨g6, _⟩, g7⟩
    exact ⟨b1, s1, f1, g1, b2, s2, f2, g2, b3, s3, f3, g3, b4, s4, f4, ⟨A4, k4, g4, t4, z4.keep k fun _ _ q => Rep.keep k q⟩, b5, s5, f5, g5, b6, s6, f6, ⟨A6, k6, g6, t6, z6.keep k fun _ _ q => Rep.keep k q⟩, g7⟩
  have n31 := h.freshId 98031 (by omega) rfl
  have st := StoRel.recell h.rel.toStoRel (id := 0) (i1 := 99031) (c := kProgram) (c' := prog_Steps.KP) (t := .val kProgram pd) (t' := .val prog_Steps.KP p) rfl hu0 n31 rfl (fits_self _ _) (fun cs' h1 hr => by
    have : cs' = cs := rangeAt_eq h1 hrg ((Rep.length (show Rep w S kProgram pd cs' from hr)).trans hlen0.symm)
    rw [this]; exact hp1)
  have g1 := h.ghost st (E' := [(1, .ptr 99031 []), (6, .nils kStep), (67, .val (.slice kTake) takes), (68, .val (.int .i64) takes.length), (69, .val (.int .i64) (0 : Int))]) (O' := [(99031, .cell prog_Steps.KP false (.val prog_Steps.KP p))]) (d' := [98031])
    (fun q hq => by
      simp only [List.mem_cons, List.not_mem_nil, or_false] at hq
      subst hq; rfl)
    (fun q hq => by
      simp only [List.mem_cons, List.not_mem_nil, or_false] at hq
      rcases hq with e | e | e | e | e <;> subst e
      · obtain ⟨u', r1, r2⟩ := repV_ptr (i := 0) (p := []) (h.rel.env 1)
        rw [hu0] at r1; cases r1
        show RepV w S _ (.ptr 99031 []) _
        rw [r2, offK_nil]
        have := repV_mkPtr (w := w) (S := S) (i := 99031) (p := []) (m := putM1 m 99031 { u0 with code := prog_Steps.KP }) (u := { u0 with code := prog_Steps.KP }) putM1_new
        rw [offK_nil] at this
        exact this
      · exact (h.rel.env 6).keep st.keeps st.ext.maps
      · exact (h.rel.env 67).keep st.keeps st.ext.maps
      · exact (h.rel.env 68).keep st.keeps st.ext.maps
      · exact (h.rel.env 69).keep st.keeps st.ext.maps)
    (fun x _ => rfl)
    (fun i => by
      unfold putM1
      by_cases e1 : i = 99031
      · exact .inr ⟨98031, e1, by omega, rfl⟩
      rw [if_neg e1]; exact .inl rfl)
  have n1 := g1.freshId 98001 (by omega) rfl
  have st1 := StoRel.newNil g1.rel.toStoRel (id := 99001) n1 prog_Steps.KS false
  have n2 : putM1 (putM1 m 99031 { u0 with code := prog_Steps.KP }) 99001 ⟨.slice none 0 0, 0, 0, .arr 0 prog_Steps.KS⟩ 99002 = none := by
    have := g1.freshId 98002 (by omega) rfl
    unfold putM1 at this ⊢
    rw [if_neg (by omega)]; exact this
  have st2 := StoRel.newNil st1.rel (id := 99002) n2 kLine false
  have g2 := g1.ghost (st1.trans st2) (E' := [(1, .ptr 99031 []), (6, .row 99001), (67, .val (.slice kTake) takes), (68, .val (.int .i64) takes.length), (69, .val (.int .i64) (0 : Int))])
    (O' := [(99031, .cell prog_Steps.KP false (.val prog_Steps.KP p)), (99001, .row prog_Steps.KS false []), (99002, .row kLine false [])]) (d' := [98002, 98001, 98031])
    (fun q hq => by
      simp only [List.mem_cons, List.not_mem_nil, or_false] at hq
      rcases hq with e | e | e <;> subst e <;> rfl)
    (fun q hq => by
      simp only [List.mem_cons, List.not_mem_nil, or_false] at hq
      rcases hq with e | e | e | e | e <;> subst e
      · exact (g1.rel.env 1).keep (st1.trans st2).keeps (st1.trans st2).ext.maps
      · have q0 : RepV w S (putM1 m 99031 { u0 with code := prog_Steps.KP }) (.nils kStep) (act.tmps.getD 6 undef) := g1.rel.env 6
        rcases q0 with q | ⟨cs, q1, q2⟩
        · cases q
        have q1 : cs = [.slice none 0 0] := q1
        subst q1
        show RepV w S _ (.row 99001) _
        have q2 : Value.slice none 0 0 = act.tmps.getD 6 undef := by simpa [Shut, T.isAgg] using q2
        rw [← q2]
        exact repV_mkRow (u := ⟨.slice none 0 0, 0, 0, .arr 0 prog_Steps.KS⟩) (putM1_old n2 _ _ putM1_new) rfl
      · exact (g1.rel.env 67).keep (st1.trans st2).keeps (st1.trans st2).ext.maps
      · exact (g1.rel.env 68).keep (st1.trans st2).keeps (st1.trans st2).ext.maps
      · exact (g1.rel.env 69).keep (st1.trans st2).keeps (st1.trans st2).ext.maps)
    (fun x hx => by
      simp only [elemN, Bool.or_eq_false_iff] at hx
      show elemN x [98031] = false
      simp only [elemN, Bool.or_eq_false_iff]
      exact hx.2.2)
    (fun i => by
      by_cases e1 : i = 99002
      · exact .inr ⟨98002, e1, by omega, rfl⟩
      by_cases e2 : i = 99001
      · exact .inr ⟨98001, e2, by omega, rfl⟩
      refine .inl ?_
      show putM1 (putM1 _ 99001 _) 99002 _ i = _
      unfold putM1
      rw [if_neg e1, if_neg e2])
  have g3 := g2.recut (E' := prog_Steps.E0 takes takes.length ((0 : Nat) : Int)) (O' := prog_Steps.O0 p [] []) (d' := []) (m' := prog_Steps.m4 (putM1 (putM1 (putM1 m 99031 { u0 with code := prog_Steps.KP }) 99001 ⟨.slice none 0 0, 0, 0, .arr 0 prog_Steps.KS⟩) 99002 ⟨.slice none 0 0, 0, 0, .arr 0 kLine⟩) 99031 99001 99002 0) (prog_Steps.f4 99031 99001 99002 0)
    (fun q hq r hr => by
      simp only [prog_Steps.O0, List.mem_cons, List.not_mem_nil, or_false] at hq hr
      rcases hq with e | e | e <;> rcases hr with e' | e' | e' <;> subst e <;> subst e' <;> simp [prog_Steps.f4])
    (fun q hq => by
      simp only [prog_Steps.O0, List.mem_cons, List.not_mem_nil, or_false] at hq
      rcases hq with e | e | e <;> subst e <;> exact ⟨rfl, rfl, rfl⟩)
    (fun q hq => by
      simp only [prog_Steps.E0, List.mem_cons, List.not_mem_nil, or_false] at hq
      rcases hq with e | e | e | e | e <;> subst e
      · exact prog_Steps.repI (i := 99031) (g2.rel.env 1) rfl
      · exact prog_Steps.repR (i := 99001) (g2.rel.env 6) rfl
      · exact g2.rel.env 67
      · exact g2.rel.env 68
      · exact g2.rel.env 69)
    (fun i hi => prog_Steps.m4_big hi)
  refine wp_loop_rounds (takes.length + 1) (prog_Steps.loop htl (p := p) (pd := pd) (tg := tg) (res := res) (by rw [hp3]; exact ht) (fun act' w' S' m' hx => hQ (.exit 1) _ act' w' S' m' (fun R κ => rfl) hx) takes 0 [] [] [] act w S _ rfl (by rw [hp4]; exact hr) g3 (.inl ⟨rfl, rfl⟩) hp2 (Nat.le_refl 0) (Nat.le_refl 0) (Nat.zero_le _))
theorem prog_Steps.givenIn : ∀ c, Go.Proofs.Tryz.f50.body = some c → GivenIn Go.Proofs.Tryz.prog prog_Steps.C prog_Steps.Q c := fun c hc => GivenIn.of_list (by
  have : bodyOf Go.Proofs.Tryz.f50 = c := by unfold bodyOf; rw [hc]
  rw [← this]; exact prog_Steps.givens) (given_one prog_Steps.codeOk)

set_option maxRecDepth 100000 in
theorem prog_Steps.ok : Sound Go.Proofs.Tryz.prog 50 prog_Steps.sig := body_sound (C := prog_Steps.C) (q := prog_Steps.Q) (fn := Go.Proofs.Tryz.f50) (sg := prog_Steps.sig) (n := 1) prog_Steps.ctx follows Go.Proofs.Tryz.func50 (by kernel_rfl) (by kernel_rfl) (by kernel_rfl) (by kernel_rfl) (Nat.le_of_ble_eq_true (by kernel_rfl)) (by kernel_rfl) prog_Steps.eq prog_Steps.givenIn

def need_Attempt.l1 (v : Int × (List (Int × Int × (List (Int × Int × Unit)) × Unit)) × Int × Int) : Option ((Int × (List (Int × Int × (List (Int × Int × Unit)) × Unit)) × Int × Int) ⊕ Int) :=
  bif decide (v.2.2.2 < v.2.2.1) then nthK v.2.1 v.2.2.2 fun e13 => (need_Fail e13).bind fun r14 => some (Sum.inl (if r14 > v.1 then r14 else v.1, (v.2.1, (v.2.2.1, IntKind.i64.wrap (v.2.2.2 + 1))))) else some (Sum.inr v.1)
def need_Attempt (x0 : TyPrg) : Option Int :=
  (prog_Steps x0).bind fun r12 => (iterL need_Attempt.l1 loopN (0, (r12, ((r12.length : Int), 0)))).bind fun y15 => some y15
def need_Attempt.C : Ctx := { ty := tyT, sigs := fun i => bif Nat.beq i 28 then [need_Fail.sig] else bif Nat.beq i 50 then [prog_Steps.sig] else [], n := 19, mp := mpT }
def need_Attempt.Q : Cuts := { np := 0, loops := fun i => bif Nat.beq i 3 then some ({ env := [(3, .val (.int .i64)), (7, .val (.slice kStep)), (8, .val (.int .i64)), (9, .val (.int .i64))], objs := [] }, [(.exit 0, { env := [(3, .val (.int .i64))], objs := [] })]) else none, seqs := fun i => none, splits := fun i => none }
def need_Attempt.sig : Sig := { args := .tc (.val kProgram) .tn, objs := [], ret := .val (.int .i64), outs := [], F := fun x => need_Attempt x.1.1 }
theorem need_Attempt.eq : (fun x => body need_Attempt.C need_Attempt.Q Go.Proofs.Tryz.f29 need_Attempt.sig.args need_Attempt.sig.objs need_Attempt.sig.ret need_Attempt.sig.outs x) = need_Attempt.sig.F := by
  kernel_rfl
set_option maxRecDepth 100000 in
theorem need_Attempt.ctx : CtxOk Go.Proofs.Tryz.prog need_Attempt.C := ⟨tyOk, mpOk, Nat.le_of_ble_eq_true (by kernel_rfl), fun f sg => fun h => sigs_if h (allS_cons need_Fail.ok allS_nil) (fun h => sigs_if h (allS_cons prog_Steps.ok allS_nil) ((fun h => by cases h)))⟩
set_option maxRecDepth 100000 in
theorem need_Attempt.ok : Sound Go.Proofs.Tryz.prog 29 need_Attempt.sig := body_sound (C := need_Attempt.C) (q := need_Attempt.Q) (fn := Go.Proofs.Tryz.f29) (sg := need_Attempt.sig) (n := 1) need_Attempt.ctx follows Go.Proofs.Tryz.func29 (by kernel_rfl) (by kernel_rfl) (by kernel_rfl) (by kernel_rfl) (Nat.le_of_ble_eq_true (by kernel_rfl)) (by kernel_rfl) need_Attempt.eq

def rec_own (x0 : TyRec) : Option (TyRec × Bool × Unit) :=
  bif (x0.1 : Int) == 1 then bif (x0.2.1 : Int) != 0 then (prog_Good 4 4 x0.2.2.2.2.2.2.2.2.1).bind fun r17 => some ((x0.1, (x0.2.1, (0, (0, (false, ((0, (0, (0, ()))), (0, (0, (x0.2.2.2.2.2.2.2.2.1, ()))))))))), (r17, ())) else some ((x0.1, (x0.2.1, (0, (0, (false, ((0, (0, (0, ()))), (0, (0, (x0.2.2.2.2.2.2.2.2.1, ()))))))))), (false, ())) else bif (x0.1 : Int) == 2 then bif (x0.2.1 : Int) != 0 then bif (x0.2.2.1 : Int) != 0 then some ((x0.1, (x0.2.1, (x0.2.2.1, (x0.2.2.2.1, (x0.2.2.2.2.1, ((0, (0, (0, ()))), (0, (0, ((0, (0, (0, ([], ([], ([], (0, (0, (0, (0, ())))))))))), ()))))))))), (decide (x0.2.2.2.1 < 5), ())) else some ((x0.1, (x0.2.1, (x0.2.2.1, (x0.2.2.2.1, (x0.2.2.2.2.1, ((0, (0, (0, ()))), (0, (0, ((0, (0, (0, ([], ([], ([], (0, (0, (0, (0, ())))))))))), ()))))))))), (false, ())) else some ((x0.1, (x0.2.1, (x0.2.2.1, (x0.2.2.2.1, (x0.2.2.2.2.1, ((0, (0, (0, ()))), (0, (0, ((0, (0, (0, ([], ([], ([], (0, (0, (0, (0, ())))))))))), ()))))))))), (false, ())) else (bif (x0.1 : Int) == 3 then some ((((), ((), ((), (x0.1, (x0.1 : Int) == 3)))), (x0, ((0, (0, (0, (0, (false, ((0, (0, (0, ()))), (0, (0, ((0, (0, (0, ((), ((), ((), (0, (0, (0, (0, ())))))))))), ()))))))))), ((x0.1, (0, (0, (0, (false, ((0, (0, (0, ()))), (0, (0, ((0, (0, (0, ((), ((), ((), (0, (0, (0, (0, ())))))))))), ()))))))))), ()))))) else some ((((), ((), ((), (x0.1, (x0.1 : Int) == 6)))), (x0, ((0, (0, (0, (0, (false, ((0, (0, (0, ()))), (0, (0, ((0, (0, (0, ((), ((), ((), (0, (0, (0, (0, ())))))))))), ()))))))))), ((x0.1, (0, (0, (0, (false, ((0, (0, (0, ()))), (0, (0, ((0, (0, (0, ((), ((), ((), (0, (0, (0, (0, ())))))))))), ()))))))))), ()))))) : Option ((Unit × Unit × Unit × Int × Bool) × TyRec × (Int × Int × Int × Int × Bool × (Int × Int × Int × Unit) × Int × Int × (Int × Int × Int × Unit × Unit × Unit × Int × Int × Int × Int × Unit) × Unit) × (Int × Int × Int × Int × Bool × (Int × Int × Int × Unit) × Int × Int × (Int × Int × Int × Unit × Unit × Unit × Int × Int × Int × Int × Unit) × Unit) × Unit)).bind fun y18 => bif y18.1.2.2.2.2 then bif (y18.2.1.2.2.1 : Int) != 0 then (key_Good 4 4 y18.2.1.2.2.2.2.2.1).bind fun r19 => bif r19 then bif (y18.2.1.2.2.2.2.2.2.1 : Int) != 0 then some ((y18.2.2.2.1.1, (y18.2.2.2.1.2.1, (y18.2.1.2.2.1, (y18.2.2.2.1.2.2.2.1, (y18.2.2.2.1.2.2.2.2.1, (y18.2.1.2.2.2.2.2.1, (y18.2.1.2.2.2.2.2.2.1, (y18.2.2.2.1.2.2.2.2.2.2.2.1, ((y18.2.2.2.1.2.2.2.2.2.2.2.2.1.1, (y18.2.2.2.1.2.2.2.2.2.2.2.2.1.2.1, (y18.2.2.2.1.2.2.2.2.2.2.2.2.1.2.2.1, ([], ([], ([], y18.2.2.2.1.2.2.2.2.2.2.2.2.1.2.2.2.2.2.2)))))), y18.2.2.2.1.2.2.2.2.2.2.2.2.2))))))))), ((y18.2.1.2.2.2.2.2.2.1 : Int) != (-9223372036854775808), ())) else some ((y18.2.2.2.1.1, (y18.2.2.2.1.2.1, (y18.2.1.2.2.1, (y18.2.2.2.1.2.2.2.1, (y18.2.2.2.1.2.2.2.2.1, (y18.2.1.2.2.2.2.2.1, (y18.2.1.2.2.2.2.2.2.1, (y18.2.2.2.1.2.2.2.2.2.2.2.1, ((y18.2.2.2.1.2.2.2.2.2.2.2.2.1.1, (y18.2.2.2.1.2.2.2.2.2.2.2.2.1.2.1, (y18.2.2.2.1.2.2.2.2.2.2.2.2.1.2.2.1, ([], ([], ([], y18.2.2.2.1.2.2.2.2.2.2.2.2.1.2.2.2.2.2.2)))))), y18.2.2.2.1.2.2.2.2.2.2.2.2.2))))))))), (false, ())) else some ((y18.2.2.2.1.1, (y18.2.2.2.1.2.1, (y18.2.1.2.2.1, (y18.2.2.2.1.2.2.2.1, (y18.2.2.2.1.2.2.2.2.1, (y18.2.1.2.2.2.2.2.1, (y18.2.1.2.2.2.2.2.2.1, (y18.2.2.2.1.2.2.2.2.2.2.2.1, ((y18.2.2.2.1.2.2.2.2.2.2.2.2.1.1, (y18.2.2.2.1.2.2.2.2.2.2.2.2.1.2.1, (y18.2.2.2.1.2.2.2.2.2.2.2.2.1.2.2.1, ([], ([], ([], y18.2.2.2.1.2.2.2.2.2.2.2.2.1.2.2.2.2.2.2)))))), y18.2.2.2.1.2.2.2.2.2.2.2.2.2))))))))), (false, ())) else some ((y18.2.2.2.1.1, (y18.2.2.2.1.2.1, (y18.2.1.2.2.1, (y18.2.2.2.1.2.2.2.1, (y18.2.2.2.1.2.2.2.2.1, (y18.2.1.2.2.2.2.2.1, (y18.2.1.2.2.2.2.2.2.1, (y18.2.2.2.1.2.2.2.2.2.2.2.1, ((y18.2.2.2.1.2.2.2.2.2.2.2.2.1.1, (y18.2.2.2.1.2.2.2.2.2.2.2.2.1.2.1, (y18.2.2.2.1.2.2.2.2.2.2.2.2.1.2.2.1, ([], ([], ([], y18.2.2.2.1.2.2.2.2.2.2.2.2.1.2.2.2.2.2.2)))))), y18.2.2.2.1.2.2.2.2.2.2.2.2.2))))))))), (false, ())) else (bif (y18.1.2.2.2.1 : Int) == 4 then some ((((), ((), ((), (y18.1.2.2.2.1, (y18.1.2.2.2.1 : Int) == 4)))), (y18.2.1, ((y18.2.2.1.1, (y18.2.2.1.2.1, (y18.2.2.1.2.2.1, (y18.2.2.1.2.2.2.1, (y18.2.2.1.2.2.2.2.1, (y18.2.2.1.2.2.2.2.2.1, (y18.2.2.1.2.2.2.2.2.2.1, (y18.2.2.1.2.2.2.2.2.2.2.1, ((y18.2.2.1.2.2.2.2.2.2.2.2.1.1, (y18.2.2.1.2.2.2.2.2.2.2.2.1.2.1, (y18.2.2.1.2.2.2.2.2.2.2.2.1.2.2.1, ((), ((), ((), y18.2.2.1.2.2.2.2.2.2.2.2.1.2.2.2.2.2.2)))))), y18.2.2.1.2.2.2.2.2.2.2.2.2))))))))), ((y18.2.2.2.1.1, (y18.2.2.2.1.2.1, (y18.2.2.2.1.2.2.1, (y18.2.2.2.1.2.2.2.1, (y18.2.2.2.1.2.2.2.2.1, (y18.2.2.2.1.2.2.2.2.2.1, (y18.2.2.2.1.2.2.2.2.2.2.1, (y18.2.2.2.1.2.2.2.2.2.2.2.1, ((y18.2.2.2.1.2.2.2.2.2.2.2.2.1.1, (y18.2.2.2.1.2.2.2.2.2.2.2.2.1.2.1, (y18.2.2.2.1.2.2.2.2.2.2.2.2.1.2.2.1, ((), ((), ((), y18.2.2.2.1.2.2.2.2.2.2.2.2.1.2.2.2.2.2.2)))))), y18.2.2.2.1.2.2.2.2.2.2.2.2.2))))))))), ()))))) else bif (y18.1.2.2.2.1 : Int) == 5 then some ((((), ((), ((), (y18.1.2.2.2.1, (y18.1.2.2.2.1 : Int) == 5)))), (y18.2.1, ((y18.2.2.1.1, (y18.2.2.1.2.1, (y18.2.2.1.2.2.1, (y18.2.2.1.2.2.2.1, (y18.2.2.1.2.2.2.2.1, (y18.2.2.1.2.2.2.2.2.1, (y18.2.2.1.2.2.2.2.2.2.1, (y18.2.2.1.2.2.2.2.2.2.2.1, ((y18.2.2.1.2.2.2.2.2.2.2.2.1.1, (y18.2.2.1.2.2.2.2.2.2.2.2.1.2.1, (y18.2.2.1.2.2.2.2.2.2.2.2.1.2.2.1, ((), ((), ((), y18.2.2.1.2.2.2.2.2.2.2.2.1.2.2.2.2.2.2)))))), y18.2.2.1.2.2.2.2.2.2.2.2.2))))))))), ((y18.2.2.2.1.1, (y18.2.2.2.1.2.1, (y18.2.2.2.1.2.2.1, (y18.2.2.2.1.2.2.2.1, (y18.2.2.2.1.2.2.2.2.1, (y18.2.2.2.1.2.2.2.2.2.1, (y18.2.2.2.1.2.2.2.2.2.2.1, (y18.2.2.2.1.2.2.2.2.2.2.2.1, ((y18.2.2.2.1.2.2.2.2.2.2.2.2.1.1, (y18.2.2.2.1.2.2.2.2.2.2.2.2.1.2.1, (y18.2.2.2.1.2.2.2.2.2.2.2.2.1.2.2.1, ((), ((), ((), y18.2.2.2.1.2.2.2.2.2.2.2.2.1.2.2.2.2.2.2)))))), y18.2.2.2.1.2.2.2.2.2.2.2.2.2))))))))), ()))))) else some ((((), ((), ((), (y18.1.2.2.2.1, (y18.1.2.2.2.1 : Int) == 7)))), (y18.2.1, ((y18.2.2.1.1, (y18.2.2.1.2.1, (y18.2.2.1.2.2.1, (y18.2.2.1.2.2.2.1, (y18.2.2.1.2.2.2.2.1, (y18.2.2.1.2.2.2.2.2.1, (y18.2.2.1.2.2.2.2.2.2.1, (y18.2.2.1.2.2.2.2.2.2.2.1, ((y18.2.2.1.2.2.2.2.2.2.2.2.1.1, (y18.2.2.1.2.2.2.2.2.2.2.2.1.2.1, (y18.2.2.1.2.2.2.2.2.2.2.2.1.2.2.1, ((), ((), ((), y18.2.2.1.2.2.2.2.2.2.2.2.1.2.2.2.2.2.2)))))), y18.2.2.1.2.2.2.2.2.2.2.2.2))))))))), ((y18.2.2.2.1.1, (y18.2.2.2.1.2.1, (y18.2.2.2.1.2.2.1, (y18.2.2.2.1.2.2.2.1, (y18.2.2.2.1.2.2.2.2.1, (y18.2.2.2.1.2.2.2.2.2.1, (y18.2.2.2.1.2.2.2.2.2.2.1, (y18.2.2.2.1.2.2.2.2.2.2.2.1, ((y18.2.2.2.1.2.2.2.2.2.2.2.2.1.1, (y18.2.2.2.1.2.2.2.2.2.2.2.2.1.2.1, (y18.2.2.2.1.2.2.2.2.2.2.2.2.1.2.2.1, ((), ((), ((), y18.2.2.2.1.2.2.2.2.2.2.2.2.1.2.2.2.2.2.2)))))), y18.2.2.2.1.2.2.2.2.2.2.2.2.2))))))))), ()))))) : Option ((Unit × Unit × Unit × Int × Bool) × TyRec × (Int × Int × Int × Int × Bool × (Int × Int × Int × Unit) × Int × Int × (Int × Int × Int × Unit × Unit × Unit × Int × Int × Int × Int × Unit) × Unit) × (Int × Int × Int × Int × Bool × (Int × Int × Int × Unit) × Int × Int × (Int × Int × Int × Unit × Unit × Unit × Int × Int × Int × Int × Unit) × Unit) × Unit)).bind fun y20 => bif y20.1.2.2.2.2 then some ((y20.2.2.2.1.1, (y20.2.2.2.1.2.1, (y20.2.1.2.2.1, (y20.2.2.2.1.2.2.2.1, (y20.2.2.2.1.2.2.2.2.1, (y20.2.2.2.1.2.2.2.2.2.1, (y20.2.2.2.1.2.2.2.2.2.2.1, (y20.2.2.2.1.2.2.2.2.2.2.2.1, ((y20.2.2.2.1.2.2.2.2.2.2.2.2.1.1, (y20.2.2.2.1.2.2.2.2.2.2.2.2.1.2.1, (y20.2.2.2.1.2.2.2.2.2.2.2.2.1.2.2.1, ([], ([], ([], y20.2.2.2.1.2.2.2.2.2.2.2.2.1.2.2.2.2.2.2)))))), y20.2.2.2.1.2.2.2.2.2.2.2.2.2))))))))), ((y20.2.1.2.2.1 : Int) != 0, ())) else bif (y20.1.2.2.2.1 : Int) == 8 then some ((y20.2.2.2.1.1, (y20.2.1.2.1, (y20.2.2.2.1.2.2.1, (y20.2.2.2.1.2.2.2.1, (y20.2.2.2.1.2.2.2.2.1, (y20.2.2.2.1.2.2.2.2.2.1, (y20.2.2.2.1.2.2.2.2.2.2.1, (y20.2.2.2.1.2.2.2.2.2.2.2.1, ((y20.2.2.2.1.2.2.2.2.2.2.2.2.1.1, (y20.2.2.2.1.2.2.2.2.2.2.2.2.1.2.1, (y20.2.2.2.1.2.2.2.2.2.2.2.2.1.2.2.1, ([], ([], ([], y20.2.2.2.1.2.2.2.2.2.2.2.2.1.2.2.2.2.2.2)))))), y20.2.2.2.1.2.2.2.2.2.2.2.2.2))))))))), ((y20.2.1.2.1 : Int) != 0, ())) else bif (y20.1.2.2.2.1 : Int) == 9 then bif (y20.2.1.2.1 : Int) != 0 then bif (y20.2.1.2.2.2.2.2.2.2.1 : Int) == 1 then some ((y20.2.2.2.1.1, (y20.2.1.2.1, (y20.2.2.2.1.2.2.1, (y20.2.2.2.1.2.2.2.1, (y20.2.2.2.1.2.2.2.2.1, (y20.2.2.2.1.2.2.2.2.2.1, (y20.2.2.2.1.2.2.2.2.2.2.1, (y20.2.1.2.2.2.2.2.2.2.1, ((y20.2.2.2.1.2.2.2.2.2.2.2.2.1.1, (y20.2.2.2.1.2.2.2.2.2.2.2.2.1.2.1, (y20.2.2.2.1.2.2.2.2.2.2.2.2.1.2.2.1, ([], ([], ([], y20.2.2.2.1.2.2.2.2.2.2.2.2.1.2.2.2.2.2.2)))))), y20.2.2.2.1.2.2.2.2.2.2.2.2.2))))))))), (true, ())) else some ((y20.2.2.2.1.1, (y20.2.1.2.1, (y20.2.2.2.1.2.2.1, (y20.2.2.2.1.2.2.2.1, (y20.2.2.2.1.2.2.2.2.1, (y20.2.2.2.1.2.2.2.2.2.1, (y20.2.2.2.1.2.2.2.2.2.2.1, (y20.2.1.2.2.2.2.2.2.2.1, ((y20.2.2.2.1.2.2.2.2.2.2.2.2.1.1, (y20.2.2.2.1.2.2.2.2.2.2.2.2.1.2.1, (y20.2.2.2.1.2.2.2.2.2.2.2.2.1.2.2.1, ([], ([], ([], y20.2.2.2.1.2.2.2.2.2.2.2.2.1.2.2.2.2.2.2)))))), y20.2.2.2.1.2.2.2.2.2.2.2.2.2))))))))), ((y20.2.1.2.2.2.2.2.2.2.1 : Int) == 2, ())) else some ((y20.2.2.2.1.1, (y20.2.1.2.1, (y20.2.2.2.1.2.2.1, (y20.2.2.2.1.2.2.2.1, (y20.2.2.2.1.2.2.2.2.1, (y20.2.2.2.1.2.2.2.2.2.1, (y20.2.2.2.1.2.2.2.2.2.2.1, (y20.2.1.2.2.2.2.2.2.2.1, ((y20.2.2.2.1.2.2.2.2.2.2.2.2.1.1, (y20.2.2.2.1.2.2.2.2.2.2.2.2.1.2.1, (y20.2.2.2.1.2.2.2.2.2.2.2.2.1.2.2.1, ([], ([], ([], y20.2.2.2.1.2.2.2.2.2.2.2.2.1.2.2.2.2.2.2)))))), y20.2.2.2.1.2.2.2.2.2.2.2.2.2))))))))), (false, ())) else some ((y20.2.2.2.1.1, (y20.2.2.2.1.2.1, (y20.2.2.2.1.2.2.1, (y20.2.2.2.1.2.2.2.1, (y20.2.2.2.1.2.2.2.2.1, (y20.2.2.2.1.2.2.2.2.2.1, (y20.2.2.2.1.2.2.2.2.2.2.1, (y20.2.2.2.1.2.2.2.2.2.2.2.1, ((y20.2.2.2.1.2.2.2.2.2.2.2.2.1.1, (y20.2.2.2.1.2.2.2.2.2.2.2.2.1.2.1, (y20.2.2.2.1.2.2.2.2.2.2.2.2.1.2.2.1, ([], ([], ([], y20.2.2.2.1.2.2.2.2.2.2.2.2.1.2.2.2.2.2.2)))))), y20.2.2.2.1.2.2.2.2.2.2.2.2.2))))))))), (false, ()))
def rec_own.C : Ctx := { ty := tyT, sigs := fun i => bif Nat.beq i 65 then [prog_Good.sig] else bif Nat.beq i 76 then [key_Good.sig] else [], n := 129, mp := mpT }
def rec_own.Q : Cuts := { np := 0, loops := fun i => none, seqs := fun i => bif Nat.beq i 11 then some [(.normal, { env := [(1, .ptr 0), (2, .ptr 1), (4, .ptr 2), (9, .val (.int .u8)), (55, .val .bool)], objs := [.cell kRec (.val kRec), .cell kRec (.pair (.val (.int .u8)) (.pair (.val (.int .u32)) (.pair (.val (.int .u32)) (.pair (.val (.int .u8)) (.pair (.val .bool) (.pair (.val kKey) (.pair (.val (.int .i64)) (.pair (.val (.int .u8)) (.pair (.pair (.val (.int .u8)) (.pair (.val (.int .u32)) (.pair (.val (.int .u8)) (.pair (.nils kLine) (.pair (.nils kTake) (.pair (.nils kLine) (.val (.cons (.int .u8) (.cons (.int .u8) kLine))))))))) (.val .unit)))))))))), .cell kRec (.pair (.val (.int .u8)) (.pair (.val (.int .u32)) (.pair (.val (.int .u32)) (.pair (.val (.int .u8)) (.pair (.val .bool) (.pair (.val kKey) (.pair (.val (.int .i64)) (.pair (.val (.int .u8)) (.pair (.pair (.val (.int .u8)) (.pair (.val (.int .u32)) (.pair (.val (.int .u8)) (.pair (.nils kLine) (.pair (.nils kTake) (.pair (.nils kLine) (.val (.cons (.int .u8) (.cons (.int .u8) kLine))))))))) (.val .unit))))))))))] })] else bif Nat.beq i 16 then some [(.normal, { env := [(1, .ptr 0), (2, .ptr 1), (4, .ptr 2), (9, .val (.int .u8)), (86, .val .bool)], objs := [.cell kRec (.val kRec), .cell kRec (.pair (.val (.int .u8)) (.pair (.val (.int .u32)) (.pair (.val (.int .u32)) (.pair (.val (.int .u8)) (.pair (.val .bool) (.pair (.val kKey) (.pair (.val (.int .i64)) (.pair (.val (.int .u8)) (.pair (.pair (.val (.int .u8)) (.pair (.val (.int .u32)) (.pair (.val (.int .u8)) (.pair (.nils kLine) (.pair (.nils kTake) (.pair (.nils kLine) (.val (.cons (.int .u8) (.cons (.int .u8) kLine))))))))) (.val .unit)))))))))), .cell kRec (.pair (.val (.int .u8)) (.pair (.val (.int .u32)) (.pair (.val (.int .u32)) (.pair (.val (.int .u8)) (.pair (.val .bool) (.pair (.val kKey) (.pair (.val (.int .i64)) (.pair (.val (.int .u8)) (.pair (.pair (.val (.int .u8)) (.pair (.val (.int .u32)) (.pair (.val (.int .u8)) (.pair (.nils kLine) (.pair (.nils kTake) (.pair (.nils kLine) (.val (.cons (.int .u8) (.cons (.int .u8) kLine))))))))) (.val .unit))))))))))] })] else none, splits := fun i => none }
def rec_own.sig : Sig := { args := .tc (.val kRec) .tn, objs := [], ret := .tup (.tc (.val kRec) (.tc (.val .bool) .tn)), outs := [], F := fun x => rec_own x.1.1 }
theorem rec_own.eq : (fun x => body rec_own.C rec_own.Q Go.Proofs.Tryz.f51 rec_own.sig.args rec_own.sig.objs rec_own.sig.ret rec_own.sig.outs x) = rec_own.sig.F := by
  kernel_rfl
set_option maxRecDepth 100000 in
theorem rec_own.ctx : CtxOk Go.Proofs.Tryz.prog rec_own.C := ⟨tyOk, mpOk, Nat.le_of_ble_eq_true (by kernel_rfl), fun f sg => fun h => sigs_if h (allS_cons prog_Good.ok allS_nil) (fun h => sigs_if h (allS_cons key_Good.ok allS_nil) ((fun h => by cases h)))⟩
set_option maxRecDepth 100000 in
theorem rec_own.ok : Sound Go.Proofs.Tryz.prog 51 rec_own.sig := body_sound (C := rec_own.C) (q := rec_own.Q) (fn := Go.Proofs.Tryz.f51) (sg := rec_own.sig) (n := 1) rec_own.ctx follows Go.Proofs.Tryz.func51 (by kernel_rfl) (by kernel_rfl) (by kernel_rfl) (by kernel_rfl) (Nat.le_of_ble_eq_true (by kernel_rfl)) (by kernel_rfl) rec_own.eq

def slices_Equal_api_Line_api_Line.l1 (v : (List (Int × Int × Unit)) × (List (Int × Int × Unit)) × Int × Int) : Option (((List (Int × Int × Unit)) × (List (Int × Int × Unit)) × Int × Int) ⊕ (Unit ⊕ Bool)) :=
  bif decide (v.2.2.2 < v.2.2.1) then nthK v.1 v.2.2.2 fun e18 => nthK v.2.1 v.2.2.2 fun e19 => bif !(eqE kLine e18 e19) then some (Sum.inr (Sum.inr false)) else some (Sum.inl (v.1, (v.2.1, (v.2.2.1, IntKind.i64.wrap (v.2.2.2 + 1))))) else some (Sum.inr (Sum.inl ()))
def slices_Equal_api_Line_api_Line (x0 : List (Int × Int × Unit)) (x1 : List (Int × Int × Unit)) : Option Bool :=
  bif ((x0.length : Int) : Int) != (x1.length : Int) then some false else (iterL slices_Equal_api_Line_api_Line.l1 loopN (x0, (x1, ((x0.length : Int), 0)))).bind fun y20 => (match y20 with | .inl y21 => some true | .inr y22 => some y22)
def slices_Equal_api_Line_api_Line.C : Ctx := { ty := tyT, sigs := fun i => [], n := 26, mp := mpT }
def slices_Equal_api_Line_api_Line.Q : Cuts := { np := 0, loops := fun i => bif Nat.beq i 4 then some ({ env := [(0, .val (.slice kLine)), (1, .val (.slice kLine)), (12, .val (.int .i64)), (13, .val (.int .i64))], objs := [] }, [(.exit 0, { env := [], objs := [] }), (.ret, { env := [(4, .val .bool)], objs := [] })]) else none, seqs := fun i => none, splits := fun i => none }
def slices_Equal_api_Line_api_Line.sig : Sig := { args := .tc (.val (.slice kLine)) (.tc (.val (.slice kLine)) .tn), objs := [], ret := .val .bool, outs := [], F := fun x => slices_Equal_api_Line_api_Line x.1.1 x.1.2.1 }
theorem slices_Equal_api_Line_api_Line.eq : (fun x => body slices_Equal_api_Line_api_Line.C slices_Equal_api_Line_api_Line.Q Go.Proofs.Tryz.f97 slices_Equal_api_Line_api_Line.sig.args slices_Equal_api_Line_api_Line.sig.objs slices_Equal_api_Line_api_Line.sig.ret slices_Equal_api_Line_api_Line.sig.outs x) = slices_Equal_api_Line_api_Line.sig.F := by
  kernel_rfl
set_option maxRecDepth 100000 in
theorem slices_Equal_api_Line_api_Line.ctx : CtxOk Go.Proofs.Tryz.prog slices_Equal_api_Line_api_Line.C := ⟨tyOk, mpOk, Nat.le_of_ble_eq_true (by kernel_rfl), fun f sg => (fun h => by cases h)⟩
set_option maxRecDepth 100000 in
theorem slices_Equal_api_Line_api_Line.ok : Sound Go.Proofs.Tryz.prog 97 slices_Equal_api_Line_api_Line.sig := body_sound (C := slices_Equal_api_Line_api_Line.C) (q := slices_Equal_api_Line_api_Line.Q) (fn := Go.Proofs.Tryz.f97) (sg := slices_Equal_api_Line_api_Line.sig) (n := 2) slices_Equal_api_Line_api_Line.ctx follows Go.Proofs.Tryz.func97 (by kernel_rfl) (by kernel_rfl) (by kernel_rfl) (by kernel_rfl) (Nat.le_of_ble_eq_true (by kernel_rfl)) (by kernel_rfl) slices_Equal_api_Line_api_Line.eq

def slices_Equal_api_Take_api_Take.l1 (v : (List (Int × Int × Int × Int × Unit)) × (List (Int × Int × Int × Int × Unit)) × Int × Int) : Option (((List (Int × Int × Int × Int × Unit)) × (List (Int × Int × Int × Int × Unit)) × Int × Int) ⊕ (Unit ⊕ Bool)) :=
  bif decide (v.2.2.2 < v.2.2.1) then nthK v.1 v.2.2.2 fun e24 => nthK v.2.1 v.2.2.2 fun e25 => bif !(eqE kTake e24 e25) then some (Sum.inr (Sum.inr false)) else some (Sum.inl (v.1, (v.2.1, (v.2.2.1, IntKind.i64.wrap (v.2.2.2 + 1))))) else some (Sum.inr (Sum.inl ()))
def slices_Equal_api_Take_api_Take (x0 : List (Int × Int × Int × Int × Unit)) (x1 : List (Int × Int × Int × Int × Unit)) : Option Bool :=
  bif ((x0.length : Int) : Int) != (x1.length : Int) then some false else (iterL slices_Equal_api_Take_api_Take.l1 loopN (x0, (x1, ((x0.length : Int), 0)))).bind fun y26 => (match y26 with | .inl y27 => some true | .inr y28 => some y28)
def slices_Equal_api_Take_api_Take.C : Ctx := { ty := tyT, sigs := fun i => [], n := 26, mp := mpT }
def slices_Equal_api_Take_api_Take.Q : Cuts := { np := 0, loops := fun i => bif Nat.beq i 4 then some ({ env := [(0, .val (.slice kTake)), (1, .val (.slice kTake)), (12, .val (.int .i64)), (13, .val (.int .i64))], objs := [] }, [(.exit 0, { env := [], objs := [] }), (.ret, { env := [(4, .val .bool)], objs := [] })]) else none, seqs := fun i => none, splits := fun i => none }
def slices_Equal_api_Take_api_Take.sig : Sig := { args := .tc (.val (.slice kTake)) (.tc (.val (.slice kTake)) .tn), objs := [], ret := .val .bool, outs := [], F := fun x => slices_Equal_api_Take_api_Take x.1.1 x.1.2.1 }
theorem slices_Equal_api_Take_api_Take.eq : (fun x => body slices_Equal_api_Take_api_Take.C slices_Equal_api_Take_api_Take.Q Go.Proofs.Tryz.f98 slices_Equal_api_Take_api_Take.sig.args slices_Equal_api_Take_api_Take.sig.objs slices_Equal_api_Take_api_Take.sig.ret slices_Equal_api_Take_api_Take.sig.outs x) = slices_Equal_api_Take_api_Take.sig.F := by
  kernel_rfl
set_option maxRecDepth 100000 in
theorem slices_Equal_api_Take_api_Take.ctx : CtxOk Go.Proofs.Tryz.prog slices_Equal_api_Take_api_Take.C := ⟨tyOk, mpOk, Nat.le_of_ble_eq_true (by kernel_rfl), fun f sg => (fun h => by cases h)⟩
set_option maxRecDepth 100000 in
theorem slices_Equal_api_Take_api_Take.ok : Sound Go.Proofs.Tryz.prog 98 slices_Equal_api_Take_api_Take.sig := body_sound (C := slices_Equal_api_Take_api_Take.C) (q := slices_Equal_api_Take_api_Take.Q) (fn := Go.Proofs.Tryz.f98) (sg := slices_Equal_api_Take_api_Take.sig) (n := 2) slices_Equal_api_Take_api_Take.ctx follows Go.Proofs.Tryz.func98 (by kernel_rfl) (by kernel_rfl) (by kernel_rfl) (by kernel_rfl) (Nat.le_of_ble_eq_true (by kernel_rfl)) (by kernel_rfl) slices_Equal_api_Take_api_Take.eq

def prog_Same (x0 : TyPrg) (x1 : TyPrg) : Option Bool :=
  bif (x0.1 : Int) == x1.1 then bif (x0.2.1 : Int) == x1.2.1 then bif (x0.2.2.1 : Int) == x1.2.2.1 then (slices_Equal_api_Line_api_Line x0.2.2.2.1 x1.2.2.2.1).bind fun r18 => bif r18 then (slices_Equal_api_Take_api_Take x0.2.2.2.2.1 x1.2.2.2.2.1).bind fun r19 => bif r19 then (slices_Equal_api_Line_api_Line x0.2.2.2.2.2.1 x1.2.2.2.2.2.1).bind fun r20 => bif r20 then bif (x0.2.2.2.2.2.2.1 : Int) == x1.2.2.2.2.2.2.1 then bif (x0.2.2.2.2.2.2.2.1 : Int) == x1.2.2.2.2.2.2.2.1 then bif (x0.2.2.2.2.2.2.2.2.1 : Int) == x1.2.2.2.2.2.2.2.2.1 then some ((x0.2.2.2.2.2.2.2.2.2.1 : Int) == x1.2.2.2.2.2.2.2.2.2.1) else some false else some false else some false else some false else some false else some false else some false else some false else some false
def prog_Same.C : Ctx := { ty := tyT, sigs := fun i => bif Nat.beq i 97 then [slices_Equal_api_Line_api_Line.sig] else bif Nat.beq i 98 then [slices_Equal_api_Take_api_Take.sig] else [], n := 73, mp := mpT }
def prog_Same.Q : Cuts := { np := 0, loops := fun i => none, seqs := fun i => none, splits := fun i => none }
def prog_Same.sig : Sig := { args := .tc (.val kProgram) (.tc (.val kProgram) .tn), objs := [], ret := .val .bool, outs := [], F := fun x => prog_Same x.1.1 x.1.2.1 }
theorem prog_Same.eq : (fun x => body prog_Same.C prog_Same.Q Go.Proofs.Tryz.f77 prog_Same.sig.args prog_Same.sig.objs prog_Same.sig.ret prog_Same.sig.outs x) = prog_Same.sig.F := by
  kernel_rfl
set_option maxRecDepth 100000 in
theorem prog_Same.ctx : CtxOk Go.Proofs.Tryz.prog prog_Same.C := ⟨tyOk, mpOk, Nat.le_of_ble_eq_true (by kernel_rfl), fun f sg => fun h => sigs_if h (allS_cons slices_Equal_api_Line_api_Line.ok allS_nil) (fun h => sigs_if h (allS_cons slices_Equal_api_Take_api_Take.ok allS_nil) ((fun h => by cases h)))⟩
set_option maxRecDepth 100000 in
theorem prog_Same.ok : Sound Go.Proofs.Tryz.prog 77 prog_Same.sig := body_sound (C := prog_Same.C) (q := prog_Same.Q) (fn := Go.Proofs.Tryz.f77) (sg := prog_Same.sig) (n := 2) prog_Same.ctx follows Go.Proofs.Tryz.func77 (by kernel_rfl) (by kernel_rfl) (by kernel_rfl) (by kernel_rfl) (Nat.le_of_ble_eq_true (by kernel_rfl)) (by kernel_rfl) prog_Same.eq

end Go.Proofs.F
