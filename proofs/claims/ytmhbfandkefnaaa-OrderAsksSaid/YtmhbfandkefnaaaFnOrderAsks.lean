import Derived.Test.YtmhbfandkefnaaaDClone
import Derived.Test.YtmhbfandkefnaaaProg
import Derived.KernelRfl
set_option linter.unusedVariables false
namespace Go.Proofs.F
open Go.Proofs.D
def kfault : K := .cons (.int .i64) .unit
def kLine : K := .cons (.int .u8) kfault
def kR : K := .cons (.slice (.int .u8)) kfault
def kReader : K := .cons kfault (.cons (.slice (.int .u8)) .unit)
def kwide : K := .cons (.int .i64) kfault
def kStep : K := .cons (.int .u8) (.cons (.int .u8) (.cons (.slice kLine) .unit))
def kKey : K := .cons (.int .u8) (.cons (.int .u8) (.cons (.int .u8) .unit))
def kWriter : K := .cons kfault kR
def kTake : K := .cons (.int .u32) (.cons (.int .u8) kLine)
def kOp : K := .cons kKey kfault
def kAsk : K := .cons (.int .u8) (.cons (.int .i64) (.cons (.arr 4 (.int .i64)) .unit))
def kOrder : K := .cons (.int .u32) (.cons (.int .u8) (.cons (.slice kLine) (.cons (.slice kTake) (.cons (.slice kTake) (.cons (.slice kLine) .unit)))))
def kDecl : K := .cons kKey (.cons (.int .i64) kwide)
def kRequest : K := .cons (.int .u8) (.cons (.int .u32) (.cons (.int .u8) (.cons (.slice kLine) (.cons (.int .u8) (.cons (.int .u8) kLine)))))
def kProgram : K := .cons (.int .u8) (.cons (.int .u32) (.cons (.int .u8) (.cons (.slice kLine) (.cons (.slice kTake) (.cons (.slice kLine) (.cons (.int .u8) (.cons (.int .u8) kLine)))))))
def kSmall : K := .cons (.int .u8) (.cons (.int .u8) (.cons (.int .u8) (.cons (.int .u16) (.cons (.int .u8) (.cons (.int .u8) (.cons (.int .u8) (.cons (.int .u8) (.cons (.int .u8) (.cons (.int .u8) (.cons (.int .u16) (.cons (.int .u8) .unit)))))))))))
def kConfig : K := .cons (.int .i64) (.cons (.int .i64) (.cons (.slice kDecl) (.cons (.arr 4 (.arr 4 (.int .u8))) (.cons (.int .i64) (.cons (.int .i64) (.cons (.int .i64) (.cons (.int .i64) (.cons (.int .i64) kwide))))))))
def tyL : List (Nat × K) := [(1, .ref 2), (2, .int .i64), (3, .int .i64), (4, .bool), (5, .int .u8), (40, .slice kLine), (50, .int .u32), (51, .slice kTake), (52, kOrder), (53, kOrder), (57, kLine), (58, kLine), (66, .int .i64), (74, .slice (.int .i64)), (75, kTake), (76, kTake), (108, .int .u64), (111, .int .u64), (194, kwide), (195, kwide)]
def tyT (t : Nat) : Option K := lookK tyL t
theorem tyOk : ∀ t c, tyT t = some c → TyOk Go.Proofs.Try.prog tyT t c := tyOk_of (l := tyL) (fun _ => rfl) (by kernel_rfl) (by kernel_rfl)
theorem follows : Go.Proofs.Try.prog.follows .mixedOrders = true := by kernel_rfl
def pledgelaw22_isFew (x0 : Int × Int × (List (Int × Int × Unit)) × (List (Int × Int × Int × Int × Unit)) × (List (Int × Int × Int × Int × Unit)) × (List (Int × Int × Unit)) × Unit) : Option Bool :=
  bif decide ((x0.2.2.1.length : Int) ≤ 20) then bif decide ((x0.2.2.2.1.length : Int) ≤ 30) then bif decide ((x0.2.2.2.2.1.length : Int) ≤ 30) then some (decide ((x0.2.2.2.2.2.1.length : Int) ≤ 20)) else some false else some false else some false
def pledgelaw22_isFew.C : Ctx := { ty := tyT, sigs := fun i => [], n := 25, mp := fun _ => none }
def pledgelaw22_isFew.Q : Cuts := { np := 0, loops := fun i => none, seqs := fun i => none, splits := fun i => none }
def pledgelaw22_isFew.sig : Sig := { args := .tc (.val kOrder) .tn, objs := [], ret := .val .bool, outs := [], F := fun x => pledgelaw22_isFew x.1.1 }
theorem pledgelaw22_isFew.eq : (fun x => body pledgelaw22_isFew.C pledgelaw22_isFew.Q Go.Proofs.Try.f82 pledgelaw22_isFew.sig.args pledgelaw22_isFew.sig.objs pledgelaw22_isFew.sig.ret pledgelaw22_isFew.sig.outs x) = pledgelaw22_isFew.sig.F := by
  kernel_rfl
set_option maxRecDepth 100000 in
theorem pledgelaw22_isFew.ctx : CtxOk Go.Proofs.Try.prog pledgelaw22_isFew.C := ⟨tyOk, (fun _ _ _ h => by cases h), Nat.le_of_ble_eq_true (by kernel_rfl), fun f sg => (fun h => by cases h)⟩
set_option maxRecDepth 100000 in
theorem pledgelaw22_isFew.ok : Sound Go.Proofs.Try.prog 82 pledgelaw22_isFew.sig := body_sound (C := pledgelaw22_isFew.C) (q := pledgelaw22_isFew.Q) (fn := Go.Proofs.Try.f82) (sg := pledgelaw22_isFew.sig) (n := 1) pledgelaw22_isFew.ctx follows Go.Proofs.Try.func82 (by kernel_rfl) (by kernel_rfl) (by kernel_rfl) (by kernel_rfl) (Nat.le_of_ble_eq_true (by kernel_rfl)) (by kernel_rfl) pledgelaw22_isFew.eq

def pledgelaw22_Few (x0 : Int × Int × (List (Int × Int × Unit)) × (List (Int × Int × Int × Int × Unit)) × (List (Int × Int × Int × Int × Unit)) × (List (Int × Int × Unit)) × Unit) : Option Int :=
  (pledgelaw22_isFew x0).bind fun r1 => bif r1 then some 1 else some 0
def pledgelaw22_Few.C : Ctx := { ty := tyT, sigs := fun i => bif Nat.beq i 82 then [pledgelaw22_isFew.sig] else [], n := 5, mp := fun _ => none }
def pledgelaw22_Few.Q : Cuts := { np := 0, loops := fun i => none, seqs := fun i => none, splits := fun i => none }
def pledgelaw22_Few.sig : Sig := { args := .tc (.val kOrder) .tn, objs := [], ret := .val (.int .i64), outs := [], F := fun x => pledgelaw22_Few x.1.1 }
theorem pledgelaw22_Few.eq : (fun x => body pledgelaw22_Few.C pledgelaw22_Few.Q Go.Proofs.Try.f36 pledgelaw22_Few.sig.args pledgelaw22_Few.sig.objs pledgelaw22_Few.sig.ret pledgelaw22_Few.sig.outs x) = pledgelaw22_Few.sig.F := by
  kernel_rfl
set_option maxRecDepth 100000 in
theorem pledgelaw22_Few.ctx : CtxOk Go.Proofs.Try.prog pledgelaw22_Few.C := ⟨tyOk, (fun _ _ _ h => by cases h), Nat.le_of_ble_eq_true (by kernel_rfl), fun f sg => fun h => sigs_if h (allS_cons pledgelaw22_isFew.ok allS_nil) ((fun h => by cases h))⟩
set_option maxRecDepth 100000 in
theorem pledgelaw22_Few.ok : Sound Go.Proofs.Try.prog 36 pledgelaw22_Few.sig := body_sound (C := pledgelaw22_Few.C) (q := pledgelaw22_Few.Q) (fn := Go.Proofs.Try.f36) (sg := pledgelaw22_Few.sig) (n := 1) pledgelaw22_Few.ctx follows Go.Proofs.Try.func36 (by kernel_rfl) (by kernel_rfl) (by kernel_rfl) (by kernel_rfl) (Nat.le_of_ble_eq_true (by kernel_rfl)) (by kernel_rfl) pledgelaw22_Few.eq

def slices_Clone_api_Line_api_Line (x0 : List (Int × Int × Unit)) : Option (Unit × List (Int × Int × Unit) × Unit) :=
  room (0 + x0.length) (some ((), (x0, ())))
def slices_Clone_api_Line_api_Line.sig : Sig := { args := .tc (.val (.slice kLine)) .tn, objs := [], ret := .row 0, outs := [.row kLine false], F := fun x => slices_Clone_api_Line_api_Line x.1.1 }
set_option maxRecDepth 100000 in
theorem slices_Clone_api_Line_api_Line.ok : Sound Go.Proofs.Try.prog 83 slices_Clone_api_Line_api_Line.sig := clone_ok (ty := tyT) tyOk follows (fn := Go.Proofs.Try.f83) (t := 40) (e := kLine) Go.Proofs.Try.func83 (by kernel_rfl) (by kernel_rfl) (by kernel_rfl) (by kernel_rfl) (by kernel_rfl) (by kernel_rfl) (by kernel_rfl) (by kernel_rfl) (fun l => by kernel_rfl) (fun l => by kernel_rfl) (fun l => by kernel_rfl) (fun l => by kernel_rfl)

def slices_Clone_api_Take_api_Take (x0 : List (Int × Int × Int × Int × Unit)) : Option (Unit × List (Int × Int × Int × Int × Unit) × Unit) :=
  room (0 + x0.length) (some ((), (x0, ())))
def slices_Clone_api_Take_api_Take.sig : Sig := { args := .tc (.val (.slice kTake)) .tn, objs := [], ret := .row 0, outs := [.row kTake false], F := fun x => slices_Clone_api_Take_api_Take x.1.1 }
set_option maxRecDepth 100000 in
theorem slices_Clone_api_Take_api_Take.ok : Sound Go.Proofs.Try.prog 84 slices_Clone_api_Take_api_Take.sig := clone_ok (ty := tyT) tyOk follows (fn := Go.Proofs.Try.f84) (t := 51) (e := kTake) Go.Proofs.Try.func84 (by kernel_rfl) (by kernel_rfl) (by kernel_rfl) (by kernel_rfl) (by kernel_rfl) (by kernel_rfl) (by kernel_rfl) (by kernel_rfl) (fun l => by kernel_rfl) (fun l => by kernel_rfl) (fun l => by kernel_rfl) (fun l => by kernel_rfl)

def order_Copy (x0 : Int × Int × (List (Int × Int × Unit)) × (List (Int × Int × Int × Int × Unit)) × (List (Int × Int × Int × Int × Unit)) × (List (Int × Int × Unit)) × Unit) : Option ((Int × Int × Unit × Unit × Unit × Unit × Unit) × (List (Int × Int × Unit)) × (List (Int × Int × Int × Int × Unit)) × (List (Int × Int × Int × Int × Unit)) × (List (Int × Int × Unit)) × Unit) :=
  (slices_Clone_api_Line_api_Line x0.2.2.1).bind fun r2 => (slices_Clone_api_Take_api_Take x0.2.2.2.1).bind fun r3 => (slices_Clone_api_Take_api_Take x0.2.2.2.2.1).bind fun r4 => (slices_Clone_api_Line_api_Line x0.2.2.2.2.2.1).bind fun r5 => some ((x0.1, (x0.2.1, ((), ((), ((), ((), x0.2.2.2.2.2.2)))))), (r2.2.1, (r3.2.1, (r4.2.1, (r5.2.1, ())))))
def order_Copy.C : Ctx := { ty := tyT, sigs := fun i => bif Nat.beq i 83 then [slices_Clone_api_Line_api_Line.sig] else bif Nat.beq i 84 then [slices_Clone_api_Take_api_Take.sig] else [], n := 20, mp := fun _ => none }
def order_Copy.Q : Cuts := { np := 0, loops := fun i => none, seqs := fun i => none, splits := fun i => none }
def order_Copy.sig : Sig := { args := .tc (.val kOrder) .tn, objs := [], ret := .pair (.val (.int .u32)) (.pair (.val (.int .u8)) (.pair (.row 0) (.pair (.row 1) (.pair (.row 2) (.pair (.row 3) (.val .unit)))))), outs := [.row kLine false, .row kTake false, .row kTake false, .row kLine false], F := fun x => order_Copy x.1.1 }
theorem order_Copy.eq : (fun x => body order_Copy.C order_Copy.Q Go.Proofs.Try.f38 order_Copy.sig.args order_Copy.sig.objs order_Copy.sig.ret order_Copy.sig.outs x) = order_Copy.sig.F := by
  kernel_rfl
set_option maxRecDepth 100000 in
theorem order_Copy.ctx : CtxOk Go.Proofs.Try.prog order_Copy.C := ⟨tyOk, (fun _ _ _ h => by cases h), Nat.le_of_ble_eq_true (by kernel_rfl), fun f sg => fun h => sigs_if h (allS_cons slices_Clone_api_Line_api_Line.ok allS_nil) (fun h => sigs_if h (allS_cons slices_Clone_api_Take_api_Take.ok allS_nil) ((fun h => by cases h)))⟩
set_option maxRecDepth 100000 in
theorem order_Copy.ok : Sound Go.Proofs.Try.prog 38 order_Copy.sig := body_sound (C := order_Copy.C) (q := order_Copy.Q) (fn := Go.Proofs.Try.f38) (sg := order_Copy.sig) (n := 1) order_Copy.ctx follows Go.Proofs.Try.func38 (by kernel_rfl) (by kernel_rfl) (by kernel_rfl) (by kernel_rfl) (Nat.le_of_ble_eq_true (by kernel_rfl)) (by kernel_rfl) order_Copy.eq

def order_lines.l1 (v : (List (Int × Int × Unit)) × (List (Int × Int × Unit)) × Int × Int) : Option (((List (Int × Int × Unit)) × (List (Int × Int × Unit)) × Int × Int) ⊕ ((List (Int × Int × Unit)) ⊕ Bool)) :=
  bif decide (v.2.2.2 < v.2.2.1) then nthK v.2.1 v.2.2.2 fun e3 => bif decide (e3.1 ≥ 4) then some (Sum.inr (Sum.inr false)) else bif decide (e3.2.1 < 1) then some (Sum.inr (Sum.inr false)) else bif decide (v.2.2.2 > 0) then nthK v.1 (IntKind.i64.wrap (v.2.2.2 - 1)) fun e4 => bif decide (e4.1 ≥ e3.1) then some (Sum.inr (Sum.inr false)) else some (Sum.inl (v.1, (v.2.1, (v.2.2.1, IntKind.i64.wrap (v.2.2.2 + 1))))) else some (Sum.inl (v.1, (v.2.1, (v.2.2.1, IntKind.i64.wrap (v.2.2.2 + 1))))) else some (Sum.inr (Sum.inl v.1))
def order_lines (x0 : List (Int × Int × Unit)) : Option Bool :=
  (iterL order_lines.l1 loopN (x0, (x0, ((x0.length : Int), 0)))).bind fun y5 => (match y5 with | .inl y6 => some (decide ((y6.length : Int) ≤ 3)) | .inr y7 => some y7)
def order_lines.C : Ctx := { ty := tyT, sigs := fun i => [], n := 39, mp := fun _ => none }
def order_lines.Q : Cuts := { np := 0, loops := fun i => bif Nat.beq i 2 then some ({ env := [(0, .val (.slice kLine)), (5, .val (.slice kLine)), (6, .val (.int .i64)), (7, .val (.int .i64))], objs := [] }, [(.exit 0, { env := [(0, .val (.slice kLine))], objs := [] }), (.ret, { env := [(2, .val .bool)], objs := [] })]) else none, seqs := fun i => none, splits := fun i => none }
def order_lines.sig : Sig := { args := .tc (.val (.slice kLine)) .tn, objs := [], ret := .val .bool, outs := [], F := fun x => order_lines x.1.1 }
theorem order_lines.eq : (fun x => body order_lines.C order_lines.Q Go.Proofs.Try.f98 order_lines.sig.args order_lines.sig.objs order_lines.sig.ret order_lines.sig.outs x) = order_lines.sig.F := by
  kernel_rfl
set_option maxRecDepth 100000 in
theorem order_lines.ctx : CtxOk Go.Proofs.Try.prog order_lines.C := ⟨tyOk, (fun _ _ _ h => by cases h), Nat.le_of_ble_eq_true (by kernel_rfl), fun f sg => (fun h => by cases h)⟩
set_option maxRecDepth 100000 in
theorem order_lines.ok : Sound Go.Proofs.Try.prog 98 order_lines.sig := body_sound (C := order_lines.C) (q := order_lines.Q) (fn := Go.Proofs.Try.f98) (sg := order_lines.sig) (n := 1) order_lines.ctx follows Go.Proofs.Try.func98 (by kernel_rfl) (by kernel_rfl) (by kernel_rfl) (by kernel_rfl) (Nat.le_of_ble_eq_true (by kernel_rfl)) (by kernel_rfl) order_lines.eq

def order_fine (x0 : Int) (x1 : Int × Int × Int × Int × Unit) : Option Bool :=
  bif (x1.1 : Int) == x0 then bif decide (x1.2.1 < 4) then bif decide (x1.2.2.1 < 4) then some (decide (x1.2.2.2.1 ≥ 1)) else some false else some false else some false
def order_fine.C : Ctx := { ty := tyT, sigs := fun i => [], n := 24, mp := fun _ => none }
def order_fine.Q : Cuts := { np := 0, loops := fun i => none, seqs := fun i => none, splits := fun i => none }
def order_fine.sig : Sig := { args := .tc (.val (.int .u32)) (.tc (.val kTake) .tn), objs := [], ret := .val .bool, outs := [], F := fun x => order_fine x.1.1 x.1.2.1 }
theorem order_fine.eq : (fun x => body order_fine.C order_fine.Q Go.Proofs.Try.f102 order_fine.sig.args order_fine.sig.objs order_fine.sig.ret order_fine.sig.outs x) = order_fine.sig.F := by
  kernel_rfl
set_option maxRecDepth 100000 in
theorem order_fine.ctx : CtxOk Go.Proofs.Try.prog order_fine.C := ⟨tyOk, (fun _ _ _ h => by cases h), Nat.le_of_ble_eq_true (by kernel_rfl), fun f sg => (fun h => by cases h)⟩
set_option maxRecDepth 100000 in
theorem order_fine.ok : Sound Go.Proofs.Try.prog 102 order_fine.sig := body_sound (C := order_fine.C) (q := order_fine.Q) (fn := Go.Proofs.Try.f102) (sg := order_fine.sig) (n := 2) order_fine.ctx follows Go.Proofs.Try.func102 (by kernel_rfl) (by kernel_rfl) (by kernel_rfl) (by kernel_rfl) (Nat.le_of_ble_eq_true (by kernel_rfl)) (by kernel_rfl) order_fine.eq

def order_ahead (x0 : Int × Int × Int × Int × Unit) (x1 : Int × Int × Int × Int × Unit) : Option Bool :=
  bif decide (x0.2.2.1 < x1.2.2.1) then some true else bif (x0.2.2.1 : Int) == x1.2.2.1 then some (decide (x0.2.1 < x1.2.1)) else some false
def order_ahead.C : Ctx := { ty := tyT, sigs := fun i => [], n := 24, mp := fun _ => none }
def order_ahead.Q : Cuts := { np := 0, loops := fun i => none, seqs := fun i => none, splits := fun i => none }
def order_ahead.sig : Sig := { args := .tc (.val kTake) (.tc (.val kTake) .tn), objs := [], ret := .val .bool, outs := [], F := fun x => order_ahead x.1.1 x.1.2.1 }
theorem order_ahead.eq : (fun x => body order_ahead.C order_ahead.Q Go.Proofs.Try.f144 order_ahead.sig.args order_ahead.sig.objs order_ahead.sig.ret order_ahead.sig.outs x) = order_ahead.sig.F := by
  kernel_rfl
set_option maxRecDepth 100000 in
theorem order_ahead.ctx : CtxOk Go.Proofs.Try.prog order_ahead.C := ⟨tyOk, (fun _ _ _ h => by cases h), Nat.le_of_ble_eq_true (by kernel_rfl), fun f sg => (fun h => by cases h)⟩
set_option maxRecDepth 100000 in
theorem order_ahead.ok : Sound Go.Proofs.Try.prog 144 order_ahead.sig := body_sound (C := order_ahead.C) (q := order_ahead.Q) (fn := Go.Proofs.Try.f144) (sg := order_ahead.sig) (n := 2) order_ahead.ctx follows Go.Proofs.Try.func144 (by kernel_rfl) (by kernel_rfl) (by kernel_rfl) (by kernel_rfl) (Nat.le_of_ble_eq_true (by kernel_rfl)) (by kernel_rfl) order_ahead.eq

def order_takes.l1 (v : Int × (List (Int × Int × Int × Int × Unit)) × (List (Int × Int × Int × Int × Unit)) × Int × Int) : Option ((Int × (List (Int × Int × Int × Int × Unit)) × (List (Int × Int × Int × Int × Unit)) × Int × Int) ⊕ (Unit ⊕ Bool)) :=
  bif decide (v.2.2.2.2 < v.2.2.2.1) then nthK v.2.2.1 v.2.2.2.2 fun e10 => (order_fine v.1 e10).bind fun r11 => bif !r11 then some (Sum.inr (Sum.inr false)) else bif decide (v.2.2.2.2 > 0) then nthK v.2.1 (IntKind.i64.wrap (v.2.2.2.2 - 1)) fun e12 => (order_ahead e12 e10).bind fun r13 => bif !r13 then some (Sum.inr (Sum.inr false)) else some (Sum.inl (v.1, (v.2.1, (v.2.2.1, (v.2.2.2.1, IntKind.i64.wrap (v.2.2.2.2 + 1)))))) else some (Sum.inl (v.1, (v.2.1, (v.2.2.1, (v.2.2.2.1, IntKind.i64.wrap (v.2.2.2.2 + 1)))))) else some (Sum.inr (Sum.inl ()))
def order_takes (x0 : Int) (x1 : List (Int × Int × Int × Int × Unit)) : Option Bool :=
  (iterL order_takes.l1 loopN (x0, (x1, (x1, ((x1.length : Int), 0))))).bind fun y14 => (match y14 with | .inl y15 => some true | .inr y16 => some y16)
def order_takes.C : Ctx := { ty := tyT, sigs := fun i => bif Nat.beq i 102 then [order_fine.sig] else bif Nat.beq i 144 then [order_ahead.sig] else [], n := 33, mp := fun _ => none }
def order_takes.Q : Cuts := { np := 0, loops := fun i => bif Nat.beq i 2 then some ({ env := [(0, .val (.int .u32)), (1, .val (.slice kTake)), (7, .val (.slice kTake)), (8, .val (.int .i64)), (9, .val (.int .i64))], objs := [] }, [(.exit 0, { env := [], objs := [] }), (.ret, { env := [(4, .val .bool)], objs := [] })]) else none, seqs := fun i => none, splits := fun i => none }
def order_takes.sig : Sig := { args := .tc (.val (.int .u32)) (.tc (.val (.slice kTake)) .tn), objs := [], ret := .val .bool, outs := [], F := fun x => order_takes x.1.1 x.1.2.1 }
theorem order_takes.eq : (fun x => body order_takes.C order_takes.Q Go.Proofs.Try.f99 order_takes.sig.args order_takes.sig.objs order_takes.sig.ret order_takes.sig.outs x) = order_takes.sig.F := by
  kernel_rfl
set_option maxRecDepth 100000 in
theorem order_takes.ctx : CtxOk Go.Proofs.Try.prog order_takes.C := ⟨tyOk, (fun _ _ _ h => by cases h), Nat.le_of_ble_eq_true (by kernel_rfl), fun f sg => fun h => sigs_if h (allS_cons order_fine.ok allS_nil) (fun h => sigs_if h (allS_cons order_ahead.ok allS_nil) ((fun h => by cases h)))⟩
set_option maxRecDepth 100000 in
theorem order_takes.ok : Sound Go.Proofs.Try.prog 99 order_takes.sig := body_sound (C := order_takes.C) (q := order_takes.Q) (fn := Go.Proofs.Try.f99) (sg := order_takes.sig) (n := 2) order_takes.ctx follows Go.Proofs.Try.func99 (by kernel_rfl) (by kernel_rfl) (by kernel_rfl) (by kernel_rfl) (Nat.le_of_ble_eq_true (by kernel_rfl)) (by kernel_rfl) order_takes.eq

def bits_Add64.sig : Sig := { args := .tc (.val (.int .u64)) (.tc (.val (.int .u64)) (.tc (.val (.int .u64)) .tn)), objs := [], ret := .tup (.tc (.val (.int .u64)) (.tc (.val (.int .u64)) .tn)), outs := [], F := fun x => add64 x.1.1 x.1.2.1 x.1.2.2.1 }
set_option maxRecDepth 100000 in
theorem bits_Add64.ok : Sound Go.Proofs.Try.prog 73 bits_Add64.sig := add64_sound Go.Proofs.Try.func73 (by kernel_rfl) (by kernel_rfl) (by kernel_rfl) (by kernel_rfl)

def calc_Sum.l1 (v : Int × Int × List Int × Int × Int) : Option ((Int × Int × List Int × Int × Int) ⊕ (Int × Int)) :=
  bif decide (v.2.2.2.2 < v.2.2.2.1) then nthK v.2.2.1 v.2.2.2.2 fun e11 => (add64 v.2.1 (IntKind.u64.wrap e11) 0).bind fun r12 => (add64 v.1 (IntKind.u64.wrap (Int.fdiv e11 (2 ^ 63))) r12.2.1).bind fun r13 => some (Sum.inl (r13.1, (r12.1, (v.2.2.1, (v.2.2.2.1, IntKind.i64.wrap (v.2.2.2.2 + 1)))))) else some (Sum.inr (v.1, v.2.1))
def calc_Sum (x0 : List Int) : Option (Int × Bool × Unit) :=
  (iterL calc_Sum.l1 loopN (0, (0, (x0, ((x0.length : Int), 0))))).bind fun y14 => bif (IntKind.u64.wrap (Int.fdiv (IntKind.i64.wrap y14.2) (2 ^ 63)) : Int) == y14.1 then some (IntKind.i64.wrap y14.2, (true, ())) else some (0, (false, ()))
def calc_Sum.C : Ctx := { ty := tyT, sigs := fun i => bif Nat.beq i 73 then [bits_Add64.sig] else [], n := 41, mp := fun _ => none }
def calc_Sum.Q : Cuts := { np := 0, loops := fun i => bif Nat.beq i 3 then some ({ env := [(4, .val (.int .u64)), (5, .val (.int .u64)), (10, .val (.slice (.int .i64))), (11, .val (.int .i64)), (12, .val (.int .i64))], objs := [] }, [(.exit 0, { env := [(4, .val (.int .u64)), (5, .val (.int .u64))], objs := [] })]) else none, seqs := fun i => none, splits := fun i => none }
def calc_Sum.sig : Sig := { args := .tc (.val (.slice (.int .i64))) .tn, objs := [], ret := .tup (.tc (.val (.int .i64)) (.tc (.val .bool) .tn)), outs := [], F := fun x => calc_Sum x.1.1 }
theorem calc_Sum.eq : (fun x => body calc_Sum.C calc_Sum.Q Go.Proofs.Try.f22 calc_Sum.sig.args calc_Sum.sig.objs calc_Sum.sig.ret calc_Sum.sig.outs x) = calc_Sum.sig.F := by
  kernel_rfl
set_option maxRecDepth 100000 in
theorem calc_Sum.ctx : CtxOk Go.Proofs.Try.prog calc_Sum.C := ⟨tyOk, (fun _ _ _ h => by cases h), Nat.le_of_ble_eq_true (by kernel_rfl), fun f sg => fun h => sigs_if h (allS_cons bits_Add64.ok allS_nil) ((fun h => by cases h))⟩
set_option maxRecDepth 100000 in
theorem calc_Sum.ok : Sound Go.Proofs.Try.prog 22 calc_Sum.sig := body_sound (C := calc_Sum.C) (q := calc_Sum.Q) (fn := Go.Proofs.Try.f22) (sg := calc_Sum.sig) (n := 1) calc_Sum.ctx follows Go.Proofs.Try.func22 (by kernel_rfl) (by kernel_rfl) (by kernel_rfl) (by kernel_rfl) (Nat.le_of_ble_eq_true (by kernel_rfl)) (by kernel_rfl) calc_Sum.eq

def order_named.l1 (v : (Int × Unit × Unit × Unit × Int × Int) × (Int × Int × (List (Int × Int × Unit)) × (List (Int × Int × Int × Int × Unit)) × (List (Int × Int × Int × Int × Unit)) × (List (Int × Int × Unit)) × Unit) × List Int × (List (Int × Int × Int × Int × Unit)) × Unit) : Option (((Int × Unit × Unit × Unit × Int × Int) × (Int × Int × (List (Int × Int × Unit)) × (List (Int × Int × Int × Int × Unit)) × (List (Int × Int × Int × Int × Unit)) × (List (Int × Int × Unit)) × Unit) × List Int × (List (Int × Int × Int × Int × Unit)) × Unit) ⊕ ((Int × Unit × Unit) × (Int × Int × (List (Int × Int × Unit)) × (List (Int × Int × Int × Int × Unit)) × (List (Int × Int × Int × Int × Unit)) × (List (Int × Int × Unit)) × Unit) × List Int × Unit)) :=
  bif decide (v.1.2.2.2.2.2 < v.1.2.2.2.2.1) then chk (decide (0 ≤ v.1.2.2.2.2.2) && decide (v.1.2.2.2.2.2 < (v.2.2.2.1.length : Int))) (nthK v.2.2.2.1 v.1.2.2.2.2.2 fun e7 => bif (e7.2.1 : Int) == v.1.1 then room (v.2.2.1.length + [e7.2.2.2.1].length) (some (Sum.inl ((v.1.1, ((), ((), ((), (v.1.2.2.2.2.1, IntKind.i64.wrap (v.1.2.2.2.2.2 + 1)))))), (v.2.1, (v.2.2.1 ++ [e7.2.2.2.1], (v.2.2.2.1, ())))))) else some (Sum.inl ((v.1.1, ((), ((), ((), (v.1.2.2.2.2.1, IntKind.i64.wrap (v.1.2.2.2.2.2 + 1)))))), (v.2.1, (v.2.2.1, (v.2.2.2.1, ())))))) else some (Sum.inr ((v.1.1, ((), ())), (v.2.1, (v.2.2.1, ()))))
def order_named.l2 (v : (Int × Unit × (List (Int × Int × Unit)) × Int × Int) × List Int × Unit) : Option (((Int × Unit × (List (Int × Int × Unit)) × Int × Int) × List Int × Unit) ⊕ (Unit × List Int × Unit)) :=
  bif decide (v.1.2.2.2.2 < v.1.2.2.2.1) then nthK v.1.2.2.1 v.1.2.2.2.2 fun e9 => bif (e9.1 : Int) == v.1.1 then room (v.2.1.length + [e9.2.1].length) (some (Sum.inl ((v.1.1, ((), (v.1.2.2.1, (v.1.2.2.2.1, IntKind.i64.wrap (v.1.2.2.2.2 + 1))))), (v.2.1 ++ [e9.2.1], ())))) else some (Sum.inl ((v.1.1, ((), (v.1.2.2.1, (v.1.2.2.2.1, IntKind.i64.wrap (v.1.2.2.2.2 + 1))))), (v.2.1, ()))) else some (Sum.inr ((), (v.2.1, ())))
def order_named (x0 : Int × Int × (List (Int × Int × Unit)) × (List (Int × Int × Int × Int × Unit)) × (List (Int × Int × Int × Int × Unit)) × (List (Int × Int × Unit)) × Unit) (x1 : Int) : Option (Int × Bool × Unit) :=
  chk (decide (0 ≤ (x0.2.2.2.1.length : Int)) && decide ((x0.2.2.2.1.length : Int) ≤ (x0.2.2.2.1.length : Int))) (chk (((x0.2.2.2.1.length : Int) : Int) == (x0.2.2.2.1.length : Int)) (room (((x0.2.2.2.1.take ((x0.2.2.2.1.length : Int) : Int).toNat).drop 0).length + x0.2.2.2.2.1.length) ((iterL order_named.l1 loopN ((x1, ((), ((), ((), (((((x0.2.2.2.1.take ((x0.2.2.2.1.length : Int) : Int).toNat).drop 0) ++ x0.2.2.2.2.1).length : Int), 0))))), (x0, ([], (((x0.2.2.2.1.take ((x0.2.2.2.1.length : Int) : Int).toNat).drop 0) ++ x0.2.2.2.2.1, ()))))).bind fun y8 => (iterL order_named.l2 loopN ((y8.1.1, ((), (y8.2.1.2.2.2.2.2.1, ((y8.2.1.2.2.2.2.2.1.length : Int), 0)))), (y8.2.2.1, ()))).bind fun y10 => (calc_Sum y10.2.1).bind fun r11 => some (r11.1, (r11.2.1, ())))))
def order_named.C : Ctx := { ty := tyT, sigs := fun i => bif Nat.beq i 22 then [calc_Sum.sig] else [], n := 59, mp := fun _ => none }
def order_named.Q : Cuts := { np := 0, loops := fun i => bif Nat.beq i 3 then some ({ env := [(1, .val (.int .u8)), (2, .ptr 0), (6, .row 1), (22, .row 2), (23, .val (.int .i64)), (24, .val (.int .i64))], objs := [.cell kOrder (.val kOrder), .row (.int .i64) false, .row kTake true] }, [(.exit 0, { env := [(1, .val (.int .u8)), (2, .ptr 0), (6, .row 1)], objs := [.cell kOrder (.val kOrder), .row (.int .i64) false] })]) else bif Nat.beq i 9 then some ({ env := [(1, .val (.int .u8)), (6, .row 0), (39, .val (.slice kLine)), (40, .val (.int .i64)), (41, .val (.int .i64))], objs := [.row (.int .i64) false] }, [(.exit 2, { env := [(6, .row 0)], objs := [.row (.int .i64) false] })]) else none, seqs := fun i => none, splits := fun i => none }
def order_named.sig : Sig := { args := .tc (.val kOrder) (.tc (.val (.int .u8)) .tn), objs := [], ret := .tup (.tc (.val (.int .i64)) (.tc (.val .bool) .tn)), outs := [], F := fun x => order_named x.1.1 x.1.2.1 }
theorem order_named.eq : (fun x => body order_named.C order_named.Q Go.Proofs.Try.f87 order_named.sig.args order_named.sig.objs order_named.sig.ret order_named.sig.outs x) = order_named.sig.F := by
  kernel_rfl
set_option maxRecDepth 100000 in
theorem order_named.ctx : CtxOk Go.Proofs.Try.prog order_named.C := ⟨tyOk, (fun _ _ _ h => by cases h), Nat.le_of_ble_eq_true (by kernel_rfl), fun f sg => fun h => sigs_if h (allS_cons calc_Sum.ok allS_nil) ((fun h => by cases h))⟩
set_option maxRecDepth 100000 in
theorem order_named.ok : Sound Go.Proofs.Try.prog 87 order_named.sig := body_sound (C := order_named.C) (q := order_named.Q) (fn := Go.Proofs.Try.f87) (sg := order_named.sig) (n := 2) order_named.ctx follows Go.Proofs.Try.func87 (by kernel_rfl) (by kernel_rfl) (by kernel_rfl) (by kernel_rfl) (Nat.le_of_ble_eq_true (by kernel_rfl)) (by kernel_rfl) order_named.eq

def order_first.l1 (v : Int × (List (Int × Int × Unit)) × Int × Int) : Option ((Int × (List (Int × Int × Unit)) × Int × Int) ⊕ (Unit ⊕ Int)) :=
  bif decide (v.2.2.2 < v.2.2.1) then nthK v.2.1 v.2.2.2 fun e8 => bif (e8.1 : Int) == v.1 then some (Sum.inr (Sum.inr e8.2.1)) else some (Sum.inl (v.1, (v.2.1, (v.2.2.1, IntKind.i64.wrap (v.2.2.2 + 1))))) else some (Sum.inr (Sum.inl ()))
def order_first (x0 : List (Int × Int × Unit)) (x1 : Int) : Option Int :=
  (iterL order_first.l1 loopN (x1, (x0, ((x0.length : Int), 0)))).bind fun y9 => (match y9 with | .inl y10 => some 0 | .inr y11 => some y11)
def order_first.C : Ctx := { ty := tyT, sigs := fun i => [], n := 20, mp := fun _ => none }
def order_first.Q : Cuts := { np := 0, loops := fun i => bif Nat.beq i 2 then some ({ env := [(1, .val (.int .u8)), (7, .val (.slice kLine)), (8, .val (.int .i64)), (9, .val (.int .i64))], objs := [] }, [(.exit 0, { env := [], objs := [] }), (.ret, { env := [(4, .val (.int .i64))], objs := [] })]) else none, seqs := fun i => none, splits := fun i => none }
def order_first.sig : Sig := { args := .tc (.val (.slice kLine)) (.tc (.val (.int .u8)) .tn), objs := [], ret := .val (.int .i64), outs := [], F := fun x => order_first x.1.1 x.1.2.1 }
theorem order_first.eq : (fun x => body order_first.C order_first.Q Go.Proofs.Try.f86 order_first.sig.args order_first.sig.objs order_first.sig.ret order_first.sig.outs x) = order_first.sig.F := by
  kernel_rfl
set_option maxRecDepth 100000 in
theorem order_first.ctx : CtxOk Go.Proofs.Try.prog order_first.C := ⟨tyOk, (fun _ _ _ h => by cases h), Nat.le_of_ble_eq_true (by kernel_rfl), fun f sg => (fun h => by cases h)⟩
set_option maxRecDepth 100000 in
theorem order_first.ok : Sound Go.Proofs.Try.prog 86 order_first.sig := body_sound (C := order_first.C) (q := order_first.Q) (fn := Go.Proofs.Try.f86) (sg := order_first.sig) (n := 2) order_first.ctx follows Go.Proofs.Try.func86 (by kernel_rfl) (by kernel_rfl) (by kernel_rfl) (by kernel_rfl) (Nat.le_of_ble_eq_true (by kernel_rfl)) (by kernel_rfl) order_first.eq

def order_Good.l1 (v : (Unit × Int) × (Int × Int × (List (Int × Int × Unit)) × (List (Int × Int × Int × Int × Unit)) × (List (Int × Int × Int × Int × Unit)) × (List (Int × Int × Unit)) × Unit) × Unit) : Option (((Unit × Int) × (Int × Int × (List (Int × Int × Unit)) × (List (Int × Int × Int × Int × Unit)) × (List (Int × Int × Int × Int × Unit)) × (List (Int × Int × Unit)) × Unit) × Unit) ⊕ (Unit ⊕ Bool)) :=
  bif decide (v.1.2 < 4) then (order_named v.2.1 v.1.2).bind fun r7 => bif !r7.2.1 then some (Sum.inr (Sum.inr false)) else (order_first v.2.1.2.2.1 v.1.2).bind fun r8 => bif decide (r7.1 > r8) then some (Sum.inr (Sum.inr false)) else some (Sum.inl (((), IntKind.u8.wrap (v.1.2 + 1)), (v.2.1, ()))) else some (Sum.inr (Sum.inl ()))
def order_Good (x0 : Int × Int × (List (Int × Int × Unit)) × (List (Int × Int × Int × Int × Unit)) × (List (Int × Int × Int × Int × Unit)) × (List (Int × Int × Unit)) × Unit) : Option Bool :=
  bif (x0.1 : Int) == 0 then some false else bif decide (x0.2.1 > 1) then some false else bif ((x0.2.2.1.length : Int) : Int) == 0 then some false else (order_lines x0.2.2.1).bind fun r3 => bif !r3 then some false else (order_lines x0.2.2.2.2.2.1).bind fun r4 => bif !r4 then some false else (order_takes x0.1 x0.2.2.2.1).bind fun r5 => bif !r5 then some false else (order_takes x0.1 x0.2.2.2.2.1).bind fun r6 => bif !r6 then some false else (iterL order_Good.l1 loopN (((), 0), (x0, ()))).bind fun y9 => (match y9 with | .inl y10 => some true | .inr y11 => some y11)
def order_Good.C : Ctx := { ty := tyT, sigs := fun i => bif Nat.beq i 86 then [order_first.sig] else bif Nat.beq i 87 then [order_named.sig] else bif Nat.beq i 98 then [order_lines.sig] else bif Nat.beq i 99 then [order_takes.sig] else [], n := 68, mp := fun _ => none }
def order_Good.Q : Cuts := { np := 0, loops := fun i => bif Nat.beq i 4 then some ({ env := [(1, .ptr 0), (48, .val (.int .u8))], objs := [.cell kOrder (.val kOrder)] }, [(.exit 0, { env := [], objs := [] }), (.ret, { env := [(2, .val .bool)], objs := [] })]) else none, seqs := fun i => none, splits := fun i => none }
def order_Good.sig : Sig := { args := .tc (.val kOrder) .tn, objs := [], ret := .val .bool, outs := [], F := fun x => order_Good x.1.1 }
theorem order_Good.eq : (fun x => body order_Good.C order_Good.Q Go.Proofs.Try.f53 order_Good.sig.args order_Good.sig.objs order_Good.sig.ret order_Good.sig.outs x) = order_Good.sig.F := by
  kernel_rfl
set_option maxRecDepth 100000 in
theorem order_Good.ctx : CtxOk Go.Proofs.Try.prog order_Good.C := ⟨tyOk, (fun _ _ _ h => by cases h), Nat.le_of_ble_eq_true (by kernel_rfl), fun f sg => fun h => sigs_if h (allS_cons order_first.ok allS_nil) (fun h => sigs_if h (allS_cons order_named.ok allS_nil) (fun h => sigs_if h (allS_cons order_lines.ok allS_nil) (fun h => sigs_if h (allS_cons order_takes.ok allS_nil) ((fun h => by cases h)))))⟩
set_option maxRecDepth 100000 in
theorem order_Good.ok : Sound Go.Proofs.Try.prog 53 order_Good.sig := body_sound (C := order_Good.C) (q := order_Good.Q) (fn := Go.Proofs.Try.f53) (sg := order_Good.sig) (n := 1) order_Good.ctx follows Go.Proofs.Try.func53 (by kernel_rfl) (by kernel_rfl) (by kernel_rfl) (by kernel_rfl) (Nat.le_of_ble_eq_true (by kernel_rfl)) (by kernel_rfl) order_Good.eq

def order_Owed (x0 : Int × Int × (List (Int × Int × Unit)) × (List (Int × Int × Int × Int × Unit)) × (List (Int × Int × Int × Int × Unit)) × (List (Int × Int × Unit)) × Unit) (x1 : Int) : Option Int :=
  (order_first x0.2.2.2.2.2.1 x1).bind fun r5 => some r5
def order_Owed.C : Ctx := { ty := tyT, sigs := fun i => bif Nat.beq i 86 then [order_first.sig] else [], n := 9, mp := fun _ => none }
def order_Owed.Q : Cuts := { np := 0, loops := fun i => none, seqs := fun i => none, splits := fun i => none }
def order_Owed.sig : Sig := { args := .tc (.val kOrder) (.tc (.val (.int .u8)) .tn), objs := [], ret := .val (.int .i64), outs := [], F := fun x => order_Owed x.1.1 x.1.2.1 }
theorem order_Owed.eq : (fun x => body order_Owed.C order_Owed.Q Go.Proofs.Try.f40 order_Owed.sig.args order_Owed.sig.objs order_Owed.sig.ret order_Owed.sig.outs x) = order_Owed.sig.F := by
  kernel_rfl
set_option maxRecDepth 100000 in
theorem order_Owed.ctx : CtxOk Go.Proofs.Try.prog order_Owed.C := ⟨tyOk, (fun _ _ _ h => by cases h), Nat.le_of_ble_eq_true (by kernel_rfl), fun f sg => fun h => sigs_if h (allS_cons order_first.ok allS_nil) ((fun h => by cases h))⟩
set_option maxRecDepth 100000 in
theorem order_Owed.ok : Sound Go.Proofs.Try.prog 40 order_Owed.sig := body_sound (C := order_Owed.C) (q := order_Owed.Q) (fn := Go.Proofs.Try.f40) (sg := order_Owed.sig) (n := 2) order_Owed.ctx follows Go.Proofs.Try.func40 (by kernel_rfl) (by kernel_rfl) (by kernel_rfl) (by kernel_rfl) (Nat.le_of_ble_eq_true (by kernel_rfl)) (by kernel_rfl) order_Owed.eq

def order_with.l1 (v : ((List (Int × Int × Int × Int × Unit)) × Unit × Int) × (Int × Int × Int × Int × Unit) × Unit) : Option ((((List (Int × Int × Int × Int × Unit)) × Unit × Int) × (Int × Int × Int × Int × Unit) × Unit) ⊕ (((List (Int × Int × Int × Int × Unit)) × Unit × Int) × (Int × Int × Int × Int × Unit) × Unit)) :=
  bif decide (v.1.2.2 < (v.1.1.length : Int)) then nthK v.1.1 v.1.2.2 fun e8 => (order_ahead e8 v.2.1).bind fun r9 => bif r9 then some (Sum.inl ((v.1.1, ((), IntKind.i64.wrap (v.1.2.2 + 1))), (v.2.1, ()))) else some (Sum.inr ((v.1.1, ((), v.1.2.2)), (v.2.1, ()))) else some (Sum.inr ((v.1.1, ((), v.1.2.2)), (v.2.1, ())))
def order_with (x0 : List (Int × Int × Int × Int × Unit)) (x1 : Int × Int × Int × Int × Unit) : Option (List (Int × Int × Int × Int × Unit)) :=
  (iterL order_with.l1 loopN ((x0, ((), 0)), (x1, ()))).bind fun y10 => bif decide (y10.1.2.2 < (y10.1.1.length : Int)) then nthK y10.1.1 y10.1.2.2 fun e11 => (order_ahead y10.2.1 e11).bind fun r12 => bif !r12 then (slices_Clone_api_Take_api_Take y10.1.1).bind fun r13 => chk (decide (0 ≤ y10.1.2.2) && decide (y10.1.2.2 < (r13.2.1.length : Int))) (nthK r13.2.1 y10.1.2.2 fun e14 => chk (decide (0 ≤ y10.1.2.2) && decide (y10.1.2.2 < (r13.2.1.length : Int))) (natK y10.1.2.2 fun n15 => nthN r13.2.1 n15 fun e16 => some (r13.2.1.set n15 (e16.1, (e16.2.1, (e16.2.2.1, (IntKind.i64.wrap (e14.2.2.2.1 + y10.2.1.2.2.2.1), e16.2.2.2.2))))))) else chk (decide (0 ≤ y10.1.2.2) && decide (y10.1.2.2 ≤ (y10.1.1.length : Int))) (chk ((y10.1.2.2 : Int) == y10.1.2.2) (room (((y10.1.1.take (y10.1.2.2 : Int).toNat).drop 0).length + [y10.2.1].length) (chk (decide (0 ≤ y10.1.2.2) && decide (y10.1.2.2 ≤ (y10.1.1.length : Int))) (room ((((y10.1.1.take (y10.1.2.2 : Int).toNat).drop 0) ++ [y10.2.1]).length + ((y10.1.1.take y10.1.1.length).drop (y10.1.2.2 : Int).toNat).length) (some ((((y10.1.1.take (y10.1.2.2 : Int).toNat).drop 0) ++ [y10.2.1]) ++ ((y10.1.1.take y10.1.1.length).drop (y10.1.2.2 : Int).toNat))))))) else chk (decide (0 ≤ y10.1.2.2) && decide (y10.1.2.2 ≤ (y10.1.1.length : Int))) (chk ((y10.1.2.2 : Int) == y10.1.2.2) (room (((y10.1.1.take (y10.1.2.2 : Int).toNat).drop 0).length + [y10.2.1].length) (chk (decide (0 ≤ y10.1.2.2) && decide (y10.1.2.2 ≤ (y10.1.1.length : Int))) (room ((((y10.1.1.take (y10.1.2.2 : Int).toNat).drop 0) ++ [y10.2.1]).length + ((y10.1.1.take y10.1.1.length).drop (y10.1.2.2 : Int).toNat).length) (some ((((y10.1.1.take (y10.1.2.2 : Int).toNat).drop 0) ++ [y10.2.1]) ++ ((y10.1.1.take y10.1.1.length).drop (y10.1.2.2 : Int).toNat)))))))
def order_with.C : Ctx := { ty := tyT, sigs := fun i => bif Nat.beq i 84 then [slices_Clone_api_Take_api_Take.sig] else bif Nat.beq i 144 then [order_ahead.sig] else [], n := 58, mp := fun _ => none }
def order_with.Q : Cuts := { np := 0, loops := fun i => bif Nat.beq i 2 then some ({ env := [(0, .val (.slice kTake)), (3, .ptr 0), (5, .val (.int .i64))], objs := [.cell kTake (.val kTake)] }, [(.exit 0, { env := [(0, .val (.slice kTake)), (3, .ptr 0), (5, .val (.int .i64))], objs := [.cell kTake (.val kTake)] })]) else none, seqs := fun i => none, splits := fun i => none }
def order_with.sig : Sig := { args := .tc (.val (.slice kTake)) (.tc (.val kTake) .tn), objs := [], ret := .val (.slice kTake), outs := [], F := fun x => order_with x.1.1 x.1.2.1 }
theorem order_with.eq : (fun x => body order_with.C order_with.Q Go.Proofs.Try.f100 order_with.sig.args order_with.sig.objs order_with.sig.ret order_with.sig.outs x) = order_with.sig.F := by
  kernel_rfl
set_option maxRecDepth 100000 in
theorem order_with.ctx : CtxOk Go.Proofs.Try.prog order_with.C := ⟨tyOk, (fun _ _ _ h => by cases h), Nat.le_of_ble_eq_true (by kernel_rfl), fun f sg => fun h => sigs_if h (allS_cons slices_Clone_api_Take_api_Take.ok allS_nil) (fun h => sigs_if h (allS_cons order_ahead.ok allS_nil) ((fun h => by cases h)))⟩
set_option maxRecDepth 100000 in
theorem order_with.ok : Sound Go.Proofs.Try.prog 100 order_with.sig := body_sound (C := order_with.C) (q := order_with.Q) (fn := Go.Proofs.Try.f100) (sg := order_with.sig) (n := 2) order_with.ctx follows Go.Proofs.Try.func100 (by kernel_rfl) (by kernel_rfl) (by kernel_rfl) (by kernel_rfl) (Nat.le_of_ble_eq_true (by kernel_rfl)) (by kernel_rfl) order_with.eq

def order_Fill.l1 (v : (Unit × Unit × Unit × Unit × Unit × Int × Int) × (Int × Int × Unit × Unit × Unit × Unit × Unit) × (Int × Int × Int × Int × Unit) × (Int × Int × Unit × Unit × Unit × Unit × Unit) × (List (Int × Int × Unit)) × (List (Int × Int × Unit)) × (List (Int × Int × Unit)) × (List (Int × Int × Int × Int × Unit)) × (List (Int × Int × Int × Int × Unit)) × Unit) : Option (((Unit × Unit × Unit × Unit × Unit × Int × Int) × (Int × Int × Unit × Unit × Unit × Unit × Unit) × (Int × Int × Int × Int × Unit) × (Int × Int × Unit × Unit × Unit × Unit × Unit) × (List (Int × Int × Unit)) × (List (Int × Int × Unit)) × (List (Int × Int × Unit)) × (List (Int × Int × Int × Int × Unit)) × (List (Int × Int × Int × Int × Unit)) × Unit) ⊕ ((Unit × Unit × Unit × Unit) × (Int × Int × Unit × Unit × Unit × Unit × Unit) × (Int × Int × Int × Int × Unit) × (Int × Int × Unit × Unit × Unit × Unit × Unit) × (List (Int × Int × Unit)) × (List (Int × Int × Unit)) × (List (Int × Int × Int × Int × Unit)) × (List (Int × Int × Int × Int × Unit)) × (List (Int × Int × Unit)) × Unit)) :=
  bif decide (v.1.2.2.2.2.2.2 < v.1.2.2.2.2.2.1) then chk (decide (0 ≤ v.1.2.2.2.2.2.2) && decide (v.1.2.2.2.2.2.2 < (v.2.2.2.2.2.1.length : Int))) (nthK v.2.2.2.2.2.1 v.1.2.2.2.2.2.2 fun e6 => bif (e6.1 : Int) == v.2.2.1.2.1 then bif decide ((IntKind.i64.wrap (e6.2.1 - v.2.2.1.2.2.2.1)) > 0) then room (v.2.2.2.2.1.length + [(e6.1, (IntKind.i64.wrap (e6.2.1 - v.2.2.1.2.2.2.1), e6.2.2))].length) (some (Sum.inl (((), ((), ((), ((), ((), (v.1.2.2.2.2.2.1, IntKind.i64.wrap (v.1.2.2.2.2.2.2 + 1))))))), ((v.2.1.1, (v.2.1.2.1, ((), ((), ((), ((), v.2.1.2.2.2.2.2.2)))))), (v.2.2.1, ((v.2.2.2.1.1, (v.2.2.2.1.2.1, ((), ((), ((), ((), v.2.2.2.1.2.2.2.2.2.2)))))), (v.2.2.2.2.1 ++ [(e6.1, (IntKind.i64.wrap (e6.2.1 - v.2.2.1.2.2.2.1), e6.2.2))], (v.2.2.2.2.2.1, (v.2.2.2.2.2.2.1, (v.2.2.2.2.2.2.2.1, (v.2.2.2.2.2.2.2.2.1, ()))))))))))) else some (Sum.inl (((), ((), ((), ((), ((), (v.1.2.2.2.2.2.1, IntKind.i64.wrap (v.1.2.2.2.2.2.2 + 1))))))), ((v.2.1.1, (v.2.1.2.1, ((), ((), ((), ((), v.2.1.2.2.2.2.2.2)))))), (v.2.2.1, ((v.2.2.2.1.1, (v.2.2.2.1.2.1, ((), ((), ((), ((), v.2.2.2.1.2.2.2.2.2.2)))))), (v.2.2.2.2.1, (v.2.2.2.2.2.1, (v.2.2.2.2.2.2.1, (v.2.2.2.2.2.2.2.1, (v.2.2.2.2.2.2.2.2.1, ())))))))))) else bif decide (e6.2.1 > 0) then room (v.2.2.2.2.1.length + [e6].length) (some (Sum.inl (((), ((), ((), ((), ((), (v.1.2.2.2.2.2.1, IntKind.i64.wrap (v.1.2.2.2.2.2.2 + 1))))))), ((v.2.1.1, (v.2.1.2.1, ((), ((), ((), ((), v.2.1.2.2.2.2.2.2)))))), (v.2.2.1, ((v.2.2.2.1.1, (v.2.2.2.1.2.1, ((), ((), ((), ((), v.2.2.2.1.2.2.2.2.2.2)))))), (v.2.2.2.2.1 ++ [e6], (v.2.2.2.2.2.1, (v.2.2.2.2.2.2.1, (v.2.2.2.2.2.2.2.1, (v.2.2.2.2.2.2.2.2.1, ()))))))))))) else some (Sum.inl (((), ((), ((), ((), ((), (v.1.2.2.2.2.2.1, IntKind.i64.wrap (v.1.2.2.2.2.2.2 + 1))))))), ((v.2.1.1, (v.2.1.2.1, ((), ((), ((), ((), v.2.1.2.2.2.2.2.2)))))), (v.2.2.1, ((v.2.2.2.1.1, (v.2.2.2.1.2.1, ((), ((), ((), ((), v.2.2.2.1.2.2.2.2.2.2)))))), (v.2.2.2.2.1, (v.2.2.2.2.2.1, (v.2.2.2.2.2.2.1, (v.2.2.2.2.2.2.2.1, (v.2.2.2.2.2.2.2.2.1, ()))))))))))) else some (Sum.inr (((), ((), ((), ()))), ((v.2.1.1, (v.2.1.2.1, ((), ((), ((), ((), v.2.1.2.2.2.2.2.2)))))), (v.2.2.1, ((v.2.2.2.1.1, (v.2.2.2.1.2.1, ((), ((), ((), ((), v.2.2.2.1.2.2.2.2.2.2)))))), (v.2.2.2.2.1, (v.2.2.2.2.2.2.1, (v.2.2.2.2.2.2.2.1, (v.2.2.2.2.2.2.2.2.1, (v.2.2.2.2.2.1, ()))))))))))
def order_Fill (x0 : Int × Int × (List (Int × Int × Unit)) × (List (Int × Int × Int × Int × Unit)) × (List (Int × Int × Int × Int × Unit)) × (List (Int × Int × Unit)) × Unit) (x1 : Int × Int × Int × Int × Unit) : Option ((Int × Int × (List (Int × Int × Unit)) × (List (Int × Int × Int × Int × Unit)) × (List (Int × Int × Int × Int × Unit)) × (List (Int × Int × Unit)) × Unit) × Int × Unit) :=
  (order_Copy x0).bind fun r2 => (order_Good (r2.1.1, (r2.1.2.1, (r2.2.1, (r2.2.2.1, (r2.2.2.2.1, (r2.2.2.2.2.1, r2.1.2.2.2.2.2.2))))))).bind fun r3 => bif !r3 then some ((r2.1.1, (r2.1.2.1, (r2.2.1, (r2.2.2.1, (r2.2.2.2.1, (r2.2.2.2.2.1, r2.1.2.2.2.2.2.2)))))), (12, ())) else (order_fine r2.1.1 x1).bind fun r4 => bif !r4 then some ((r2.1.1, (r2.1.2.1, (r2.2.1, (r2.2.2.1, (r2.2.2.2.1, (r2.2.2.2.2.1, r2.1.2.2.2.2.2.2)))))), (1, ())) else (order_Owed (r2.1.1, (r2.1.2.1, (r2.2.1, (r2.2.2.1, (r2.2.2.2.1, (r2.2.2.2.2.1, r2.1.2.2.2.2.2.2)))))) x1.2.1).bind fun r5 => bif decide (r5 < x1.2.2.2.1) then some ((r2.1.1, (r2.1.2.1, (r2.2.1, (r2.2.2.1, (r2.2.2.2.1, (r2.2.2.2.2.1, r2.1.2.2.2.2.2.2)))))), (12, ())) else (iterL order_Fill.l1 loopN (((), ((), ((), ((), ((), ((r2.2.2.2.2.1.length : Int), 0)))))), ((r2.1.1, (r2.1.2.1, ((), ((), ((), ((), r2.1.2.2.2.2.2.2)))))), (x1, ((0, (0, ((), ((), ((), ((), ())))))), ([], (r2.2.2.2.2.1, (r2.2.1, (r2.2.2.1, (r2.2.2.2.1, ())))))))))).bind fun y7 => (order_with y7.2.2.2.2.2.2.1 y7.2.2.1).bind fun r8 => some ((y7.2.1.1, (y7.2.1.2.1, (y7.2.2.2.2.2.1, (r8, (y7.2.2.2.2.2.2.2.1, (y7.2.2.2.2.1, y7.2.1.2.2.2.2.2.2)))))), (0, ()))
def order_Fill.C : Ctx := { ty := tyT, sigs := fun i => bif Nat.beq i 38 then [order_Copy.sig] else bif Nat.beq i 40 then [order_Owed.sig] else bif Nat.beq i 53 then [order_Good.sig] else bif Nat.beq i 100 then [order_with.sig] else bif Nat.beq i 102 then [order_fine.sig] else [], n := 66, mp := fun _ => none }
def order_Fill.Q : Cuts := { np := 0, loops := fun i => bif Nat.beq i 10 then some ({ env := [(2, .ptr 0), (3, .ptr 1), (4, .ptr 2), (6, .row 3), (33, .row 4), (34, .val (.int .i64)), (35, .val (.int .i64))], objs := [.cell kOrder (.pair (.val (.int .u32)) (.pair (.val (.int .u8)) (.pair (.row 5) (.pair (.row 6) (.pair (.row 7) (.pair (.row 4) (.val .unit))))))), .cell kTake (.val kTake), .cell kOrder (.pair (.val (.int .u32)) (.pair (.val (.int .u8)) (.pair (.nils kLine) (.pair (.nils kTake) (.pair (.nils kTake) (.pair (.nils kLine) (.val .unit))))))), .row kLine false, .row kLine false, .row kLine false, .row kTake false, .row kTake false] }, [(.exit 1, { env := [(2, .ptr 0), (3, .ptr 1), (4, .ptr 2), (6, .row 3)], objs := [.cell kOrder (.pair (.val (.int .u32)) (.pair (.val (.int .u8)) (.pair (.row 4) (.pair (.row 5) (.pair (.row 6) (.pair (.row 7) (.val .unit))))))), .cell kTake (.val kTake), .cell kOrder (.pair (.val (.int .u32)) (.pair (.val (.int .u8)) (.pair (.nils kLine) (.pair (.nils kTake) (.pair (.nils kTake) (.pair (.nils kLine) (.val .unit))))))), .row kLine false, .row kLine false, .row kTake false, .row kTake false, .row kLine false] })]) else none, seqs := fun i => none, splits := fun i => none }
def order_Fill.sig : Sig := { args := .tc (.val kOrder) (.tc (.val kTake) .tn), objs := [], ret := .tup (.tc (.val kOrder) (.tc (.val (.int .i64)) .tn)), outs := [], F := fun x => order_Fill x.1.1 x.1.2.1 }
theorem order_Fill.eq : (fun x => body order_Fill.C order_Fill.Q Go.Proofs.Try.f56 order_Fill.sig.args order_Fill.sig.objs order_Fill.sig.ret order_Fill.sig.outs x) = order_Fill.sig.F := by
  kernel_rfl
set_option maxRecDepth 100000 in
theorem order_Fill.ctx : CtxOk Go.Proofs.Try.prog order_Fill.C := ⟨tyOk, (fun _ _ _ h => by cases h), Nat.le_of_ble_eq_true (by kernel_rfl), fun f sg => fun h => sigs_if h (allS_cons order_Copy.ok allS_nil) (fun h => sigs_if h (allS_cons order_Owed.ok allS_nil) (fun h => sigs_if h (allS_cons order_Good.ok allS_nil) (fun h => sigs_if h (allS_cons order_with.ok allS_nil) (fun h => sigs_if h (allS_cons order_fine.ok allS_nil) ((fun h => by cases h))))))⟩
set_option maxRecDepth 100000 in
theorem order_Fill.ok : Sound Go.Proofs.Try.prog 56 order_Fill.sig := body_sound (C := order_Fill.C) (q := order_Fill.Q) (fn := Go.Proofs.Try.f56) (sg := order_Fill.sig) (n := 2) order_Fill.ctx follows Go.Proofs.Try.func56 (by kernel_rfl) (by kernel_rfl) (by kernel_rfl) (by kernel_rfl) (Nat.le_of_ble_eq_true (by kernel_rfl)) (by kernel_rfl) order_Fill.eq

def order_Total (x0 : Int × Int × (List (Int × Int × Unit)) × (List (Int × Int × Int × Int × Unit)) × (List (Int × Int × Int × Int × Unit)) × (List (Int × Int × Unit)) × Unit) (x1 : Int) : Option Int :=
  (order_named x0 x1).bind fun r5 => some r5.1
def order_Total.C : Ctx := { ty := tyT, sigs := fun i => bif Nat.beq i 87 then [order_named.sig] else [], n := 14, mp := fun _ => none }
def order_Total.Q : Cuts := { np := 0, loops := fun i => none, seqs := fun i => none, splits := fun i => none }
def order_Total.sig : Sig := { args := .tc (.val kOrder) (.tc (.val (.int .u8)) .tn), objs := [], ret := .val (.int .i64), outs := [], F := fun x => order_Total x.1.1 x.1.2.1 }
theorem order_Total.eq : (fun x => body order_Total.C order_Total.Q Go.Proofs.Try.f42 order_Total.sig.args order_Total.sig.objs order_Total.sig.ret order_Total.sig.outs x) = order_Total.sig.F := by
  kernel_rfl
set_option maxRecDepth 100000 in
theorem order_Total.ctx : CtxOk Go.Proofs.Try.prog order_Total.C := ⟨tyOk, (fun _ _ _ h => by cases h), Nat.le_of_ble_eq_true (by kernel_rfl), fun f sg => fun h => sigs_if h (allS_cons order_named.ok allS_nil) ((fun h => by cases h))⟩
set_option maxRecDepth 100000 in
theorem order_Total.ok : Sound Go.Proofs.Try.prog 42 order_Total.sig := body_sound (C := order_Total.C) (q := order_Total.Q) (fn := Go.Proofs.Try.f42) (sg := order_Total.sig) (n := 2) order_Total.ctx follows Go.Proofs.Try.func42 (by kernel_rfl) (by kernel_rfl) (by kernel_rfl) (by kernel_rfl) (Nat.le_of_ble_eq_true (by kernel_rfl)) (by kernel_rfl) order_Total.eq

def pledgelaw22_works  : Option Bool :=
  (order_Fill (4, (0, ([(0, (5, ()))], ([(4, (0, (0, (3, ()))))], ([], ([(0, (2, ()))], ())))))) (4, (0, (1, (2, ()))))).bind fun r2 => bif (r2.2.1 : Int) == 0 then bif ((r2.1.2.2.2.1.length : Int) : Int) == 2 then nthK r2.1.2.2.2.1 1 fun e3 => bif (e3.2.2.1 : Int) == 1 then nthK r2.1.2.2.2.1 1 fun e4 => bif (e4.2.2.2.1 : Int) == 2 then bif ((r2.1.2.2.2.2.2.1.length : Int) : Int) == 0 then (order_Total r2.1 0).bind fun r5 => some ((r5 : Int) == 5) else some false else some false else some false else some false else some false
def pledgelaw22_works.C : Ctx := { ty := tyT, sigs := fun i => bif Nat.beq i 42 then [order_Total.sig] else bif Nat.beq i 56 then [order_Fill.sig] else [], n := 52, mp := fun _ => none }
def pledgelaw22_works.Q : Cuts := { np := 0, loops := fun i => none, seqs := fun i => none, splits := fun i => none }
def pledgelaw22_works.sig : Sig := { args := .tn, objs := [], ret := .val .bool, outs := [], F := fun x => pledgelaw22_works }
theorem pledgelaw22_works.eq : (fun x => body pledgelaw22_works.C pledgelaw22_works.Q Go.Proofs.Try.f37 pledgelaw22_works.sig.args pledgelaw22_works.sig.objs pledgelaw22_works.sig.ret pledgelaw22_works.sig.outs x) = pledgelaw22_works.sig.F := by
  kernel_rfl
set_option maxRecDepth 100000 in
theorem pledgelaw22_works.ctx : CtxOk Go.Proofs.Try.prog pledgelaw22_works.C := ⟨tyOk, (fun _ _ _ h => by cases h), Nat.le_of_ble_eq_true (by kernel_rfl), fun f sg => fun h => sigs_if h (allS_cons order_Total.ok allS_nil) (fun h => sigs_if h (allS_cons order_Fill.ok allS_nil) ((fun h => by cases h)))⟩
set_option maxRecDepth 100000 in
theorem pledgelaw22_works.ok : Sound Go.Proofs.Try.prog 37 pledgelaw22_works.sig := body_sound (C := pledgelaw22_works.C) (q := pledgelaw22_works.Q) (fn := Go.Proofs.Try.f37) (sg := pledgelaw22_works.sig) (n := 0) pledgelaw22_works.ctx follows Go.Proofs.Try.func37 (by kernel_rfl) (by kernel_rfl) (by kernel_rfl) (by kernel_rfl) (Nat.le_of_ble_eq_true (by kernel_rfl)) (by kernel_rfl) pledgelaw22_works.eq

def pledgeref12_SameLines.l1 (v : (List (Int × Int × Unit)) × (List (Int × Int × Unit)) × Int) : Option (((List (Int × Int × Unit)) × (List (Int × Int × Unit)) × Int) ⊕ (Unit ⊕ Bool)) :=
  bif decide (v.2.2 < (v.1.length : Int)) then nthK v.1 v.2.2 fun e6 => nthK v.2.1 v.2.2 fun e7 => bif !(eqE kLine e6 e7) then some (Sum.inr (Sum.inr false)) else some (Sum.inl (v.1, (v.2.1, IntKind.i64.wrap (v.2.2 + 1)))) else some (Sum.inr (Sum.inl ()))
def pledgeref12_SameLines (x0 : List (Int × Int × Unit)) (x1 : List (Int × Int × Unit)) : Option Bool :=
  bif ((x0.length : Int) : Int) != (x1.length : Int) then some false else (iterL pledgeref12_SameLines.l1 loopN (x0, (x1, 0))).bind fun y8 => (match y8 with | .inl y9 => some true | .inr y10 => some y10)
def pledgeref12_SameLines.C : Ctx := { ty := tyT, sigs := fun i => [], n := 26, mp := fun _ => none }
def pledgeref12_SameLines.Q : Cuts := { np := 0, loops := fun i => bif Nat.beq i 4 then some ({ env := [(0, .val (.slice kLine)), (1, .val (.slice kLine)), (5, .val (.int .i64))], objs := [] }, [(.exit 0, { env := [], objs := [] }), (.ret, { env := [(4, .val .bool)], objs := [] })]) else none, seqs := fun i => none, splits := fun i => none }
def pledgeref12_SameLines.sig : Sig := { args := .tc (.val (.slice kLine)) (.tc (.val (.slice kLine)) .tn), objs := [], ret := .val .bool, outs := [], F := fun x => pledgeref12_SameLines x.1.1 x.1.2.1 }
theorem pledgeref12_SameLines.eq : (fun x => body pledgeref12_SameLines.C pledgeref12_SameLines.Q Go.Proofs.Try.f75 pledgeref12_SameLines.sig.args pledgeref12_SameLines.sig.objs pledgeref12_SameLines.sig.ret pledgeref12_SameLines.sig.outs x) = pledgeref12_SameLines.sig.F := by
  kernel_rfl
set_option maxRecDepth 100000 in
theorem pledgeref12_SameLines.ctx : CtxOk Go.Proofs.Try.prog pledgeref12_SameLines.C := ⟨tyOk, (fun _ _ _ h => by cases h), Nat.le_of_ble_eq_true (by kernel_rfl), fun f sg => (fun h => by cases h)⟩
set_option maxRecDepth 100000 in
theorem pledgeref12_SameLines.ok : Sound Go.Proofs.Try.prog 75 pledgeref12_SameLines.sig := body_sound (C := pledgeref12_SameLines.C) (q := pledgeref12_SameLines.Q) (fn := Go.Proofs.Try.f75) (sg := pledgeref12_SameLines.sig) (n := 2) pledgeref12_SameLines.ctx follows Go.Proofs.Try.func75 (by kernel_rfl) (by kernel_rfl) (by kernel_rfl) (by kernel_rfl) (Nat.le_of_ble_eq_true (by kernel_rfl)) (by kernel_rfl) pledgeref12_SameLines.eq

def pledgeref13_SameTakes.l1 (v : (List (Int × Int × Int × Int × Unit)) × (List (Int × Int × Int × Int × Unit)) × Int) : Option (((List (Int × Int × Int × Int × Unit)) × (List (Int × Int × Int × Int × Unit)) × Int) ⊕ (Unit ⊕ Bool)) :=
  bif decide (v.2.2 < (v.1.length : Int)) then nthK v.1 v.2.2 fun e12 => nthK v.2.1 v.2.2 fun e13 => bif !(eqE kTake e12 e13) then some (Sum.inr (Sum.inr false)) else some (Sum.inl (v.1, (v.2.1, IntKind.i64.wrap (v.2.2 + 1)))) else some (Sum.inr (Sum.inl ()))
def pledgeref13_SameTakes (x0 : List (Int × Int × Int × Int × Unit)) (x1 : List (Int × Int × Int × Int × Unit)) : Option Bool :=
  bif ((x0.length : Int) : Int) != (x1.length : Int) then some false else (iterL pledgeref13_SameTakes.l1 loopN (x0, (x1, 0))).bind fun y14 => (match y14 with | .inl y15 => some true | .inr y16 => some y16)
def pledgeref13_SameTakes.C : Ctx := { ty := tyT, sigs := fun i => [], n := 26, mp := fun _ => none }
def pledgeref13_SameTakes.Q : Cuts := { np := 0, loops := fun i => bif Nat.beq i 4 then some ({ env := [(0, .val (.slice kTake)), (1, .val (.slice kTake)), (5, .val (.int .i64))], objs := [] }, [(.exit 0, { env := [], objs := [] }), (.ret, { env := [(4, .val .bool)], objs := [] })]) else none, seqs := fun i => none, splits := fun i => none }
def pledgeref13_SameTakes.sig : Sig := { args := .tc (.val (.slice kTake)) (.tc (.val (.slice kTake)) .tn), objs := [], ret := .val .bool, outs := [], F := fun x => pledgeref13_SameTakes x.1.1 x.1.2.1 }
theorem pledgeref13_SameTakes.eq : (fun x => body pledgeref13_SameTakes.C pledgeref13_SameTakes.Q Go.Proofs.Try.f85 pledgeref13_SameTakes.sig.args pledgeref13_SameTakes.sig.objs pledgeref13_SameTakes.sig.ret pledgeref13_SameTakes.sig.outs x) = pledgeref13_SameTakes.sig.F := by
  kernel_rfl
set_option maxRecDepth 100000 in
theorem pledgeref13_SameTakes.ctx : CtxOk Go.Proofs.Try.prog pledgeref13_SameTakes.C := ⟨tyOk, (fun _ _ _ h => by cases h), Nat.le_of_ble_eq_true (by kernel_rfl), fun f sg => (fun h => by cases h)⟩
set_option maxRecDepth 100000 in
theorem pledgeref13_SameTakes.ok : Sound Go.Proofs.Try.prog 85 pledgeref13_SameTakes.sig := body_sound (C := pledgeref13_SameTakes.C) (q := pledgeref13_SameTakes.Q) (fn := Go.Proofs.Try.f85) (sg := pledgeref13_SameTakes.sig) (n := 2) pledgeref13_SameTakes.ctx follows Go.Proofs.Try.func85 (by kernel_rfl) (by kernel_rfl) (by kernel_rfl) (by kernel_rfl) (Nat.le_of_ble_eq_true (by kernel_rfl)) (by kernel_rfl) pledgeref13_SameTakes.eq

def pledgeref22_Same (x0 : Int × Int × (List (Int × Int × Unit)) × (List (Int × Int × Int × Int × Unit)) × (List (Int × Int × Int × Int × Unit)) × (List (Int × Int × Unit)) × Unit) (x1 : Int × Int × (List (Int × Int × Unit)) × (List (Int × Int × Int × Int × Unit)) × (List (Int × Int × Int × Int × Unit)) × (List (Int × Int × Unit)) × Unit) : Option Bool :=
  bif (x0.1 : Int) == x1.1 then bif (x0.2.1 : Int) == x1.2.1 then (pledgeref12_SameLines x0.2.2.1 x1.2.2.1).bind fun r6 => bif r6 then (pledgeref13_SameTakes x0.2.2.2.1 x1.2.2.2.1).bind fun r7 => bif r7 then (pledgeref13_SameTakes x0.2.2.2.2.1 x1.2.2.2.2.1).bind fun r8 => bif r8 then (pledgeref12_SameLines x0.2.2.2.2.2.1 x1.2.2.2.2.2.1).bind fun r9 => some r9 else some false else some false else some false else some false else some false
def pledgeref22_Same.C : Ctx := { ty := tyT, sigs := fun i => bif Nat.beq i 75 then [pledgeref12_SameLines.sig] else bif Nat.beq i 85 then [pledgeref13_SameTakes.sig] else [], n := 45, mp := fun _ => none }
def pledgeref22_Same.Q : Cuts := { np := 0, loops := fun i => none, seqs := fun i => none, splits := fun i => none }
def pledgeref22_Same.sig : Sig := { args := .tc (.val kOrder) (.tc (.val kOrder) .tn), objs := [], ret := .val .bool, outs := [], F := fun x => pledgeref22_Same x.1.1 x.1.2.1 }
theorem pledgeref22_Same.eq : (fun x => body pledgeref22_Same.C pledgeref22_Same.Q Go.Proofs.Try.f39 pledgeref22_Same.sig.args pledgeref22_Same.sig.objs pledgeref22_Same.sig.ret pledgeref22_Same.sig.outs x) = pledgeref22_Same.sig.F := by
  kernel_rfl
set_option maxRecDepth 100000 in
theorem pledgeref22_Same.ctx : CtxOk Go.Proofs.Try.prog pledgeref22_Same.C := ⟨tyOk, (fun _ _ _ h => by cases h), Nat.le_of_ble_eq_true (by kernel_rfl), fun f sg => fun h => sigs_if h (allS_cons pledgeref12_SameLines.ok allS_nil) (fun h => sigs_if h (allS_cons pledgeref13_SameTakes.ok allS_nil) ((fun h => by cases h)))⟩
set_option maxRecDepth 100000 in
theorem pledgeref22_Same.ok : Sound Go.Proofs.Try.prog 39 pledgeref22_Same.sig := body_sound (C := pledgeref22_Same.C) (q := pledgeref22_Same.Q) (fn := Go.Proofs.Try.f39) (sg := pledgeref22_Same.sig) (n := 2) pledgeref22_Same.ctx follows Go.Proofs.Try.func39 (by kernel_rfl) (by kernel_rfl) (by kernel_rfl) (by kernel_rfl) (Nat.le_of_ble_eq_true (by kernel_rfl)) (by kernel_rfl) pledgeref22_Same.eq

def pledgeref22_Owed.l1 (v : (Int × Unit × Int) × (Int × Int × (List (Int × Int × Unit)) × (List (Int × Int × Int × Int × Unit)) × (List (Int × Int × Int × Int × Unit)) × (List (Int × Int × Unit)) × Unit) × Unit) : Option (((Int × Unit × Int) × (Int × Int × (List (Int × Int × Unit)) × (List (Int × Int × Int × Int × Unit)) × (List (Int × Int × Int × Int × Unit)) × (List (Int × Int × Unit)) × Unit) × Unit) ⊕ (Unit ⊕ Int)) :=
  bif decide (v.1.2.2 < (v.2.1.2.2.2.2.2.1.length : Int)) then nthK v.2.1.2.2.2.2.2.1 v.1.2.2 fun e15 => bif (e15.1 : Int) == v.1.1 then nthK v.2.1.2.2.2.2.2.1 v.1.2.2 fun e16 => some (Sum.inr (Sum.inr e16.2.1)) else some (Sum.inl ((v.1.1, ((), IntKind.i64.wrap (v.1.2.2 + 1))), (v.2.1, ()))) else some (Sum.inr (Sum.inl ()))
def pledgeref22_Owed (x0 : Int × Int × (List (Int × Int × Unit)) × (List (Int × Int × Int × Int × Unit)) × (List (Int × Int × Int × Int × Unit)) × (List (Int × Int × Unit)) × Unit) (x1 : Int) : Option Int :=
  (iterL pledgeref22_Owed.l1 loopN ((x1, ((), 0)), (x0, ()))).bind fun y17 => (match y17 with | .inl y18 => some 0 | .inr y19 => some y19)
def pledgeref22_Owed.C : Ctx := { ty := tyT, sigs := fun i => [], n := 27, mp := fun _ => none }
def pledgeref22_Owed.Q : Cuts := { np := 0, loops := fun i => bif Nat.beq i 2 then some ({ env := [(1, .val (.int .u8)), (2, .ptr 0), (5, .val (.int .i64))], objs := [.cell kOrder (.val kOrder)] }, [(.exit 0, { env := [], objs := [] }), (.ret, { env := [(4, .val (.int .i64))], objs := [] })]) else none, seqs := fun i => none, splits := fun i => none }
def pledgeref22_Owed.sig : Sig := { args := .tc (.val kOrder) (.tc (.val (.int .u8)) .tn), objs := [], ret := .val (.int .i64), outs := [], F := fun x => pledgeref22_Owed x.1.1 x.1.2.1 }
theorem pledgeref22_Owed.eq : (fun x => body pledgeref22_Owed.C pledgeref22_Owed.Q Go.Proofs.Try.f41 pledgeref22_Owed.sig.args pledgeref22_Owed.sig.objs pledgeref22_Owed.sig.ret pledgeref22_Owed.sig.outs x) = pledgeref22_Owed.sig.F := by
  kernel_rfl
set_option maxRecDepth 100000 in
theorem pledgeref22_Owed.ctx : CtxOk Go.Proofs.Try.prog pledgeref22_Owed.C := ⟨tyOk, (fun _ _ _ h => by cases h), Nat.le_of_ble_eq_true (by kernel_rfl), fun f sg => (fun h => by cases h)⟩
set_option maxRecDepth 100000 in
theorem pledgeref22_Owed.ok : Sound Go.Proofs.Try.prog 41 pledgeref22_Owed.sig := body_sound (C := pledgeref22_Owed.C) (q := pledgeref22_Owed.Q) (fn := Go.Proofs.Try.f41) (sg := pledgeref22_Owed.sig) (n := 2) pledgeref22_Owed.ctx follows Go.Proofs.Try.func41 (by kernel_rfl) (by kernel_rfl) (by kernel_rfl) (by kernel_rfl) (Nat.le_of_ble_eq_true (by kernel_rfl)) (by kernel_rfl) pledgeref22_Owed.eq

def pledgeref01_halves_v2 (x0 : Int) : Option (Int × Int × Unit) :=
  bif decide (x0 < 0) then none else some (IntKind.i64.wrap (Int.tdiv x0 4294967296), (Int.tmod x0 4294967296, ()))
def pledgeref01_halves_v2.C : Ctx := { ty := tyT, sigs := fun i => [], n := 22, mp := fun _ => none }
def pledgeref01_halves_v2.Q : Cuts := { np := 0, loops := fun i => none, seqs := fun i => none, splits := fun i => none }
def pledgeref01_halves_v2.sig : Sig := { args := .tc (.val (.int .i64)) .tn, objs := [], ret := .val kwide, outs := [], F := fun x => pledgeref01_halves_v2 x.1.1 }
theorem pledgeref01_halves_v2.eq : (fun x => body pledgeref01_halves_v2.C pledgeref01_halves_v2.Q Go.Proofs.Try.f158 pledgeref01_halves_v2.sig.args pledgeref01_halves_v2.sig.objs pledgeref01_halves_v2.sig.ret pledgeref01_halves_v2.sig.outs x) = pledgeref01_halves_v2.sig.F := by
  kernel_rfl
set_option maxRecDepth 100000 in
theorem pledgeref01_halves_v2.ctx : CtxOk Go.Proofs.Try.prog pledgeref01_halves_v2.C := ⟨tyOk, (fun _ _ _ h => by cases h), Nat.le_of_ble_eq_true (by kernel_rfl), fun f sg => (fun h => by cases h)⟩
set_option maxRecDepth 100000 in
theorem pledgeref01_halves_v2.ok : Sound Go.Proofs.Try.prog 158 pledgeref01_halves_v2.sig := body_sound (C := pledgeref01_halves_v2.C) (q := pledgeref01_halves_v2.Q) (fn := Go.Proofs.Try.f158) (sg := pledgeref01_halves_v2.sig) (n := 1) pledgeref01_halves_v2.ctx follows Go.Proofs.Try.func158 (by kernel_rfl) (by kernel_rfl) (by kernel_rfl) (by kernel_rfl) (Nat.le_of_ble_eq_true (by kernel_rfl)) (by kernel_rfl) pledgeref01_halves_v2.eq

def pledgeref01_halves (x0 : Int) : Option (Int × Int × Unit) :=
  bif decide (x0 < 0) then (pledgeref01_halves_v2 (IntKind.i64.wrap (0 - (IntKind.i64.wrap (x0 + 1))))).bind fun r29 => some (IntKind.i64.wrap ((-1) - r29.1), (IntKind.i64.wrap (4294967295 - r29.2.1), ())) else some (IntKind.i64.wrap (Int.tdiv x0 4294967296), (Int.tmod x0 4294967296, ()))
def pledgeref01_halves.C : Ctx := { ty := tyT, sigs := fun i => bif Nat.beq i 158 then [pledgeref01_halves_v2.sig] else [], n := 22, mp := fun _ => none }
def pledgeref01_halves.Q : Cuts := { np := 0, loops := fun i => none, seqs := fun i => none, splits := fun i => none }
def pledgeref01_halves.sig : Sig := { args := .tc (.val (.int .i64)) .tn, objs := [], ret := .val kwide, outs := [], F := fun x => pledgeref01_halves x.1.1 }
theorem pledgeref01_halves.eq : (fun x => body pledgeref01_halves.C pledgeref01_halves.Q Go.Proofs.Try.f158 pledgeref01_halves.sig.args pledgeref01_halves.sig.objs pledgeref01_halves.sig.ret pledgeref01_halves.sig.outs x) = pledgeref01_halves.sig.F := by
  kernel_rfl
set_option maxRecDepth 100000 in
theorem pledgeref01_halves.ctx : CtxOk Go.Proofs.Try.prog pledgeref01_halves.C := ⟨tyOk, (fun _ _ _ h => by cases h), Nat.le_of_ble_eq_true (by kernel_rfl), fun f sg => fun h => sigs_if h (allS_cons pledgeref01_halves_v2.ok allS_nil) ((fun h => by cases h))⟩
set_option maxRecDepth 100000 in
theorem pledgeref01_halves.ok : Sound Go.Proofs.Try.prog 158 pledgeref01_halves.sig := body_sound (C := pledgeref01_halves.C) (q := pledgeref01_halves.Q) (fn := Go.Proofs.Try.f158) (sg := pledgeref01_halves.sig) (n := 1) pledgeref01_halves.ctx follows Go.Proofs.Try.func158 (by kernel_rfl) (by kernel_rfl) (by kernel_rfl) (by kernel_rfl) (Nat.le_of_ble_eq_true (by kernel_rfl)) (by kernel_rfl) pledgeref01_halves.eq

def pledgeref01_Sum.l1 (v : (List Int × Unit × Int) × (Int × Int × Unit) × Unit) : Option (((List Int × Unit × Int) × (Int × Int × Unit) × Unit) ⊕ (Unit × (Int × Int × Unit) × Unit)) :=
  bif decide (v.1.2.2 < (v.1.1.length : Int)) then nthK v.1.1 v.1.2.2 fun e28 => (pledgeref01_halves e28).bind fun r29 => bif decide ((IntKind.i64.wrap (v.2.1.2.1 + r29.2.1)) ≥ 4294967296) then some (Sum.inl ((v.1.1, ((), IntKind.i64.wrap (v.1.2.2 + 1))), ((IntKind.i64.wrap ((IntKind.i64.wrap (v.2.1.1 + r29.1)) + 1), (IntKind.i64.wrap ((IntKind.i64.wrap (v.2.1.2.1 + r29.2.1)) - 4294967296), v.2.1.2.2)), ()))) else some (Sum.inl ((v.1.1, ((), IntKind.i64.wrap (v.1.2.2 + 1))), ((IntKind.i64.wrap (v.2.1.1 + r29.1), (IntKind.i64.wrap (v.2.1.2.1 + r29.2.1), v.2.1.2.2)), ()))) else some (Sum.inr ((), (v.2.1, ())))
def pledgeref01_Sum (x0 : List Int) : Option (Int × Bool × Unit) :=
  (iterL pledgeref01_Sum.l1 loopN ((x0, ((), 0)), ((0, (0, ())), ()))).bind fun y30 => bif decide (y30.2.1.1 < (-2147483648)) then some (0, (false, ())) else bif decide (y30.2.1.1 > 2147483647) then some (0, (false, ())) else some (IntKind.i64.wrap ((IntKind.i64.wrap (y30.2.1.1 * 4294967296)) + y30.2.1.2.1), (true, ()))
def pledgeref01_Sum.C : Ctx := { ty := tyT, sigs := fun i => bif Nat.beq i 158 then [pledgeref01_halves.sig] else [], n := 56, mp := fun _ => none }
def pledgeref01_Sum.Q : Cuts := { np := 0, loops := fun i => bif Nat.beq i 3 then some ({ env := [(0, .val (.slice (.int .i64))), (4, .ptr 0), (5, .val (.int .i64))], objs := [.cell kwide (.val kwide)] }, [(.exit 0, { env := [(4, .ptr 0)], objs := [.cell kwide (.val kwide)] })]) else none, seqs := fun i => none, splits := fun i => none }
def pledgeref01_Sum.sig : Sig := { args := .tc (.val (.slice (.int .i64))) .tn, objs := [], ret := .tup (.tc (.val (.int .i64)) (.tc (.val .bool) .tn)), outs := [], F := fun x => pledgeref01_Sum x.1.1 }
theorem pledgeref01_Sum.eq : (fun x => body pledgeref01_Sum.C pledgeref01_Sum.Q Go.Proofs.Try.f146 pledgeref01_Sum.sig.args pledgeref01_Sum.sig.objs pledgeref01_Sum.sig.ret pledgeref01_Sum.sig.outs x) = pledgeref01_Sum.sig.F := by
  kernel_rfl
set_option maxRecDepth 100000 in
theorem pledgeref01_Sum.ctx : CtxOk Go.Proofs.Try.prog pledgeref01_Sum.C := ⟨tyOk, (fun _ _ _ h => by cases h), Nat.le_of_ble_eq_true (by kernel_rfl), fun f sg => fun h => sigs_if h (allS_cons pledgeref01_halves.ok allS_nil) ((fun h => by cases h))⟩
set_option maxRecDepth 100000 in
theorem pledgeref01_Sum.ok : Sound Go.Proofs.Try.prog 146 pledgeref01_Sum.sig := body_sound (C := pledgeref01_Sum.C) (q := pledgeref01_Sum.Q) (fn := Go.Proofs.Try.f146) (sg := pledgeref01_Sum.sig) (n := 1) pledgeref01_Sum.ctx follows Go.Proofs.Try.func146 (by kernel_rfl) (by kernel_rfl) (by kernel_rfl) (by kernel_rfl) (Nat.le_of_ble_eq_true (by kernel_rfl)) (by kernel_rfl) pledgeref01_Sum.eq

def pledgeref13_Named.l1 (v : ((List (Int × Int × Int × Int × Unit)) × (List (Int × Int × Unit)) × Int × Unit × Int) × List Int × Unit) : Option ((((List (Int × Int × Int × Int × Unit)) × (List (Int × Int × Unit)) × Int × Unit × Int) × List Int × Unit) ⊕ (((List (Int × Int × Unit)) × Int × Unit) × List Int × Unit)) :=
  bif decide (v.1.2.2.2.2 < (v.1.1.length : Int)) then nthK v.1.1 v.1.2.2.2.2 fun e22 => bif (e22.2.1 : Int) == v.1.2.2.1 then nthK v.1.1 v.1.2.2.2.2 fun e23 => room (v.2.1.length + [e23.2.2.2.1].length) (some (Sum.inl ((v.1.1, (v.1.2.1, (v.1.2.2.1, ((), IntKind.i64.wrap (v.1.2.2.2.2 + 1))))), (v.2.1 ++ [e23.2.2.2.1], ())))) else some (Sum.inl ((v.1.1, (v.1.2.1, (v.1.2.2.1, ((), IntKind.i64.wrap (v.1.2.2.2.2 + 1))))), (v.2.1, ()))) else some (Sum.inr ((v.1.2.1, (v.1.2.2.1, ())), (v.2.1, ())))
def pledgeref13_Named.l2 (v : ((List (Int × Int × Unit)) × Int × Unit × Int) × List Int × Unit) : Option ((((List (Int × Int × Unit)) × Int × Unit × Int) × List Int × Unit) ⊕ (Unit × List Int × Unit)) :=
  bif decide (v.1.2.2.2 < (v.1.1.length : Int)) then nthK v.1.1 v.1.2.2.2 fun e25 => bif (e25.1 : Int) == v.1.2.1 then nthK v.1.1 v.1.2.2.2 fun e26 => room (v.2.1.length + [e26.2.1].length) (some (Sum.inl ((v.1.1, (v.1.2.1, ((), IntKind.i64.wrap (v.1.2.2.2 + 1)))), (v.2.1 ++ [e26.2.1], ())))) else some (Sum.inl ((v.1.1, (v.1.2.1, ((), IntKind.i64.wrap (v.1.2.2.2 + 1)))), (v.2.1, ()))) else some (Sum.inr ((), (v.2.1, ())))
def pledgeref13_Named (x0 : List (Int × Int × Int × Int × Unit)) (x1 : List (Int × Int × Unit)) (x2 : Int) : Option (Int × Bool × Unit) :=
  (iterL pledgeref13_Named.l1 loopN ((x0, (x1, (x2, ((), 0)))), ([], ()))).bind fun y24 => (iterL pledgeref13_Named.l2 loopN ((y24.1.1, (y24.1.2.1, ((), 0))), (y24.2.1, ()))).bind fun y27 => (pledgeref01_Sum y27.2.1).bind fun r28 => some (r28.1, (r28.2.1, ()))
def pledgeref13_Named.C : Ctx := { ty := tyT, sigs := fun i => bif Nat.beq i 146 then [pledgeref01_Sum.sig] else [], n := 57, mp := fun _ => none }
def pledgeref13_Named.Q : Cuts := { np := 0, loops := fun i => bif Nat.beq i 3 then some ({ env := [(0, .val (.slice kTake)), (1, .val (.slice kLine)), (2, .val (.int .u8)), (8, .row 0), (9, .val (.int .i64))], objs := [.row (.int .i64) false] }, [(.exit 0, { env := [(1, .val (.slice kLine)), (2, .val (.int .u8)), (8, .row 0)], objs := [.row (.int .i64) false] })]) else bif Nat.beq i 8 then some ({ env := [(1, .val (.slice kLine)), (2, .val (.int .u8)), (8, .row 0), (10, .val (.int .i64))], objs := [.row (.int .i64) false] }, [(.exit 2, { env := [(8, .row 0)], objs := [.row (.int .i64) false] })]) else none, seqs := fun i => none, splits := fun i => none }
def pledgeref13_Named.sig : Sig := { args := .tc (.val (.slice kTake)) (.tc (.val (.slice kLine)) (.tc (.val (.int .u8)) .tn)), objs := [], ret := .tup (.tc (.val (.int .i64)) (.tc (.val .bool) .tn)), outs := [], F := fun x => pledgeref13_Named x.1.1 x.1.2.1 x.1.2.2.1 }
theorem pledgeref13_Named.eq : (fun x => body pledgeref13_Named.C pledgeref13_Named.Q Go.Proofs.Try.f105 pledgeref13_Named.sig.args pledgeref13_Named.sig.objs pledgeref13_Named.sig.ret pledgeref13_Named.sig.outs x) = pledgeref13_Named.sig.F := by
  kernel_rfl
set_option maxRecDepth 100000 in
theorem pledgeref13_Named.ctx : CtxOk Go.Proofs.Try.prog pledgeref13_Named.C := ⟨tyOk, (fun _ _ _ h => by cases h), Nat.le_of_ble_eq_true (by kernel_rfl), fun f sg => fun h => sigs_if h (allS_cons pledgeref01_Sum.ok allS_nil) ((fun h => by cases h))⟩
set_option maxRecDepth 100000 in
theorem pledgeref13_Named.ok : Sound Go.Proofs.Try.prog 105 pledgeref13_Named.sig := body_sound (C := pledgeref13_Named.C) (q := pledgeref13_Named.Q) (fn := Go.Proofs.Try.f105) (sg := pledgeref13_Named.sig) (n := 3) pledgeref13_Named.ctx follows Go.Proofs.Try.func105 (by kernel_rfl) (by kernel_rfl) (by kernel_rfl) (by kernel_rfl) (Nat.le_of_ble_eq_true (by kernel_rfl)) (by kernel_rfl) pledgeref13_Named.eq

def pledgeref22_named (x0 : Int × Int × (List (Int × Int × Unit)) × (List (Int × Int × Int × Int × Unit)) × (List (Int × Int × Int × Int × Unit)) × (List (Int × Int × Unit)) × Unit) (x1 : Int) : Option (Int × Bool × Unit) :=
  room x0.2.2.2.1.length (room (x0.2.2.2.1.length + x0.2.2.2.2.1.length) ((pledgeref13_Named (x0.2.2.2.1 ++ x0.2.2.2.2.1) x0.2.2.2.2.2.1 x1).bind fun r22 => some (r22.1, (r22.2.1, ()))))
def pledgeref22_named.C : Ctx := { ty := tyT, sigs := fun i => bif Nat.beq i 105 then [pledgeref13_Named.sig] else [], n := 22, mp := fun _ => none }
def pledgeref22_named.Q : Cuts := { np := 0, loops := fun i => none, seqs := fun i => none, splits := fun i => none }
def pledgeref22_named.sig : Sig := { args := .tc (.val kOrder) (.tc (.val (.int .u8)) .tn), objs := [], ret := .tup (.tc (.val (.int .i64)) (.tc (.val .bool) .tn)), outs := [], F := fun x => pledgeref22_named x.1.1 x.1.2.1 }
theorem pledgeref22_named.eq : (fun x => body pledgeref22_named.C pledgeref22_named.Q Go.Proofs.Try.f88 pledgeref22_named.sig.args pledgeref22_named.sig.objs pledgeref22_named.sig.ret pledgeref22_named.sig.outs x) = pledgeref22_named.sig.F := by
  kernel_rfl
set_option maxRecDepth 100000 in
theorem pledgeref22_named.ctx : CtxOk Go.Proofs.Try.prog pledgeref22_named.C := ⟨tyOk, (fun _ _ _ h => by cases h), Nat.le_of_ble_eq_true (by kernel_rfl), fun f sg => fun h => sigs_if h (allS_cons pledgeref13_Named.ok allS_nil) ((fun h => by cases h))⟩
set_option maxRecDepth 100000 in
theorem pledgeref22_named.ok : Sound Go.Proofs.Try.prog 88 pledgeref22_named.sig := body_sound (C := pledgeref22_named.C) (q := pledgeref22_named.Q) (fn := Go.Proofs.Try.f88) (sg := pledgeref22_named.sig) (n := 2) pledgeref22_named.ctx follows Go.Proofs.Try.func88 (by kernel_rfl) (by kernel_rfl) (by kernel_rfl) (by kernel_rfl) (Nat.le_of_ble_eq_true (by kernel_rfl)) (by kernel_rfl) pledgeref22_named.eq

def pledgeref22_Total (x0 : Int × Int × (List (Int × Int × Unit)) × (List (Int × Int × Int × Int × Unit)) × (List (Int × Int × Int × Int × Unit)) × (List (Int × Int × Unit)) × Unit) (x1 : Int) : Option Int :=
  (pledgeref22_named x0 x1).bind fun r22 => some r22.1
def pledgeref22_Total.C : Ctx := { ty := tyT, sigs := fun i => bif Nat.beq i 88 then [pledgeref22_named.sig] else [], n := 14, mp := fun _ => none }
def pledgeref22_Total.Q : Cuts := { np := 0, loops := fun i => none, seqs := fun i => none, splits := fun i => none }
def pledgeref22_Total.sig : Sig := { args := .tc (.val kOrder) (.tc (.val (.int .u8)) .tn), objs := [], ret := .val (.int .i64), outs := [], F := fun x => pledgeref22_Total x.1.1 x.1.2.1 }
theorem pledgeref22_Total.eq : (fun x => body pledgeref22_Total.C pledgeref22_Total.Q Go.Proofs.Try.f43 pledgeref22_Total.sig.args pledgeref22_Total.sig.objs pledgeref22_Total.sig.ret pledgeref22_Total.sig.outs x) = pledgeref22_Total.sig.F := by
  kernel_rfl
set_option maxRecDepth 100000 in
theorem pledgeref22_Total.ctx : CtxOk Go.Proofs.Try.prog pledgeref22_Total.C := ⟨tyOk, (fun _ _ _ h => by cases h), Nat.le_of_ble_eq_true (by kernel_rfl), fun f sg => fun h => sigs_if h (allS_cons pledgeref22_named.ok allS_nil) ((fun h => by cases h))⟩
set_option maxRecDepth 100000 in
theorem pledgeref22_Total.ok : Sound Go.Proofs.Try.prog 43 pledgeref22_Total.sig := body_sound (C := pledgeref22_Total.C) (q := pledgeref22_Total.Q) (fn := Go.Proofs.Try.f43) (sg := pledgeref22_Total.sig) (n := 2) pledgeref22_Total.ctx follows Go.Proofs.Try.func43 (by kernel_rfl) (by kernel_rfl) (by kernel_rfl) (by kernel_rfl) (Nat.le_of_ble_eq_true (by kernel_rfl)) (by kernel_rfl) pledgeref22_Total.eq

def slices_Equal_api_Line_api_Line.l1 (v : (List (Int × Int × Unit)) × (List (Int × Int × Unit)) × Int × Int) : Option (((List (Int × Int × Unit)) × (List (Int × Int × Unit)) × Int × Int) ⊕ (Unit ⊕ Bool)) :=
  bif decide (v.2.2.2 < v.2.2.1) then nthK v.1 v.2.2.2 fun e24 => nthK v.2.1 v.2.2.2 fun e25 => bif !(eqE kLine e24 e25) then some (Sum.inr (Sum.inr false)) else some (Sum.inl (v.1, (v.2.1, (v.2.2.1, IntKind.i64.wrap (v.2.2.2 + 1))))) else some (Sum.inr (Sum.inl ()))
def slices_Equal_api_Line_api_Line (x0 : List (Int × Int × Unit)) (x1 : List (Int × Int × Unit)) : Option Bool :=
  bif ((x0.length : Int) : Int) != (x1.length : Int) then some false else (iterL slices_Equal_api_Line_api_Line.l1 loopN (x0, (x1, ((x0.length : Int), 0)))).bind fun y26 => (match y26 with | .inl y27 => some true | .inr y28 => some y28)
def slices_Equal_api_Line_api_Line.C : Ctx := { ty := tyT, sigs := fun i => [], n := 26, mp := fun _ => none }
def slices_Equal_api_Line_api_Line.Q : Cuts := { np := 0, loops := fun i => bif Nat.beq i 4 then some ({ env := [(0, .val (.slice kLine)), (1, .val (.slice kLine)), (12, .val (.int .i64)), (13, .val (.int .i64))], objs := [] }, [(.exit 0, { env := [], objs := [] }), (.ret, { env := [(4, .val .bool)], objs := [] })]) else none, seqs := fun i => none, splits := fun i => none }
def slices_Equal_api_Line_api_Line.sig : Sig := { args := .tc (.val (.slice kLine)) (.tc (.val (.slice kLine)) .tn), objs := [], ret := .val .bool, outs := [], F := fun x => slices_Equal_api_Line_api_Line x.1.1 x.1.2.1 }
theorem slices_Equal_api_Line_api_Line.eq : (fun x => body slices_Equal_api_Line_api_Line.C slices_Equal_api_Line_api_Line.Q Go.Proofs.Try.f74 slices_Equal_api_Line_api_Line.sig.args slices_Equal_api_Line_api_Line.sig.objs slices_Equal_api_Line_api_Line.sig.ret slices_Equal_api_Line_api_Line.sig.outs x) = slices_Equal_api_Line_api_Line.sig.F := by
  kernel_rfl
set_option maxRecDepth 100000 in
theorem slices_Equal_api_Line_api_Line.ctx : CtxOk Go.Proofs.Try.prog slices_Equal_api_Line_api_Line.C := ⟨tyOk, (fun _ _ _ h => by cases h), Nat.le_of_ble_eq_true (by kernel_rfl), fun f sg => (fun h => by cases h)⟩
set_option maxRecDepth 100000 in
theorem slices_Equal_api_Line_api_Line.ok : Sound Go.Proofs.Try.prog 74 slices_Equal_api_Line_api_Line.sig := body_sound (C := slices_Equal_api_Line_api_Line.C) (q := slices_Equal_api_Line_api_Line.Q) (fn := Go.Proofs.Try.f74) (sg := slices_Equal_api_Line_api_Line.sig) (n := 2) slices_Equal_api_Line_api_Line.ctx follows Go.Proofs.Try.func74 (by kernel_rfl) (by kernel_rfl) (by kernel_rfl) (by kernel_rfl) (Nat.le_of_ble_eq_true (by kernel_rfl)) (by kernel_rfl) slices_Equal_api_Line_api_Line.eq

def slices_Equal_api_Take_api_Take.l1 (v : (List (Int × Int × Int × Int × Unit)) × (List (Int × Int × Int × Int × Unit)) × Int × Int) : Option (((List (Int × Int × Int × Int × Unit)) × (List (Int × Int × Int × Int × Unit)) × Int × Int) ⊕ (Unit ⊕ Bool)) :=
  bif decide (v.2.2.2 < v.2.2.1) then nthK v.1 v.2.2.2 fun e30 => nthK v.2.1 v.2.2.2 fun e31 => bif !(eqE kTake e30 e31) then some (Sum.inr (Sum.inr false)) else some (Sum.inl (v.1, (v.2.1, (v.2.2.1, IntKind.i64.wrap (v.2.2.2 + 1))))) else some (Sum.inr (Sum.inl ()))
def slices_Equal_api_Take_api_Take (x0 : List (Int × Int × Int × Int × Unit)) (x1 : List (Int × Int × Int × Int × Unit)) : Option Bool :=
  bif ((x0.length : Int) : Int) != (x1.length : Int) then some false else (iterL slices_Equal_api_Take_api_Take.l1 loopN (x0, (x1, ((x0.length : Int), 0)))).bind fun y32 => (match y32 with | .inl y33 => some true | .inr y34 => some y34)
def slices_Equal_api_Take_api_Take.C : Ctx := { ty := tyT, sigs := fun i => [], n := 26, mp := fun _ => none }
def slices_Equal_api_Take_api_Take.Q : Cuts := { np := 0, loops := fun i => bif Nat.beq i 4 then some ({ env := [(0, .val (.slice kTake)), (1, .val (.slice kTake)), (12, .val (.int .i64)), (13, .val (.int .i64))], objs := [] }, [(.exit 0, { env := [], objs := [] }), (.ret, { env := [(4, .val .bool)], objs := [] })]) else none, seqs := fun i => none, splits := fun i => none }
def slices_Equal_api_Take_api_Take.sig : Sig := { args := .tc (.val (.slice kTake)) (.tc (.val (.slice kTake)) .tn), objs := [], ret := .val .bool, outs := [], F := fun x => slices_Equal_api_Take_api_Take x.1.1 x.1.2.1 }
theorem slices_Equal_api_Take_api_Take.eq : (fun x => body slices_Equal_api_Take_api_Take.C slices_Equal_api_Take_api_Take.Q Go.Proofs.Try.f89 slices_Equal_api_Take_api_Take.sig.args slices_Equal_api_Take_api_Take.sig.objs slices_Equal_api_Take_api_Take.sig.ret slices_Equal_api_Take_api_Take.sig.outs x) = slices_Equal_api_Take_api_Take.sig.F := by
  kernel_rfl
set_option maxRecDepth 100000 in
theorem slices_Equal_api_Take_api_Take.ctx : CtxOk Go.Proofs.Try.prog slices_Equal_api_Take_api_Take.C := ⟨tyOk, (fun _ _ _ h => by cases h), Nat.le_of_ble_eq_true (by kernel_rfl), fun f sg => (fun h => by cases h)⟩
set_option maxRecDepth 100000 in
theorem slices_Equal_api_Take_api_Take.ok : Sound Go.Proofs.Try.prog 89 slices_Equal_api_Take_api_Take.sig := body_sound (C := slices_Equal_api_Take_api_Take.C) (q := slices_Equal_api_Take_api_Take.Q) (fn := Go.Proofs.Try.f89) (sg := slices_Equal_api_Take_api_Take.sig) (n := 2) slices_Equal_api_Take_api_Take.ctx follows Go.Proofs.Try.func89 (by kernel_rfl) (by kernel_rfl) (by kernel_rfl) (by kernel_rfl) (Nat.le_of_ble_eq_true (by kernel_rfl)) (by kernel_rfl) slices_Equal_api_Take_api_Take.eq

def order_Same (x0 : Int × Int × (List (Int × Int × Unit)) × (List (Int × Int × Int × Int × Unit)) × (List (Int × Int × Int × Int × Unit)) × (List (Int × Int × Unit)) × Unit) (x1 : Int × Int × (List (Int × Int × Unit)) × (List (Int × Int × Int × Int × Unit)) × (List (Int × Int × Int × Int × Unit)) × (List (Int × Int × Unit)) × Unit) : Option Bool :=
  bif (x0.1 : Int) == x1.1 then bif (x0.2.1 : Int) == x1.2.1 then (slices_Equal_api_Line_api_Line x0.2.2.1 x1.2.2.1).bind fun r24 => bif r24 then (slices_Equal_api_Take_api_Take x0.2.2.2.1 x1.2.2.2.1).bind fun r25 => bif r25 then (slices_Equal_api_Take_api_Take x0.2.2.2.2.1 x1.2.2.2.2.1).bind fun r26 => bif r26 then (slices_Equal_api_Line_api_Line x0.2.2.2.2.2.1 x1.2.2.2.2.2.1).bind fun r27 => some r27 else some false else some false else some false else some false else some false
def order_Same.C : Ctx := { ty := tyT, sigs := fun i => bif Nat.beq i 74 then [slices_Equal_api_Line_api_Line.sig] else bif Nat.beq i 89 then [slices_Equal_api_Take_api_Take.sig] else [], n := 45, mp := fun _ => none }
def order_Same.Q : Cuts := { np := 0, loops := fun i => none, seqs := fun i => none, splits := fun i => none }
def order_Same.sig : Sig := { args := .tc (.val kOrder) (.tc (.val kOrder) .tn), objs := [], ret := .val .bool, outs := [], F := fun x => order_Same x.1.1 x.1.2.1 }
theorem order_Same.eq : (fun x => body order_Same.C order_Same.Q Go.Proofs.Try.f44 order_Same.sig.args order_Same.sig.objs order_Same.sig.ret order_Same.sig.outs x) = order_Same.sig.F := by
  kernel_rfl
set_option maxRecDepth 100000 in
theorem order_Same.ctx : CtxOk Go.Proofs.Try.prog order_Same.C := ⟨tyOk, (fun _ _ _ h => by cases h), Nat.le_of_ble_eq_true (by kernel_rfl), fun f sg => fun h => sigs_if h (allS_cons slices_Equal_api_Line_api_Line.ok allS_nil) (fun h => sigs_if h (allS_cons slices_Equal_api_Take_api_Take.ok allS_nil) ((fun h => by cases h)))⟩
set_option maxRecDepth 100000 in
theorem order_Same.ok : Sound Go.Proofs.Try.prog 44 order_Same.sig := body_sound (C := order_Same.C) (q := order_Same.Q) (fn := Go.Proofs.Try.f44) (sg := order_Same.sig) (n := 2) order_Same.ctx follows Go.Proofs.Try.func44 (by kernel_rfl) (by kernel_rfl) (by kernel_rfl) (by kernel_rfl) (Nat.le_of_ble_eq_true (by kernel_rfl)) (by kernel_rfl) order_Same.eq

def pledgelaw22_OrderAsks (x0 : Int × Int × (List (Int × Int × Unit)) × (List (Int × Int × Int × Int × Unit)) × (List (Int × Int × Int × Int × Unit)) × (List (Int × Int × Unit)) × Unit) (x1 : Int × Int × (List (Int × Int × Unit)) × (List (Int × Int × Int × Int × Unit)) × (List (Int × Int × Int × Int × Unit)) × (List (Int × Int × Unit)) × Unit) (x2 : Int) : Option Bool :=
  (pledgelaw22_Few x0).bind fun r1 => bif (r1 : Int) == 0 then pledgelaw22_works.bind fun r2 => some r2 else (pledgelaw22_Few x1).bind fun r3 => bif (r3 : Int) == 0 then pledgelaw22_works.bind fun r4 => some r4 else (order_Copy x0).bind fun r5 => (pledgeref22_Same (r5.1.1, (r5.1.2.1, (r5.2.1, (r5.2.2.1, (r5.2.2.2.1, (r5.2.2.2.2.1, r5.1.2.2.2.2.2.2)))))) x0).bind fun r6 => bif !r6 then some false else (bif decide ((x0.2.2.1.length : Int) > 0) then nthK x0.2.2.1 0 fun e7 => chk (true && decide (0 < (r5.2.1.length : Int))) (nthK r5.2.1 0 fun e8 => chk (true && decide (0 < (r5.2.1.length : Int))) (nthN r5.2.1 0 fun e9 => nthK x0.2.2.1 0 fun e10 => bif (e10.2.1 : Int) != e7.2.1 then some (Sum.inr false) else some (Sum.inl ((x2, ((), ())), (x0, (x1, ())))))) else some (Sum.inl ((x2, ((), ())), (x0, (x1, ()))))).bind fun y11 => (match y11 with | .inl y12 => (order_Owed y12.2.1 y12.1.1).bind fun r14 => (pledgeref22_Owed y12.2.1 y12.1.1).bind fun r15 => bif (r14 : Int) == r15 then (order_Total y12.2.1 y12.1.1).bind fun r16 => (pledgeref22_Total y12.2.1 y12.1.1).bind fun r17 => bif (r16 : Int) == r17 then (order_Same y12.2.1 y12.2.2.1).bind fun r18 => (pledgeref22_Same y12.2.1 y12.2.2.1).bind fun r19 => bif r18 == r19 then (order_Same y12.2.1 y12.2.1).bind fun r20 => bif r20 then pledgelaw22_works.bind fun r21 => some r21 else some false else some false else some false else some false | .inr y13 => some y13)
def pledgelaw22_OrderAsks.C : Ctx := { ty := tyT, sigs := fun i => bif Nat.beq i 36 then [pledgelaw22_Few.sig] else bif Nat.beq i 37 then [pledgelaw22_works.sig] else bif Nat.beq i 38 then [order_Copy.sig] else bif Nat.beq i 39 then [pledgeref22_Same.sig] else bif Nat.beq i 40 then [order_Owed.sig] else bif Nat.beq i 41 then [pledgeref22_Owed.sig] else bif Nat.beq i 42 then [order_Total.sig] else bif Nat.beq i 43 then [pledgeref22_Total.sig] else bif Nat.beq i 44 then [order_Same.sig] else [], n := 81, mp := fun _ => none }
def pledgelaw22_OrderAsks.Q : Cuts := { np := 0, loops := fun i => none, seqs := fun i => bif Nat.beq i 11 then some [(.normal, { env := [(2, .val (.int .u8)), (3, .ptr 0), (4, .ptr 1)], objs := [.cell kOrder (.val kOrder), .cell kOrder (.val kOrder)] }), (.ret, { env := [(6, .val .bool)], objs := [] })] else none, splits := fun i => none }
def pledgelaw22_OrderAsks.sig : Sig := { args := .tc (.val kOrder) (.tc (.val kOrder) (.tc (.val (.int .u8)) .tn)), objs := [], ret := .val .bool, outs := [], F := fun x => pledgelaw22_OrderAsks x.1.1 x.1.2.1 x.1.2.2.1 }
theorem pledgelaw22_OrderAsks.eq : (fun x => body pledgelaw22_OrderAsks.C pledgelaw22_OrderAsks.Q Go.Proofs.Try.f8 pledgelaw22_OrderAsks.sig.args pledgelaw22_OrderAsks.sig.objs pledgelaw22_OrderAsks.sig.ret pledgelaw22_OrderAsks.sig.outs x) = pledgelaw22_OrderAsks.sig.F := by
  kernel_rfl
set_option maxRecDepth 100000 in
theorem pledgelaw22_OrderAsks.ctx : CtxOk Go.Proofs.Try.prog pledgelaw22_OrderAsks.C := ⟨tyOk, (fun _ _ _ h => by cases h), Nat.le_of_ble_eq_true (by kernel_rfl), fun f sg => fun h => sigs_if h (allS_cons pledgelaw22_Few.ok allS_nil) (fun h => sigs_if h (allS_cons pledgelaw22_works.ok allS_nil) (fun h => sigs_if h (allS_cons order_Copy.ok allS_nil) (fun h => sigs_if h (allS_cons pledgeref22_Same.ok allS_nil) (fun h => sigs_if h (allS_cons order_Owed.ok allS_nil) (fun h => sigs_if h (allS_cons pledgeref22_Owed.ok allS_nil) (fun h => sigs_if h (allS_cons order_Total.ok allS_nil) (fun h => sigs_if h (allS_cons pledgeref22_Total.ok allS_nil) (fun h => sigs_if h (allS_cons order_Same.ok allS_nil) ((fun h => by cases h))))))))))⟩
set_option maxRecDepth 100000 in
theorem pledgelaw22_OrderAsks.ok : Sound Go.Proofs.Try.prog 8 pledgelaw22_OrderAsks.sig := body_sound (C := pledgelaw22_OrderAsks.C) (q := pledgelaw22_OrderAsks.Q) (fn := Go.Proofs.Try.f8) (sg := pledgelaw22_OrderAsks.sig) (n := 3) pledgelaw22_OrderAsks.ctx follows Go.Proofs.Try.func8 (by kernel_rfl) (by kernel_rfl) (by kernel_rfl) (by kernel_rfl) (Nat.le_of_ble_eq_true (by kernel_rfl)) (by kernel_rfl) pledgelaw22_OrderAsks.eq

end Go.Proofs.F
