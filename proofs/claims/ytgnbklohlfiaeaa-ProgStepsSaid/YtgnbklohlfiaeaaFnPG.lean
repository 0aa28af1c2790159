import Derived.Test.YtgnbklohlfiaeaaFnPGa
import Derived.KernelRfl
set_option linter.unusedVariables false
namespace Go.Proofs.F
open Go.Proofs.D

def prog_Orders.l1 (v : (Unit × (List (Int × Int × Int × Int × Unit)) × Int × Int) × List Int × Unit) : Option (((Unit × (List (Int × Int × Int × Int × Unit)) × Int × Int) × List Int × Unit) ⊕ (Unit × List Int × Unit)) :=
  bif decide (v.1.2.2.2 < v.1.2.2.1) then nthK v.1.2.1 v.1.2.2.2 fun e17 => room (v.2.1.length + [e17.1].length) (some (Sum.inl (((), (v.1.2.1, (v.1.2.2.1, IntKind.i64.wrap (v.1.2.2.2 + 1)))), (v.2.1 ++ [e17.1], ())))) else some (Sum.inr ((), (v.2.1, ())))
def prog_Orders (x0 : Int × Int × Int × (List (Int × Int × Unit)) × (List (Int × Int × Int × Int × Unit)) × (List (Int × Int × Unit)) × Int × Int × Int × Int × Unit) : Option (List Int) :=
  bif (x0.2.1 : Int) != 0 then some [x0.2.1] else (iterL prog_Orders.l1 loopN (((), (x0.2.2.2.2.1, ((x0.2.2.2.2.1.length : Int), 0))), ([], ()))).bind fun y18 => some y18.2.1
def prog_Orders.C : Ctx := { ty := tyT, sigs := fun i => [], n := 26, mp := mpT }
def prog_Orders.Q : Cuts := { np := 0, loops := fun i => bif Nat.beq i 5 then some ({ env := [(3, .row 0), (13, .val (.slice kTake)), (14, .val (.int .i64)), (15, .val (.int .i64))], objs := [.row (.int .u32) false] }, [(.exit 0, { env := [(3, .row 0)], objs := [.row (.int .u32) false] })]) else none, seqs := fun i => none, splits := fun i => none }
def prog_Orders.sig : Sig := { args := .tc (.val kProgram) .tn, objs := [], ret := .val (.slice (.int .u32)), outs := [], F := fun x => prog_Orders x.1.1 }
theorem prog_Orders.eq : (fun x => body prog_Orders.C prog_Orders.Q Go.Proofs.Try.f25 prog_Orders.sig.args prog_Orders.sig.objs prog_Orders.sig.ret prog_Orders.sig.outs x) = prog_Orders.sig.F := by
  kernel_rfl
set_option maxRecDepth 100000 in
theorem prog_Orders.ctx : CtxOk Go.Proofs.Try.prog prog_Orders.C := ⟨tyOk, mpOk, Nat.le_of_ble_eq_true (by kernel_rfl), fun f sg => (fun h => by cases h)⟩
set_option maxRecDepth 100000 in
theorem prog_Orders.ok : Sound Go.Proofs.Try.prog 25 prog_Orders.sig := body_sound (C := prog_Orders.C) (q := prog_Orders.Q) (fn := Go.Proofs.Try.f25) (sg := prog_Orders.sig) (n := 1) prog_Orders.ctx follows Go.Proofs.Try.func25 (by kernel_rfl) (by kernel_rfl) (by kernel_rfl) (by kernel_rfl) (Nat.le_of_ble_eq_true (by kernel_rfl)) (by kernel_rfl) prog_Orders.eq

def pledgeref13_Orders.l1 (v : (Unit × Unit × Int) × (Int × Int × Int × (List (Int × Int × Unit)) × (List (Int × Int × Int × Int × Unit)) × (List (Int × Int × Unit)) × Int × Int × Int × Int × Unit) × List Int × Unit) : Option (((Unit × Unit × Int) × (Int × Int × Int × (List (Int × Int × Unit)) × (List (Int × Int × Int × Int × Unit)) × (List (Int × Int × Unit)) × Int × Int × Int × Int × Unit) × List Int × Unit) ⊕ (Unit × List Int × Unit)) :=
  bif decide (v.1.2.2 < (v.2.1.2.2.2.2.1.length : Int)) then nthK v.2.1.2.2.2.2.1 v.1.2.2 fun e20 => room (v.2.2.1.length + [e20.1].length) (some (Sum.inl (((), ((), IntKind.i64.wrap (v.1.2.2 + 1))), (v.2.1, (v.2.2.1 ++ [e20.1], ()))))) else some (Sum.inr ((), (v.2.2.1, ())))
def pledgeref13_Orders (x0 : Int × Int × Int × (List (Int × Int × Unit)) × (List (Int × Int × Int × Int × Unit)) × (List (Int × Int × Unit)) × Int × Int × Int × Int × Unit) : Option (List Int) :=
  bif (x0.2.1 : Int) != 0 then some [x0.2.1] else (iterL pledgeref13_Orders.l1 loopN (((), ((), 0)), (x0, ([], ())))).bind fun y21 => some y21.2.1
def pledgeref13_Orders.C : Ctx := { ty := tyT, sigs := fun i => [], n := 28, mp := mpT }
def pledgeref13_Orders.Q : Cuts := { np := 0, loops := fun i => bif Nat.beq i 5 then some ({ env := [(1, .ptr 0), (3, .row 1), (4, .val (.int .i64))], objs := [.cell kProgram (.val kProgram), .row (.int .u32) false] }, [(.exit 0, { env := [(3, .row 0)], objs := [.row (.int .u32) false] })]) else none, seqs := fun i => none, splits := fun i => none }
def pledgeref13_Orders.sig : Sig := { args := .tc (.val kProgram) .tn, objs := [], ret := .val (.slice (.int .u32)), outs := [], F := fun x => pledgeref13_Orders x.1.1 }
theorem pledgeref13_Orders.eq : (fun x => body pledgeref13_Orders.C pledgeref13_Orders.Q Go.Proofs.Try.f26 pledgeref13_Orders.sig.args pledgeref13_Orders.sig.objs pledgeref13_Orders.sig.ret pledgeref13_Orders.sig.outs x) = pledgeref13_Orders.sig.F := by
  kernel_rfl
set_option maxRecDepth 100000 in
theorem pledgeref13_Orders.ctx : CtxOk Go.Proofs.Try.prog pledgeref13_Orders.C := ⟨tyOk, mpOk, Nat.le_of_ble_eq_true (by kernel_rfl), fun f sg => (fun h => by cases h)⟩
set_option maxRecDepth 100000 in
theorem pledgeref13_Orders.ok : Sound Go.Proofs.Try.prog 26 pledgeref13_Orders.sig := body_sound (C := pledgeref13_Orders.C) (q := pledgeref13_Orders.Q) (fn := Go.Proofs.Try.f26) (sg := pledgeref13_Orders.sig) (n := 1) pledgeref13_Orders.ctx follows Go.Proofs.Try.func26 (by kernel_rfl) (by kernel_rfl) (by kernel_rfl) (by kernel_rfl) (Nat.le_of_ble_eq_true (by kernel_rfl)) (by kernel_rfl) pledgeref13_Orders.eq

def pledgelaw13_ProgGood.l1 (v : (Int × Int × Unit × List Int × List Int × Int) × (Int × Int × Int × (List (Int × Int × Unit)) × (List (Int × Int × Int × Int × Unit)) × (List (Int × Int × Unit)) × Int × Int × Int × Int × Unit) × Unit) : Option (((Int × Int × Unit × List Int × List Int × Int) × (Int × Int × Int × (List (Int × Int × Unit)) × (List (Int × Int × Int × Int × Unit)) × (List (Int × Int × Unit)) × Int × Int × Int × Int × Unit) × Unit) ⊕ (((Int × Int × Unit) × (Int × Int × Int × (List (Int × Int × Unit)) × (List (Int × Int × Int × Int × Unit)) × (List (Int × Int × Unit)) × Int × Int × Int × Int × Unit) × Unit) ⊕ Bool)) :=
  bif decide (v.1.2.2.2.2.2 < (v.1.2.2.2.1.length : Int)) then nthK v.1.2.2.2.1 v.1.2.2.2.2.2 fun e19 => nthK v.1.2.2.2.2.1 v.1.2.2.2.2.2 fun e20 => bif (e19 : Int) != e20 then some (Sum.inr (Sum.inr false)) else some (Sum.inl ((v.1.1, (v.1.2.1, ((), (v.1.2.2.2.1, (v.1.2.2.2.2.1, IntKind.i64.wrap (v.1.2.2.2.2.2 + 1)))))), (v.2.1, ()))) else some (Sum.inr (Sum.inl ((v.1.1, (v.1.2.1, ())), (v.2.1, ()))))
def pledgelaw13_ProgGood (x0 : Int) (x1 : Int) (x2 : Int × Int × Int × (List (Int × Int × Unit)) × (List (Int × Int × Int × Int × Unit)) × (List (Int × Int × Unit)) × Int × Int × Int × Int × Unit) : Option Bool :=
  (pledgelaw13_Few x2).bind fun r15 => bif (r15 : Int) == 0 then pledgelaw13_works.bind fun r16 => some r16 else (prog_Orders x2).bind fun r17 => (pledgeref13_Orders x2).bind fun r18 => bif ((r17.length : Int) : Int) != (r18.length : Int) then some false else (iterL pledgelaw13_ProgGood.l1 loopN ((x0, (x1, ((), (r17, (r18, 0))))), (x2, ()))).bind fun y21 => (match y21 with | .inl y22 => (prog_Good y22.1.1 y22.1.2.1 y22.2.1).bind fun r24 => (pledgeref13_Good y22.1.1 y22.1.2.1 y22.2.1).bind fun r25 => bif r24 == r25 then pledgelaw13_works.bind fun r26 => some r26 else some false | .inr y23 => some y23)
def pledgelaw13_ProgGood.C : Ctx := { ty := tyT, sigs := fun i => bif Nat.beq i 18 then [pledgelaw13_Few.sig] else bif Nat.beq i 19 then [pledgelaw13_works.sig] else bif Nat.beq i 22 then [pledgeref13_Good.sig] else bif Nat.beq i 25 then [prog_Orders.sig] else bif Nat.beq i 26 then [pledgeref13_Orders.sig] else bif Nat.beq i 27 then [prog_Good.sig] else [], n := 50, mp := mpT }
def pledgelaw13_ProgGood.Q : Cuts := { np := 0, loops := fun i => bif Nat.beq i 7 then some ({ env := [(0, .val (.int .i64)), (1, .val (.int .i64)), (5, .ptr 0), (7, .val (.slice (.int .u32))), (8, .val (.slice (.int .u32))), (9, .val (.int .i64))], objs := [.cell kProgram (.val kProgram)] }, [(.exit 0, { env := [(0, .val (.int .i64)), (1, .val (.int .i64)), (5, .ptr 0)], objs := [.cell kProgram (.val kProgram)] }), (.ret, { env := [(6, .val .bool)], objs := [] })]) else none, seqs := fun i => none, splits := fun i => none }
def pledgelaw13_ProgGood.sig : Sig := { args := .tc (.val (.int .i64)) (.tc (.val (.int .i64)) (.tc (.val kProgram) .tn)), objs := [], ret := .val .bool, outs := [], F := fun x => pledgelaw13_ProgGood x.1.1 x.1.2.1 x.1.2.2.1 }
theorem pledgelaw13_ProgGood.eq : (fun x => body pledgelaw13_ProgGood.C pledgelaw13_ProgGood.Q Go.Proofs.Try.f5 pledgelaw13_ProgGood.sig.args pledgelaw13_ProgGood.sig.objs pledgelaw13_ProgGood.sig.ret pledgelaw13_ProgGood.sig.outs x) = pledgelaw13_ProgGood.sig.F := by
  kernel_rfl
set_option maxRecDepth 100000 in
theorem pledgelaw13_ProgGood.ctx : CtxOk Go.Proofs.Try.prog pledgelaw13_ProgGood.C := ⟨tyOk, mpOk, Nat.le_of_ble_eq_true (by kernel_rfl), fun f sg => fun h => sigs_if h (allS_cons pledgelaw13_Few.ok allS_nil) (fun h => sigs_if h (allS_cons pledgelaw13_works.ok allS_nil) (fun h => sigs_if h (allS_cons pledgeref13_Good.ok allS_nil) (fun h => sigs_if h (allS_cons prog_Orders.ok allS_nil) (fun h => sigs_if h (allS_cons pledgeref13_Orders.ok allS_nil) (fun h => sigs_if h (allS_cons prog_Good.ok allS_nil) ((fun h => by cases h)))))))⟩
set_option maxRecDepth 100000 in
theorem pledgelaw13_ProgGood.ok : Sound Go.Proofs.Try.prog 5 pledgelaw13_ProgGood.sig := body_sound (C := pledgelaw13_ProgGood.C) (q := pledgelaw13_ProgGood.Q) (fn := Go.Proofs.Try.f5) (sg := pledgelaw13_ProgGood.sig) (n := 3) pledgelaw13_ProgGood.ctx follows Go.Proofs.Try.func5 (by kernel_rfl) (by kernel_rfl) (by kernel_rfl) (by kernel_rfl) (Nat.le_of_ble_eq_true (by kernel_rfl)) (by kernel_rfl) pledgelaw13_ProgGood.eq

def slices_Equal_api_Line_api_Line.l1 (v : (List (Int × Int × Unit)) × (List (Int × Int × Unit)) × Int × Int) : Option (((List (Int × Int × Unit)) × (List (Int × Int × Unit)) × Int × Int) ⊕ (Unit ⊕ Bool)) :=
  bif decide (v.2.2.2 < v.2.2.1) then nthK v.1 v.2.2.2 fun e27 => nthK v.2.1 v.2.2.2 fun e28 => bif !(eqE kLine e27 e28) then some (Sum.inr (Sum.inr false)) else some (Sum.inl (v.1, (v.2.1, (v.2.2.1, IntKind.i64.wrap (v.2.2.2 + 1))))) else some (Sum.inr (Sum.inl ()))
def slices_Equal_api_Line_api_Line (x0 : List (Int × Int × Unit)) (x1 : List (Int × Int × Unit)) : Option Bool :=
  bif ((x0.length : Int) : Int) != (x1.length : Int) then some false else (iterL slices_Equal_api_Line_api_Line.l1 loopN (x0, (x1, ((x0.length : Int), 0)))).bind fun y29 => (match y29 with | .inl y30 => some true | .inr y31 => some y31)
def slices_Equal_api_Line_api_Line.C : Ctx := { ty := tyT, sigs := fun i => [], n := 26, mp := mpT }
def slices_Equal_api_Line_api_Line.Q : Cuts := { np := 0, loops := fun i => bif Nat.beq i 4 then some ({ env := [(0, .val (.slice kLine)), (1, .val (.slice kLine)), (12, .val (.int .i64)), (13, .val (.int .i64))], objs := [] }, [(.exit 0, { env := [], objs := [] }), (.ret, { env := [(4, .val .bool)], objs := [] })]) else none, seqs := fun i => none, splits := fun i => none }
def slices_Equal_api_Line_api_Line.sig : Sig := { args := .tc (.val (.slice kLine)) (.tc (.val (.slice kLine)) .tn), objs := [], ret := .val .bool, outs := [], F := fun x => slices_Equal_api_Line_api_Line x.1.1 x.1.2.1 }
theorem slices_Equal_api_Line_api_Line.eq : (fun x => body slices_Equal_api_Line_api_Line.C slices_Equal_api_Line_api_Line.Q Go.Proofs.Try.f87 slices_Equal_api_Line_api_Line.sig.args slices_Equal_api_Line_api_Line.sig.objs slices_Equal_api_Line_api_Line.sig.ret slices_Equal_api_Line_api_Line.sig.outs x) = slices_Equal_api_Line_api_Line.sig.F := by
  kernel_rfl
set_option maxRecDepth 100000 in
theorem slices_Equal_api_Line_api_Line.ctx : CtxOk Go.Proofs.Try.prog slices_Equal_api_Line_api_Line.C := ⟨tyOk, mpOk, Nat.le_of_ble_eq_true (by kernel_rfl), fun f sg => (fun h => by cases h)⟩
set_option maxRecDepth 100000 in
theorem slices_Equal_api_Line_api_Line.ok : Sound Go.Proofs.Try.prog 87 slices_Equal_api_Line_api_Line.sig := body_sound (C := slices_Equal_api_Line_api_Line.C) (q := slices_Equal_api_Line_api_Line.Q) (fn := Go.Proofs.Try.f87) (sg := slices_Equal_api_Line_api_Line.sig) (n := 2) slices_Equal_api_Line_api_Line.ctx follows Go.Proofs.Try.func87 (by kernel_rfl) (by kernel_rfl) (by kernel_rfl) (by kernel_rfl) (Nat.le_of_ble_eq_true (by kernel_rfl)) (by kernel_rfl) slices_Equal_api_Line_api_Line.eq

def slices_Equal_api_Take_api_Take.l1 (v : (List (Int × Int × Int × Int × Unit)) × (List (Int × Int × Int × Int × Unit)) × Int × Int) : Option (((List (Int × Int × Int × Int × Unit)) × (List (Int × Int × Int × Int × Unit)) × Int × Int) ⊕ (Unit ⊕ Bool)) :=
  bif decide (v.2.2.2 < v.2.2.1) then nthK v.1 v.2.2.2 fun e33 => nthK v.2.1 v.2.2.2 fun e34 => bif !(eqE kTake e33 e34) then some (Sum.inr (Sum.inr false)) else some (Sum.inl (v.1, (v.2.1, (v.2.2.1, IntKind.i64.wrap (v.2.2.2 + 1))))) else some (Sum.inr (Sum.inl ()))
def slices_Equal_api_Take_api_Take (x0 : List (Int × Int × Int × Int × Unit)) (x1 : List (Int × Int × Int × Int × Unit)) : Option Bool :=
  bif ((x0.length : Int) : Int) != (x1.length : Int) then some false else (iterL slices_Equal_api_Take_api_Take.l1 loopN (x0, (x1, ((x0.length : Int), 0)))).bind fun y35 => (match y35 with | .inl y36 => some true | .inr y37 => some y37)
def slices_Equal_api_Take_api_Take.C : Ctx := { ty := tyT, sigs := fun i => [], n := 26, mp := mpT }
def slices_Equal_api_Take_api_Take.Q : Cuts := { np := 0, loops := fun i => bif Nat.beq i 4 then some ({ env := [(0, .val (.slice kTake)), (1, .val (.slice kTake)), (12, .val (.int .i64)), (13, .val (.int .i64))], objs := [] }, [(.exit 0, { env := [], objs := [] }), (.ret, { env := [(4, .val .bool)], objs := [] })]) else none, seqs := fun i => none, splits := fun i => none }
def slices_Equal_api_Take_api_Take.sig : Sig := { args := .tc (.val (.slice kTake)) (.tc (.val (.slice kTake)) .tn), objs := [], ret := .val .bool, outs := [], F := fun x => slices_Equal_api_Take_api_Take x.1.1 x.1.2.1 }
theorem slices_Equal_api_Take_api_Take.eq : (fun x => body slices_Equal_api_Take_api_Take.C slices_Equal_api_Take_api_Take.Q Go.Proofs.Try.f88 slices_Equal_api_Take_api_Take.sig.args slices_Equal_api_Take_api_Take.sig.objs slices_Equal_api_Take_api_Take.sig.ret slices_Equal_api_Take_api_Take.sig.outs x) = slices_Equal_api_Take_api_Take.sig.F := by
  kernel_rfl
set_option maxRecDepth 100000 in
theorem slices_Equal_api_Take_api_Take.ctx : CtxOk Go.Proofs.Try.prog slices_Equal_api_Take_api_Take.C := ⟨tyOk, mpOk, Nat.le_of_ble_eq_true (by kernel_rfl), fun f sg => (fun h => by cases h)⟩
set_option maxRecDepth 100000 in
theorem slices_Equal_api_Take_api_Take.ok : Sound Go.Proofs.Try.prog 88 slices_Equal_api_Take_api_Take.sig := body_sound (C := slices_Equal_api_Take_api_Take.C) (q := slices_Equal_api_Take_api_Take.Q) (fn := Go.Proofs.Try.f88) (sg := slices_Equal_api_Take_api_Take.sig) (n := 2) slices_Equal_api_Take_api_Take.ctx follows Go.Proofs.Try.func88 (by kernel_rfl) (by kernel_rfl) (by kernel_rfl) (by kernel_rfl) (Nat.le_of_ble_eq_true (by kernel_rfl)) (by kernel_rfl) slices_Equal_api_Take_api_Take.eq

def prog_Same (x0 : Int × Int × Int × (List (Int × Int × Unit)) × (List (Int × Int × Int × Int × Unit)) × (List (Int × Int × Unit)) × Int × Int × Int × Int × Unit) (x1 : Int × Int × Int × (List (Int × Int × Unit)) × (List (Int × Int × Int × Int × Unit)) × (List (Int × Int × Unit)) × Int × Int × Int × Int × Unit) : Option Bool :=
  bif (x0.1 : Int) == x1.1 then bif (x0.2.1 : Int) == x1.2.1 then bif (x0.2.2.1 : Int) == x1.2.2.1 then (slices_Equal_api_Line_api_Line x0.2.2.2.1 x1.2.2.2.1).bind fun r27 => bif r27 then (slices_Equal_api_Take_api_Take x0.2.2.2.2.1 x1.2.2.2.2.1).bind fun r28 => bif r28 then (slices_Equal_api_Line_api_Line x0.2.2.2.2.2.1 x1.2.2.2.2.2.1).bind fun r29 => bif r29 then bif (x0.2.2.2.2.2.2.1 : Int) == x1.2.2.2.2.2.2.1 then bif (x0.2.2.2.2.2.2.2.1 : Int) == x1.2.2.2.2.2.2.2.1 then bif (x0.2.2.2.2.2.2.2.2.1 : Int) == x1.2.2.2.2.2.2.2.2.1 then some ((x0.2.2.2.2.2.2.2.2.2.1 : Int) == x1.2.2.2.2.2.2.2.2.2.1) else some false else some false else some false else some false else some false else some false else some false else some false else some false
def prog_Same.C : Ctx := { ty := tyT, sigs := fun i => bif Nat.beq i 87 then [slices_Equal_api_Line_api_Line.sig] else bif Nat.beq i 88 then [slices_Equal_api_Take_api_Take.sig] else [], n := 73, mp := mpT }
def prog_Same.Q : Cuts := { np := 0, loops := fun i => none, seqs := fun i => none, splits := fun i => none }
def prog_Same.sig : Sig := { args := .tc (.val kProgram) (.tc (.val kProgram) .tn), objs := [], ret := .val .bool, outs := [], F := fun x => prog_Same x.1.1 x.1.2.1 }
theorem prog_Same.eq : (fun x => body prog_Same.C prog_Same.Q Go.Proofs.Try.f33 prog_Same.sig.args prog_Same.sig.objs prog_Same.sig.ret prog_Same.sig.outs x) = prog_Same.sig.F := by
  kernel_rfl
set_option maxRecDepth 100000 in
theorem prog_Same.ctx : CtxOk Go.Proofs.Try.prog prog_Same.C := ⟨tyOk, mpOk, Nat.le_of_ble_eq_true (by kernel_rfl), fun f sg => fun h => sigs_if h (allS_cons slices_Equal_api_Line_api_Line.ok allS_nil) (fun h => sigs_if h (allS_cons slices_Equal_api_Take_api_Take.ok allS_nil) ((fun h => by cases h)))⟩
set_option maxRecDepth 100000 in
theorem prog_Same.ok : Sound Go.Proofs.Try.prog 33 prog_Same.sig := body_sound (C := prog_Same.C) (q := prog_Same.Q) (fn := Go.Proofs.Try.f33) (sg := prog_Same.sig) (n := 2) prog_Same.ctx follows Go.Proofs.Try.func33 (by kernel_rfl) (by kernel_rfl) (by kernel_rfl) (by kernel_rfl) (Nat.le_of_ble_eq_true (by kernel_rfl)) (by kernel_rfl) prog_Same.eq

end Go.Proofs.F
