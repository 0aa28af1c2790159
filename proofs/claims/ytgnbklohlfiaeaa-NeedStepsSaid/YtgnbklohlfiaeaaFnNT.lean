import Derived.Test.YtgnbklohlfiaeaaFnNTa
import Derived.KernelRfl
set_option linter.unusedVariables false
namespace Go.Proofs.F
open Go.Proofs.D

def course_steps (x0 : Int × (Int × Int × Int × (List (Int × Int × Unit)) × (List (Int × Int × Int × Int × Unit)) × (List (Int × Int × Unit)) × Int × Int × Int × Int × Unit) × Bool × Int × Int × Int × Unit) : Option Int :=
  (prog_Steps x0.2.1).bind fun r21 => some (r21.length : Int)
def course_steps.C : Ctx := { ty := tyT, sigs := fun i => bif Nat.beq i 20 then [prog_Steps.sig] else [], n := 7, mp := mpT }
def course_steps.Q : Cuts := { np := 0, loops := fun i => none, seqs := fun i => none, splits := fun i => none }
def course_steps.sig : Sig := { args := .tc (.val kCourse) .tn, objs := [], ret := .val (.int .i64), outs := [], F := fun x => course_steps x.1.1 }
theorem course_steps.eq : (fun x => body course_steps.C course_steps.Q Go.Proofs.Try.f125 course_steps.sig.args course_steps.sig.objs course_steps.sig.ret course_steps.sig.outs x) = course_steps.sig.F := by
  kernel_rfl
set_option maxRecDepth 100000 in
theorem course_steps.ctx : CtxOk Go.Proofs.Try.prog course_steps.C := ⟨tyOk, mpOk, Nat.le_of_ble_eq_true (by kernel_rfl), fun f sg => fun h => sigs_if h (allS_cons prog_Steps.ok allS_nil) ((fun h => by cases h))⟩
set_option maxRecDepth 100000 in
theorem course_steps.ok : Sound Go.Proofs.Try.prog 125 course_steps.sig := body_sound (C := course_steps.C) (q := course_steps.Q) (fn := Go.Proofs.Try.f125) (sg := course_steps.sig) (n := 1) course_steps.ctx follows Go.Proofs.Try.func125 (by kernel_rfl) (by kernel_rfl) (by kernel_rfl) (by kernel_rfl) (Nat.le_of_ble_eq_true (by kernel_rfl)) (by kernel_rfl) course_steps.eq

def course_Good (x0 : Int × (Int × Int × Int × (List (Int × Int × Unit)) × (List (Int × Int × Int × Int × Unit)) × (List (Int × Int × Unit)) × Int × Int × Int × Int × Unit) × Bool × Int × Int × Int × Unit) : Option Bool :=
  bif (x0.1 : Int) != 0 then (prog_Good 4 4 x0.2.1).bind fun r20 => bif r20 then bif decide (x0.2.2.2.1 ≥ 0) then (course_steps x0).bind fun r21 => bif decide (x0.2.2.2.1 ≤ r21) then some (decide (x0.2.2.2.2.1 ≥ 0)) else some false else some false else some false else some false
def course_Good.C : Ctx := { ty := tyT, sigs := fun i => bif Nat.beq i 27 then [prog_Good.sig] else bif Nat.beq i 125 then [course_steps.sig] else [], n := 28, mp := mpT }
def course_Good.Q : Cuts := { np := 0, loops := fun i => none, seqs := fun i => none, splits := fun i => none }
def course_Good.sig : Sig := { args := .tc (.val kCourse) .tn, objs := [], ret := .val .bool, outs := [], F := fun x => course_Good x.1.1 }
theorem course_Good.eq : (fun x => body course_Good.C course_Good.Q Go.Proofs.Try.f119 course_Good.sig.args course_Good.sig.objs course_Good.sig.ret course_Good.sig.outs x) = course_Good.sig.F := by
  kernel_rfl
set_option maxRecDepth 100000 in
theorem course_Good.ctx : CtxOk Go.Proofs.Try.prog course_Good.C := ⟨tyOk, mpOk, Nat.le_of_ble_eq_true (by kernel_rfl), fun f sg => fun h => sigs_if h (allS_cons prog_Good.ok allS_nil) (fun h => sigs_if h (allS_cons course_steps.ok allS_nil) ((fun h => by cases h)))⟩
set_option maxRecDepth 100000 in
theorem course_Good.ok : Sound Go.Proofs.Try.prog 119 course_Good.sig := body_sound (C := course_Good.C) (q := course_Good.Q) (fn := Go.Proofs.Try.f119) (sg := course_Good.sig) (n := 1) course_Good.ctx follows Go.Proofs.Try.func119 (by kernel_rfl) (by kernel_rfl) (by kernel_rfl) (by kernel_rfl) (Nat.le_of_ble_eq_true (by kernel_rfl)) (by kernel_rfl) course_Good.eq

def need_passes.l1 (v : Int × (List (Int × Int × (List (Int × Int × Unit)) × Unit)) × Int × Int) : Option ((Int × (List (Int × Int × (List (Int × Int × Unit)) × Unit)) × Int × Int) ⊕ Int) :=
  bif decide (v.2.2.2 < v.2.2.1) then nthK v.2.1 v.2.2.2 fun e23 => (need_Pass e23).bind fun r24 => some (Sum.inl (IntKind.i64.wrap (v.1 + r24), (v.2.1, (v.2.2.1, IntKind.i64.wrap (v.2.2.2 + 1))))) else some (Sum.inr v.1)
def need_passes (x0 : List (Int × Int × (List (Int × Int × Unit)) × Unit)) : Option Int :=
  (iterL need_passes.l1 loopN (0, (x0, ((x0.length : Int), 0)))).bind fun y25 => some y25
def need_passes.C : Ctx := { ty := tyT, sigs := fun i => bif Nat.beq i 36 then [need_Pass.sig] else [], n := 18, mp := mpT }
def need_passes.Q : Cuts := { np := 0, loops := fun i => bif Nat.beq i 3 then some ({ env := [(3, .val (.int .i64)), (6, .val (.slice kStep)), (7, .val (.int .i64)), (8, .val (.int .i64))], objs := [] }, [(.exit 0, { env := [(3, .val (.int .i64))], objs := [] })]) else none, seqs := fun i => none, splits := fun i => none }
def need_passes.sig : Sig := { args := .tc (.val (.slice kStep)) .tn, objs := [], ret := .val (.int .i64), outs := [], F := fun x => need_passes x.1.1 }
theorem need_passes.eq : (fun x => body need_passes.C need_passes.Q Go.Proofs.Try.f126 need_passes.sig.args need_passes.sig.objs need_passes.sig.ret need_passes.sig.outs x) = need_passes.sig.F := by
  kernel_rfl
set_option maxRecDepth 100000 in
theorem need_passes.ctx : CtxOk Go.Proofs.Try.prog need_passes.C := ⟨tyOk, mpOk, Nat.le_of_ble_eq_true (by kernel_rfl), fun f sg => fun h => sigs_if h (allS_cons need_Pass.ok allS_nil) ((fun h => by cases h))⟩
set_option maxRecDepth 100000 in
theorem need_passes.ok : Sound Go.Proofs.Try.prog 126 need_passes.sig := body_sound (C := need_passes.C) (q := need_passes.Q) (fn := Go.Proofs.Try.f126) (sg := need_passes.sig) (n := 1) need_passes.ctx follows Go.Proofs.Try.func126 (by kernel_rfl) (by kernel_rfl) (by kernel_rfl) (by kernel_rfl) (Nat.le_of_ble_eq_true (by kernel_rfl)) (by kernel_rfl) need_passes.eq

def need_Rest (x0 : Int × (Int × Int × Int × (List (Int × Int × Unit)) × (List (Int × Int × Int × Int × Unit)) × (List (Int × Int × Unit)) × Int × Int × Int × Int × Unit) × Bool × Int × Int × Int × Unit) (x1 : Int) : Option Int :=
  (course_Good x0).bind fun r21 => bif !r21 then some 0 else (prog_Steps x0.2.1).bind fun r22 => bif x0.2.2.1 then chk (decide (0 ≤ x0.2.2.2.1) && decide (x0.2.2.2.1 ≤ (r22.length : Int))) ((need_passes ((r22.take (x0.2.2.2.1 : Int).toNat).drop 0)).bind fun r23 => (rec_Cost 9).bind fun r24 => some (IntKind.i64.wrap (r23 + r24))) else chk (decide (0 ≤ x0.2.2.2.1) && decide (x0.2.2.2.1 ≤ (r22.length : Int))) ((need_passes ((r22.take r22.length).drop (x0.2.2.2.1 : Int).toNat)).bind fun r25 => (need_Attempt x0.2.1).bind fun r26 => (rec_Cost 8).bind fun r27 => (need_passes r22).bind fun r28 => (rec_Cost 9).bind fun r29 => some (IntKind.i64.wrap ((IntKind.i64.wrap ((IntKind.i64.wrap ((IntKind.i64.wrap (r25 + (IntKind.i64.wrap ((if 0 > (IntKind.i64.wrap ((IntKind.i64.wrap ((if 4 < (if 0 > x1 then 0 else x1) then 4 else if 0 > x1 then 0 else x1) + 1)) - x0.2.2.2.2.1)) then 0 else IntKind.i64.wrap ((IntKind.i64.wrap ((if 4 < (if 0 > x1 then 0 else x1) then 4 else if 0 > x1 then 0 else x1) + 1)) - x0.2.2.2.2.1)) * r26)))) + r27)) + r28)) + r29)))
def need_Rest.C : Ctx := { ty := tyT, sigs := fun i => bif Nat.beq i 20 then [prog_Steps.sig] else bif Nat.beq i 90 then [need_Attempt.sig] else bif Nat.beq i 92 then [rec_Cost.sig] else bif Nat.beq i 119 then [course_Good.sig] else bif Nat.beq i 126 then [need_passes.sig] else [], n := 48, mp := mpT }
def need_Rest.Q : Cuts := { np := 0, loops := fun i => none, seqs := fun i => none, splits := fun i => none }
def need_Rest.sig : Sig := { args := .tc (.val kCourse) (.tc (.val (.int .i64)) .tn), objs := [], ret := .val (.int .i64), outs := [], F := fun x => need_Rest x.1.1 x.1.2.1 }
theorem need_Rest.eq : (fun x => body need_Rest.C need_Rest.Q Go.Proofs.Try.f120 need_Rest.sig.args need_Rest.sig.objs need_Rest.sig.ret need_Rest.sig.outs x) = need_Rest.sig.F := by
  kernel_rfl
set_option maxRecDepth 100000 in
theorem need_Rest.ctx : CtxOk Go.Proofs.Try.prog need_Rest.C := ⟨tyOk, mpOk, Nat.le_of_ble_eq_true (by kernel_rfl), fun f sg => fun h => sigs_if h (allS_cons prog_Steps.ok allS_nil) (fun h => sigs_if h (allS_cons need_Attempt.ok allS_nil) (fun h => sigs_if h (allS_cons rec_Cost.ok allS_nil) (fun h => sigs_if h (allS_cons course_Good.ok allS_nil) (fun h => sigs_if h (allS_cons need_passes.ok allS_nil) ((fun h => by cases h))))))⟩
set_option maxRecDepth 100000 in
theorem need_Rest.ok : Sound Go.Proofs.Try.prog 120 need_Rest.sig := body_sound (C := need_Rest.C) (q := need_Rest.Q) (fn := Go.Proofs.Try.f120) (sg := need_Rest.sig) (n := 2) need_Rest.ctx follows Go.Proofs.Try.func120 (by kernel_rfl) (by kernel_rfl) (by kernel_rfl) (by kernel_rfl) (Nat.le_of_ble_eq_true (by kernel_rfl)) (by kernel_rfl) need_Rest.eq

def need_Hold (x0 : Int × (Int × Int × Int × (List (Int × Int × Unit)) × (List (Int × Int × Int × Int × Unit)) × (List (Int × Int × Unit)) × Int × Int × Int × Int × Unit) × Bool × Int × Int × Int × Unit) (x1 : Int × Int × Int × Bool × Bool × (List ((Int × Int × Int × Unit) × Int × Unit)) × Int × Int × Unit) (x2 : Int) : Option Int :=
  (course_Good x0).bind fun r20 => bif !r20 then some 0 else (need_Rest x0 x2).bind fun r21 => (need_Attempt x0.2.1).bind fun r22 => bif (x0.2.2.2.2.2.1 : Int) == 0 then some (IntKind.i64.wrap (r21 + r22)) else bif x1.2.2.2.2.1 then bif !x0.2.2.1 then (need_Attempt x0.2.1).bind fun r23 => some (if 0 > (IntKind.i64.wrap ((IntKind.i64.wrap ((IntKind.i64.wrap (r21 + r22)) + r23)) - x1.2.2.2.2.2.2.2.1)) then 0 else IntKind.i64.wrap ((IntKind.i64.wrap ((IntKind.i64.wrap (r21 + r22)) + r23)) - x1.2.2.2.2.2.2.2.1)) else some (if 0 > (IntKind.i64.wrap ((IntKind.i64.wrap (r21 + r22)) - x1.2.2.2.2.2.2.2.1)) then 0 else IntKind.i64.wrap ((IntKind.i64.wrap (r21 + r22)) - x1.2.2.2.2.2.2.2.1)) else some (if 0 > (IntKind.i64.wrap ((IntKind.i64.wrap (r21 + r22)) - x1.2.2.2.2.2.2.2.1)) then 0 else IntKind.i64.wrap ((IntKind.i64.wrap (r21 + r22)) - x1.2.2.2.2.2.2.2.1))
def need_Hold.C : Ctx := { ty := tyT, sigs := fun i => bif Nat.beq i 90 then [need_Attempt.sig] else bif Nat.beq i 119 then [course_Good.sig] else bif Nat.beq i 120 then [need_Rest.sig] else [], n := 39, mp := mpT }
def need_Hold.Q : Cuts := { np := 0, loops := fun i => none, seqs := fun i => none, splits := fun i => none }
def need_Hold.sig : Sig := { args := .tc (.val kCourse) (.tc (.val kTxn) (.tc (.val (.int .i64)) .tn)), objs := [], ret := .val (.int .i64), outs := [], F := fun x => need_Hold x.1.1 x.1.2.1 x.1.2.2.1 }
theorem need_Hold.eq : (fun x => body need_Hold.C need_Hold.Q Go.Proofs.Try.f110 need_Hold.sig.args need_Hold.sig.objs need_Hold.sig.ret need_Hold.sig.outs x) = need_Hold.sig.F := by
  kernel_rfl
set_option maxRecDepth 100000 in
theorem need_Hold.ctx : CtxOk Go.Proofs.Try.prog need_Hold.C := ⟨tyOk, mpOk, Nat.le_of_ble_eq_true (by kernel_rfl), fun f sg => fun h => sigs_if h (allS_cons need_Attempt.ok allS_nil) (fun h => sigs_if h (allS_cons course_Good.ok allS_nil) (fun h => sigs_if h (allS_cons need_Rest.ok allS_nil) ((fun h => by cases h))))⟩
set_option maxRecDepth 100000 in
theorem need_Hold.ok : Sound Go.Proofs.Try.prog 110 need_Hold.sig := body_sound (C := need_Hold.C) (q := need_Hold.Q) (fn := Go.Proofs.Try.f110) (sg := need_Hold.sig) (n := 3) need_Hold.ctx follows Go.Proofs.Try.func110 (by kernel_rfl) (by kernel_rfl) (by kernel_rfl) (by kernel_rfl) (Nat.le_of_ble_eq_true (by kernel_rfl)) (by kernel_rfl) need_Hold.eq

def need_Start (x0 : Int × Int × Int × (List (Int × Int × Unit)) × (List (Int × Int × Int × Int × Unit)) × (List (Int × Int × Unit)) × Int × Int × Int × Int × Unit) (x1 : Int) : Option Int :=
  (course_Start (1, (1, (0, (0, (false, ((0, (0, (0, ()))), (0, (0, (x0, ())))))))))).bind fun r16 => bif (r16.2.1 : Int) != 0 then some 0 else (rec_Size (1, (1, (0, (0, (false, ((0, (0, (0, ()))), (0, (0, (x0, ())))))))))).bind fun r17 => (need_Hold r16.1 (0, (0, (0, (false, (false, ([], (0, (0, ())))))))) x1).bind fun r18 => some (IntKind.i64.wrap (r17 + r18))
def need_Start.C : Ctx := { ty := tyT, sigs := fun i => bif Nat.beq i 108 then [course_Start.sig] else bif Nat.beq i 109 then [rec_Size.sig] else bif Nat.beq i 110 then [need_Hold.sig] else [], n := 24, mp := mpT }
def need_Start.Q : Cuts := { np := 0, loops := fun i => none, seqs := fun i => none, splits := fun i => none }
def need_Start.sig : Sig := { args := .tc (.val kProgram) (.tc (.val (.int .i64)) .tn), objs := [], ret := .val (.int .i64), outs := [], F := fun x => need_Start x.1.1 x.1.2.1 }
theorem need_Start.eq : (fun x => body need_Start.C need_Start.Q Go.Proofs.Try.f91 need_Start.sig.args need_Start.sig.objs need_Start.sig.ret need_Start.sig.outs x) = need_Start.sig.F := by
  kernel_rfl
set_option maxRecDepth 100000 in
theorem need_Start.ctx : CtxOk Go.Proofs.Try.prog need_Start.C := ⟨tyOk, mpOk, Nat.le_of_ble_eq_true (by kernel_rfl), fun f sg => fun h => sigs_if h (allS_cons course_Start.ok allS_nil) (fun h => sigs_if h (allS_cons rec_Size.ok allS_nil) (fun h => sigs_if h (allS_cons need_Hold.ok allS_nil) ((fun h => by cases h))))⟩
set_option maxRecDepth 100000 in
theorem need_Start.ok : Sound Go.Proofs.Try.prog 91 need_Start.sig := body_sound (C := need_Start.C) (q := need_Start.Q) (fn := Go.Proofs.Try.f91) (sg := need_Start.sig) (n := 2) need_Start.ctx follows Go.Proofs.Try.func91 (by kernel_rfl) (by kernel_rfl) (by kernel_rfl) (by kernel_rfl) (Nat.le_of_ble_eq_true (by kernel_rfl)) (by kernel_rfl) need_Start.eq

def pledgelaw21_works  : Option Bool :=
  (need_Pass (5, (0, ([(0, (3, ()))], ())))).bind fun r1 => bif (r1 : Int) == 50 then (need_Fail (5, (0, ([(0, (3, ()))], ())))).bind fun r2 => bif (r2 : Int) == 83 then (need_Attempt (5, (0, (0, ([], ([], ([], (0, (0, (0, (3, ()))))))))))).bind fun r3 => bif (r3 : Int) == 83 then (need_Start (5, (0, (0, ([], ([], ([], (0, (0, (0, (3, ())))))))))) 0).bind fun r4 => some (decide (r4 > 300)) else some false else some false else some false
def pledgelaw21_works.C : Ctx := { ty := tyT, sigs := fun i => bif Nat.beq i 36 then [need_Pass.sig] else bif Nat.beq i 38 then [need_Fail.sig] else bif Nat.beq i 90 then [need_Attempt.sig] else bif Nat.beq i 91 then [need_Start.sig] else [], n := 25, mp := mpT }
def pledgelaw21_works.Q : Cuts := { np := 0, loops := fun i => none, seqs := fun i => none, splits := fun i => none }
def pledgelaw21_works.sig : Sig := { args := .tn, objs := [], ret := .val .bool, outs := [], F := fun x => pledgelaw21_works }
theorem pledgelaw21_works.eq : (fun x => body pledgelaw21_works.C pledgelaw21_works.Q Go.Proofs.Try.f35 pledgelaw21_works.sig.args pledgelaw21_works.sig.objs pledgelaw21_works.sig.ret pledgelaw21_works.sig.outs x) = pledgelaw21_works.sig.F := by
  kernel_rfl
set_option maxRecDepth 100000 in
theorem pledgelaw21_works.ctx : CtxOk Go.Proofs.Try.prog pledgelaw21_works.C := ⟨tyOk, mpOk, Nat.le_of_ble_eq_true (by kernel_rfl), fun f sg => fun h => sigs_if h (allS_cons need_Pass.ok allS_nil) (fun h => sigs_if h (allS_cons need_Fail.ok allS_nil) (fun h => sigs_if h (allS_cons need_Attempt.ok allS_nil) (fun h => sigs_if h (allS_cons need_Start.ok allS_nil) ((fun h => by cases h)))))⟩
set_option maxRecDepth 100000 in
theorem pledgelaw21_works.ok : Sound Go.Proofs.Try.prog 35 pledgelaw21_works.sig := body_sound (C := pledgelaw21_works.C) (q := pledgelaw21_works.Q) (fn := Go.Proofs.Try.f35) (sg := pledgelaw21_works.sig) (n := 0) pledgelaw21_works.ctx follows Go.Proofs.Try.func35 (by kernel_rfl) (by kernel_rfl) (by kernel_rfl) (by kernel_rfl) (Nat.le_of_ble_eq_true (by kernel_rfl)) (by kernel_rfl) pledgelaw21_works.eq

def pledgeref14_Cost (x0 : Int) : Option Int :=
  bif (x0 : Int) == 2 then some 17 else bif (x0 : Int) == 3 then bif (x0 : Int) == 3 then some 22 else bif (x0 : Int) == 4 then bif (x0 : Int) == 4 then some 11 else bif (x0 : Int) == 9 then some 12 else some 0 else bif (x0 : Int) == 5 then bif (x0 : Int) == 5 then some 11 else bif (x0 : Int) == 9 then some 12 else some 0 else bif (x0 : Int) == 7 then bif (x0 : Int) == 7 then some 11 else bif (x0 : Int) == 9 then some 12 else some 0 else bif (x0 : Int) == 8 then some 11 else bif (x0 : Int) == 9 then some 12 else some 0 else bif (x0 : Int) == 6 then some 22 else bif (x0 : Int) == 4 then bif (x0 : Int) == 4 then some 11 else bif (x0 : Int) == 9 then some 12 else some 0 else bif (x0 : Int) == 5 then bif (x0 : Int) == 5 then some 11 else bif (x0 : Int) == 9 then some 12 else some 0 else bif (x0 : Int) == 7 then bif (x0 : Int) == 7 then some 11 else bif (x0 : Int) == 9 then some 12 else some 0 else bif (x0 : Int) == 8 then some 11 else bif (x0 : Int) == 9 then some 12 else some 0
def pledgeref14_Cost.C : Ctx := { ty := tyT, sigs := fun i => [], n := 16, mp := mpT }
def pledgeref14_Cost.Q : Cuts := { np := 0, loops := fun i => none, seqs := fun i => none, splits := fun i => none }
def pledgeref14_Cost.sig : Sig := { args := .tc (.val (.int .u8)) .tn, objs := [], ret := .val (.int .i64), outs := [], F := fun x => pledgeref14_Cost x.1.1 }
theorem pledgeref14_Cost.eq : (fun x => body pledgeref14_Cost.C pledgeref14_Cost.Q Go.Proofs.Try.f94 pledgeref14_Cost.sig.args pledgeref14_Cost.sig.objs pledgeref14_Cost.sig.ret pledgeref14_Cost.sig.outs x) = pledgeref14_Cost.sig.F := by
  kernel_rfl
set_option maxRecDepth 100000 in
theorem pledgeref14_Cost.ctx : CtxOk Go.Proofs.Try.prog pledgeref14_Cost.C := ⟨tyOk, mpOk, Nat.le_of_ble_eq_true (by kernel_rfl), fun f sg => (fun h => by cases h)⟩
set_option maxRecDepth 100000 in
theorem pledgeref14_Cost.ok : Sound Go.Proofs.Try.prog 94 pledgeref14_Cost.sig := body_sound (C := pledgeref14_Cost.C) (q := pledgeref14_Cost.Q) (fn := Go.Proofs.Try.f94) (sg := pledgeref14_Cost.sig) (n := 1) pledgeref14_Cost.ctx follows Go.Proofs.Try.func94 (by kernel_rfl) (by kernel_rfl) (by kernel_rfl) (by kernel_rfl) (Nat.le_of_ble_eq_true (by kernel_rfl)) (by kernel_rfl) pledgeref14_Cost.eq

def pledgeref12_add (x0 : Int) (x1 : Int) (x2 : Int) (x3 : Int) : Option ((Int × Int × Int × Unit) × Int × Unit) :=
  some ((x0, (x1, (x2, ()))), (x3, ()))
def pledgeref12_add.C : Ctx := { ty := tyT, sigs := fun i => [], n := 15, mp := mpT }
def pledgeref12_add.Q : Cuts := { np := 0, loops := fun i => none, seqs := fun i => none, splits := fun i => none }
def pledgeref12_add.sig : Sig := { args := .tc (.val (.int .u8)) (.tc (.val (.int .u8)) (.tc (.val (.int .u8)) (.tc (.val (.int .i64)) .tn))), objs := [], ret := .val kOp, outs := [], F := fun x => pledgeref12_add x.1.1 x.1.2.1 x.1.2.2.1 x.1.2.2.2.1 }
theorem pledgeref12_add.eq : (fun x => body pledgeref12_add.C pledgeref12_add.Q Go.Proofs.Try.f95 pledgeref12_add.sig.args pledgeref12_add.sig.objs pledgeref12_add.sig.ret pledgeref12_add.sig.outs x) = pledgeref12_add.sig.F := by
  kernel_rfl
set_option maxRecDepth 100000 in
theorem pledgeref12_add.ctx : CtxOk Go.Proofs.Try.prog pledgeref12_add.C := ⟨tyOk, mpOk, Nat.le_of_ble_eq_true (by kernel_rfl), fun f sg => (fun h => by cases h)⟩
set_option maxRecDepth 100000 in
theorem pledgeref12_add.ok : Sound Go.Proofs.Try.prog 95 pledgeref12_add.sig := body_sound (C := pledgeref12_add.C) (q := pledgeref12_add.Q) (fn := Go.Proofs.Try.f95) (sg := pledgeref12_add.sig) (n := 4) pledgeref12_add.ctx follows Go.Proofs.Try.func95 (by kernel_rfl) (by kernel_rfl) (by kernel_rfl) (by kernel_rfl) (Nat.le_of_ble_eq_true (by kernel_rfl)) (by kernel_rfl) pledgeref12_add.eq

def pledgeref12_one (x0 : Int) (x1 : Int) (x2 : Int × Int × Unit) : Option (List ((Int × Int × Int × Unit) × Int × Unit)) :=
  bif (x0 : Int) == 1 then (pledgeref12_add 1 x2.1 x1 (IntKind.i64.wrap (0 - x2.2.1))).bind fun r6 => (pledgeref12_add 2 x2.1 x1 x2.2.1).bind fun r7 => some [r6, r7] else bif (x0 : Int) == 2 then (pledgeref12_add 2 x2.1 x1 (IntKind.i64.wrap (0 - x2.2.1))).bind fun r8 => (pledgeref12_add 1 x2.1 x1 x2.2.1).bind fun r9 => some [r8, r9] else bif (x0 : Int) == 3 then (pledgeref12_add 2 x2.1 x1 (IntKind.i64.wrap (0 - x2.2.1))).bind fun r10 => (pledgeref12_add 3 x2.1 0 x2.2.1).bind fun r11 => some [r10, r11] else bif (x0 : Int) == 4 then (pledgeref12_add 3 x2.1 0 (IntKind.i64.wrap (0 - x2.2.1))).bind fun r12 => (pledgeref12_add 1 x2.1 x1 x2.2.1).bind fun r13 => some [r12, r13] else bif (x0 : Int) == 5 then (pledgeref12_add 1 x2.1 x1 x2.2.1).bind fun r14 => some [r14] else bif (x0 : Int) == 6 then (pledgeref12_add 1 x2.1 x1 (IntKind.i64.wrap (0 - x2.2.1))).bind fun r15 => some [r15] else bif (x0 : Int) == 7 then (pledgeref12_add 4 x2.1 0 x2.2.1).bind fun r16 => some [r16] else bif (x0 : Int) == 8 then (pledgeref12_add 4 x2.1 0 (IntKind.i64.wrap (0 - x2.2.1))).bind fun r17 => some [r17] else some []
def pledgeref12_one.C : Ctx := { ty := tyT, sigs := fun i => bif Nat.beq i 95 then [pledgeref12_add.sig] else [], n := 88, mp := mpT }
def pledgeref12_one.Q : Cuts := { np := 0, loops := fun i => none, seqs := fun i => none, splits := fun i => none }
def pledgeref12_one.sig : Sig := { args := .tc (.val (.int .u8)) (.tc (.val (.int .u8)) (.tc (.val kLine) .tn)), objs := [], ret := .val (.slice kOp), outs := [], F := fun x => pledgeref12_one x.1.1 x.1.2.1 x.1.2.2.1 }
theorem pledgeref12_one.eq : (fun x => body pledgeref12_one.C pledgeref12_one.Q Go.Proofs.Try.f41 pledgeref12_one.sig.args pledgeref12_one.sig.objs pledgeref12_one.sig.ret pledgeref12_one.sig.outs x) = pledgeref12_one.sig.F := by
  kernel_rfl
set_option maxRecDepth 100000 in
theorem pledgeref12_one.ctx : CtxOk Go.Proofs.Try.prog pledgeref12_one.C := ⟨tyOk, mpOk, Nat.le_of_ble_eq_true (by kernel_rfl), fun f sg => fun h => sigs_if h (allS_cons pledgeref12_add.ok allS_nil) ((fun h => by cases h))⟩
set_option maxRecDepth 100000 in
theorem pledgeref12_one.ok : Sound Go.Proofs.Try.prog 41 pledgeref12_one.sig := body_sound (C := pledgeref12_one.C) (q := pledgeref12_one.Q) (fn := Go.Proofs.Try.f41) (sg := pledgeref12_one.sig) (n := 3) pledgeref12_one.ctx follows Go.Proofs.Try.func41 (by kernel_rfl) (by kernel_rfl) (by kernel_rfl) (by kernel_rfl) (Nat.le_of_ble_eq_true (by kernel_rfl)) (by kernel_rfl) pledgeref12_one.eq

def pledgeref12_Ops.l1 (v : (Unit × Unit × Int) × (Int × Int × (List (Int × Int × Unit)) × Unit) × (List ((Int × Int × Int × Unit) × Int × Unit)) × Unit) : Option (((Unit × Unit × Int) × (Int × Int × (List (Int × Int × Unit)) × Unit) × (List ((Int × Int × Int × Unit) × Int × Unit)) × Unit) ⊕ (Unit × (List ((Int × Int × Int × Unit) × Int × Unit)) × Unit)) :=
  bif decide (v.1.2.2 < (v.2.1.2.2.1.length : Int)) then nthK v.2.1.2.2.1 v.1.2.2 fun e4 => bif decide (e4.2.1 ≥ 1) then nthK v.2.1.2.2.1 v.1.2.2 fun e5 => (pledgeref12_one v.2.1.1 v.2.1.2.1 e5).bind fun r6 => room (v.2.2.1.length + r6.length) (some (Sum.inl (((), ((), IntKind.i64.wrap (v.1.2.2 + 1))), (v.2.1, (v.2.2.1 ++ r6, ()))))) else some (Sum.inl (((), ((), IntKind.i64.wrap (v.1.2.2 + 1))), (v.2.1, (v.2.2.1, ())))) else some (Sum.inr ((), (v.2.2.1, ())))
def pledgeref12_Ops (x0 : Int × Int × (List (Int × Int × Unit)) × Unit) : Option (List ((Int × Int × Int × Unit) × Int × Unit)) :=
  (iterL pledgeref12_Ops.l1 loopN (((), ((), 0)), (x0, ([], ())))).bind fun y7 => some y7.2.1
def pledgeref12_Ops.C : Ctx := { ty := tyT, sigs := fun i => bif Nat.beq i 41 then [pledgeref12_one.sig] else [], n := 32, mp := mpT }
def pledgeref12_Ops.Q : Cuts := { np := 0, loops := fun i => bif Nat.beq i 3 then some ({ env := [(1, .ptr 0), (3, .row 1), (4, .val (.int .i64))], objs := [.cell kStep (.val kStep), .row kOp false] }, [(.exit 0, { env := [(3, .row 0)], objs := [.row kOp false] })]) else none, seqs := fun i => none, splits := fun i => none }
def pledgeref12_Ops.sig : Sig := { args := .tc (.val kStep) .tn, objs := [], ret := .val (.slice kOp), outs := [], F := fun x => pledgeref12_Ops x.1.1 }
theorem pledgeref12_Ops.eq : (fun x => body pledgeref12_Ops.C pledgeref12_Ops.Q Go.Proofs.Try.f13 pledgeref12_Ops.sig.args pledgeref12_Ops.sig.objs pledgeref12_Ops.sig.ret pledgeref12_Ops.sig.outs x) = pledgeref12_Ops.sig.F := by
  kernel_rfl
set_option maxRecDepth 100000 in
theorem pledgeref12_Ops.ctx : CtxOk Go.Proofs.Try.prog pledgeref12_Ops.C := ⟨tyOk, mpOk, Nat.le_of_ble_eq_true (by kernel_rfl), fun f sg => fun h => sigs_if h (allS_cons pledgeref12_one.ok allS_nil) ((fun h => by cases h))⟩
set_option maxRecDepth 100000 in
theorem pledgeref12_Ops.ok : Sound Go.Proofs.Try.prog 13 pledgeref12_Ops.sig := body_sound (C := pledgeref12_Ops.C) (q := pledgeref12_Ops.Q) (fn := Go.Proofs.Try.f13) (sg := pledgeref12_Ops.sig) (n := 1) pledgeref12_Ops.ctx follows Go.Proofs.Try.func13 (by kernel_rfl) (by kernel_rfl) (by kernel_rfl) (by kernel_rfl) (Nat.le_of_ble_eq_true (by kernel_rfl)) (by kernel_rfl) pledgeref12_Ops.eq

def pledgeref21_Pass (x0 : Int × Int × (List (Int × Int × Unit)) × Unit) : Option Int :=
  (pledgeref14_Cost 2).bind fun r3 => (pledgeref12_Ops x0).bind fun r4 => (pledgeref14_Cost 3).bind fun r5 => (pledgeref14_Cost 4).bind fun r6 => some (IntKind.i64.wrap ((IntKind.i64.wrap (r3 + (IntKind.i64.wrap ((r4.length : Int) * r5)))) + r6))
def pledgeref21_Pass.C : Ctx := { ty := tyT, sigs := fun i => bif Nat.beq i 13 then [pledgeref12_Ops.sig] else bif Nat.beq i 94 then [pledgeref14_Cost.sig] else [], n := 12, mp := mpT }
def pledgeref21_Pass.Q : Cuts := { np := 0, loops := fun i => none, seqs := fun i => none, splits := fun i => none }
def pledgeref21_Pass.sig : Sig := { args := .tc (.val kStep) .tn, objs := [], ret := .val (.int .i64), outs := [], F := fun x => pledgeref21_Pass x.1.1 }
theorem pledgeref21_Pass.eq : (fun x => body pledgeref21_Pass.C pledgeref21_Pass.Q Go.Proofs.Try.f37 pledgeref21_Pass.sig.args pledgeref21_Pass.sig.objs pledgeref21_Pass.sig.ret pledgeref21_Pass.sig.outs x) = pledgeref21_Pass.sig.F := by
  kernel_rfl
set_option maxRecDepth 100000 in
theorem pledgeref21_Pass.ctx : CtxOk Go.Proofs.Try.prog pledgeref21_Pass.C := ⟨tyOk, mpOk, Nat.le_of_ble_eq_true (by kernel_rfl), fun f sg => fun h => sigs_if h (allS_cons pledgeref12_Ops.ok allS_nil) (fun h => sigs_if h (allS_cons pledgeref14_Cost.ok allS_nil) ((fun h => by cases h)))⟩
set_option maxRecDepth 100000 in
theorem pledgeref21_Pass.ok : Sound Go.Proofs.Try.prog 37 pledgeref21_Pass.sig := body_sound (C := pledgeref21_Pass.C) (q := pledgeref21_Pass.Q) (fn := Go.Proofs.Try.f37) (sg := pledgeref21_Pass.sig) (n := 1) pledgeref21_Pass.ctx follows Go.Proofs.Try.func37 (by kernel_rfl) (by kernel_rfl) (by kernel_rfl) (by kernel_rfl) (Nat.le_of_ble_eq_true (by kernel_rfl)) (by kernel_rfl) pledgeref21_Pass.eq

def pledgeref21_Fail (x0 : Int × Int × (List (Int × Int × Unit)) × Unit) : Option Int :=
  (pledgeref12_Ops x0).bind fun r9 => (pledgeref14_Cost 2).bind fun r10 => (pledgeref14_Cost 3).bind fun r11 => (pledgeref14_Cost 5).bind fun r12 => (pledgeref14_Cost 6).bind fun r13 => (pledgeref14_Cost 7).bind fun r14 => some (IntKind.i64.wrap ((IntKind.i64.wrap ((IntKind.i64.wrap ((IntKind.i64.wrap (r10 + (IntKind.i64.wrap ((r9.length : Int) * r11)))) + r12)) + (IntKind.i64.wrap ((r9.length : Int) * r13)))) + r14))
def pledgeref21_Fail.C : Ctx := { ty := tyT, sigs := fun i => bif Nat.beq i 13 then [pledgeref12_Ops.sig] else bif Nat.beq i 94 then [pledgeref14_Cost.sig] else [], n := 20, mp := mpT }
def pledgeref21_Fail.Q : Cuts := { np := 0, loops := fun i => none, seqs := fun i => none, splits := fun i => none }
def pledgeref21_Fail.sig : Sig := { args := .tc (.val kStep) .tn, objs := [], ret := .val (.int .i64), outs := [], F := fun x => pledgeref21_Fail x.1.1 }
theorem pledgeref21_Fail.eq : (fun x => body pledgeref21_Fail.C pledgeref21_Fail.Q Go.Proofs.Try.f39 pledgeref21_Fail.sig.args pledgeref21_Fail.sig.objs pledgeref21_Fail.sig.ret pledgeref21_Fail.sig.outs x) = pledgeref21_Fail.sig.F := by
  kernel_rfl
set_option maxRecDepth 100000 in
theorem pledgeref21_Fail.ctx : CtxOk Go.Proofs.Try.prog pledgeref21_Fail.C := ⟨tyOk, mpOk, Nat.le_of_ble_eq_true (by kernel_rfl), fun f sg => fun h => sigs_if h (allS_cons pledgeref12_Ops.ok allS_nil) (fun h => sigs_if h (allS_cons pledgeref14_Cost.ok allS_nil) ((fun h => by cases h)))⟩
set_option maxRecDepth 100000 in
theorem pledgeref21_Fail.ok : Sound Go.Proofs.Try.prog 39 pledgeref21_Fail.sig := body_sound (C := pledgeref21_Fail.C) (q := pledgeref21_Fail.Q) (fn := Go.Proofs.Try.f39) (sg := pledgeref21_Fail.sig) (n := 1) pledgeref21_Fail.ctx follows Go.Proofs.Try.func39 (by kernel_rfl) (by kernel_rfl) (by kernel_rfl) (by kernel_rfl) (Nat.le_of_ble_eq_true (by kernel_rfl)) (by kernel_rfl) pledgeref21_Fail.eq

def pledgelaw21_NeedSteps (x0 : Int × Int × (List (Int × Int × Unit)) × Unit) : Option Bool :=
  bif decide ((x0.2.2.1.length : Int) > 20) then pledgelaw21_works.bind fun r1 => some r1 else (need_Pass x0).bind fun r2 => (pledgeref21_Pass x0).bind fun r3 => bif (r2 : Int) == r3 then (need_Fail x0).bind fun r4 => (pledgeref21_Fail x0).bind fun r5 => bif (r4 : Int) == r5 then (need_Pass x0).bind fun r6 => (need_Fail x0).bind fun r7 => bif decide (r6 ≤ r7) then pledgelaw21_works.bind fun r8 => some r8 else some false else some false else some false
def pledgelaw21_NeedSteps.C : Ctx := { ty := tyT, sigs := fun i => bif Nat.beq i 35 then [pledgelaw21_works.sig] else bif Nat.beq i 36 then [need_Pass.sig] else bif Nat.beq i 37 then [pledgeref21_Pass.sig] else bif Nat.beq i 38 then [need_Fail.sig] else bif Nat.beq i 39 then [pledgeref21_Fail.sig] else [], n := 30, mp := mpT }
def pledgelaw21_NeedSteps.Q : Cuts := { np := 0, loops := fun i => none, seqs := fun i => none, splits := fun i => none }
def pledgelaw21_NeedSteps.sig : Sig := { args := .tc (.val kStep) .tn, objs := [], ret := .val .bool, outs := [], F := fun x => pledgelaw21_NeedSteps x.1.1 }
theorem pledgelaw21_NeedSteps.eq : (fun x => body pledgelaw21_NeedSteps.C pledgelaw21_NeedSteps.Q Go.Proofs.Try.f8 pledgelaw21_NeedSteps.sig.args pledgelaw21_NeedSteps.sig.objs pledgelaw21_NeedSteps.sig.ret pledgelaw21_NeedSteps.sig.outs x) = pledgelaw21_NeedSteps.sig.F := by
  kernel_rfl
set_option maxRecDepth 100000 in
theorem pledgelaw21_NeedSteps.ctx : CtxOk Go.Proofs.Try.prog pledgelaw21_NeedSteps.C := ⟨tyOk, mpOk, Nat.le_of_ble_eq_true (by kernel_rfl), fun f sg => fun h => sigs_if h (allS_cons pledgelaw21_works.ok allS_nil) (fun h => sigs_if h (allS_cons need_Pass.ok allS_nil) (fun h => sigs_if h (allS_cons pledgeref21_Pass.ok allS_nil) (fun h => sigs_if h (allS_cons need_Fail.ok allS_nil) (fun h => sigs_if h (allS_cons pledgeref21_Fail.ok allS_nil) ((fun h => by cases h))))))⟩
set_option maxRecDepth 100000 in
theorem pledgelaw21_NeedSteps.ok : Sound Go.Proofs.Try.prog 8 pledgelaw21_NeedSteps.sig := body_sound (C := pledgelaw21_NeedSteps.C) (q := pledgelaw21_NeedSteps.Q) (fn := Go.Proofs.Try.f8) (sg := pledgelaw21_NeedSteps.sig) (n := 1) pledgelaw21_NeedSteps.ctx follows Go.Proofs.Try.func8 (by kernel_rfl) (by kernel_rfl) (by kernel_rfl) (by kernel_rfl) (Nat.le_of_ble_eq_true (by kernel_rfl)) (by kernel_rfl) pledgelaw21_NeedSteps.eq

def pledgeref12_SameLines.l1 (v : (List (Int × Int × Unit)) × (List (Int × Int × Unit)) × Int) : Option (((List (Int × Int × Unit)) × (List (Int × Int × Unit)) × Int) ⊕ (Unit ⊕ Bool)) :=
  bif decide (v.2.2 < (v.1.length : Int)) then nthK v.1 v.2.2 fun e9 => nthK v.2.1 v.2.2 fun e10 => bif !(eqE kLine e9 e10) then some (Sum.inr (Sum.inr false)) else some (Sum.inl (v.1, (v.2.1, IntKind.i64.wrap (v.2.2 + 1)))) else some (Sum.inr (Sum.inl ()))
def pledgeref12_SameLines (x0 : List (Int × Int × Unit)) (x1 : List (Int × Int × Unit)) : Option Bool :=
  bif ((x0.length : Int) : Int) != (x1.length : Int) then some false else (iterL pledgeref12_SameLines.l1 loopN (x0, (x1, 0))).bind fun y11 => (match y11 with | .inl y12 => some true | .inr y13 => some y13)
def pledgeref12_SameLines.C : Ctx := { ty := tyT, sigs := fun i => [], n := 26, mp := mpT }
def pledgeref12_SameLines.Q : Cuts := { np := 0, loops := fun i => bif Nat.beq i 4 then some ({ env := [(0, .val (.slice kLine)), (1, .val (.slice kLine)), (5, .val (.int .i64))], objs := [] }, [(.exit 0, { env := [], objs := [] }), (.ret, { env := [(4, .val .bool)], objs := [] })]) else none, seqs := fun i => none, splits := fun i => none }
def pledgeref12_SameLines.sig : Sig := { args := .tc (.val (.slice kLine)) (.tc (.val (.slice kLine)) .tn), objs := [], ret := .val .bool, outs := [], F := fun x => pledgeref12_SameLines x.1.1 x.1.2.1 }
theorem pledgeref12_SameLines.eq : (fun x => body pledgeref12_SameLines.C pledgeref12_SameLines.Q Go.Proofs.Try.f56 pledgeref12_SameLines.sig.args pledgeref12_SameLines.sig.objs pledgeref12_SameLines.sig.ret pledgeref12_SameLines.sig.outs x) = pledgeref12_SameLines.sig.F := by
  kernel_rfl
set_option maxRecDepth 100000 in
theorem pledgeref12_SameLines.ctx : CtxOk Go.Proofs.Try.prog pledgeref12_SameLines.C := ⟨tyOk, mpOk, Nat.le_of_ble_eq_true (by kernel_rfl), fun f sg => (fun h => by cases h)⟩
set_option maxRecDepth 100000 in
theorem pledgeref12_SameLines.ok : Sound Go.Proofs.Try.prog 56 pledgeref12_SameLines.sig := body_sound (C := pledgeref12_SameLines.C) (q := pledgeref12_SameLines.Q) (fn := Go.Proofs.Try.f56) (sg := pledgeref12_SameLines.sig) (n := 2) pledgeref12_SameLines.ctx follows Go.Proofs.Try.func56 (by kernel_rfl) (by kernel_rfl) (by kernel_rfl) (by kernel_rfl) (Nat.le_of_ble_eq_true (by kernel_rfl)) (by kernel_rfl) pledgeref12_SameLines.eq

def pledgeref13_SameTakes.l1 (v : (List (Int × Int × Int × Int × Unit)) × (List (Int × Int × Int × Int × Unit)) × Int) : Option (((List (Int × Int × Int × Int × Unit)) × (List (Int × Int × Int × Int × Unit)) × Int) ⊕ (Unit ⊕ Bool)) :=
  bif decide (v.2.2 < (v.1.length : Int)) then nthK v.1 v.2.2 fun e15 => nthK v.2.1 v.2.2 fun e16 => bif !(eqE kTake e15 e16) then some (Sum.inr (Sum.inr false)) else some (Sum.inl (v.1, (v.2.1, IntKind.i64.wrap (v.2.2 + 1)))) else some (Sum.inr (Sum.inl ()))
def pledgeref13_SameTakes (x0 : List (Int × Int × Int × Int × Unit)) (x1 : List (Int × Int × Int × Int × Unit)) : Option Bool :=
  bif ((x0.length : Int) : Int) != (x1.length : Int) then some false else (iterL pledgeref13_SameTakes.l1 loopN (x0, (x1, 0))).bind fun y17 => (match y17 with | .inl y18 => some true | .inr y19 => some y19)
def pledgeref13_SameTakes.C : Ctx := { ty := tyT, sigs := fun i => [], n := 26, mp := mpT }
def pledgeref13_SameTakes.Q : Cuts := { np := 0, loops := fun i => bif Nat.beq i 4 then some ({ env := [(0, .val (.slice kTake)), (1, .val (.slice kTake)), (5, .val (.int .i64))], objs := [] }, [(.exit 0, { env := [], objs := [] }), (.ret, { env := [(4, .val .bool)], objs := [] })]) else none, seqs := fun i => none, splits := fun i => none }
def pledgeref13_SameTakes.sig : Sig := { args := .tc (.val (.slice kTake)) (.tc (.val (.slice kTake)) .tn), objs := [], ret := .val .bool, outs := [], F := fun x => pledgeref13_SameTakes x.1.1 x.1.2.1 }
theorem pledgeref13_SameTakes.eq : (fun x => body pledgeref13_SameTakes.C pledgeref13_SameTakes.Q Go.Proofs.Try.f86 pledgeref13_SameTakes.sig.args pledgeref13_SameTakes.sig.objs pledgeref13_SameTakes.sig.ret pledgeref13_SameTakes.sig.outs x) = pledgeref13_SameTakes.sig.F := by
  kernel_rfl
set_option maxRecDepth 100000 in
theorem pledgeref13_SameTakes.ctx : CtxOk Go.Proofs.Try.prog pledgeref13_SameTakes.C := ⟨tyOk, mpOk, Nat.le_of_ble_eq_true (by kernel_rfl), fun f sg => (fun h => by cases h)⟩
set_option maxRecDepth 100000 in
theorem pledgeref13_SameTakes.ok : Sound Go.Proofs.Try.prog 86 pledgeref13_SameTakes.sig := body_sound (C := pledgeref13_SameTakes.C) (q := pledgeref13_SameTakes.Q) (fn := Go.Proofs.Try.f86) (sg := pledgeref13_SameTakes.sig) (n := 2) pledgeref13_SameTakes.ctx follows Go.Proofs.Try.func86 (by kernel_rfl) (by kernel_rfl) (by kernel_rfl) (by kernel_rfl) (Nat.le_of_ble_eq_true (by kernel_rfl)) (by kernel_rfl) pledgeref13_SameTakes.eq

def pledgeref13_Same (x0 : Int × Int × Int × (List (Int × Int × Unit)) × (List (Int × Int × Int × Int × Unit)) × (List (Int × Int × Unit)) × Int × Int × Int × Int × Unit) (x1 : Int × Int × Int × (List (Int × Int × Unit)) × (List (Int × Int × Int × Int × Unit)) × (List (Int × Int × Unit)) × Int × Int × Int × Int × Unit) : Option Bool :=
  bif (x0.1 : Int) == x1.1 then bif (x0.2.1 : Int) == x1.2.1 then bif (x0.2.2.1 : Int) == x1.2.2.1 then (pledgeref12_SameLines x0.2.2.2.1 x1.2.2.2.1).bind fun r9 => bif r9 then (pledgeref13_SameTakes x0.2.2.2.2.1 x1.2.2.2.2.1).bind fun r10 => bif r10 then (pledgeref12_SameLines x0.2.2.2.2.2.1 x1.2.2.2.2.2.1).bind fun r11 => bif r11 then bif (x0.2.2.2.2.2.2.1 : Int) == x1.2.2.2.2.2.2.1 then bif (x0.2.2.2.2.2.2.2.1 : Int) == x1.2.2.2.2.2.2.2.1 then bif (x0.2.2.2.2.2.2.2.2.1 : Int) == x1.2.2.2.2.2.2.2.2.1 then some ((x0.2.2.2.2.2.2.2.2.2.1 : Int) == x1.2.2.2.2.2.2.2.2.2.1) else some false else some false else some false else some false else some false else some false else some false else some false else some false
def pledgeref13_Same.C : Ctx := { ty := tyT, sigs := fun i => bif Nat.beq i 56 then [pledgeref12_SameLines.sig] else bif Nat.beq i 86 then [pledgeref13_SameTakes.sig] else [], n := 73, mp := mpT }
def pledgeref13_Same.Q : Cuts := { np := 0, loops := fun i => none, seqs := fun i => none, splits := fun i => none }
def pledgeref13_Same.sig : Sig := { args := .tc (.val kProgram) (.tc (.val kProgram) .tn), objs := [], ret := .val .bool, outs := [], F := fun x => pledgeref13_Same x.1.1 x.1.2.1 }
theorem pledgeref13_Same.eq : (fun x => body pledgeref13_Same.C pledgeref13_Same.Q Go.Proofs.Try.f32 pledgeref13_Same.sig.args pledgeref13_Same.sig.objs pledgeref13_Same.sig.ret pledgeref13_Same.sig.outs x) = pledgeref13_Same.sig.F := by
  kernel_rfl
set_option maxRecDepth 100000 in
theorem pledgeref13_Same.ctx : CtxOk Go.Proofs.Try.prog pledgeref13_Same.C := ⟨tyOk, mpOk, Nat.le_of_ble_eq_true (by kernel_rfl), fun f sg => fun h => sigs_if h (allS_cons pledgeref12_SameLines.ok allS_nil) (fun h => sigs_if h (allS_cons pledgeref13_SameTakes.ok allS_nil) ((fun h => by cases h)))⟩
set_option maxRecDepth 100000 in
theorem pledgeref13_Same.ok : Sound Go.Proofs.Try.prog 32 pledgeref13_Same.sig := body_sound (C := pledgeref13_Same.C) (q := pledgeref13_Same.Q) (fn := Go.Proofs.Try.f32) (sg := pledgeref13_Same.sig) (n := 2) pledgeref13_Same.ctx follows Go.Proofs.Try.func32 (by kernel_rfl) (by kernel_rfl) (by kernel_rfl) (by kernel_rfl) (Nat.le_of_ble_eq_true (by kernel_rfl)) (by kernel_rfl) pledgeref13_Same.eq

end Go.Proofs.F
