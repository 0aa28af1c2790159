import Derived.Test.YtlnnghmfncjbiaaDNil
import Derived.Test.YtlnnghmfncjbiaaProg
import Derived.KernelRfl
set_option linter.unusedVariables false
namespace Go.Proofs.F
open Go.Proofs.D
def kpart : K := .cons (.int .i64) (.cons .bool .unit)
def kwide : K := .cons (.int .i64) (.cons (.int .i64) .unit)
def kKey : K := .cons (.int .u8) (.cons (.int .u8) (.cons (.int .u8) .unit))
def kOp : K := .cons kKey (.cons (.int .i64) .unit)
def kMove : K := .cons (.int .i64) (.cons (.int .i64) kwide)
def kAct : K := .cons kKey kpart
def kAct_72 : K := .cons (.int .u8) (.cons kOp .unit)
def kField : K := .cons (.int .i64) (.cons (.int .i64) kMove)
def kDecl : K := .cons kKey (.cons (.int .i64) kwide)
def kRow_106 : K := .cons kKey (.cons kField .unit)
def tyL : List (Nat × K) := [(1, .ref 2), (2, .int .i64), (3, .int .i64), (4, .bool), (5, .int .u8), (23, kKey), (24, kKey), (25, .ref 0), (41, .ref 2), (42, .ref 2), (45, .slice kKey), (76, .ref 1), (77, .cons (.ref 1) .unit), (78, .cons (.ref 1) .unit), (84, .ref 2), (85, .ref 2), (87, .ref 2), (132, .slice (.int .i64))]
def tyT (t : Nat) : Option K := lookK tyL t
def mpL : List (Nat × K × K) := [(76, kKey, .int .i64)]
def mpT (t : Nat) : Option (K × K) := lookM mpL t
theorem tyOk : ∀ t c, tyT t = some c → TyOk Go.Proofs.Try.prog tyT t c := tyOk_of (l := tyL) (fun _ => rfl) (by kernel_rfl) (by kernel_rfl)
theorem mpOk : ∀ t k v, mpT t = some (k, v) → ∃ tk tv, Go.Proofs.Try.prog.underlying t = some (.map tk tv) ∧ tyT tk = some k ∧ tyT tv = some v ∧ k.flat = true := mpOk_of (l := mpL) (fun _ => rfl) (by kernel_rfl)
theorem follows : Go.Proofs.Try.prog.follows .mixedOrders = true := by kernel_rfl
def table_New_int64  : Option (Unit × (Unit × Unit) × (List ((Int × Int × Int × Unit) × Int)) × Unit) :=
  some ((), (((), ()), ([], ())))
def table_New_int64.C : Ctx := { ty := tyT, sigs := fun i => [], n := 4, mp := mpT }
def table_New_int64.Q : Cuts := { np := 0, loops := fun i => none, seqs := fun i => none, splits := fun i => none }
def table_New_int64.sig : Sig := { args := .tn, objs := [], ret := .ptr 0, outs := [.cell (.cons (.ref 1) .unit) (.pair (.mapr 1) (.val .unit)), .map kKey (.int .i64)], F := fun x => table_New_int64 }
theorem table_New_int64.eq : (fun x => body table_New_int64.C table_New_int64.Q Go.Proofs.Try.f33 table_New_int64.sig.args table_New_int64.sig.objs table_New_int64.sig.ret table_New_int64.sig.outs x) = table_New_int64.sig.F := by
  kernel_rfl
set_option maxRecDepth 100000 in
theorem table_New_int64.ctx : CtxOk Go.Proofs.Try.prog table_New_int64.C := ⟨tyOk, mpOk, Nat.le_of_ble_eq_true (by kernel_rfl), fun f sg => (fun h => by cases h)⟩
set_option maxRecDepth 100000 in
theorem table_New_int64.ok : Sound Go.Proofs.Try.prog 33 table_New_int64.sig := body_sound (C := table_New_int64.C) (q := table_New_int64.Q) (fn := Go.Proofs.Try.f33) (sg := table_New_int64.sig) (n := 0) table_New_int64.ctx follows Go.Proofs.Try.func33 (by kernel_rfl) (by kernel_rfl) (by kernel_rfl) (by kernel_rfl) (Nat.le_of_ble_eq_true (by kernel_rfl)) (by kernel_rfl) table_New_int64.eq

def table_Table_int64_Copy (x0 : Unit) : Option (Unit × (Unit × Unit) × (List ((Int × Int × Int × Unit) × Int)) × Unit) :=
  table_New_int64.bind fun r1 => some ((), (((), r1.2.1.2), (r1.2.2.1, ())))
def table_Table_int64_Copy.C : Ctx := { ty := tyT, sigs := fun i => bif Nat.beq i 33 then [table_New_int64.sig] else [], n := 17, mp := mpT }
def table_Table_int64_Copy.Q : Cuts := { np := 0, loops := fun i => none, seqs := fun i => none, splits := fun i => none }
def table_Table_int64_Copy.sig : Sig := { args := .tc (.nilr 0) .tn, objs := [], ret := .ptr 0, outs := [.cell (.cons (.ref 1) .unit) (.pair (.mapr 1) (.val .unit)), .map kKey (.int .i64)], F := fun x => table_Table_int64_Copy x.1.1 }
theorem table_Table_int64_Copy.eq : (fun x => body table_Table_int64_Copy.C table_Table_int64_Copy.Q Go.Proofs.Try.f14 table_Table_int64_Copy.sig.args table_Table_int64_Copy.sig.objs table_Table_int64_Copy.sig.ret table_Table_int64_Copy.sig.outs x) = table_Table_int64_Copy.sig.F := by
  kernel_rfl
set_option maxRecDepth 100000 in
theorem table_Table_int64_Copy.ctx : CtxOk Go.Proofs.Try.prog table_Table_int64_Copy.C := ⟨tyOk, mpOk, Nat.le_of_ble_eq_true (by kernel_rfl), fun f sg => fun h => sigs_if h (allS_cons table_New_int64.ok allS_nil) ((fun h => by cases h))⟩
set_option maxRecDepth 100000 in
theorem table_Table_int64_Copy.ok : Sound Go.Proofs.Try.prog 14 table_Table_int64_Copy.sig := body_sound (C := table_Table_int64_Copy.C) (q := table_Table_int64_Copy.Q) (fn := Go.Proofs.Try.f14) (sg := table_Table_int64_Copy.sig) (n := 1) table_Table_int64_Copy.ctx follows Go.Proofs.Try.func14 (by kernel_rfl) (by kernel_rfl) (by kernel_rfl) (by kernel_rfl) (Nat.le_of_ble_eq_true (by kernel_rfl)) (by kernel_rfl) table_Table_int64_Copy.eq

def table_Table_int64_Put (x0 : Unit) (x1 : Int × Int × Int × Unit) (x2 : Int) (o0 : Unit × Unit) (o1 : List ((Int × Int × Int × Unit) × Int)) : Option (Unit × (Unit × Unit) × (List ((Int × Int × Int × Unit) × Int)) × Unit) :=
  some ((), (((), o0.2), (putM kKey (.int .i64) o1 x1 x2, ())))
def table_Table_int64_Put.C : Ctx := { ty := tyT, sigs := fun i => [], n := 23, mp := mpT }
def table_Table_int64_Put.Q : Cuts := { np := 2, loops := fun i => none, seqs := fun i => none, splits := fun i => none }
def table_Table_int64_Put.sig : Sig := { args := .tc (.ptr 0) (.tc (.val kKey) (.tc (.val (.int .i64)) .tn)), objs := [.cell (.cons (.ref 1) .unit) (.pair (.mapr 1) (.val .unit)), .map kKey (.int .i64)], ret := .tup .tn, outs := [.cell (.cons (.ref 1) .unit) (.pair (.mapr 1) (.val .unit)), .map kKey (.int .i64)], F := fun x => table_Table_int64_Put x.1.1 x.1.2.1 x.1.2.2.1 x.2.1 x.2.2.1 }
theorem table_Table_int64_Put.eq : (fun x => body table_Table_int64_Put.C table_Table_int64_Put.Q Go.Proofs.Try.f16 table_Table_int64_Put.sig.args table_Table_int64_Put.sig.objs table_Table_int64_Put.sig.ret table_Table_int64_Put.sig.outs x) = table_Table_int64_Put.sig.F := by
  kernel_rfl
set_option maxRecDepth 100000 in
theorem table_Table_int64_Put.ctx : CtxOk Go.Proofs.Try.prog table_Table_int64_Put.C := ⟨tyOk, mpOk, Nat.le_of_ble_eq_true (by kernel_rfl), fun f sg => (fun h => by cases h)⟩
set_option maxRecDepth 100000 in
theorem table_Table_int64_Put.ok : Sound Go.Proofs.Try.prog 16 table_Table_int64_Put.sig := body_sound (C := table_Table_int64_Put.C) (q := table_Table_int64_Put.Q) (fn := Go.Proofs.Try.f16) (sg := table_Table_int64_Put.sig) (n := 3) table_Table_int64_Put.ctx follows Go.Proofs.Try.func16 (by kernel_rfl) (by kernel_rfl) (by kernel_rfl) (by kernel_rfl) (Nat.le_of_ble_eq_true (by kernel_rfl)) (by kernel_rfl) table_Table_int64_Put.eq

def cmp_isNaN_uint8 (x0 : Int) : Option Bool :=
  some ((x0 : Int) != x0)
def cmp_isNaN_uint8.C : Ctx := { ty := tyT, sigs := fun i => [], n := 6, mp := mpT }
def cmp_isNaN_uint8.Q : Cuts := { np := 0, loops := fun i => none, seqs := fun i => none, splits := fun i => none }
def cmp_isNaN_uint8.sig : Sig := { args := .tc (.val (.int .u8)) .tn, objs := [], ret := .val .bool, outs := [], F := fun x => cmp_isNaN_uint8 x.1.1 }
theorem cmp_isNaN_uint8.eq : (fun x => body cmp_isNaN_uint8.C cmp_isNaN_uint8.Q Go.Proofs.Try.f86 cmp_isNaN_uint8.sig.args cmp_isNaN_uint8.sig.objs cmp_isNaN_uint8.sig.ret cmp_isNaN_uint8.sig.outs x) = cmp_isNaN_uint8.sig.F := by
  kernel_rfl
set_option maxRecDepth 100000 in
theorem cmp_isNaN_uint8.ctx : CtxOk Go.Proofs.Try.prog cmp_isNaN_uint8.C := ⟨tyOk, mpOk, Nat.le_of_ble_eq_true (by kernel_rfl), fun f sg => (fun h => by cases h)⟩
set_option maxRecDepth 100000 in
theorem cmp_isNaN_uint8.ok : Sound Go.Proofs.Try.prog 86 cmp_isNaN_uint8.sig := body_sound (C := cmp_isNaN_uint8.C) (q := cmp_isNaN_uint8.Q) (fn := Go.Proofs.Try.f86) (sg := cmp_isNaN_uint8.sig) (n := 1) cmp_isNaN_uint8.ctx follows Go.Proofs.Try.func86 (by kernel_rfl) (by kernel_rfl) (by kernel_rfl) (by kernel_rfl) (Nat.le_of_ble_eq_true (by kernel_rfl)) (by kernel_rfl) cmp_isNaN_uint8.eq

def cmp_Compare_uint8 (x0 : Int) (x1 : Int) : Option Int :=
  (cmp_isNaN_uint8 x0).bind fun r5 => (cmp_isNaN_uint8 x1).bind fun r6 => bif r5 then bif r6 then some 0 else some (-1) else bif r6 then some 1 else bif decide (x0 < x1) then some (-1) else bif decide (x0 > x1) then some 1 else some 0
def cmp_Compare_uint8.C : Ctx := { ty := tyT, sigs := fun i => bif Nat.beq i 86 then [cmp_isNaN_uint8.sig] else [], n := 20, mp := mpT }
def cmp_Compare_uint8.Q : Cuts := { np := 0, loops := fun i => none, seqs := fun i => none, splits := fun i => none }
def cmp_Compare_uint8.sig : Sig := { args := .tc (.val (.int .u8)) (.tc (.val (.int .u8)) .tn), objs := [], ret := .val (.int .i64), outs := [], F := fun x => cmp_Compare_uint8 x.1.1 x.1.2.1 }
theorem cmp_Compare_uint8.eq : (fun x => body cmp_Compare_uint8.C cmp_Compare_uint8.Q Go.Proofs.Try.f69 cmp_Compare_uint8.sig.args cmp_Compare_uint8.sig.objs cmp_Compare_uint8.sig.ret cmp_Compare_uint8.sig.outs x) = cmp_Compare_uint8.sig.F := by
  kernel_rfl
set_option maxRecDepth 100000 in
theorem cmp_Compare_uint8.ctx : CtxOk Go.Proofs.Try.prog cmp_Compare_uint8.C := ⟨tyOk, mpOk, Nat.le_of_ble_eq_true (by kernel_rfl), fun f sg => fun h => sigs_if h (allS_cons cmp_isNaN_uint8.ok allS_nil) ((fun h => by cases h))⟩
set_option maxRecDepth 100000 in
theorem cmp_Compare_uint8.ok : Sound Go.Proofs.Try.prog 69 cmp_Compare_uint8.sig := body_sound (C := cmp_Compare_uint8.C) (q := cmp_Compare_uint8.Q) (fn := Go.Proofs.Try.f69) (sg := cmp_Compare_uint8.sig) (n := 2) cmp_Compare_uint8.ctx follows Go.Proofs.Try.func69 (by kernel_rfl) (by kernel_rfl) (by kernel_rfl) (by kernel_rfl) (Nat.le_of_ble_eq_true (by kernel_rfl)) (by kernel_rfl) cmp_Compare_uint8.eq

def cmp_Or_int.l1 (v : Int × List Int × Int × Int) : Option ((Int × List Int × Int × Int) ⊕ (Int ⊕ Int)) :=
  bif decide (v.2.2.2 < v.2.2.1) then nthK v.2.1 v.2.2.2 fun e10 => bif (e10 : Int) != v.1 then some (Sum.inr (Sum.inr e10)) else some (Sum.inl (v.1, (v.2.1, (v.2.2.1, IntKind.i64.wrap (v.2.2.2 + 1))))) else some (Sum.inr (Sum.inl v.1))
def cmp_Or_int (x0 : List Int) : Option Int :=
  (iterL cmp_Or_int.l1 loopN (0, (x0, ((x0.length : Int), 0)))).bind fun y11 => (match y11 with | .inl y12 => some y12 | .inr y13 => some y13)
def cmp_Or_int.C : Ctx := { ty := tyT, sigs := fun i => [], n := 18, mp := mpT }
def cmp_Or_int.Q : Cuts := { np := 0, loops := fun i => bif Nat.beq i 3 then some ({ env := [(3, .val (.int .i64)), (6, .val (.slice (.int .i64))), (7, .val (.int .i64)), (8, .val (.int .i64))], objs := [] }, [(.exit 0, { env := [(3, .val (.int .i64))], objs := [] }), (.ret, { env := [(2, .val (.int .i64))], objs := [] })]) else none, seqs := fun i => none, splits := fun i => none }
def cmp_Or_int.sig : Sig := { args := .tc (.val (.slice (.int .i64))) .tn, objs := [], ret := .val (.int .i64), outs := [], F := fun x => cmp_Or_int x.1.1 }
theorem cmp_Or_int.eq : (fun x => body cmp_Or_int.C cmp_Or_int.Q Go.Proofs.Try.f68 cmp_Or_int.sig.args cmp_Or_int.sig.objs cmp_Or_int.sig.ret cmp_Or_int.sig.outs x) = cmp_Or_int.sig.F := by
  kernel_rfl
set_option maxRecDepth 100000 in
theorem cmp_Or_int.ctx : CtxOk Go.Proofs.Try.prog cmp_Or_int.C := ⟨tyOk, mpOk, Nat.le_of_ble_eq_true (by kernel_rfl), fun f sg => (fun h => by cases h)⟩
set_option maxRecDepth 100000 in
theorem cmp_Or_int.ok : Sound Go.Proofs.Try.prog 68 cmp_Or_int.sig := body_sound (C := cmp_Or_int.C) (q := cmp_Or_int.Q) (fn := Go.Proofs.Try.f68) (sg := cmp_Or_int.sig) (n := 1) cmp_Or_int.ctx follows Go.Proofs.Try.func68 (by kernel_rfl) (by kernel_rfl) (by kernel_rfl) (by kernel_rfl) (Nat.le_of_ble_eq_true (by kernel_rfl)) (by kernel_rfl) cmp_Or_int.eq

def key_Compare (x0 : Int × Int × Int × Unit) (x1 : Int × Int × Int × Unit) : Option Int :=
  (cmp_Compare_uint8 x0.1 x1.1).bind fun r5 => (cmp_Compare_uint8 x0.2.1 x1.2.1).bind fun r6 => (cmp_Compare_uint8 x0.2.2.1 x1.2.2.1).bind fun r7 => (cmp_Or_int [r5, r6, r7]).bind fun r8 => some r8
def key_Compare.C : Ctx := { ty := tyT, sigs := fun i => bif Nat.beq i 68 then [cmp_Or_int.sig] else bif Nat.beq i 69 then [cmp_Compare_uint8.sig] else [], n := 22, mp := mpT }
def key_Compare.Q : Cuts := { np := 0, loops := fun i => none, seqs := fun i => none, splits := fun i => none }
def key_Compare.sig : Sig := { args := .tc (.val kKey) (.tc (.val kKey) .tn), objs := [], ret := .val (.int .i64), outs := [], F := fun x => key_Compare x.1.1 x.1.2.1 }
theorem key_Compare.eq : (fun x => body key_Compare.C key_Compare.Q Go.Proofs.Try.f40 key_Compare.sig.args key_Compare.sig.objs key_Compare.sig.ret key_Compare.sig.outs x) = key_Compare.sig.F := by
  kernel_rfl
set_option maxRecDepth 100000 in
theorem key_Compare.ctx : CtxOk Go.Proofs.Try.prog key_Compare.C := ⟨tyOk, mpOk, Nat.le_of_ble_eq_true (by kernel_rfl), fun f sg => fun h => sigs_if h (allS_cons cmp_Or_int.ok allS_nil) (fun h => sigs_if h (allS_cons cmp_Compare_uint8.ok allS_nil) ((fun h => by cases h)))⟩
set_option maxRecDepth 100000 in
theorem key_Compare.ok : Sound Go.Proofs.Try.prog 40 key_Compare.sig := body_sound (C := key_Compare.C) (q := key_Compare.Q) (fn := Go.Proofs.Try.f40) (sg := key_Compare.sig) (n := 2) key_Compare.ctx follows Go.Proofs.Try.func40 (by kernel_rfl) (by kernel_rfl) (by kernel_rfl) (by kernel_rfl) (Nat.le_of_ble_eq_true (by kernel_rfl)) (by kernel_rfl) key_Compare.eq

def table_Table_int64_Keys (es : List ((Int × Int × Int × Unit) × Int)) : Option (List (Int × Int × Int × Unit) × (Unit × Unit) × List ((Int × Int × Int × Unit) × Int) × Unit) := tabKeysF kKey (.int .i64) (leOf cmp3) es
def table_Table_int64_Keys.sig : Sig := { args := .tc (.ptr 0) .tn, objs := [tabSk 1, .map kKey (.int .i64)], ret := .val (.slice kKey), outs := [tabSk 1, .map kKey (.int .i64)], F := fun x => table_Table_int64_Keys x.2.2.1 }
def table_Table_int64_Keys.CK : Ctx := { ty := tyT, sigs := fun _ => [], n := 14, mp := fun _ => none }
def table_Table_int64_Keys.CA : Ctx := { ty := tyT, sigs := fun _ => [], n := 13, mp := fun _ => none }
theorem table_Table_int64_Keys.ctxK : CtxOk Go.Proofs.Try.prog table_Table_int64_Keys.CK := ⟨tyOk, (fun t k v h => by cases h), Nat.le_of_ble_eq_true (by kernel_rfl), fun f sg h => by cases h⟩
theorem table_Table_int64_Keys.ctxA : CtxOk Go.Proofs.Try.prog table_Table_int64_Keys.CA := ⟨tyOk, (fun t k v h => by cases h), Nat.le_of_ble_eq_true (by kernel_rfl), fun f sg h => by cases h⟩
theorem table_Table_int64_Keys.kit : KitFacts Go.Proofs.Try.prog table_Table_int64_Keys.CK 67 Go.Proofs.Try.f67 kKey 76 24 2 #[24] := { hf := Go.Proofs.Try.func67, hname := by kernel_rfl, hb := by kernel_rfl, hres := by kernel_rfl, hn := by kernel_rfl, h13 := (by show 13 < 14; omega), hm := by kernel_rfl, hmt := by kernel_rfl, r0 := by kernel_rfl, r1 := by kernel_rfl, r2 := by kernel_rfl, r3 := by kernel_rfl, g := by kernel_rfl, o00 := by kernel_rfl, o01 := by kernel_rfl, o10 := by kernel_rfl, o11 := by kernel_rfl, o20 := by kernel_rfl, o21 := by kernel_rfl, o30 := by kernel_rfl, o32 := by kernel_rfl, d := by kernel_rfl, k2 := by kernel_rfl, k3 := by kernel_rfl, k7 := by kernel_rfl, q2 := fun y => by kernel_rfl, q3 := fun y => by kernel_rfl, q7 := fun b => by kernel_rfl }
theorem table_Table_int64_Keys.asq : AsFacts Go.Proofs.Try.prog table_Table_int64_Keys.CA 83 Go.Proofs.Try.f83 kKey := { hf := Go.Proofs.Try.func83, hb := by kernel_rfl, hres := by kernel_rfl, hn := by kernel_rfl, h12 := (by show 12 < 13; omega), r1 := by kernel_rfl, o1 := by kernel_rfl, o1d := by kernel_rfl, o1g := by kernel_rfl, k0 := by kernel_rfl, q0 := by kernel_rfl, q2 := fun ks x => by kernel_rfl, q3 := fun ks x => by kernel_rfl, q4 := fun ks => by kernel_rfl }
theorem table_Table_int64_Keys.isNaN (x : Int) : cmp_isNaN_uint8 x = some false := by
  show some ((x : Int) != x) = some false
  rw [bne_self_eq_false]
theorem table_Table_int64_Keys.cmp1 (x y : Int) : cmp_Compare_uint8 x y = some (cmpI x y) := by
  unfold cmp_Compare_uint8 cmpI
  rw [table_Table_int64_Keys.isNaN, table_Table_int64_Keys.isNaN]
  simp only [Option.bind_some, cond_false]
  by_cases h1 : x < y
  · simp [h1]
  · by_cases h2 : x > y <;> simp [h1, h2]
theorem table_Table_int64_Keys.orStep (a b c i : Int) (k : Nat) (hk : k < 3) (x : Int) (hx : [a, b, c][k]? = some x) (hi : i = k) : cmp_Or_int.l1 (0, ([a, b, c], (3, i))) = if x ≠ 0 then some (Sum.inr (Sum.inr x)) else some (Sum.inl (0, ([a, b, c], (3, ((k + 1 : Nat) : Int))))) := by
  subst hi
  unfold cmp_Or_int.l1
  simp only
  rw [show decide ((k : Int) < 3) = true by simp; omega, cond_true]
  rw [nthK_get hx]
  have hw : IntKind.i64.wrap ((k : Int) + 1) = ((k + 1 : Nat) : Int) := succ_i64 (by omega)
  rw [hw]
  by_cases h : x = 0
  · subst h; simp
  · have hb : ((x : Int) != 0) = true := by simpa using h
    rw [hb, cond_true, if_pos h]
theorem table_Table_int64_Keys.or3 (a b c : Int) : cmp_Or_int [a, b, c] = some (if a ≠ 0 then a else if b ≠ 0 then b else c) := by
  unfold cmp_Or_int
  show (iterL cmp_Or_int.l1 loopN (0, ([a, b, c], (3, 0)))).bind _ = _
  have s0 := table_Table_int64_Keys.orStep a b c 0 0 (by omega) a rfl rfl
  have s1 := table_Table_int64_Keys.orStep a b c ((0 + 1 : Nat) : Int) 1 (by omega) b rfl rfl
  have s2 := table_Table_int64_Keys.orStep a b c ((1 + 1 : Nat) : Int) 2 (by omega) c rfl rfl
  have s3 : cmp_Or_int.l1 (0, ([a, b, c], (3, ((2 + 1 : Nat) : Int)))) = some (Sum.inr (Sum.inl 0)) := rfl
  by_cases ha : a = 0
  · by_cases hb : b = 0
    · by_cases hc : c = 0
      · rw [if_neg (by simpa using ha)] at s0; rw [if_neg (by simpa using hb)] at s1; rw [if_neg (by simpa using hc)] at s2
        have := iterL_mono (m := loopN) ((iterL_next s0).trans ((iterL_next s1).trans ((iterL_next s2).trans (iterL_done (n := 0) s3)))) (by rw [loopN_eq]; omega)
        rw [this, Option.bind_some]
        simp [ha, hb, hc]
      · rw [if_neg (by simpa using ha)] at s0; rw [if_neg (by simpa using hb)] at s1; rw [if_pos (by simpa using hc)] at s2
        have := iterL_mono (m := loopN) ((iterL_next s0).trans ((iterL_next s1).trans (iterL_done (n := 0) s2))) (by rw [loopN_eq]; omega)
        rw [this, Option.bind_some]
        simp [ha, hb]
    · rw [if_neg (by simpa using ha)] at s0; rw [if_pos (by simpa using hb)] at s1
      have := iterL_mono (m := loopN) ((iterL_next s0).trans (iterL_done (n := 0) s1)) (by rw [loopN_eq]; omega)
      rw [this, Option.bind_some]
      simp [ha, hb]
  · rw [if_pos (by simpa using ha)] at s0
    have := iterL_mono (m := loopN) (iterL_done (n := 0) s0) (by rw [loopN_eq]; omega)
    rw [this, Option.bind_some]
    simp [ha]
theorem table_Table_int64_Keys.hcf (x y : Int × Int × Int × Unit) : key_Compare x y = some (cmp3 x y) := by
  unfold key_Compare
  rw [table_Table_int64_Keys.cmp1, table_Table_int64_Keys.cmp1, table_Table_int64_Keys.cmp1]
  simp only [Option.bind_some, table_Table_int64_Keys.or3]
  rfl
def table_Table_int64_Keys.ren : Go.Shelf.Ren := { f := fun x => match x with | 6 => 66 | 15 => 85 | 14 => 84 | 28 => 103 | 29 => 104 | 20 => 95 | 21 => 96 | 22 => 97 | 23 => 98 | 24 => 99 | 25 => 100 | 26 => 101 | 27 => 102 | 46 => 108 | 47 => 109 | 48 => 110 | 49 => 111 | 50 => 112 | 57 => 114 | n => n, t := fun x => match x with | 22 => 45 | 24 => 24 | 25 => 87 | 3 => 3 | 39 => 131 | 0 => 0 | 53 => 150 | 55 => 152 | 4 => 4 | 46 => 143 | 45 => 142 | 50 => 147 | 5 => 5 | 9 => 9 | 66 => 156 | 70 => 160 | 76 => 165 | 77 => 166 | n => n, g := fun x => x }
theorem table_Table_int64_Keys.lays : SlLaysF0.n6 Go.Proofs.Try.prog table_Table_int64_Keys.ren := { mixed := follows, f6 := ⟨ "slices.SortFunc[[]pledge/api.Key,pledge/api.Key]", by kernel_rfl, Go.Proofs.Try.func66.trans (congrArg some (by kernel_rfl))⟩, f14 := ⟨ "slices.pdqsortCmpFunc[pledge/api.Key]", by kernel_rfl, Go.Proofs.Try.func84.trans (congrArg some (by kernel_rfl))⟩, f15 := Go.Proofs.Try.func85.trans (congrArg some (by kernel_rfl)), f20 := ⟨ "slices.insertionSortCmpFunc[pledge/api.Key]", by kernel_rfl, Go.Proofs.Try.func95.trans (congrArg some (by kernel_rfl))⟩, f21 := ⟨ "slices.heapSortCmpFunc[pledge/api.Key]", by kernel_rfl, Go.Proofs.Try.func96.trans (congrArg some (by kernel_rfl))⟩, f22 := ⟨ "slices.breakPatternsCmpFunc[pledge/api.Key]", by kernel_rfl, Go.Proofs.Try.func97.trans (congrArg some (by kernel_rfl))⟩, f23 := ⟨ "slices.choosePivotCmpFunc[pledge/api.Key]", by kernel_rfl, Go.Proofs.Try.func98.trans (congrArg some (by kernel_rfl))⟩, f24 := ⟨ "slices.reverseRangeCmpFunc[pledge/api.Key]", by kernel_rfl, Go.Proofs.Try.func99.trans (congrArg some (by kernel_rfl))⟩, f25 := ⟨ "slices.partialInsertionSortCmpFunc[pledge/api.Key]", by kernel_rfl, Go.Proofs.Try.func100.trans (congrArg some (by kernel_rfl))⟩, f26 := ⟨ "slices.partitionEqualCmpFunc[pledge/api.Key]", by kernel_rfl, Go.Proofs.Try.func101.trans (congrArg some (by kernel_rfl))⟩, f27 := ⟨ "slices.partitionCmpFunc[pledge/api.Key]", by kernel_rfl, Go.Proofs.Try.func102.trans (congrArg some (by kernel_rfl))⟩, f28 := Go.Proofs.Try.func103.trans (congrArg some (by kernel_rfl)), f29 := Go.Proofs.Try.func104.trans (congrArg some (by kernel_rfl)), f46 := ⟨ "slices.siftDownCmpFunc[pledge/api.Key]", by kernel_rfl, Go.Proofs.Try.func108.trans (congrArg some (by kernel_rfl))⟩, f47 := Go.Proofs.Try.func109.trans (congrArg some (by kernel_rfl)), f48 := Go.Proofs.Try.func110.trans (congrArg some (by kernel_rfl)), f49 := ⟨ "slices.medianAdjacentCmpFunc[pledge/api.Key]", by kernel_rfl, Go.Proofs.Try.func111.trans (congrArg some (by kernel_rfl))⟩, f50 := ⟨ "slices.medianCmpFunc[pledge/api.Key]", by kernel_rfl, Go.Proofs.Try.func112.trans (congrArg some (by kernel_rfl))⟩, f57 := ⟨ "slices.order2CmpFunc[pledge/api.Key]", by kernel_rfl, Go.Proofs.Try.func114.trans (congrArg some (by kernel_rfl))⟩, t0 := Go.Proofs.Try.underlying0, a0 := Go.Proofs.Try.isAgg0, z0 := Go.Proofs.Try.sizeOf0, v0 := Go.Proofs.Try.zeroValue0, t3 := Go.Proofs.Try.underlying3, a3 := Go.Proofs.Try.isAgg3, z3 := Go.Proofs.Try.sizeOf3, v3 := Go.Proofs.Try.zeroValue3, t4 := Go.Proofs.Try.underlying4, a4 := Go.Proofs.Try.isAgg4, z4 := Go.Proofs.Try.sizeOf4, v4 := Go.Proofs.Try.zeroValue4, t5 := Go.Proofs.Try.underlying5, a5 := Go.Proofs.Try.isAgg5, z5 := Go.Proofs.Try.sizeOf5, v5 := Go.Proofs.Try.zeroValue5, t9 := Go.Proofs.Try.underlying9, a9 := Go.Proofs.Try.isAgg9, z9 := Go.Proofs.Try.sizeOf9, v9 := Go.Proofs.Try.zeroValue9, t22 := Go.Proofs.Try.underlying45, a22 := Go.Proofs.Try.isAgg45, z22 := Go.Proofs.Try.sizeOf45, v22 := Go.Proofs.Try.zeroValue45, t25 := Go.Proofs.Try.underlying87, a25 := Go.Proofs.Try.isAgg87, z25 := Go.Proofs.Try.sizeOf87, v25 := Go.Proofs.Try.zeroValue87, t39 := Go.Proofs.Try.underlying131, a39 := Go.Proofs.Try.isAgg131, z39 := Go.Proofs.Try.sizeOf131, v39 := Go.Proofs.Try.zeroValue131, t45 := Go.Proofs.Try.underlying142, a45 := Go.Proofs.Try.isAgg142, z45 := Go.Proofs.Try.sizeOf142, v45 := Go.Proofs.Try.zeroValue142, t46 := Go.Proofs.Try.underlying143, a46 := Go.Proofs.Try.isAgg143, z46 := Go.Proofs.Try.sizeOf143, v46 := Go.Proofs.Try.zeroValue143, t50 := Go.Proofs.Try.underlying147, a50 := Go.Proofs.Try.isAgg147, z50 := Go.Proofs.Try.sizeOf147, v50 := Go.Proofs.Try.zeroValue147, t53 := Go.Proofs.Try.underlying150, a53 := Go.Proofs.Try.isAgg150, z53 := Go.Proofs.Try.sizeOf150, v53 := Go.Proofs.Try.zeroValue150, t55 := Go.Proofs.Try.underlying152, a55 := Go.Proofs.Try.isAgg152, z55 := Go.Proofs.Try.sizeOf152, v55 := Go.Proofs.Try.zeroValue152, t66 := Go.Proofs.Try.underlying156, a66 := Go.Proofs.Try.isAgg156, z66 := Go.Proofs.Try.sizeOf156, v66 := Go.Proofs.Try.zeroValue156, t70 := Go.Proofs.Try.underlying160, a70 := Go.Proofs.Try.isAgg160, z70 := Go.Proofs.Try.sizeOf160, v70 := Go.Proofs.Try.zeroValue160, t76 := Go.Proofs.Try.underlying165, a76 := Go.Proofs.Try.isAgg165, z76 := Go.Proofs.Try.sizeOf165, v76 := Go.Proofs.Try.zeroValue165, t77 := Go.Proofs.Try.underlying166, a77 := Go.Proofs.Try.isAgg166, z77 := Go.Proofs.Try.sizeOf166, v77 := Go.Proofs.Try.zeroValue166 }
set_option maxRecDepth 100000 in
open Go.RowKit Go.Sort Go.Shelf Go.Proofs in
theorem table_Table_int64_Keys.sortC (w : World) (S : Cells) (m : Nat → Option MB) (ks : List (El kKey)) (v : Value) (hl : ks.length < 4611686018427387904) (hr : StoRel (mkS [] [(1, .row kKey false ks)] []).sto w S m) (hv : RepV w S m (.row 1) v) :
    Calls Go.Proofs.Try.prog 66 #[v, .func (.func 40) #[] #[]] w fun e w' => e = .returned (.tuple #[]) ∧ ∃ S', RepV w' S' (fun _ => none) (.val (.slice kKey) (ks.mergeSort (leOf cmp3))) v ∧ Ext (OwnSt (mkS [] [(1, .row kKey false ks)] []).sto m) w S m w' S' m (fun _ _ => False) ∧ ∀ b x, S' b x → b < w'.heap.size :=
  sort_row (kk := kKey) table_Table_int64_Keys.lays Go.Proofs.Try.isAgg24 Go.Proofs.Try.sizeOf24 rfl (by decide) cmp3 swo3 tot3 (enters_of Go.Proofs.Try.func40 (by kernel_rfl) rfl) (cmp_calls (kk := kKey) key_Compare.ok Go.Proofs.Try.func40 (by kernel_rfl) (by kernel_rfl) rfl rfl cmp3 (fun x y => table_Table_int64_Keys.hcf x y)) hl hr hv
open Go.RowKit Go.Sort Go.Shelf Go.Proofs in
theorem table_Table_int64_Keys.keysC : KeysCall Go.Proofs.Try.prog 39 67 76 := by
  intro mb w
  go_enter Go.Proofs.Try.func39, Go.Proofs.Try.ntmps39
  go_wp2
  go_ret
  exact ⟨rfl, rfl⟩
open Go.RowKit Go.Sort Go.Shelf Go.Proofs in
theorem table_Table_int64_Keys.collect {w : World} {S : Cells} (hl : ∀ b x, S b x → b < w.heap.size) {bx : Value} {ok : List (El kKey) → Prop} {N : Nat} (hN : N ≤ 4294967296) (hG : KGives Go.Proofs.Try.prog 67 bx kKey ok N w) :
    Calls Go.Proofs.Try.prog 65 #[.func (.func 67) #[] #[bx]] w fun e w' => ∃ v ks S' m', e = .returned v ∧ ok ks ∧ RepV w' S' m' (.row 1) v ∧ StoRel (mkS [] [(1, .row kKey false ks)] []).sto w' S' m' ∧ Ext (fun _ _ => False) w S (fun _ => none) w' S' (fun _ => none) (OwnSt (mkS [] [(1, .row kKey false ks)] []).sto m') := by
  have h := appseq table_Table_int64_Keys.ctxA table_Table_int64_Keys.asq rfl hl (Go.Proofs.Try.func67 : _) (by kernel_rfl) (by kernel_rfl) hN hG
  clear hG hl
  go_enter Go.Proofs.Try.func65, Go.Proofs.Try.ntmps65
  go_wp2_with (go_at_call 83; refine h.mono ?_; rintro e w' ⟨v, ks, S1, m1, rfl, h1, h2, h3, h4⟩)
  go_ret
  exact ⟨v, ks, S1, m1, rfl, h1, h2, h3, h4⟩
open Go.RowKit Go.Sort Go.Shelf Go.Proofs in
theorem table_Table_int64_Keys.sortedC : SortedCall Go.Proofs.Try.prog 38 67 40 kKey (leOf cmp3) := by
  intro w S bx ok N hG hl hN hok
  have h := table_Table_int64_Keys.collect hl hN hG
  clear hG hl
  have hsort := table_Table_int64_Keys.sortC
  go_enter Go.Proofs.Try.func38, Go.Proofs.Try.ntmps38
  go_wp2_with (first
    | (go_at_call 65; refine h.mono ?_; rintro e w' ⟨v, ks, S1, m1, rfl, h1, h2, h3, h4⟩)
    | (go_at_call 66; refine (hsort _ S1 m1 ks v (by have := hok ks h1; omega) h3 h2).mono ?_; rintro e w' ⟨rfl, S2, g1, g2, g3⟩))
  go_ret
  exact ⟨v, ks, S2, rfl, h1, g1, h4.trans g2.drop, g3⟩
set_option maxRecDepth 100000 in
open Go.RowKit Go.Sort Go.Shelf Go.Proofs in
theorem table_Table_int64_Keys.run : TabRun Go.Proofs.Try.prog 19 67 76 kKey (leOf cmp3) := by
  intro w S b o r ok N hc hG hl hN hok
  have hk := table_Table_int64_Keys.keysC (some r) w
  have hs := table_Table_int64_Keys.sortedC _ S _ ok N hG hl hN hok
  clear hG hl
  go_enter Go.Proofs.Try.func19, Go.Proofs.Try.ntmps19
  go_wp2_with (first
    | (go_at_call 39; refine hk.mono ?_; rintro e w' ⟨rfl, rfl⟩)
    | (go_at_call 38; refine hs.mono ?_; rintro e w' ⟨v, ks, S1, rfl, h1, h2, h3, h4⟩))
  go_ret
  exact ⟨v, ks, S1, rfl, h1, h2, h3, h4⟩
set_option maxRecDepth 100000 in
theorem table_Table_int64_Keys.ok : Sound Go.Proofs.Try.prog 19 table_Table_int64_Keys.sig := tabkeys_sound Go.Proofs.Try.func19 (by kernel_rfl) (by kernel_rfl) table_Table_int64_Keys.ctxK table_Table_int64_Keys.kit rfl swo3 tot3 inferInstance table_Table_int64_Keys.run

def table_Table_int64_Len (x0 : Unit) (o0 : Unit × Unit) (o1 : List ((Int × Int × Int × Unit) × Int)) : Option (Int × (Unit × Unit) × (List ((Int × Int × Int × Unit) × Int)) × Unit) :=
  some ((o1.length : Int), (((), o0.2), (o1, ())))
def table_Table_int64_Len.C : Ctx := { ty := tyT, sigs := fun i => [], n := 10, mp := mpT }
def table_Table_int64_Len.Q : Cuts := { np := 2, loops := fun i => none, seqs := fun i => none, splits := fun i => none }
def table_Table_int64_Len.sig : Sig := { args := .tc (.ptr 0) .tn, objs := [.cell (.cons (.ref 1) .unit) (.pair (.mapr 1) (.val .unit)), .map kKey (.int .i64)], ret := .val (.int .i64), outs := [.cell (.cons (.ref 1) .unit) (.pair (.mapr 1) (.val .unit)), .map kKey (.int .i64)], F := fun x => table_Table_int64_Len x.1.1 x.2.1 x.2.2.1 }
theorem table_Table_int64_Len.eq : (fun x => body table_Table_int64_Len.C table_Table_int64_Len.Q Go.Proofs.Try.f18 table_Table_int64_Len.sig.args table_Table_int64_Len.sig.objs table_Table_int64_Len.sig.ret table_Table_int64_Len.sig.outs x) = table_Table_int64_Len.sig.F := by
  kernel_rfl
set_option maxRecDepth 100000 in
theorem table_Table_int64_Len.ctx : CtxOk Go.Proofs.Try.prog table_Table_int64_Len.C := ⟨tyOk, mpOk, Nat.le_of_ble_eq_true (by kernel_rfl), fun f sg => (fun h => by cases h)⟩
set_option maxRecDepth 100000 in
theorem table_Table_int64_Len.ok : Sound Go.Proofs.Try.prog 18 table_Table_int64_Len.sig := body_sound (C := table_Table_int64_Len.C) (q := table_Table_int64_Len.Q) (fn := Go.Proofs.Try.f18) (sg := table_Table_int64_Len.sig) (n := 1) table_Table_int64_Len.ctx follows Go.Proofs.Try.func18 (by kernel_rfl) (by kernel_rfl) (by kernel_rfl) (by kernel_rfl) (Nat.le_of_ble_eq_true (by kernel_rfl)) (by kernel_rfl) table_Table_int64_Len.eq

def pledgelaw05_works  : Option Bool :=
  table_New_int64.bind fun r2 => (table_Table_int64_Put () (4, (1, (0, ()))) 5 ((), r2.2.1.2) r2.2.2.1).bind fun r3 => (table_Table_int64_Put () (1, (0, (0, ()))) 6 ((), r3.2.1.2) r3.2.2.1).bind fun r4 => (table_Table_int64_Keys r4.2.2.1).bind fun r5 => bif ((r5.1.length : Int) : Int) == 2 then nthK r5.1 0 fun e6 => bif (e6.1 : Int) == 1 then (table_Table_int64_Len () ((), r5.2.1.2) r5.2.2.1).bind fun r7 => some ((r7.1 : Int) == 2) else some false else some false
def pledgelaw05_works.C : Ctx := { ty := tyT, sigs := fun i => bif Nat.beq i 16 then [table_Table_int64_Put.sig] else bif Nat.beq i 18 then [table_Table_int64_Len.sig] else bif Nat.beq i 19 then [table_Table_int64_Keys.sig] else bif Nat.beq i 33 then [table_New_int64.sig] else [], n := 27, mp := mpT }
def pledgelaw05_works.Q : Cuts := { np := 0, loops := fun i => none, seqs := fun i => none, splits := fun i => none }
def pledgelaw05_works.sig : Sig := { args := .tn, objs := [], ret := .val .bool, outs := [], F := fun x => pledgelaw05_works }
theorem pledgelaw05_works.eq : (fun x => body pledgelaw05_works.C pledgelaw05_works.Q Go.Proofs.Try.f13 pledgelaw05_works.sig.args pledgelaw05_works.sig.objs pledgelaw05_works.sig.ret pledgelaw05_works.sig.outs x) = pledgelaw05_works.sig.F := by
  kernel_rfl
set_option maxRecDepth 100000 in
theorem pledgelaw05_works.ctx : CtxOk Go.Proofs.Try.prog pledgelaw05_works.C := ⟨tyOk, mpOk, Nat.le_of_ble_eq_true (by kernel_rfl), fun f sg => fun h => sigs_if h (allS_cons table_Table_int64_Put.ok allS_nil) (fun h => sigs_if h (allS_cons table_Table_int64_Len.ok allS_nil) (fun h => sigs_if h (allS_cons table_Table_int64_Keys.ok allS_nil) (fun h => sigs_if h (allS_cons table_New_int64.ok allS_nil) ((fun h => by cases h)))))⟩
set_option maxRecDepth 100000 in
theorem pledgelaw05_works.ok : Sound Go.Proofs.Try.prog 13 pledgelaw05_works.sig := body_sound (C := pledgelaw05_works.C) (q := pledgelaw05_works.Q) (fn := Go.Proofs.Try.f13) (sg := pledgelaw05_works.sig) (n := 0) pledgelaw05_works.ctx follows Go.Proofs.Try.func13 (by kernel_rfl) (by kernel_rfl) (by kernel_rfl) (by kernel_rfl) (Nat.le_of_ble_eq_true (by kernel_rfl)) (by kernel_rfl) pledgelaw05_works.eq

def table_Table_int64_All (x0 : Unit) : Option ((Unit × Unit) × Unit × Unit) :=
  some (((), ()), ((), ()))
def table_Table_int64_All.C : Ctx := { ty := tyT, sigs := fun i => [], n := 4, mp := mpT }
def table_Table_int64_All.Q : Cuts := { np := 0, loops := fun i => none, seqs := fun i => none, splits := fun i => none }
def table_Table_int64_All.sig : Sig := { args := .tc (.nilr 0) .tn, objs := [], ret := .clo 37 (.tc (.ptr 0) .tn), outs := [.cell (.ref 0) (.nilr 0)], F := fun x => table_Table_int64_All x.1.1 }
theorem table_Table_int64_All.eq : (fun x => body table_Table_int64_All.C table_Table_int64_All.Q Go.Proofs.Try.f17 table_Table_int64_All.sig.args table_Table_int64_All.sig.objs table_Table_int64_All.sig.ret table_Table_int64_All.sig.outs x) = table_Table_int64_All.sig.F := by
  kernel_rfl
set_option maxRecDepth 100000 in
theorem table_Table_int64_All.ctx : CtxOk Go.Proofs.Try.prog table_Table_int64_All.C := ⟨tyOk, mpOk, Nat.le_of_ble_eq_true (by kernel_rfl), fun f sg => (fun h => by cases h)⟩
set_option maxRecDepth 100000 in
theorem table_Table_int64_All.ok : Sound Go.Proofs.Try.prog 17 table_Table_int64_All.sig := body_sound (C := table_Table_int64_All.C) (q := table_Table_int64_All.Q) (fn := Go.Proofs.Try.f17) (sg := table_Table_int64_All.sig) (n := 1) table_Table_int64_All.ctx follows Go.Proofs.Try.func17 (by kernel_rfl) (by kernel_rfl) (by kernel_rfl) (by kernel_rfl) (Nat.le_of_ble_eq_true (by kernel_rfl)) (by kernel_rfl) table_Table_int64_All.eq

def table_Table_int64_Put_v2 (x0 : Unit) (x1 : Int × Int × Int × Unit) (x2 : Int) : Option Unit :=
  some ()
def table_Table_int64_Put_v2.C : Ctx := { ty := tyT, sigs := fun i => [], n := 23, mp := mpT }
def table_Table_int64_Put_v2.Q : Cuts := { np := 0, loops := fun i => none, seqs := fun i => none, splits := fun i => none }
def table_Table_int64_Put_v2.sig : Sig := { args := .tc (.nilr 0) (.tc (.val kKey) (.tc (.val (.int .i64)) .tn)), objs := [], ret := .tup .tn, outs := [], F := fun x => table_Table_int64_Put_v2 x.1.1 x.1.2.1 x.1.2.2.1 }
theorem table_Table_int64_Put_v2.eq : (fun x => body table_Table_int64_Put_v2.C table_Table_int64_Put_v2.Q Go.Proofs.Try.f16 table_Table_int64_Put_v2.sig.args table_Table_int64_Put_v2.sig.objs table_Table_int64_Put_v2.sig.ret table_Table_int64_Put_v2.sig.outs x) = table_Table_int64_Put_v2.sig.F := by
  kernel_rfl
set_option maxRecDepth 100000 in
theorem table_Table_int64_Put_v2.ctx : CtxOk Go.Proofs.Try.prog table_Table_int64_Put_v2.C := ⟨tyOk, mpOk, Nat.le_of_ble_eq_true (by kernel_rfl), fun f sg => (fun h => by cases h)⟩
set_option maxRecDepth 100000 in
theorem table_Table_int64_Put_v2.ok : Sound Go.Proofs.Try.prog 16 table_Table_int64_Put_v2.sig := body_sound (C := table_Table_int64_Put_v2.C) (q := table_Table_int64_Put_v2.Q) (fn := Go.Proofs.Try.f16) (sg := table_Table_int64_Put_v2.sig) (n := 3) table_Table_int64_Put_v2.ctx follows Go.Proofs.Try.func16 (by kernel_rfl) (by kernel_rfl) (by kernel_rfl) (by kernel_rfl) (Nat.le_of_ble_eq_true (by kernel_rfl)) (by kernel_rfl) table_Table_int64_Put_v2.eq

def table_Table_int64_Get (x0 : Unit) (x1 : Int × Int × Int × Unit) : Option (Int × Bool × Unit) :=
  some (0, (false, ()))
def table_Table_int64_Get.C : Ctx := { ty := tyT, sigs := fun i => [], n := 20, mp := mpT }
def table_Table_int64_Get.Q : Cuts := { np := 0, loops := fun i => none, seqs := fun i => none, splits := fun i => none }
def table_Table_int64_Get.sig : Sig := { args := .tc (.nilr 0) (.tc (.val kKey) .tn), objs := [], ret := .tup (.tc (.val (.int .i64)) (.tc (.val .bool) .tn)), outs := [], F := fun x => table_Table_int64_Get x.1.1 x.1.2.1 }
theorem table_Table_int64_Get.eq : (fun x => body table_Table_int64_Get.C table_Table_int64_Get.Q Go.Proofs.Try.f10 table_Table_int64_Get.sig.args table_Table_int64_Get.sig.objs table_Table_int64_Get.sig.ret table_Table_int64_Get.sig.outs x) = table_Table_int64_Get.sig.F := by
  kernel_rfl
set_option maxRecDepth 100000 in
theorem table_Table_int64_Get.ctx : CtxOk Go.Proofs.Try.prog table_Table_int64_Get.C := ⟨tyOk, mpOk, Nat.le_of_ble_eq_true (by kernel_rfl), fun f sg => (fun h => by cases h)⟩
set_option maxRecDepth 100000 in
theorem table_Table_int64_Get.ok : Sound Go.Proofs.Try.prog 10 table_Table_int64_Get.sig := body_sound (C := table_Table_int64_Get.C) (q := table_Table_int64_Get.Q) (fn := Go.Proofs.Try.f10) (sg := table_Table_int64_Get.sig) (n := 2) table_Table_int64_Get.ctx follows Go.Proofs.Try.func10 (by kernel_rfl) (by kernel_rfl) (by kernel_rfl) (by kernel_rfl) (Nat.le_of_ble_eq_true (by kernel_rfl)) (by kernel_rfl) table_Table_int64_Get.eq

def table_Table_int64_Del (x0 : Unit) (x1 : Int × Int × Int × Unit) : Option Bool :=
  (table_Table_int64_Get () x1).bind fun r8 => bif r8.2.1 then none else some r8.2.1
def table_Table_int64_Del.C : Ctx := { ty := tyT, sigs := fun i => bif Nat.beq i 10 then [table_Table_int64_Get.sig] else [], n := 20, mp := mpT }
def table_Table_int64_Del.Q : Cuts := { np := 0, loops := fun i => none, seqs := fun i => none, splits := fun i => none }
def table_Table_int64_Del.sig : Sig := { args := .tc (.nilr 0) (.tc (.val kKey) .tn), objs := [], ret := .val .bool, outs := [], F := fun x => table_Table_int64_Del x.1.1 x.1.2.1 }
theorem table_Table_int64_Del.eq : (fun x => body table_Table_int64_Del.C table_Table_int64_Del.Q Go.Proofs.Try.f15 table_Table_int64_Del.sig.args table_Table_int64_Del.sig.objs table_Table_int64_Del.sig.ret table_Table_int64_Del.sig.outs x) = table_Table_int64_Del.sig.F := by
  kernel_rfl
set_option maxRecDepth 100000 in
theorem table_Table_int64_Del.ctx : CtxOk Go.Proofs.Try.prog table_Table_int64_Del.C := ⟨tyOk, mpOk, Nat.le_of_ble_eq_true (by kernel_rfl), fun f sg => fun h => sigs_if h (allS_cons table_Table_int64_Get.ok allS_nil) ((fun h => by cases h))⟩
set_option maxRecDepth 100000 in
theorem table_Table_int64_Del.ok : Sound Go.Proofs.Try.prog 15 table_Table_int64_Del.sig := body_sound (C := table_Table_int64_Del.C) (q := table_Table_int64_Del.Q) (fn := Go.Proofs.Try.f15) (sg := table_Table_int64_Del.sig) (n := 2) table_Table_int64_Del.ctx follows Go.Proofs.Try.func15 (by kernel_rfl) (by kernel_rfl) (by kernel_rfl) (by kernel_rfl) (Nat.le_of_ble_eq_true (by kernel_rfl)) (by kernel_rfl) table_Table_int64_Del.eq

def table_Table_int64_Len_v2 (x0 : Unit) : Option Int :=
  some 0
def table_Table_int64_Len_v2.C : Ctx := { ty := tyT, sigs := fun i => [], n := 10, mp := mpT }
def table_Table_int64_Len_v2.Q : Cuts := { np := 0, loops := fun i => none, seqs := fun i => none, splits := fun i => none }
def table_Table_int64_Len_v2.sig : Sig := { args := .tc (.nilr 0) .tn, objs := [], ret := .val (.int .i64), outs := [], F := fun x => table_Table_int64_Len_v2 x.1.1 }
theorem table_Table_int64_Len_v2.eq : (fun x => body table_Table_int64_Len_v2.C table_Table_int64_Len_v2.Q Go.Proofs.Try.f18 table_Table_int64_Len_v2.sig.args table_Table_int64_Len_v2.sig.objs table_Table_int64_Len_v2.sig.ret table_Table_int64_Len_v2.sig.outs x) = table_Table_int64_Len_v2.sig.F := by
  kernel_rfl
set_option maxRecDepth 100000 in
theorem table_Table_int64_Len_v2.ctx : CtxOk Go.Proofs.Try.prog table_Table_int64_Len_v2.C := ⟨tyOk, mpOk, Nat.le_of_ble_eq_true (by kernel_rfl), fun f sg => (fun h => by cases h)⟩
set_option maxRecDepth 100000 in
theorem table_Table_int64_Len_v2.ok : Sound Go.Proofs.Try.prog 18 table_Table_int64_Len_v2.sig := body_sound (C := table_Table_int64_Len_v2.C) (q := table_Table_int64_Len_v2.Q) (fn := Go.Proofs.Try.f18) (sg := table_Table_int64_Len_v2.sig) (n := 1) table_Table_int64_Len_v2.ctx follows Go.Proofs.Try.func18 (by kernel_rfl) (by kernel_rfl) (by kernel_rfl) (by kernel_rfl) (Nat.le_of_ble_eq_true (by kernel_rfl)) (by kernel_rfl) table_Table_int64_Len_v2.eq

def table_Table_int64_Keys_v2 (x0 : Unit) : Option (List (Int × Int × Int × Unit)) :=
  some []
def table_Table_int64_Keys_v2.C : Ctx := { ty := tyT, sigs := fun i => [], n := 11, mp := mpT }
def table_Table_int64_Keys_v2.Q : Cuts := { np := 0, loops := fun i => none, seqs := fun i => none, splits := fun i => none }
def table_Table_int64_Keys_v2.sig : Sig := { args := .tc (.nilr 0) .tn, objs := [], ret := .val (.slice kKey), outs := [], F := fun x => table_Table_int64_Keys_v2 x.1.1 }
theorem table_Table_int64_Keys_v2.eq : (fun x => body table_Table_int64_Keys_v2.C table_Table_int64_Keys_v2.Q Go.Proofs.Try.f19 table_Table_int64_Keys_v2.sig.args table_Table_int64_Keys_v2.sig.objs table_Table_int64_Keys_v2.sig.ret table_Table_int64_Keys_v2.sig.outs x) = table_Table_int64_Keys_v2.sig.F := by
  kernel_rfl
set_option maxRecDepth 100000 in
theorem table_Table_int64_Keys_v2.ctx : CtxOk Go.Proofs.Try.prog table_Table_int64_Keys_v2.C := ⟨tyOk, mpOk, Nat.le_of_ble_eq_true (by kernel_rfl), fun f sg => (fun h => by cases h)⟩
set_option maxRecDepth 100000 in
theorem table_Table_int64_Keys_v2.ok : Sound Go.Proofs.Try.prog 19 table_Table_int64_Keys_v2.sig := body_sound (C := table_Table_int64_Keys_v2.C) (q := table_Table_int64_Keys_v2.Q) (fn := Go.Proofs.Try.f19) (sg := table_Table_int64_Keys_v2.sig) (n := 1) table_Table_int64_Keys_v2.ctx follows Go.Proofs.Try.func19 (by kernel_rfl) (by kernel_rfl) (by kernel_rfl) (by kernel_rfl) (Nat.le_of_ble_eq_true (by kernel_rfl)) (by kernel_rfl) table_Table_int64_Keys_v2.eq

def pledgelaw05_TableNil (x0 : Int × Int × Int × Unit) : Option Bool := pledgelaw05_works
def pledgelaw05_TableNil.sig : Sig := { args := .tc (.val kKey) .tn, objs := [], ret := .val .bool, outs := [], F := fun x => pledgelaw05_TableNil x.1.1 }
def pledgelaw05_TableNil.C : Ctx := { ty := tyT, sigs := fun i => bif Nat.beq i 10 then [table_Table_int64_Get.sig] else bif Nat.beq i 13 then [pledgelaw05_works.sig] else bif Nat.beq i 14 then [table_Table_int64_Copy.sig] else bif Nat.beq i 15 then [table_Table_int64_Del.sig] else bif Nat.beq i 16 then [table_Table_int64_Put_v2.sig] else bif Nat.beq i 17 then [table_Table_int64_All.sig] else bif Nat.beq i 18 then [table_Table_int64_Len_v2.sig, table_Table_int64_Len.sig] else bif Nat.beq i 19 then [table_Table_int64_Keys_v2.sig] else [], n := 51, mp := mpT }
set_option maxRecDepth 100000 in
theorem pledgelaw05_TableNil.ctxC : CtxOk Go.Proofs.Try.prog pledgelaw05_TableNil.C := ⟨tyOk, mpOk, Nat.le_of_ble_eq_true (by kernel_rfl), fun f sg => fun h => sigs_if h (allS_cons table_Table_int64_Get.ok allS_nil) (fun h => sigs_if h (allS_cons pledgelaw05_works.ok allS_nil) (fun h => sigs_if h (allS_cons table_Table_int64_Copy.ok allS_nil) (fun h => sigs_if h (allS_cons table_Table_int64_Del.ok allS_nil) (fun h => sigs_if h (allS_cons table_Table_int64_Put_v2.ok allS_nil) (fun h => sigs_if h (allS_cons table_Table_int64_All.ok allS_nil) (fun h => sigs_if h (allS_cons table_Table_int64_Len_v2.ok (allS_cons table_Table_int64_Len.ok allS_nil)) (fun h => sigs_if h (allS_cons table_Table_int64_Keys_v2.ok allS_nil) ((fun h => by cases h)))))))))⟩
def pledgelaw05_TableNil.CA : Ctx := { ty := tyT, sigs := fun i => bif Nat.beq i 14 then [table_Table_int64_Copy.sig] else bif Nat.beq i 19 then [table_Table_int64_Keys.sig] else [], n := 29, mp := mpT }
set_option maxRecDepth 100000 in
theorem pledgelaw05_TableNil.ctxCA : CtxOk Go.Proofs.Try.prog pledgelaw05_TableNil.CA := ⟨tyOk, mpOk, Nat.le_of_ble_eq_true (by kernel_rfl), fun f sg => fun h => sigs_if h (allS_cons table_Table_int64_Copy.ok allS_nil) (fun h => sigs_if h (allS_cons table_Table_int64_Keys.ok allS_nil) ((fun h => by cases h)))⟩
theorem pledgelaw05_TableNil.all : AnilFacts Go.Proofs.Try.prog pledgelaw05_TableNil.CA 37 Go.Proofs.Try.f37 kKey (leOf cmp3) := { hf := Go.Proofs.Try.func37, h28 := (by show 28 < 29; omega), hname := by kernel_rfl, hb := by kernel_rfl, hres := by kernel_rfl, hn := by kernel_rfl, q0 := fun _ => by kernel_rfl, q1 := fun _ => by kernel_rfl, q2 := fun _ _ => by kernel_rfl }
theorem pledgelaw05_TableNil.nils : NilFacts Go.Proofs.Try.prog pledgelaw05_TableNil.C 5 Go.Proofs.Try.f5 37 kKey pledgelaw05_works := { hf := Go.Proofs.Try.func5, h50 := (by show 50 < 51; omega), hname := by kernel_rfl, hb := by kernel_rfl, hn := by kernel_rfl, q0 := fun _ => by kernel_rfl, q1 := fun _ => by kernel_rfl, q2 := fun _ => by kernel_rfl, q3 := fun _ => by kernel_rfl, q4 := fun _ => by kernel_rfl, q6 := fun _ => by kernel_rfl, q7 := fun _ => by kernel_rfl, q8 := fun _ => by kernel_rfl, e8 := fun _ _ => by kernel_rfl }
set_option maxRecDepth 100000 in
theorem pledgelaw05_TableNil.ok : Sound Go.Proofs.Try.prog 5 pledgelaw05_TableNil.sig := nil_sound pledgelaw05_TableNil.ctxC pledgelaw05_TableNil.ctxCA follows pledgelaw05_TableNil.nils pledgelaw05_TableNil.all

end Go.Proofs.F
