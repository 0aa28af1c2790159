import Derived.Test.YtfpjeianlfhmnaaDKey8
import Derived.Test.YtfpjeianlfhmnaaProg
import Derived.KernelRfl
set_option linter.unusedVariables false
namespace Go.Proofs.F
open Go.Proofs.D
def kwide : K := .cons (.int .i64) (.cons (.int .i64) .unit)
def kLine : K := .cons (.int .u8) (.cons (.int .i64) .unit)
def kKey : K := .cons (.int .u8) (.cons (.int .u8) (.cons (.int .u8) .unit))
def kStep : K := .cons (.int .u8) (.cons (.int .u8) (.cons (.slice kLine) .unit))
def kOp : K := .cons kKey (.cons (.int .i64) .unit)
def tyL : List (Nat × K) := [(1, .ref 2), (2, .int .i64), (3, .int .i64), (4, .bool), (5, .int .u8), (9, .str), (22, .slice kOp), (23, kKey), (24, kKey), (25, kOp), (26, kOp), (35, .slice (.int .i64)), (38, .slice kLine), (39, .slice (.int .u8)), (41, kStep), (42, kStep), (43, .ref 2), (48, .ref 1), (49, .slice kKey), (51, .ref 2), (52, .ref 2), (54, .ref 2), (57, .ref 2), (58, kwide), (59, kwide), (62, .ref 2), (63, .ref 2), (66, kLine), (67, kLine), (68, .ref 2), (77, .int .u64), (80, .int .u64), (83, .arr 9 .str), (87, .slice (.int .i64))]
def tyT (t : Nat) : Option K := lookK tyL t
def mpL : List (Nat × K × K) := [(48, kKey, .slice (.int .i64))]
def mpT (t : Nat) : Option (K × K) := lookM mpL t
theorem tyOk : ∀ t c, tyT t = some c → TyOk Go.Proofs.Try.prog tyT t c := tyOk_of (l := tyL) (fun _ => rfl) (by kernel_rfl) (by kernel_rfl)
theorem mpOk : ∀ t k v, mpT t = some (k, v) → ∃ tk tv, Go.Proofs.Try.prog.underlying t = some (.map tk tv) ∧ tyT tk = some k ∧ tyT tv = some v ∧ k.flat = true := mpOk_of (l := mpL) (fun _ => rfl) (by kernel_rfl)
theorem follows : Go.Proofs.Try.prog.follows .mixedOrders = true := by kernel_rfl
def cmp_isNaN_uint8 (x0 : Int) : Option Bool :=
  some ((x0 : Int) != x0)
def cmp_isNaN_uint8.C : Ctx := { ty := tyT, sigs := fun i => [], n := 6, mp := mpT }
def cmp_isNaN_uint8.Q : Cuts := { np := 0, loops := fun i => none, seqs := fun i => none, splits := fun i => none }
def cmp_isNaN_uint8.sig : Sig := { args := .tc (.val (.int .u8)) .tn, objs := [], ret := .val .bool, outs := [], F := fun x => cmp_isNaN_uint8 x.1.1 }
theorem cmp_isNaN_uint8.eq : (fun x => body cmp_isNaN_uint8.C cmp_isNaN_uint8.Q Go.Proofs.Try.f56 cmp_isNaN_uint8.sig.args cmp_isNaN_uint8.sig.objs cmp_isNaN_uint8.sig.ret cmp_isNaN_uint8.sig.outs x) = cmp_isNaN_uint8.sig.F := by
  kernel_rfl
set_option maxRecDepth 100000 in
theorem cmp_isNaN_uint8.ctx : CtxOk Go.Proofs.Try.prog cmp_isNaN_uint8.C := ⟨tyOk, mpOk, Nat.le_of_ble_eq_true (by kernel_rfl), fun f sg => (fun h => by cases h)⟩
set_option maxRecDepth 100000 in
theorem cmp_isNaN_uint8.ok : Sound Go.Proofs.Try.prog 56 cmp_isNaN_uint8.sig := body_sound (C := cmp_isNaN_uint8.C) (q := cmp_isNaN_uint8.Q) (fn := Go.Proofs.Try.f56) (sg := cmp_isNaN_uint8.sig) (n := 1) cmp_isNaN_uint8.ctx follows Go.Proofs.Try.func56 (by kernel_rfl) (by kernel_rfl) (by kernel_rfl) (by kernel_rfl) (Nat.le_of_ble_eq_true (by kernel_rfl)) (by kernel_rfl) cmp_isNaN_uint8.eq

def cmp_Compare_uint8 (x0 : Int) (x1 : Int) : Option Int :=
  (cmp_isNaN_uint8 x0).bind fun r3 => (cmp_isNaN_uint8 x1).bind fun r4 => bif r3 then bif r4 then some 0 else some (-1) else bif r4 then some 1 else bif decide (x0 < x1) then some (-1) else bif decide (x0 > x1) then some 1 else some 0
def cmp_Compare_uint8.C : Ctx := { ty := tyT, sigs := fun i => bif Nat.beq i 56 then [cmp_isNaN_uint8.sig] else [], n := 20, mp := mpT }
def cmp_Compare_uint8.Q : Cuts := { np := 0, loops := fun i => none, seqs := fun i => none, splits := fun i => none }
def cmp_Compare_uint8.sig : Sig := { args := .tc (.val (.int .u8)) (.tc (.val (.int .u8)) .tn), objs := [], ret := .val (.int .i64), outs := [], F := fun x => cmp_Compare_uint8 x.1.1 x.1.2.1 }
theorem cmp_Compare_uint8.eq : (fun x => body cmp_Compare_uint8.C cmp_Compare_uint8.Q Go.Proofs.Try.f49 cmp_Compare_uint8.sig.args cmp_Compare_uint8.sig.objs cmp_Compare_uint8.sig.ret cmp_Compare_uint8.sig.outs x) = cmp_Compare_uint8.sig.F := by
  kernel_rfl
set_option maxRecDepth 100000 in
theorem cmp_Compare_uint8.ctx : CtxOk Go.Proofs.Try.prog cmp_Compare_uint8.C := ⟨tyOk, mpOk, Nat.le_of_ble_eq_true (by kernel_rfl), fun f sg => fun h => sigs_if h (allS_cons cmp_isNaN_uint8.ok allS_nil) ((fun h => by cases h))⟩
set_option maxRecDepth 100000 in
theorem cmp_Compare_uint8.ok : Sound Go.Proofs.Try.prog 49 cmp_Compare_uint8.sig := body_sound (C := cmp_Compare_uint8.C) (q := cmp_Compare_uint8.Q) (fn := Go.Proofs.Try.f49) (sg := cmp_Compare_uint8.sig) (n := 2) cmp_Compare_uint8.ctx follows Go.Proofs.Try.func49 (by kernel_rfl) (by kernel_rfl) (by kernel_rfl) (by kernel_rfl) (Nat.le_of_ble_eq_true (by kernel_rfl)) (by kernel_rfl) cmp_Compare_uint8.eq

def cmp_Or_int.l1 (v : Int × List Int × Int × Int) : Option ((Int × List Int × Int × Int) ⊕ (Int ⊕ Int)) :=
  bif decide (v.2.2.2 < v.2.2.1) then nthK v.2.1 v.2.2.2 fun e8 => bif (e8 : Int) != v.1 then some (Sum.inr (Sum.inr e8)) else some (Sum.inl (v.1, (v.2.1, (v.2.2.1, IntKind.i64.wrap (v.2.2.2 + 1))))) else some (Sum.inr (Sum.inl v.1))
def cmp_Or_int (x0 : List Int) : Option Int :=
  (iterL cmp_Or_int.l1 loopN (0, (x0, ((x0.length : Int), 0)))).bind fun y9 => (match y9 with | .inl y10 => some y10 | .inr y11 => some y11)
def cmp_Or_int.C : Ctx := { ty := tyT, sigs := fun i => [], n := 18, mp := mpT }
def cmp_Or_int.Q : Cuts := { np := 0, loops := fun i => bif Nat.beq i 3 then some ({ env := [(3, .val (.int .i64)), (6, .val (.slice (.int .i64))), (7, .val (.int .i64)), (8, .val (.int .i64))], objs := [] }, [(.exit 0, { env := [(3, .val (.int .i64))], objs := [] }), (.ret, { env := [(2, .val (.int .i64))], objs := [] })]) else none, seqs := fun i => none, splits := fun i => none }
def cmp_Or_int.sig : Sig := { args := .tc (.val (.slice (.int .i64))) .tn, objs := [], ret := .val (.int .i64), outs := [], F := fun x => cmp_Or_int x.1.1 }
theorem cmp_Or_int.eq : (fun x => body cmp_Or_int.C cmp_Or_int.Q Go.Proofs.Try.f48 cmp_Or_int.sig.args cmp_Or_int.sig.objs cmp_Or_int.sig.ret cmp_Or_int.sig.outs x) = cmp_Or_int.sig.F := by
  kernel_rfl
set_option maxRecDepth 100000 in
theorem cmp_Or_int.ctx : CtxOk Go.Proofs.Try.prog cmp_Or_int.C := ⟨tyOk, mpOk, Nat.le_of_ble_eq_true (by kernel_rfl), fun f sg => (fun h => by cases h)⟩
set_option maxRecDepth 100000 in
theorem cmp_Or_int.ok : Sound Go.Proofs.Try.prog 48 cmp_Or_int.sig := body_sound (C := cmp_Or_int.C) (q := cmp_Or_int.Q) (fn := Go.Proofs.Try.f48) (sg := cmp_Or_int.sig) (n := 1) cmp_Or_int.ctx follows Go.Proofs.Try.func48 (by kernel_rfl) (by kernel_rfl) (by kernel_rfl) (by kernel_rfl) (Nat.le_of_ble_eq_true (by kernel_rfl)) (by kernel_rfl) cmp_Or_int.eq

def key_Compare (x0 : Int × Int × Int × Unit) (x1 : Int × Int × Int × Unit) : Option Int :=
  (cmp_Compare_uint8 x0.1 x1.1).bind fun r3 => (cmp_Compare_uint8 x0.2.1 x1.2.1).bind fun r4 => (cmp_Compare_uint8 x0.2.2.1 x1.2.2.1).bind fun r5 => (cmp_Or_int [r3, r4, r5]).bind fun r6 => some r6
def key_Compare.C : Ctx := { ty := tyT, sigs := fun i => bif Nat.beq i 48 then [cmp_Or_int.sig] else bif Nat.beq i 49 then [cmp_Compare_uint8.sig] else [], n := 22, mp := mpT }
def key_Compare.Q : Cuts := { np := 0, loops := fun i => none, seqs := fun i => none, splits := fun i => none }
def key_Compare.sig : Sig := { args := .tc (.val kKey) (.tc (.val kKey) .tn), objs := [], ret := .val (.int .i64), outs := [], F := fun x => key_Compare x.1.1 x.1.2.1 }
theorem key_Compare.eq : (fun x => body key_Compare.C key_Compare.Q Go.Proofs.Try.f29 key_Compare.sig.args key_Compare.sig.objs key_Compare.sig.ret key_Compare.sig.outs x) = key_Compare.sig.F := by
  kernel_rfl
set_option maxRecDepth 100000 in
theorem key_Compare.ctx : CtxOk Go.Proofs.Try.prog key_Compare.C := ⟨tyOk, mpOk, Nat.le_of_ble_eq_true (by kernel_rfl), fun f sg => fun h => sigs_if h (allS_cons cmp_Or_int.ok allS_nil) (fun h => sigs_if h (allS_cons cmp_Compare_uint8.ok allS_nil) ((fun h => by cases h)))⟩
set_option maxRecDepth 100000 in
theorem key_Compare.ok : Sound Go.Proofs.Try.prog 29 key_Compare.sig := body_sound (C := key_Compare.C) (q := key_Compare.Q) (fn := Go.Proofs.Try.f29) (sg := key_Compare.sig) (n := 2) key_Compare.ctx follows Go.Proofs.Try.func29 (by kernel_rfl) (by kernel_rfl) (by kernel_rfl) (by kernel_rfl) (Nat.le_of_ble_eq_true (by kernel_rfl)) (by kernel_rfl) key_Compare.eq

def bits_Add64.sig : Sig := { args := .tc (.val (.int .u64)) (.tc (.val (.int .u64)) (.tc (.val (.int .u64)) .tn)), objs := [], ret := .tup (.tc (.val (.int .u64)) (.tc (.val (.int .u64)) .tn)), outs := [], F := fun x => add64 x.1.1 x.1.2.1 x.1.2.2.1 }
set_option maxRecDepth 100000 in
theorem bits_Add64.ok : Sound Go.Proofs.Try.prog 50 bits_Add64.sig := add64_sound Go.Proofs.Try.func50 (by kernel_rfl) (by kernel_rfl) (by kernel_rfl) (by kernel_rfl)

def calc_Sum.l1 (v : Int × Int × List Int × Int × Int) : Option ((Int × Int × List Int × Int × Int) ⊕ (Int × Int)) :=
  bif decide (v.2.2.2.2 < v.2.2.2.1) then nthK v.2.2.1 v.2.2.2.2 fun e4 => (add64 v.2.1 (IntKind.u64.wrap e4) 0).bind fun r5 => (add64 v.1 (IntKind.u64.wrap (Int.fdiv e4 (2 ^ 63))) r5.2.1).bind fun r6 => some (Sum.inl (r6.1, (r5.1, (v.2.2.1, (v.2.2.2.1, IntKind.i64.wrap (v.2.2.2.2 + 1)))))) else some (Sum.inr (v.1, v.2.1))
def calc_Sum (x0 : List Int) : Option (Int × Bool × Unit) :=
  (iterL calc_Sum.l1 loopN (0, (0, (x0, ((x0.length : Int), 0))))).bind fun y7 => bif (IntKind.u64.wrap (Int.fdiv (IntKind.i64.wrap y7.2) (2 ^ 63)) : Int) == y7.1 then some (IntKind.i64.wrap y7.2, (true, ())) else some (0, (false, ()))
def calc_Sum.C : Ctx := { ty := tyT, sigs := fun i => bif Nat.beq i 50 then [bits_Add64.sig] else [], n := 41, mp := mpT }
def calc_Sum.Q : Cuts := { np := 0, loops := fun i => bif Nat.beq i 3 then some ({ env := [(4, .val (.int .u64)), (5, .val (.int .u64)), (10, .val (.slice (.int .i64))), (11, .val (.int .i64)), (12, .val (.int .i64))], objs := [] }, [(.exit 0, { env := [(4, .val (.int .u64)), (5, .val (.int .u64))], objs := [] })]) else none, seqs := fun i => none, splits := fun i => none }
def calc_Sum.sig : Sig := { args := .tc (.val (.slice (.int .i64))) .tn, objs := [], ret := .tup (.tc (.val (.int .i64)) (.tc (.val .bool) .tn)), outs := [], F := fun x => calc_Sum x.1.1 }
theorem calc_Sum.eq : (fun x => body calc_Sum.C calc_Sum.Q Go.Proofs.Try.f30 calc_Sum.sig.args calc_Sum.sig.objs calc_Sum.sig.ret calc_Sum.sig.outs x) = calc_Sum.sig.F := by
  kernel_rfl
set_option maxRecDepth 100000 in
theorem calc_Sum.ctx : CtxOk Go.Proofs.Try.prog calc_Sum.C := ⟨tyOk, mpOk, Nat.le_of_ble_eq_true (by kernel_rfl), fun f sg => fun h => sigs_if h (allS_cons bits_Add64.ok allS_nil) ((fun h => by cases h))⟩
set_option maxRecDepth 100000 in
theorem calc_Sum.ok : Sound Go.Proofs.Try.prog 30 calc_Sum.sig := body_sound (C := calc_Sum.C) (q := calc_Sum.Q) (fn := Go.Proofs.Try.f30) (sg := calc_Sum.sig) (n := 1) calc_Sum.ctx follows Go.Proofs.Try.func30 (by kernel_rfl) (by kernel_rfl) (by kernel_rfl) (by kernel_rfl) (Nat.le_of_ble_eq_true (by kernel_rfl)) (by kernel_rfl) calc_Sum.eq

def op_Net.g3 : Given := grpGiven kKey
def op_Net.g8 : Given := k8Given kKey (.slice (.int .i64)) (leOf cmp3)

def op_Net.l1 (v : (Unit × Unit × (List (Int × Int × Int × Unit)) × Int × Int) × (List ((Int × Int × Int × Unit) × List Int)) × (List ((Int × Int × Int × Unit) × Int × Unit)) × Unit) : Option (((Unit × Unit × (List (Int × Int × Int × Unit)) × Int × Int) × (List ((Int × Int × Int × Unit) × List Int)) × (List ((Int × Int × Int × Unit) × Int × Unit)) × Unit) ⊕ ((Unit × (List ((Int × Int × Int × Unit) × Int × Unit)) × Unit) ⊕ (Unit × Bool))) :=
  bif decide (v.1.2.2.2.2 < v.1.2.2.2.1) then nthK v.1.2.2.1 v.1.2.2.2.2 fun e3 => (calc_Sum (getM kKey (.slice (.int .i64)) v.2.1 e3)).bind fun r4 => bif !r4.2.1 then some (Sum.inr (Sum.inr ((), false))) else bif (r4.1 : Int) != 0 then room (v.2.2.1.length + [(e3, (r4.1, ()))].length) (some (Sum.inl (((), ((), (v.1.2.2.1, (v.1.2.2.2.1, IntKind.i64.wrap (v.1.2.2.2.2 + 1))))), (v.2.1, (v.2.2.1 ++ [(e3, (r4.1, ()))], ()))))) else some (Sum.inl (((), ((), (v.1.2.2.1, (v.1.2.2.2.1, IntKind.i64.wrap (v.1.2.2.2.2 + 1))))), (v.2.1, (v.2.2.1, ())))) else some (Sum.inr (Sum.inl ((), (v.2.2.1, ()))))
def op_Net (x0 : List ((Int × Int × Int × Unit) × Int × Unit)) : Option ((List ((Int × Int × Int × Unit) × Int × Unit)) × Bool × Unit) :=
  (grpG kKey (((), (false, ((), (x0, ((x0.length : Int), 0))))), ([], ()))).bind fun y1 => (k8G kKey (.slice (.int .i64)) (leOf cmp3) (((), (y1.1.2.1, ((), ()))), (y1.2.1, ()))).bind fun y2 => (iterL op_Net.l1 loopN (((), ((), y2.1.2.2.2.2)), (y2.2.1, ([], ())))).bind fun y5 => (match y5 with | .inl y6 => some (y6.2.1, (true, ())) | .inr y7 => some ([], (y7.2, ())))
def op_Net.C : Ctx := { ty := tyT, sigs := fun i => bif Nat.beq i 29 then [key_Compare.sig] else bif Nat.beq i 30 then [calc_Sum.sig] else [], n := 57, mp := mpT }
def op_Net.Q : Cuts := { np := 0, loops := fun i => bif Nat.beq i 9 then some ({ env := [(4, .mapr 0), (7, .row 1), (32, .val (.slice kKey)), (33, .val (.int .i64)), (34, .val (.int .i64))], objs := [.map kKey (.slice (.int .i64)), .row kOp false] }, [(.exit 2, { env := [(7, .row 0)], objs := [.row kOp false] }), (.ret, { env := [(2, .nils kOp), (3, .val .bool)], objs := [] })]) else none, seqs := fun i => none, splits := fun i => none, given := fun k i => bif Nat.beq k 0 && Nat.beq i 3 then some op_Net.g3 else bif Nat.beq k 3 && Nat.beq i 8 then some op_Net.g8 else none }
def op_Net.sig : Sig := { args := .tc (.val (.slice kOp)) .tn, objs := [], ret := .tup (.tc (.val (.slice kOp)) (.tc (.val .bool) .tn)), outs := [], F := fun x => op_Net x.1.1 }
theorem op_Net.eq : (fun x => body op_Net.C op_Net.Q Go.Proofs.Try.f9 op_Net.sig.args op_Net.sig.objs op_Net.sig.ret op_Net.sig.outs x) = op_Net.sig.F := by
  kernel_rfl
set_option maxRecDepth 100000 in
theorem op_Net.ctx : CtxOk Go.Proofs.Try.prog op_Net.C := ⟨tyOk, mpOk, Nat.le_of_ble_eq_true (by kernel_rfl), fun f sg => fun h => sigs_if h (allS_cons key_Compare.ok allS_nil) (fun h => sigs_if h (allS_cons calc_Sum.ok allS_nil) ((fun h => by cases h)))⟩
def op_Net.CK : Ctx := { ty := tyT, sigs := fun _ => [], n := 14, mp := fun _ => none }
def op_Net.CA : Ctx := { ty := tyT, sigs := fun _ => [], n := 13, mp := fun _ => none }
theorem op_Net.ctxK : CtxOk Go.Proofs.Try.prog op_Net.CK := ⟨tyOk, (fun t k v h => by cases h), Nat.le_of_ble_eq_true (by kernel_rfl), fun f sg h => by cases h⟩
theorem op_Net.ctxA : CtxOk Go.Proofs.Try.prog op_Net.CA := ⟨tyOk, (fun t k v h => by cases h), Nat.le_of_ble_eq_true (by kernel_rfl), fun f sg h => by cases h⟩
theorem op_Net.grp : GrpFacts Go.Proofs.Try.prog op_Net.C Go.Proofs.Try.f9 kKey 48 24 35 := { h30 := (by show 30 < 57; omega), hfl := rfl, hm := by kernel_rfl, ht := by kernel_rfl, hz := by kernel_rfl, h5 := by kernel_rfl, m6 := by kernel_rfl, m6d := by kernel_rfl, m6g := by kernel_rfl, s10 := by kernel_rfl, s10d := by kernel_rfl, s10g := by kernel_rfl, q3 := fun b0 xs n i ρ => by kernel_rfl, q4 := fun b0 xs n i q ρ => by kernel_rfl, q5a := fun b0 xs n i x ρ => by kernel_rfl, q5b := fun b0 xs n i st d vs ρ => by kernel_rfl, q6 := fun b0 xs n i st vs ρ => by kernel_rfl }
theorem op_Net.kit : KitFacts Go.Proofs.Try.prog op_Net.CK 47 Go.Proofs.Try.f47 kKey 48 24 35 #[24] := { hf := Go.Proofs.Try.func47, hname := by kernel_rfl, hb := by kernel_rfl, hres := by kernel_rfl, hn := by kernel_rfl, h13 := (by show 13 < 14; omega), hm := by kernel_rfl, hmt := by kernel_rfl, r0 := by kernel_rfl, r1 := by kernel_rfl, r2 := by kernel_rfl, r3 := by kernel_rfl, g := by kernel_rfl, o00 := by kernel_rfl, o01 := by kernel_rfl, o10 := by kernel_rfl, o11 := by kernel_rfl, o20 := by kernel_rfl, o21 := by kernel_rfl, o30 := by kernel_rfl, o32 := by kernel_rfl, d := by kernel_rfl, k2 := by kernel_rfl, k3 := by kernel_rfl, k7 := by kernel_rfl, q2 := fun y => by kernel_rfl, q3 := fun y => by kernel_rfl, q7 := fun b => by kernel_rfl }
theorem op_Net.asq : AsFacts Go.Proofs.Try.prog op_Net.CA 53 Go.Proofs.Try.f53 kKey := { hf := Go.Proofs.Try.func53, hb := by kernel_rfl, hres := by kernel_rfl, hn := by kernel_rfl, h12 := (by show 12 < 13; omega), r1 := by kernel_rfl, o1 := by kernel_rfl, o1d := by kernel_rfl, o1g := by kernel_rfl, k0 := by kernel_rfl, q0 := by kernel_rfl, q2 := fun ks x => by kernel_rfl, q3 := fun ks x => by kernel_rfl, q4 := fun ks => by kernel_rfl }
theorem op_Net.k8 : K8Facts Go.Proofs.Try.prog op_Net.C Go.Proofs.Try.f9 kKey (.slice (.int .i64)) 28 27 29 Go.Proofs.Try.f28 Go.Proofs.Try.f27 #[48] #[52, 54] := { h34 := (by show 34 < 57; omega), hk := Go.Proofs.Try.func28, hkn := by kernel_rfl, hkb := by kernel_rfl, hs := Go.Proofs.Try.func27, hsn := by kernel_rfl, hsb := by kernel_rfl, r8 := by kernel_rfl, c1 := by kernel_rfl, c2 := by kernel_rfl, d := by kernel_rfl, g1 := by kernel_rfl, g2 := by kernel_rfl, q0 := fun b0 es => by kernel_rfl, q3 := fun b0 es l => by kernel_rfl }
theorem op_Net.isNaN (x : Int) : cmp_isNaN_uint8 x = some false := by
  show some ((x : Int) != x) = some false
  rw [bne_self_eq_false]
theorem op_Net.cmp1 (x y : Int) : cmp_Compare_uint8 x y = some (cmpI x y) := by
  unfold cmp_Compare_uint8 cmpI
  rw [op_Net.isNaN, op_Net.isNaN]
  simp only [Option.bind_some, cond_false]
  by_cases h1 : x < y
  · simp [h1]
  · by_cases h2 : x > y <;> simp [h1, h2]
theorem op_Net.orStep (a b c i : Int) (k : Nat) (hk : k < 3) (x : Int) (hx : [a, b, c][k]? = some x) (hi : i = k) : cmp_Or_int.l1 (0, ([a, b, c], (3, i))) = if x ≠ 0 then some (Sum.inr (Sum.inr x)) else some (Sum.inl (0, ([a, b, c], (3, ((k + 1 : Nat) : Int))))) := by
  subst hi
  unfold cmp_Or_int.l1
  simp only
  rw [show decide ((k : Int) < 3) = true by simp; omega, cond_true]
  rw [nthK_get hx]
  have hw : IntKind.i64.wrap ((k : Int) + 1) = ((k + 1 : Nat) : Int) := succ_i64 (by omega)
  rw [hw]
  by_cases h : x = 0
  · subst h; simp
  · have hb : ((x : Int) != 0) = true := by simpa using h
    rw [hb, cond_true, if_pos h]
theorem op_Net.or3 (a b c : Int) : cmp_Or_int [a, b, c] = some (if a ≠ 0 then a else if b ≠ 0 then b else c) := by
  unfold cmp_Or_int
  show (iterL cmp_Or_int.l1 loopN (0, ([a, b, c], (3, 0)))).bind _ = _
  have s0 := op_Net.orStep a b c 0 0 (by omega) a rfl rfl
  have s1 := op_Net.orStep a b c ((0 + 1 : Nat) : Int) 1 (by omega) b rfl rfl
  have s2 := op_Net.orStep a b c ((1 + 1 : Nat) : Int) 2 (by omega) c rfl rfl
  have s3 : cmp_Or_int.l1 (0, ([a, b, c], (3, ((2 + 1 : Nat) : Int)))) = some (Sum.inr (Sum.inl 0)) := rfl
  by_cases ha : a = 0
  · by_cases hb : b = 0
    · by_cases hc : c = 0
      · rw [if_neg (by simpa using ha)] at s0; rw [if_neg (by simpa using hb)] at s1; rw [if_neg (by simpa using hc)] at s2
        have := iterL_mono (m := loopN) ((iterL_next s0).trans ((iterL_next s1).trans ((iterL_next s2).trans (iterL_done (n := 0) s3)))) (by rw [loopN_eq]; omega)
        rw [this, Option.bind_some]
        simp [ha, hb, hc]
      · rw [if_neg (by simpa using ha)] at s0; rw [if_neg (by simpa using hb)] at s1; rw [if_pos (by simpa using hc)] at s2
        have := iterL_mono (m := loopN) ((iterL_next s0).trans ((iterL_next s1).trans (iterL_done (n := 0) s2))) (by rw [loopN_eq]; omega)
        rw [this, Option.bind_some]
        simp [ha, hb]
    · rw [if_neg (by simpa using ha)] at s0; rw [if_pos (by simpa using hb)] at s1
      have := iterL_mono (m := loopN) ((iterL_next s0).trans (iterL_done (n := 0) s1)) (by rw [loopN_eq]; omega)
      rw [this, Option.bind_some]
      simp [ha, hb]
  · rw [if_pos (by simpa using ha)] at s0
    have := iterL_mono (m := loopN) (iterL_done (n := 0) s0) (by rw [loopN_eq]; omega)
    rw [this, Option.bind_some]
    simp [ha]
theorem op_Net.hcf (x y : Int × Int × Int × Unit) : key_Compare x y = some (cmp3 x y) := by
  unfold key_Compare
  rw [op_Net.cmp1, op_Net.cmp1, op_Net.cmp1]
  simp only [Option.bind_some, op_Net.or3]
  rfl
def op_Net.ren : Go.Shelf.Ren := { f := fun x => match x with | 6 => 46 | 15 => 55 | 14 => 54 | 28 => 65 | 29 => 66 | 20 => 57 | 21 => 58 | 22 => 59 | 23 => 60 | 24 => 61 | 25 => 62 | 26 => 63 | 27 => 64 | 46 => 67 | 47 => 68 | 48 => 69 | 49 => 70 | 50 => 71 | 57 => 72 | n => n, t := fun x => match x with | 22 => 49 | 24 => 24 | 25 => 54 | 3 => 3 | 39 => 80 | 0 => 0 | 53 => 97 | 55 => 77 | 4 => 4 | 46 => 90 | 45 => 89 | 50 => 94 | 5 => 5 | 9 => 9 | 66 => 99 | 70 => 103 | 76 => 105 | 77 => 106 | n => n, g := fun x => x }
theorem op_Net.lays : SlLaysF0.n6 Go.Proofs.Try.prog op_Net.ren := { mixed := follows, f6 := ⟨ "slices.SortFunc[[]pledge/api.Key,pledge/api.Key]", by kernel_rfl, Go.Proofs.Try.func46.trans (congrArg some (by kernel_rfl))⟩, f14 := ⟨ "slices.pdqsortCmpFunc[pledge/api.Key]", by kernel_rfl, Go.Proofs.Try.func54.trans (congrArg some (by kernel_rfl))⟩, f15 := Go.Proofs.Try.func55.trans (congrArg some (by kernel_rfl)), f20 := ⟨ "slices.insertionSortCmpFunc[pledge/api.Key]", by kernel_rfl, Go.Proofs.Try.func57.trans (congrArg some (by kernel_rfl))⟩, f21 := ⟨ "slices.heapSortCmpFunc[pledge/api.Key]", by kernel_rfl, Go.Proofs.Try.func58.trans (congrArg some (by kernel_rfl))⟩, f22 := ⟨ "slices.breakPatternsCmpFunc[pledge/api.Key]", by kernel_rfl, Go.Proofs.Try.func59.trans (congrArg some (by kernel_rfl))⟩, f23 := ⟨ "slices.choosePivotCmpFunc[pledge/api.Key]", by kernel_rfl, Go.Proofs.Try.func60.trans (congrArg some (by kernel_rfl))⟩, f24 := ⟨ "slices.reverseRangeCmpFunc[pledge/api.Key]", by kernel_rfl, Go.Proofs.Try.func61.trans (congrArg some (by kernel_rfl))⟩, f25 := ⟨ "slices.partialInsertionSortCmpFunc[pledge/api.Key]", by kernel_rfl, Go.Proofs.Try.func62.trans (congrArg some (by kernel_rfl))⟩, f26 := ⟨ "slices.partitionEqualCmpFunc[pledge/api.Key]", by kernel_rfl, Go.Proofs.Try.func63.trans (congrArg some (by kernel_rfl))⟩, f27 := ⟨ "slices.partitionCmpFunc[pledge/api.Key]", by kernel_rfl, Go.Proofs.Try.func64.trans (congrArg some (by kernel_rfl))⟩, f28 := Go.Proofs.Try.func65.trans (congrArg some (by kernel_rfl)), f29 := Go.Proofs.Try.func66.trans (congrArg some (by kernel_rfl)), f46 := ⟨ "slices.siftDownCmpFunc[pledge/api.Key]", by kernel_rfl, Go.Proofs.Try.func67.trans (congrArg some (by kernel_rfl))⟩, f47 := Go.Proofs.Try.func68.trans (congrArg some (by kernel_rfl)), f48 := Go.Proofs.Try.func69.trans (congrArg some (by kernel_rfl)), f49 := ⟨ "slices.medianAdjacentCmpFunc[pledge/api.Key]", by kernel_rfl, Go.Proofs.Try.func70.trans (congrArg some (by kernel_rfl))⟩, f50 := ⟨ "slices.medianCmpFunc[pledge/api.Key]", by kernel_rfl, Go.Proofs.Try.func71.trans (congrArg some (by kernel_rfl))⟩, f57 := ⟨ "slices.order2CmpFunc[pledge/api.Key]", by kernel_rfl, Go.Proofs.Try.func72.trans (congrArg some (by kernel_rfl))⟩, t0 := Go.Proofs.Try.underlying0, a0 := Go.Proofs.Try.isAgg0, z0 := Go.Proofs.Try.sizeOf0, v0 := Go.Proofs.Try.zeroValue0, t3 := Go.Proofs.Try.underlying3, a3 := Go.Proofs.Try.isAgg3, z3 := Go.Proofs.Try.sizeOf3, v3 := Go.Proofs.Try.zeroValue3, t4 := Go.Proofs.Try.underlying4, a4 := Go.Proofs.Try.isAgg4, z4 := Go.Proofs.Try.sizeOf4, v4 := Go.Proofs.Try.zeroValue4, t5 := Go.Proofs.Try.underlying5, a5 := Go.Proofs.Try.isAgg5, z5 := Go.Proofs.Try.sizeOf5, v5 := Go.Proofs.Try.zeroValue5, t9 := Go.Proofs.Try.underlying9, a9 := Go.Proofs.Try.isAgg9, z9 := Go.Proofs.Try.sizeOf9, v9 := Go.Proofs.Try.zeroValue9, t22 := Go.Proofs.Try.underlying49, a22 := Go.Proofs.Try.isAgg49, z22 := Go.Proofs.Try.sizeOf49, v22 := Go.Proofs.Try.zeroValue49, t25 := Go.Proofs.Try.underlying54, a25 := Go.Proofs.Try.isAgg54, z25 := Go.Proofs.Try.sizeOf54, v25 := Go.Proofs.Try.zeroValue54, t39 := Go.Proofs.Try.underlying80, a39 := Go.Proofs.Try.isAgg80, z39 := Go.Proofs.Try.sizeOf80, v39 := Go.Proofs.Try.zeroValue80, t45 := Go.Proofs.Try.underlying89, a45 := Go.Proofs.Try.isAgg89, z45 := Go.Proofs.Try.sizeOf89, v45 := Go.Proofs.Try.zeroValue89, t46 := Go.Proofs.Try.underlying90, a46 := Go.Proofs.Try.isAgg90, z46 := Go.Proofs.Try.sizeOf90, v46 := Go.Proofs.Try.zeroValue90, t50 := Go.Proofs.Try.underlying94, a50 := Go.Proofs.Try.isAgg94, z50 := Go.Proofs.Try.sizeOf94, v50 := Go.Proofs.Try.zeroValue94, t53 := Go.Proofs.Try.underlying97, a53 := Go.Proofs.Try.isAgg97, z53 := Go.Proofs.Try.sizeOf97, v53 := Go.Proofs.Try.zeroValue97, t55 := Go.Proofs.Try.underlying77, a55 := Go.Proofs.Try.isAgg77, z55 := Go.Proofs.Try.sizeOf77, v55 := Go.Proofs.Try.zeroValue77, t66 := Go.Proofs.Try.underlying99, a66 := Go.Proofs.Try.isAgg99, z66 := Go.Proofs.Try.sizeOf99, v66 := Go.Proofs.Try.zeroValue99, t70 := Go.Proofs.Try.underlying103, a70 := Go.Proofs.Try.isAgg103, z70 := Go.Proofs.Try.sizeOf103, v70 := Go.Proofs.Try.zeroValue103, t76 := Go.Proofs.Try.underlying105, a76 := Go.Proofs.Try.isAgg105, z76 := Go.Proofs.Try.sizeOf105, v76 := Go.Proofs.Try.zeroValue105, t77 := Go.Proofs.Try.underlying106, a77 := Go.Proofs.Try.isAgg106, z77 := Go.Proofs.Try.sizeOf106, v77 := Go.Proofs.Try.zeroValue106 }
open Go.RowKit Go.Sort Go.Shelf Go.Proofs in
theorem op_Net.sortC (w : World) (S : Cells) (m : Nat → Option MB) (ks : List (El kKey)) (v : Value) (hl : ks.length < 4611686018427387904) (hr : StoRel (mkS [] [(1, .row kKey false ks)] []).sto w S m) (hv : RepV w S m (.row 1) v) :
    Calls Go.Proofs.Try.prog 46 #[v, .func (.func 29) #[] #[]] w fun e w' => e = .returned (.tuple #[]) ∧ ∃ S', RepV w' S' (fun _ => none) (.val (.slice kKey) (ks.mergeSort (leOf cmp3))) v ∧ Ext (OwnSt (mkS [] [(1, .row kKey false ks)] []).sto m) w S m w' S' m (fun _ _ => False) ∧ ∀ b x, S' b x → b < w'.heap.size :=
  sort_row (kk := kKey) op_Net.lays Go.Proofs.Try.isAgg24 Go.Proofs.Try.sizeOf24 rfl (by decide) cmp3 swo3 tot3 (enters_of Go.Proofs.Try.func29 (by kernel_rfl) rfl) (cmp_calls (kk := kKey) key_Compare.ok Go.Proofs.Try.func29 (by kernel_rfl) (by kernel_rfl) rfl rfl cmp3 (fun x y => op_Net.hcf x y)) hl hr hv
open Go.RowKit Go.Sort Go.Shelf Go.Proofs in
theorem op_Net.keysC : KeysCall Go.Proofs.Try.prog 28 47 48 := by
  intro mb w
  go_enter Go.Proofs.Try.func28, Go.Proofs.Try.ntmps28
  go_wp2
  go_ret
  exact ⟨rfl, rfl⟩
open Go.RowKit Go.Sort Go.Shelf Go.Proofs in
theorem op_Net.collect {w : World} {S : Cells} (hl : ∀ b x, S b x → b < w.heap.size) {bx : Value} {ok : List (El kKey) → Prop} {N : Nat} (hN : N ≤ 4294967296) (hG : KGives Go.Proofs.Try.prog 47 bx kKey ok N w) :
    Calls Go.Proofs.Try.prog 45 #[.func (.func 47) #[] #[bx]] w fun e w' => ∃ v ks S' m', e = .returned v ∧ ok ks ∧ RepV w' S' m' (.row 1) v ∧ StoRel (mkS [] [(1, .row kKey false ks)] []).sto w' S' m' ∧ Ext (fun _ _ => False) w S (fun _ => none) w' S' (fun _ => none) (OwnSt (mkS [] [(1, .row kKey false ks)] []).sto m') := by
  have h := appseq op_Net.ctxA op_Net.asq rfl hl (Go.Proofs.Try.func47 : _) (by kernel_rfl) (by kernel_rfl) hN hG
  clear hG hl
  go_enter Go.Proofs.Try.func45, Go.Proofs.Try.ntmps45
  go_wp2_with (go_at_call 53; refine h.mono ?_; rintro e w' ⟨v, ks, S1, m1, rfl, h1, h2, h3, h4⟩)
  go_ret
  exact ⟨v, ks, S1, m1, rfl, h1, h2, h3, h4⟩
open Go.RowKit Go.Sort Go.Shelf Go.Proofs in
theorem op_Net.sortedC : SortedCall Go.Proofs.Try.prog 27 47 29 kKey (leOf cmp3) := by
  intro w S bx ok N hG hl hN hok
  have h := op_Net.collect hl hN hG
  clear hG hl
  have hsort := op_Net.sortC
  go_enter Go.Proofs.Try.func27, Go.Proofs.Try.ntmps27
  go_wp2_with (first
    | (go_at_call 45; refine h.mono ?_; rintro e w' ⟨v, ks, S1, m1, rfl, h1, h2, h3, h4⟩)
    | (go_at_call 46; refine (hsort _ S1 m1 ks v (by have := hok ks h1; omega) h3 h2).mono ?_; rintro e w' ⟨rfl, S2, g1, g2, g3⟩))
  go_ret
  exact ⟨v, ks, S2, rfl, h1, g1, h4.trans g2.drop, g3⟩
theorem op_Net.code3 : CodeOk Go.Proofs.Try.prog op_Net.C 0 (.loop (grpBody Go.Proofs.Try.f9)) op_Net.g3 := grp_ok op_Net.ctx op_Net.grp
theorem op_Net.code8 : CodeOk Go.Proofs.Try.prog op_Net.C 0 (.region 8 (rops (bodyOf Go.Proofs.Try.f9) 8) false) op_Net.g8 := k8_ok op_Net.ctx op_Net.ctxK op_Net.k8 op_Net.kit rfl op_Net.keysC op_Net.sortedC swo3 tot3 inferInstance
theorem op_Net.givens : givens op_Net.Q (bodyOf Go.Proofs.Try.f9) = [(.loop (grpBody Go.Proofs.Try.f9), op_Net.g3), (.region 8 (rops (bodyOf Go.Proofs.Try.f9) 8) false, op_Net.g8)] := by kernel_rfl
theorem op_Net.givenIn : ∀ c, Go.Proofs.Try.f9.body = some c → GivenIn Go.Proofs.Try.prog op_Net.C op_Net.Q c := fun c hc => by
  have this : bodyOf Go.Proofs.Try.f9 = c := by unfold bodyOf; rw [hc]
  have h : Go.Proofs.D.givens op_Net.Q c = [(.loop (grpBody Go.Proofs.Try.f9), op_Net.g3), (.region 8 (rops (bodyOf Go.Proofs.Try.f9) 8) false, op_Net.g8)] := by rw [← this]; exact op_Net.givens
  refine GivenIn.of_list h fun p hp => ?_
  rcases List.mem_cons.1 hp with e | hp
  · subst e; exact op_Net.code3
  · rw [List.mem_singleton] at hp; subst hp; exact op_Net.code8

set_option maxRecDepth 100000 in
theorem op_Net.ok : Sound Go.Proofs.Try.prog 9 op_Net.sig := body_sound (C := op_Net.C) (q := op_Net.Q) (fn := Go.Proofs.Try.f9) (sg := op_Net.sig) (n := 1) op_Net.ctx follows Go.Proofs.Try.func9 (by kernel_rfl) (by kernel_rfl) (by kernel_rfl) (by kernel_rfl) (Nat.le_of_ble_eq_true (by kernel_rfl)) (by kernel_rfl) op_Net.eq op_Net.givenIn

def pledgeref04_Less (x0 : Int × Int × Int × Unit) (x1 : Int × Int × Int × Unit) : Option Bool :=
  bif (x0.1 : Int) != x1.1 then some (decide (x0.1 < x1.1)) else bif (x0.2.1 : Int) != x1.2.1 then some (decide (x0.2.1 < x1.2.1)) else some (decide (x0.2.2.1 < x1.2.2.1))
def pledgeref04_Less.C : Ctx := { ty := tyT, sigs := fun i => [], n := 30, mp := mpT }
def pledgeref04_Less.Q : Cuts := { np := 0, loops := fun i => none, seqs := fun i => none, splits := fun i => none }
def pledgeref04_Less.sig : Sig := { args := .tc (.val kKey) (.tc (.val kKey) .tn), objs := [], ret := .val .bool, outs := [], F := fun x => pledgeref04_Less x.1.1 x.1.2.1 }
theorem pledgeref04_Less.eq : (fun x => body pledgeref04_Less.C pledgeref04_Less.Q Go.Proofs.Try.f51 pledgeref04_Less.sig.args pledgeref04_Less.sig.objs pledgeref04_Less.sig.ret pledgeref04_Less.sig.outs x) = pledgeref04_Less.sig.F := by
  kernel_rfl
set_option maxRecDepth 100000 in
theorem pledgeref04_Less.ctx : CtxOk Go.Proofs.Try.prog pledgeref04_Less.C := ⟨tyOk, mpOk, Nat.le_of_ble_eq_true (by kernel_rfl), fun f sg => (fun h => by cases h)⟩
set_option maxRecDepth 100000 in
theorem pledgeref04_Less.ok : Sound Go.Proofs.Try.prog 51 pledgeref04_Less.sig := body_sound (C := pledgeref04_Less.C) (q := pledgeref04_Less.Q) (fn := Go.Proofs.Try.f51) (sg := pledgeref04_Less.sig) (n := 2) pledgeref04_Less.ctx follows Go.Proofs.Try.func51 (by kernel_rfl) (by kernel_rfl) (by kernel_rfl) (by kernel_rfl) (Nat.le_of_ble_eq_true (by kernel_rfl)) (by kernel_rfl) pledgeref04_Less.eq

def pledgeref04_With.l1 (v : ((List (Int × Int × Int × Unit)) × Unit × Unit × Bool × Int) × (Int × Int × Int × Unit) × (List (Int × Int × Int × Unit)) × Unit) : Option ((((List (Int × Int × Int × Unit)) × Unit × Unit × Bool × Int) × (Int × Int × Int × Unit) × (List (Int × Int × Int × Unit)) × Unit) ⊕ ((Unit × Unit × Bool) × (Int × Int × Int × Unit) × (List (Int × Int × Int × Unit)) × Unit)) :=
  bif decide (v.1.2.2.2.2 < (v.1.1.length : Int)) then (bif !v.1.2.2.2.1 then nthK v.1.1 v.1.2.2.2.2 fun e3 => (pledgeref04_Less e3 v.2.1).bind fun r4 => bif !r4 then room (v.2.2.1.length + [v.2.1].length) (some (((v.1.1, ((), ((), (true, v.1.2.2.2.2)))), (v.2.1, (v.2.2.1 ++ [v.2.1], ()))))) else some (((v.1.1, ((), ((), v.1.2.2.2))), (v.2.1, (v.2.2.1, ())))) else some (((v.1.1, ((), ((), v.1.2.2.2))), (v.2.1, (v.2.2.1, ())))) : Option (((List (Int × Int × Int × Unit)) × Unit × Unit × Bool × Int) × (Int × Int × Int × Unit) × (List (Int × Int × Int × Unit)) × Unit)).bind fun y5 => nthK y5.1.1 y5.1.2.2.2.2 fun e6 => bif !(eqE kKey e6 y5.2.1) then nthK y5.1.1 y5.1.2.2.2.2 fun e7 => room (y5.2.2.1.length + [e7].length) (some (Sum.inl ((y5.1.1, ((), ((), (y5.1.2.2.2.1, IntKind.i64.wrap (y5.1.2.2.2.2 + 1))))), (y5.2.1, (y5.2.2.1 ++ [e7], ()))))) else some (Sum.inl ((y5.1.1, ((), ((), (y5.1.2.2.2.1, IntKind.i64.wrap (y5.1.2.2.2.2 + 1))))), (y5.2.1, (y5.2.2.1, ())))) else some (Sum.inr (((), ((), v.1.2.2.2.1)), (v.2.1, (v.2.2.1, ()))))
def pledgeref04_With (x0 : List (Int × Int × Int × Unit)) (x1 : Int × Int × Int × Unit) : Option (List (Int × Int × Int × Unit)) :=
  (iterL pledgeref04_With.l1 loopN ((x0, ((), ((), (false, 0)))), (x1, ([], ())))).bind fun y8 => bif !y8.1.2.2 then room (y8.2.2.1.length + [y8.2.1].length) (some (y8.2.2.1 ++ [y8.2.1])) else some y8.2.2.1
def pledgeref04_With.C : Ctx := { ty := tyT, sigs := fun i => bif Nat.beq i 51 then [pledgeref04_Less.sig] else [], n := 49, mp := mpT }
def pledgeref04_With.Q : Cuts := { np := 0, loops := fun i => bif Nat.beq i 4 then some ({ env := [(0, .val (.slice kKey)), (3, .ptr 0), (5, .row 1), (6, .val .bool), (7, .val (.int .i64))], objs := [.cell kKey (.val kKey), .row kKey false] }, [(.exit 0, { env := [(3, .ptr 0), (5, .row 1), (6, .val .bool)], objs := [.cell kKey (.val kKey), .row kKey false] })]) else none, seqs := fun i => bif Nat.beq i 9 then some [(.normal, { env := [(0, .val (.slice kKey)), (3, .ptr 0), (5, .row 1), (6, .val .bool), (7, .val (.int .i64))], objs := [.cell kKey (.val kKey), .row kKey false] })] else none, splits := fun i => none }
def pledgeref04_With.sig : Sig := { args := .tc (.val (.slice kKey)) (.tc (.val kKey) .tn), objs := [], ret := .val (.slice kKey), outs := [], F := fun x => pledgeref04_With x.1.1 x.1.2.1 }
theorem pledgeref04_With.eq : (fun x => body pledgeref04_With.C pledgeref04_With.Q Go.Proofs.Try.f36 pledgeref04_With.sig.args pledgeref04_With.sig.objs pledgeref04_With.sig.ret pledgeref04_With.sig.outs x) = pledgeref04_With.sig.F := by
  kernel_rfl
set_option maxRecDepth 100000 in
theorem pledgeref04_With.ctx : CtxOk Go.Proofs.Try.prog pledgeref04_With.C := ⟨tyOk, mpOk, Nat.le_of_ble_eq_true (by kernel_rfl), fun f sg => fun h => sigs_if h (allS_cons pledgeref04_Less.ok allS_nil) ((fun h => by cases h))⟩
set_option maxRecDepth 100000 in
theorem pledgeref04_With.ok : Sound Go.Proofs.Try.prog 36 pledgeref04_With.sig := body_sound (C := pledgeref04_With.C) (q := pledgeref04_With.Q) (fn := Go.Proofs.Try.f36) (sg := pledgeref04_With.sig) (n := 2) pledgeref04_With.ctx follows Go.Proofs.Try.func36 (by kernel_rfl) (by kernel_rfl) (by kernel_rfl) (by kernel_rfl) (Nat.le_of_ble_eq_true (by kernel_rfl)) (by kernel_rfl) pledgeref04_With.eq

def pledgeref11_Deltas.l1 (v : ((List ((Int × Int × Int × Unit) × Int × Unit)) × Int × Unit × Unit × Int) × (Int × Int × Int × Unit) × List Int × Unit) : Option ((((List ((Int × Int × Int × Unit) × Int × Unit)) × Int × Unit × Unit × Int) × (Int × Int × Int × Unit) × List Int × Unit) ⊕ (Unit × List Int × Unit)) :=
  bif decide (v.1.2.2.2.2 < (v.1.1.length : Int)) then nthK v.1.1 v.1.2.2.2.2 fun e6 => (nthK v.1.1 v.1.2.2.2.2 fun e7 => bif eqE kKey e7.1 v.2.1 then bif (v.1.2.1 : Int) == 0 then some (((v.1.1, (v.1.2.1, ((), ((), (v.1.2.2.2.2, (e6.2.1, true)))))), (v.2.1, (v.2.2.1, ())))) else bif decide (v.1.2.1 < 0) then bif decide (e6.2.1 < 0) then some (((v.1.1, (v.1.2.1, ((), ((), (v.1.2.2.2.2, (e6.2.1, true)))))), (v.2.1, (v.2.2.1, ())))) else bif decide (v.1.2.1 > 0) then some (((v.1.1, (v.1.2.1, ((), ((), (v.1.2.2.2.2, (e6.2.1, decide (e6.2.1 > 0))))))), (v.2.1, (v.2.2.1, ())))) else some (((v.1.1, (v.1.2.1, ((), ((), (v.1.2.2.2.2, (e6.2.1, false)))))), (v.2.1, (v.2.2.1, ())))) else bif decide (v.1.2.1 > 0) then some (((v.1.1, (v.1.2.1, ((), ((), (v.1.2.2.2.2, (e6.2.1, decide (e6.2.1 > 0))))))), (v.2.1, (v.2.2.1, ())))) else some (((v.1.1, (v.1.2.1, ((), ((), (v.1.2.2.2.2, (e6.2.1, false)))))), (v.2.1, (v.2.2.1, ())))) else some (((v.1.1, (v.1.2.1, ((), ((), (v.1.2.2.2.2, (e6.2.1, false)))))), (v.2.1, (v.2.2.1, ())))) : Option (((List ((Int × Int × Int × Unit) × Int × Unit)) × Int × Unit × Unit × Int × Int × Bool) × (Int × Int × Int × Unit) × List Int × Unit)).bind fun y8 => bif y8.1.2.2.2.2.2.2 then room (y8.2.2.1.length + [y8.1.2.2.2.2.2.1].length) (some (Sum.inl ((y8.1.1, (y8.1.2.1, ((), ((), IntKind.i64.wrap (y8.1.2.2.2.2.1 + 1))))), (y8.2.1, (y8.2.2.1 ++ [y8.1.2.2.2.2.2.1], ()))))) else some (Sum.inl ((y8.1.1, (y8.1.2.1, ((), ((), IntKind.i64.wrap (y8.1.2.2.2.2.1 + 1))))), (y8.2.1, (y8.2.2.1, ())))) else some (Sum.inr ((), (v.2.2.1, ())))
def pledgeref11_Deltas (x0 : List ((Int × Int × Int × Unit) × Int × Unit)) (x1 : Int × Int × Int × Unit) (x2 : Int) : Option (List Int) :=
  (iterL pledgeref11_Deltas.l1 loopN ((x0, (x2, ((), ((), 0)))), (x1, ([], ())))).bind fun y9 => some y9.2.1
def pledgeref11_Deltas.C : Ctx := { ty := tyT, sigs := fun i => [], n := 53, mp := mpT }
def pledgeref11_Deltas.Q : Cuts := { np := 0, loops := fun i => bif Nat.beq i 3 then some ({ env := [(0, .val (.slice kOp)), (2, .val (.int .i64)), (4, .ptr 0), (7, .row 1), (8, .val (.int .i64))], objs := [.cell kKey (.val kKey), .row (.int .i64) false] }, [(.exit 0, { env := [(7, .row 0)], objs := [.row (.int .i64) false] })]) else none, seqs := fun i => bif Nat.beq i 7 then some [(.normal, { env := [(0, .val (.slice kOp)), (2, .val (.int .i64)), (4, .ptr 0), (7, .row 1), (8, .val (.int .i64)), (9, .val (.int .i64)), (47, .val .bool)], objs := [.cell kKey (.val kKey), .row (.int .i64) false] })] else none, splits := fun i => none }
def pledgeref11_Deltas.sig : Sig := { args := .tc (.val (.slice kOp)) (.tc (.val kKey) (.tc (.val (.int .i64)) .tn)), objs := [], ret := .val (.slice (.int .i64)), outs := [], F := fun x => pledgeref11_Deltas x.1.1 x.1.2.1 x.1.2.2.1 }
theorem pledgeref11_Deltas.eq : (fun x => body pledgeref11_Deltas.C pledgeref11_Deltas.Q Go.Proofs.Try.f14 pledgeref11_Deltas.sig.args pledgeref11_Deltas.sig.objs pledgeref11_Deltas.sig.ret pledgeref11_Deltas.sig.outs x) = pledgeref11_Deltas.sig.F := by
  kernel_rfl
set_option maxRecDepth 100000 in
theorem pledgeref11_Deltas.ctx : CtxOk Go.Proofs.Try.prog pledgeref11_Deltas.C := ⟨tyOk, mpOk, Nat.le_of_ble_eq_true (by kernel_rfl), fun f sg => (fun h => by cases h)⟩
set_option maxRecDepth 100000 in
theorem pledgeref11_Deltas.ok : Sound Go.Proofs.Try.prog 14 pledgeref11_Deltas.sig := body_sound (C := pledgeref11_Deltas.C) (q := pledgeref11_Deltas.Q) (fn := Go.Proofs.Try.f14) (sg := pledgeref11_Deltas.sig) (n := 3) pledgeref11_Deltas.ctx follows Go.Proofs.Try.func14 (by kernel_rfl) (by kernel_rfl) (by kernel_rfl) (by kernel_rfl) (Nat.le_of_ble_eq_true (by kernel_rfl)) (by kernel_rfl) pledgeref11_Deltas.eq

def pledgeref01_halves_v2 (x0 : Int) : Option (Int × Int × Unit) :=
  bif decide (x0 < 0) then none else some (IntKind.i64.wrap (Int.tdiv x0 4294967296), (Int.tmod x0 4294967296, ()))
def pledgeref01_halves_v2.C : Ctx := { ty := tyT, sigs := fun i => [], n := 22, mp := mpT }
def pledgeref01_halves_v2.Q : Cuts := { np := 0, loops := fun i => none, seqs := fun i => none, splits := fun i => none }
def pledgeref01_halves_v2.sig : Sig := { args := .tc (.val (.int .i64)) .tn, objs := [], ret := .val kwide, outs := [], F := fun x => pledgeref01_halves_v2 x.1.1 }
theorem pledgeref01_halves_v2.eq : (fun x => body pledgeref01_halves_v2.C pledgeref01_halves_v2.Q Go.Proofs.Try.f33 pledgeref01_halves_v2.sig.args pledgeref01_halves_v2.sig.objs pledgeref01_halves_v2.sig.ret pledgeref01_halves_v2.sig.outs x) = pledgeref01_halves_v2.sig.F := by
  kernel_rfl
set_option maxRecDepth 100000 in
theorem pledgeref01_halves_v2.ctx : CtxOk Go.Proofs.Try.prog pledgeref01_halves_v2.C := ⟨tyOk, mpOk, Nat.le_of_ble_eq_true (by kernel_rfl), fun f sg => (fun h => by cases h)⟩
set_option maxRecDepth 100000 in
theorem pledgeref01_halves_v2.ok : Sound Go.Proofs.Try.prog 33 pledgeref01_halves_v2.sig := body_sound (C := pledgeref01_halves_v2.C) (q := pledgeref01_halves_v2.Q) (fn := Go.Proofs.Try.f33) (sg := pledgeref01_halves_v2.sig) (n := 1) pledgeref01_halves_v2.ctx follows Go.Proofs.Try.func33 (by kernel_rfl) (by kernel_rfl) (by kernel_rfl) (by kernel_rfl) (Nat.le_of_ble_eq_true (by kernel_rfl)) (by kernel_rfl) pledgeref01_halves_v2.eq

def pledgeref01_halves (x0 : Int) : Option (Int × Int × Unit) :=
  bif decide (x0 < 0) then (pledgeref01_halves_v2 (IntKind.i64.wrap (0 - (IntKind.i64.wrap (x0 + 1))))).bind fun r12 => some (IntKind.i64.wrap ((-1) - r12.1), (IntKind.i64.wrap (4294967295 - r12.2.1), ())) else some (IntKind.i64.wrap (Int.tdiv x0 4294967296), (Int.tmod x0 4294967296, ()))
def pledgeref01_halves.C : Ctx := { ty := tyT, sigs := fun i => bif Nat.beq i 33 then [pledgeref01_halves_v2.sig] else [], n := 22, mp := mpT }
def pledgeref01_halves.Q : Cuts := { np := 0, loops := fun i => none, seqs := fun i => none, splits := fun i => none }
def pledgeref01_halves.sig : Sig := { args := .tc (.val (.int .i64)) .tn, objs := [], ret := .val kwide, outs := [], F := fun x => pledgeref01_halves x.1.1 }
theorem pledgeref01_halves.eq : (fun x => body pledgeref01_halves.C pledgeref01_halves.Q Go.Proofs.Try.f33 pledgeref01_halves.sig.args pledgeref01_halves.sig.objs pledgeref01_halves.sig.ret pledgeref01_halves.sig.outs x) = pledgeref01_halves.sig.F := by
  kernel_rfl
set_option maxRecDepth 100000 in
theorem pledgeref01_halves.ctx : CtxOk Go.Proofs.Try.prog pledgeref01_halves.C := ⟨tyOk, mpOk, Nat.le_of_ble_eq_true (by kernel_rfl), fun f sg => fun h => sigs_if h (allS_cons pledgeref01_halves_v2.ok allS_nil) ((fun h => by cases h))⟩
set_option maxRecDepth 100000 in
theorem pledgeref01_halves.ok : Sound Go.Proofs.Try.prog 33 pledgeref01_halves.sig := body_sound (C := pledgeref01_halves.C) (q := pledgeref01_halves.Q) (fn := Go.Proofs.Try.f33) (sg := pledgeref01_halves.sig) (n := 1) pledgeref01_halves.ctx follows Go.Proofs.Try.func33 (by kernel_rfl) (by kernel_rfl) (by kernel_rfl) (by kernel_rfl) (Nat.le_of_ble_eq_true (by kernel_rfl)) (by kernel_rfl) pledgeref01_halves.eq

def pledgeref01_Sum.l1 (v : (List Int × Unit × Int) × (Int × Int × Unit) × Unit) : Option (((List Int × Unit × Int) × (Int × Int × Unit) × Unit) ⊕ (Unit × (Int × Int × Unit) × Unit)) :=
  bif decide (v.1.2.2 < (v.1.1.length : Int)) then nthK v.1.1 v.1.2.2 fun e11 => (pledgeref01_halves e11).bind fun r12 => bif decide ((IntKind.i64.wrap (v.2.1.2.1 + r12.2.1)) ≥ 4294967296) then some (Sum.inl ((v.1.1, ((), IntKind.i64.wrap (v.1.2.2 + 1))), ((IntKind.i64.wrap ((IntKind.i64.wrap (v.2.1.1 + r12.1)) + 1), (IntKind.i64.wrap ((IntKind.i64.wrap (v.2.1.2.1 + r12.2.1)) - 4294967296), v.2.1.2.2)), ()))) else some (Sum.inl ((v.1.1, ((), IntKind.i64.wrap (v.1.2.2 + 1))), ((IntKind.i64.wrap (v.2.1.1 + r12.1), (IntKind.i64.wrap (v.2.1.2.1 + r12.2.1), v.2.1.2.2)), ()))) else some (Sum.inr ((), (v.2.1, ())))
def pledgeref01_Sum (x0 : List Int) : Option (Int × Bool × Unit) :=
  (iterL pledgeref01_Sum.l1 loopN ((x0, ((), 0)), ((0, (0, ())), ()))).bind fun y13 => bif decide (y13.2.1.1 < (-2147483648)) then some (0, (false, ())) else bif decide (y13.2.1.1 > 2147483647) then some (0, (false, ())) else some (IntKind.i64.wrap ((IntKind.i64.wrap (y13.2.1.1 * 4294967296)) + y13.2.1.2.1), (true, ()))
def pledgeref01_Sum.C : Ctx := { ty := tyT, sigs := fun i => bif Nat.beq i 33 then [pledgeref01_halves.sig] else [], n := 56, mp := mpT }
def pledgeref01_Sum.Q : Cuts := { np := 0, loops := fun i => bif Nat.beq i 3 then some ({ env := [(0, .val (.slice (.int .i64))), (4, .ptr 0), (5, .val (.int .i64))], objs := [.cell kwide (.val kwide)] }, [(.exit 0, { env := [(4, .ptr 0)], objs := [.cell kwide (.val kwide)] })]) else none, seqs := fun i => none, splits := fun i => none }
def pledgeref01_Sum.sig : Sig := { args := .tc (.val (.slice (.int .i64))) .tn, objs := [], ret := .tup (.tc (.val (.int .i64)) (.tc (.val .bool) .tn)), outs := [], F := fun x => pledgeref01_Sum x.1.1 }
theorem pledgeref01_Sum.eq : (fun x => body pledgeref01_Sum.C pledgeref01_Sum.Q Go.Proofs.Try.f13 pledgeref01_Sum.sig.args pledgeref01_Sum.sig.objs pledgeref01_Sum.sig.ret pledgeref01_Sum.sig.outs x) = pledgeref01_Sum.sig.F := by
  kernel_rfl
set_option maxRecDepth 100000 in
theorem pledgeref01_Sum.ctx : CtxOk Go.Proofs.Try.prog pledgeref01_Sum.C := ⟨tyOk, mpOk, Nat.le_of_ble_eq_true (by kernel_rfl), fun f sg => fun h => sigs_if h (allS_cons pledgeref01_halves.ok allS_nil) ((fun h => by cases h))⟩
set_option maxRecDepth 100000 in
theorem pledgeref01_Sum.ok : Sound Go.Proofs.Try.prog 13 pledgeref01_Sum.sig := body_sound (C := pledgeref01_Sum.C) (q := pledgeref01_Sum.Q) (fn := Go.Proofs.Try.f13) (sg := pledgeref01_Sum.sig) (n := 1) pledgeref01_Sum.ctx follows Go.Proofs.Try.func13 (by kernel_rfl) (by kernel_rfl) (by kernel_rfl) (by kernel_rfl) (Nat.le_of_ble_eq_true (by kernel_rfl)) (by kernel_rfl) pledgeref01_Sum.eq

def pledgeref11_Net.l1 (v : (List ((Int × Int × Int × Unit) × Int × Unit)) × (List (Int × Int × Int × Unit)) × Int) : Option (((List ((Int × Int × Int × Unit) × Int × Unit)) × (List (Int × Int × Int × Unit)) × Int) ⊕ ((List ((Int × Int × Int × Unit) × Int × Unit)) × List (Int × Int × Int × Unit))) :=
  bif decide (v.2.2 < (v.1.length : Int)) then nthK v.1 v.2.2 fun e2 => (pledgeref04_With v.2.1 e2.1).bind fun r3 => some (Sum.inl (v.1, (r3, IntKind.i64.wrap (v.2.2 + 1)))) else some (Sum.inr (v.1, v.2.1))
def pledgeref11_Net.l2 (v : ((List ((Int × Int × Int × Unit) × Int × Unit)) × (List (Int × Int × Int × Unit)) × Unit × Int) × (List ((Int × Int × Int × Unit) × Int × Unit)) × Unit) : Option ((((List ((Int × Int × Int × Unit) × Int × Unit)) × (List (Int × Int × Int × Unit)) × Unit × Int) × (List ((Int × Int × Int × Unit) × Int × Unit)) × Unit) ⊕ ((Unit × (List ((Int × Int × Int × Unit) × Int × Unit)) × Unit) ⊕ (Unit × Bool))) :=
  bif decide (v.1.2.2.2 < (v.1.2.1.length : Int)) then nthK v.1.2.1 v.1.2.2.2 fun e5 => (pledgeref11_Deltas v.1.1 e5 0).bind fun r6 => (pledgeref01_Sum r6).bind fun r7 => bif !r7.2.1 then some (Sum.inr (Sum.inr ((), false))) else bif (r7.1 : Int) != 0 then nthK v.1.2.1 v.1.2.2.2 fun e8 => room (v.2.1.length + [(e8, (r7.1, ()))].length) (some (Sum.inl ((v.1.1, (v.1.2.1, ((), IntKind.i64.wrap (v.1.2.2.2 + 1)))), (v.2.1 ++ [(e8, (r7.1, ()))], ())))) else some (Sum.inl ((v.1.1, (v.1.2.1, ((), IntKind.i64.wrap (v.1.2.2.2 + 1)))), (v.2.1, ()))) else some (Sum.inr (Sum.inl ((), (v.2.1, ()))))
def pledgeref11_Net (x0 : List ((Int × Int × Int × Unit) × Int × Unit)) : Option ((List ((Int × Int × Int × Unit) × Int × Unit)) × Bool × Unit) :=
  (iterL pledgeref11_Net.l1 loopN (x0, ([], 0))).bind fun y4 => (iterL pledgeref11_Net.l2 loopN ((y4.1, (y4.2, ((), 0))), ([], ()))).bind fun y9 => (match y9 with | .inl y10 => some (y10.2.1, (true, ())) | .inr y11 => some ([], (y11.2, ())))
def pledgeref11_Net.C : Ctx := { ty := tyT, sigs := fun i => bif Nat.beq i 13 then [pledgeref01_Sum.sig] else bif Nat.beq i 14 then [pledgeref11_Deltas.sig] else bif Nat.beq i 36 then [pledgeref04_With.sig] else [], n := 53, mp := mpT }
def pledgeref11_Net.Q : Cuts := { np := 0, loops := fun i => bif Nat.beq i 3 then some ({ env := [(0, .val (.slice kOp)), (4, .val (.slice kKey)), (5, .val (.int .i64))], objs := [] }, [(.exit 0, { env := [(0, .val (.slice kOp)), (4, .val (.slice kKey))], objs := [] })]) else bif Nat.beq i 8 then some ({ env := [(0, .val (.slice kOp)), (4, .val (.slice kKey)), (6, .row 0), (7, .val (.int .i64))], objs := [.row kOp false] }, [(.exit 2, { env := [(6, .row 0)], objs := [.row kOp false] }), (.ret, { env := [(2, .nils kOp), (3, .val .bool)], objs := [] })]) else none, seqs := fun i => none, splits := fun i => none }
def pledgeref11_Net.sig : Sig := { args := .tc (.val (.slice kOp)) .tn, objs := [], ret := .tup (.tc (.val (.slice kOp)) (.tc (.val .bool) .tn)), outs := [], F := fun x => pledgeref11_Net x.1.1 }
theorem pledgeref11_Net.eq : (fun x => body pledgeref11_Net.C pledgeref11_Net.Q Go.Proofs.Try.f17 pledgeref11_Net.sig.args pledgeref11_Net.sig.objs pledgeref11_Net.sig.ret pledgeref11_Net.sig.outs x) = pledgeref11_Net.sig.F := by
  kernel_rfl
set_option maxRecDepth 100000 in
theorem pledgeref11_Net.ctx : CtxOk Go.Proofs.Try.prog pledgeref11_Net.C := ⟨tyOk, mpOk, Nat.le_of_ble_eq_true (by kernel_rfl), fun f sg => fun h => sigs_if h (allS_cons pledgeref01_Sum.ok allS_nil) (fun h => sigs_if h (allS_cons pledgeref11_Deltas.ok allS_nil) (fun h => sigs_if h (allS_cons pledgeref04_With.ok allS_nil) ((fun h => by cases h))))⟩
set_option maxRecDepth 100000 in
theorem pledgeref11_Net.ok : Sound Go.Proofs.Try.prog 17 pledgeref11_Net.sig := body_sound (C := pledgeref11_Net.C) (q := pledgeref11_Net.Q) (fn := Go.Proofs.Try.f17) (sg := pledgeref11_Net.sig) (n := 1) pledgeref11_Net.ctx follows Go.Proofs.Try.func17 (by kernel_rfl) (by kernel_rfl) (by kernel_rfl) (by kernel_rfl) (Nat.le_of_ble_eq_true (by kernel_rfl)) (by kernel_rfl) pledgeref11_Net.eq

def calc_Neg (x0 : Int) : Option (Int × Bool × Unit) :=
  bif (x0 : Int) == (-9223372036854775808) then some (0, (false, ())) else some (IntKind.i64.wrap (0 - x0), (true, ()))
def calc_Neg.C : Ctx := { ty := tyT, sigs := fun i => [], n := 8, mp := mpT }
def calc_Neg.Q : Cuts := { np := 0, loops := fun i => none, seqs := fun i => none, splits := fun i => none }
def calc_Neg.sig : Sig := { args := .tc (.val (.int .i64)) .tn, objs := [], ret := .tup (.tc (.val (.int .i64)) (.tc (.val .bool) .tn)), outs := [], F := fun x => calc_Neg x.1.1 }
theorem calc_Neg.eq : (fun x => body calc_Neg.C calc_Neg.Q Go.Proofs.Try.f38 calc_Neg.sig.args calc_Neg.sig.objs calc_Neg.sig.ret calc_Neg.sig.outs x) = calc_Neg.sig.F := by
  kernel_rfl
set_option maxRecDepth 100000 in
theorem calc_Neg.ctx : CtxOk Go.Proofs.Try.prog calc_Neg.C := ⟨tyOk, mpOk, Nat.le_of_ble_eq_true (by kernel_rfl), fun f sg => (fun h => by cases h)⟩
set_option maxRecDepth 100000 in
theorem calc_Neg.ok : Sound Go.Proofs.Try.prog 38 calc_Neg.sig := body_sound (C := calc_Neg.C) (q := calc_Neg.Q) (fn := Go.Proofs.Try.f38) (sg := calc_Neg.sig) (n := 1) calc_Neg.ctx follows Go.Proofs.Try.func38 (by kernel_rfl) (by kernel_rfl) (by kernel_rfl) (by kernel_rfl) (Nat.le_of_ble_eq_true (by kernel_rfl)) (by kernel_rfl) calc_Neg.eq

def op_Neg (x0 : List ((Int × Int × Int × Unit) × Int × Unit)) : Option ((Unit × Bool × Unit) × List ((Int × Int × Int × Unit) × Int × Unit) × Unit) := negF (kk := kKey) calc_Neg x0
def op_Neg.sig : Sig := { args := .tc (.val (.slice kOp)) .tn, objs := [], ret := .tup (.tc (.row 0) (.tc (.val .bool) .tn)), outs := [.row kOp false], F := fun x => op_Neg x.1.1 }
def op_Neg.C : Ctx := { ty := tyT, sigs := fun i => bif Nat.beq i 38 then [calc_Neg.sig] else [], n := 32, mp := fun _ => none }
def op_Neg.C1 : Ctx := { ty := tyT, sigs := fun _ => [], n := 4, mp := fun _ => none }
def op_Neg.C2 : Ctx := { ty := tyT, sigs := fun _ => [], n := 19, mp := fun _ => none }
set_option maxRecDepth 100000 in
theorem op_Neg.ctx : CtxOk Go.Proofs.Try.prog op_Neg.C := ⟨tyOk, (fun t k v h => by cases h), Nat.le_of_ble_eq_true (by kernel_rfl), fun f sg => fun h => sigs_if h (allS_cons calc_Neg.ok allS_nil) (fun h => by cases h)⟩
theorem op_Neg.ctxC1 : CtxOk Go.Proofs.Try.prog op_Neg.C1 := ⟨tyOk, (fun t k v h => by cases h), Nat.le_of_ble_eq_true (by kernel_rfl), fun f sg h => by cases h⟩
theorem op_Neg.ctxC2 : CtxOk Go.Proofs.Try.prog op_Neg.C2 := ⟨tyOk, (fun t k v h => by cases h), Nat.le_of_ble_eq_true (by kernel_rfl), fun f sg h => by cases h⟩
theorem op_Neg.bw : BwFacts Go.Proofs.Try.prog op_Neg.C1 37 Go.Proofs.Try.f37 52 (eOp kKey) := { hf := Go.Proofs.Try.func37, hname := by kernel_rfl, hb := by kernel_rfl, hres := by kernel_rfl, hn := by kernel_rfl, h3 := (by show 3 < 4; omega), q0 := fun xs => by kernel_rfl, q1 := fun xs => by kernel_rfl }
theorem op_Neg.bk : BackFacts Go.Proofs.Try.prog op_Neg.C2 52 Go.Proofs.Try.f52 (eOp kKey) #[3, 26] := { hf := Go.Proofs.Try.func52, hname := by kernel_rfl, hb := by kernel_rfl, hres := by kernel_rfl, hn := by kernel_rfl, h18 := (by show 18 < 19; omega), h3 := by kernel_rfl, m0 := by kernel_rfl, m0d := by kernel_rfl, m0g := by kernel_rfl, c6 := by kernel_rfl, c6d := by kernel_rfl, c6g := by kernel_rfl, k0 := by kernel_rfl, k1 := by kernel_rfl, k2 := by kernel_rfl, k3 := by kernel_rfl, k7 := by kernel_rfl, q0 := fun xs => by kernel_rfl, q1 := fun xs i => by kernel_rfl, q2 := fun xs i => by kernel_rfl, q3 := fun xs i => by kernel_rfl, q7 := fun b i => by kernel_rfl }
theorem op_Neg.ng : NegFacts Go.Proofs.Try.prog op_Neg.C 18 Go.Proofs.Try.f18 37 kKey calc_Neg #[22] := { hf := Go.Proofs.Try.func18, hname := by kernel_rfl, hb := by kernel_rfl, hn := by kernel_rfl, h32 := (by show 31 < 32; omega), h2 := by kernel_rfl, c2 := by kernel_rfl, c2d := by kernel_rfl, c2g := by kernel_rfl, q0 := fun xs => by kernel_rfl, q1 := fun xs => by kernel_rfl, q2 := fun xs => by kernel_rfl, q3 := fun acc x => by kernel_rfl, q4 := fun acc x => by kernel_rfl, q5 := fun acc x i b => by kernel_rfl, q6 := fun acc x i b => by kernel_rfl, q7 := fun acc x i b => by kernel_rfl, q8 := fun acc => by kernel_rfl, e1 := fun acc => by kernel_rfl, e0 := by kernel_rfl }
set_option maxRecDepth 100000 in
theorem op_Neg.ok : Sound Go.Proofs.Try.prog 18 op_Neg.sig := neg_sound op_Neg.ctx op_Neg.ctxC1 op_Neg.ctxC2 (by kernel_rfl) op_Neg.ng op_Neg.bw op_Neg.bk

def pledgeref01_Neg (x0 : Int) : Option (Int × Bool × Unit) :=
  bif decide (x0 < (-9223372036854775807)) then some (0, (false, ())) else some (IntKind.i64.wrap (0 - x0), (true, ()))
def pledgeref01_Neg.C : Ctx := { ty := tyT, sigs := fun i => [], n := 8, mp := mpT }
def pledgeref01_Neg.Q : Cuts := { np := 0, loops := fun i => none, seqs := fun i => none, splits := fun i => none }
def pledgeref01_Neg.sig : Sig := { args := .tc (.val (.int .i64)) .tn, objs := [], ret := .tup (.tc (.val (.int .i64)) (.tc (.val .bool) .tn)), outs := [], F := fun x => pledgeref01_Neg x.1.1 }
theorem pledgeref01_Neg.eq : (fun x => body pledgeref01_Neg.C pledgeref01_Neg.Q Go.Proofs.Try.f39 pledgeref01_Neg.sig.args pledgeref01_Neg.sig.objs pledgeref01_Neg.sig.ret pledgeref01_Neg.sig.outs x) = pledgeref01_Neg.sig.F := by
  kernel_rfl
set_option maxRecDepth 100000 in
theorem pledgeref01_Neg.ctx : CtxOk Go.Proofs.Try.prog pledgeref01_Neg.C := ⟨tyOk, mpOk, Nat.le_of_ble_eq_true (by kernel_rfl), fun f sg => (fun h => by cases h)⟩
set_option maxRecDepth 100000 in
theorem pledgeref01_Neg.ok : Sound Go.Proofs.Try.prog 39 pledgeref01_Neg.sig := body_sound (C := pledgeref01_Neg.C) (q := pledgeref01_Neg.Q) (fn := Go.Proofs.Try.f39) (sg := pledgeref01_Neg.sig) (n := 1) pledgeref01_Neg.ctx follows Go.Proofs.Try.func39 (by kernel_rfl) (by kernel_rfl) (by kernel_rfl) (by kernel_rfl) (Nat.le_of_ble_eq_true (by kernel_rfl)) (by kernel_rfl) pledgeref01_Neg.eq

def pledgeref11_Neg.l1 (v : ((List ((Int × Int × Int × Unit) × Int × Unit)) × Unit × Int) × (List ((Int × Int × Int × Unit) × Int × Unit)) × Unit) : Option ((((List ((Int × Int × Int × Unit) × Int × Unit)) × Unit × Int) × (List ((Int × Int × Int × Unit) × Int × Unit)) × Unit) ⊕ ((Unit × (List ((Int × Int × Int × Unit) × Int × Unit)) × Unit) ⊕ (Unit × Bool))) :=
  bif decide (v.1.2.2 ≥ 0) then nthK v.1.1 v.1.2.2 fun e4 => (pledgeref01_Neg e4.2.1).bind fun r5 => bif !r5.2.1 then some (Sum.inr (Sum.inr ((), false))) else nthK v.1.1 v.1.2.2 fun e6 => room (v.2.1.length + [(e6.1, (r5.1, ()))].length) (some (Sum.inl ((v.1.1, ((), IntKind.i64.wrap (v.1.2.2 - 1))), (v.2.1 ++ [(e6.1, (r5.1, ()))], ())))) else some (Sum.inr (Sum.inl ((), (v.2.1, ()))))
def pledgeref11_Neg (x0 : List ((Int × Int × Int × Unit) × Int × Unit)) : Option ((List ((Int × Int × Int × Unit) × Int × Unit)) × Bool × Unit) :=
  (iterL pledgeref11_Neg.l1 loopN ((x0, ((), IntKind.i64.wrap ((x0.length : Int) - 1))), ([], ()))).bind fun y7 => (match y7 with | .inl y8 => some (y8.2.1, (true, ())) | .inr y9 => some ([], (y9.2, ())))
def pledgeref11_Neg.C : Ctx := { ty := tyT, sigs := fun i => bif Nat.beq i 39 then [pledgeref01_Neg.sig] else [], n := 37, mp := mpT }
def pledgeref11_Neg.Q : Cuts := { np := 0, loops := fun i => bif Nat.beq i 3 then some ({ env := [(0, .val (.slice kOp)), (4, .row 0), (5, .val (.int .i64))], objs := [.row kOp false] }, [(.exit 0, { env := [(4, .row 0)], objs := [.row kOp false] }), (.ret, { env := [(2, .nils kOp), (3, .val .bool)], objs := [] })]) else none, seqs := fun i => none, splits := fun i => none }
def pledgeref11_Neg.sig : Sig := { args := .tc (.val (.slice kOp)) .tn, objs := [], ret := .tup (.tc (.val (.slice kOp)) (.tc (.val .bool) .tn)), outs := [], F := fun x => pledgeref11_Neg x.1.1 }
theorem pledgeref11_Neg.eq : (fun x => body pledgeref11_Neg.C pledgeref11_Neg.Q Go.Proofs.Try.f19 pledgeref11_Neg.sig.args pledgeref11_Neg.sig.objs pledgeref11_Neg.sig.ret pledgeref11_Neg.sig.outs x) = pledgeref11_Neg.sig.F := by
  kernel_rfl
set_option maxRecDepth 100000 in
theorem pledgeref11_Neg.ctx : CtxOk Go.Proofs.Try.prog pledgeref11_Neg.C := ⟨tyOk, mpOk, Nat.le_of_ble_eq_true (by kernel_rfl), fun f sg => fun h => sigs_if h (allS_cons pledgeref01_Neg.ok allS_nil) ((fun h => by cases h))⟩
set_option maxRecDepth 100000 in
theorem pledgeref11_Neg.ok : Sound Go.Proofs.Try.prog 19 pledgeref11_Neg.sig := body_sound (C := pledgeref11_Neg.C) (q := pledgeref11_Neg.Q) (fn := Go.Proofs.Try.f19) (sg := pledgeref11_Neg.sig) (n := 1) pledgeref11_Neg.ctx follows Go.Proofs.Try.func19 (by kernel_rfl) (by kernel_rfl) (by kernel_rfl) (by kernel_rfl) (Nat.le_of_ble_eq_true (by kernel_rfl)) (by kernel_rfl) pledgeref11_Neg.eq

def pledgeref11_Same.l1 (v : (List ((Int × Int × Int × Unit) × Int × Unit)) × (List ((Int × Int × Int × Unit) × Int × Unit)) × Int) : Option (((List ((Int × Int × Int × Unit) × Int × Unit)) × (List ((Int × Int × Int × Unit) × Int × Unit)) × Int) ⊕ (Unit ⊕ Bool)) :=
  bif decide (v.2.2 < (v.1.length : Int)) then nthK v.1 v.2.2 fun e5 => nthK v.2.1 v.2.2 fun e6 => bif !(eqE kOp e5 e6) then some (Sum.inr (Sum.inr false)) else some (Sum.inl (v.1, (v.2.1, IntKind.i64.wrap (v.2.2 + 1)))) else some (Sum.inr (Sum.inl ()))
def pledgeref11_Same (x0 : List ((Int × Int × Int × Unit) × Int × Unit)) (x1 : List ((Int × Int × Int × Unit) × Int × Unit)) : Option Bool :=
  bif ((x0.length : Int) : Int) != (x1.length : Int) then some false else (iterL pledgeref11_Same.l1 loopN (x0, (x1, 0))).bind fun y7 => (match y7 with | .inl y8 => some true | .inr y9 => some y9)
def pledgeref11_Same.C : Ctx := { ty := tyT, sigs := fun i => [], n := 26, mp := mpT }
def pledgeref11_Same.Q : Cuts := { np := 0, loops := fun i => bif Nat.beq i 4 then some ({ env := [(0, .val (.slice kOp)), (1, .val (.slice kOp)), (5, .val (.int .i64))], objs := [] }, [(.exit 0, { env := [], objs := [] }), (.ret, { env := [(4, .val .bool)], objs := [] })]) else none, seqs := fun i => none, splits := fun i => none }
def pledgeref11_Same.sig : Sig := { args := .tc (.val (.slice kOp)) (.tc (.val (.slice kOp)) .tn), objs := [], ret := .val .bool, outs := [], F := fun x => pledgeref11_Same x.1.1 x.1.2.1 }
theorem pledgeref11_Same.eq : (fun x => body pledgeref11_Same.C pledgeref11_Same.Q Go.Proofs.Try.f10 pledgeref11_Same.sig.args pledgeref11_Same.sig.objs pledgeref11_Same.sig.ret pledgeref11_Same.sig.outs x) = pledgeref11_Same.sig.F := by
  kernel_rfl
set_option maxRecDepth 100000 in
theorem pledgeref11_Same.ctx : CtxOk Go.Proofs.Try.prog pledgeref11_Same.C := ⟨tyOk, mpOk, Nat.le_of_ble_eq_true (by kernel_rfl), fun f sg => (fun h => by cases h)⟩
set_option maxRecDepth 100000 in
theorem pledgeref11_Same.ok : Sound Go.Proofs.Try.prog 10 pledgeref11_Same.sig := body_sound (C := pledgeref11_Same.C) (q := pledgeref11_Same.Q) (fn := Go.Proofs.Try.f10) (sg := pledgeref11_Same.sig) (n := 2) pledgeref11_Same.ctx follows Go.Proofs.Try.func10 (by kernel_rfl) (by kernel_rfl) (by kernel_rfl) (by kernel_rfl) (Nat.le_of_ble_eq_true (by kernel_rfl)) (by kernel_rfl) pledgeref11_Same.eq

def slices_Equal_api_Op_api_Op.l1 (v : (List ((Int × Int × Int × Unit) × Int × Unit)) × (List ((Int × Int × Int × Unit) × Int × Unit)) × Int × Int) : Option (((List ((Int × Int × Int × Unit) × Int × Unit)) × (List ((Int × Int × Int × Unit) × Int × Unit)) × Int × Int) ⊕ (Unit ⊕ Bool)) :=
  bif decide (v.2.2.2 < v.2.2.1) then nthK v.1 v.2.2.2 fun e14 => nthK v.2.1 v.2.2.2 fun e15 => bif !(eqE kOp e14 e15) then some (Sum.inr (Sum.inr false)) else some (Sum.inl (v.1, (v.2.1, (v.2.2.1, IntKind.i64.wrap (v.2.2.2 + 1))))) else some (Sum.inr (Sum.inl ()))
def slices_Equal_api_Op_api_Op (x0 : List ((Int × Int × Int × Unit) × Int × Unit)) (x1 : List ((Int × Int × Int × Unit) × Int × Unit)) : Option Bool :=
  bif ((x0.length : Int) : Int) != (x1.length : Int) then some false else (iterL slices_Equal_api_Op_api_Op.l1 loopN (x0, (x1, ((x0.length : Int), 0)))).bind fun y16 => (match y16 with | .inl y17 => some true | .inr y18 => some y18)
def slices_Equal_api_Op_api_Op.C : Ctx := { ty := tyT, sigs := fun i => [], n := 26, mp := mpT }
def slices_Equal_api_Op_api_Op.Q : Cuts := { np := 0, loops := fun i => bif Nat.beq i 4 then some ({ env := [(0, .val (.slice kOp)), (1, .val (.slice kOp)), (12, .val (.int .i64)), (13, .val (.int .i64))], objs := [] }, [(.exit 0, { env := [], objs := [] }), (.ret, { env := [(4, .val .bool)], objs := [] })]) else none, seqs := fun i => none, splits := fun i => none }
def slices_Equal_api_Op_api_Op.sig : Sig := { args := .tc (.val (.slice kOp)) (.tc (.val (.slice kOp)) .tn), objs := [], ret := .val .bool, outs := [], F := fun x => slices_Equal_api_Op_api_Op x.1.1 x.1.2.1 }
theorem slices_Equal_api_Op_api_Op.eq : (fun x => body slices_Equal_api_Op_api_Op.C slices_Equal_api_Op_api_Op.Q Go.Proofs.Try.f35 slices_Equal_api_Op_api_Op.sig.args slices_Equal_api_Op_api_Op.sig.objs slices_Equal_api_Op_api_Op.sig.ret slices_Equal_api_Op_api_Op.sig.outs x) = slices_Equal_api_Op_api_Op.sig.F := by
  kernel_rfl
set_option maxRecDepth 100000 in
theorem slices_Equal_api_Op_api_Op.ctx : CtxOk Go.Proofs.Try.prog slices_Equal_api_Op_api_Op.C := ⟨tyOk, mpOk, Nat.le_of_ble_eq_true (by kernel_rfl), fun f sg => (fun h => by cases h)⟩
set_option maxRecDepth 100000 in
theorem slices_Equal_api_Op_api_Op.ok : Sound Go.Proofs.Try.prog 35 slices_Equal_api_Op_api_Op.sig := body_sound (C := slices_Equal_api_Op_api_Op.C) (q := slices_Equal_api_Op_api_Op.Q) (fn := Go.Proofs.Try.f35) (sg := slices_Equal_api_Op_api_Op.sig) (n := 2) slices_Equal_api_Op_api_Op.ctx follows Go.Proofs.Try.func35 (by kernel_rfl) (by kernel_rfl) (by kernel_rfl) (by kernel_rfl) (Nat.le_of_ble_eq_true (by kernel_rfl)) (by kernel_rfl) slices_Equal_api_Op_api_Op.eq

def op_Same (x0 : List ((Int × Int × Int × Unit) × Int × Unit)) (x1 : List ((Int × Int × Int × Unit) × Int × Unit)) : Option Bool :=
  (slices_Equal_api_Op_api_Op x0 x1).bind fun r14 => some r14
def op_Same.C : Ctx := { ty := tyT, sigs := fun i => bif Nat.beq i 35 then [slices_Equal_api_Op_api_Op.sig] else [], n := 8, mp := mpT }
def op_Same.Q : Cuts := { np := 0, loops := fun i => none, seqs := fun i => none, splits := fun i => none }
def op_Same.sig : Sig := { args := .tc (.val (.slice kOp)) (.tc (.val (.slice kOp)) .tn), objs := [], ret := .val .bool, outs := [], F := fun x => op_Same x.1.1 x.1.2.1 }
theorem op_Same.eq : (fun x => body op_Same.C op_Same.Q Go.Proofs.Try.f16 op_Same.sig.args op_Same.sig.objs op_Same.sig.ret op_Same.sig.outs x) = op_Same.sig.F := by
  kernel_rfl
set_option maxRecDepth 100000 in
theorem op_Same.ctx : CtxOk Go.Proofs.Try.prog op_Same.C := ⟨tyOk, mpOk, Nat.le_of_ble_eq_true (by kernel_rfl), fun f sg => fun h => sigs_if h (allS_cons slices_Equal_api_Op_api_Op.ok allS_nil) ((fun h => by cases h))⟩
set_option maxRecDepth 100000 in
theorem op_Same.ok : Sound Go.Proofs.Try.prog 16 op_Same.sig := body_sound (C := op_Same.C) (q := op_Same.Q) (fn := Go.Proofs.Try.f16) (sg := op_Same.sig) (n := 2) op_Same.ctx follows Go.Proofs.Try.func16 (by kernel_rfl) (by kernel_rfl) (by kernel_rfl) (by kernel_rfl) (Nat.le_of_ble_eq_true (by kernel_rfl)) (by kernel_rfl) op_Same.eq

def pledgelaw11_works  : Option Bool :=
  (op_Net [((4, (0, (0, ()))), (5, ())), ((1, (0, (0, ()))), ((-2), ())), ((4, (0, (0, ()))), ((-5), ()))]).bind fun r12 => bif r12.2.1 then bif ((r12.1.length : Int) : Int) == 1 then nthK r12.1 0 fun e13 => bif eqE kOp e13 ((1, (0, (0, ()))), ((-2), ())) then (op_Same r12.1 r12.1).bind fun r14 => some r14 else some false else some false else some false
def pledgelaw11_works.C : Ctx := { ty := tyT, sigs := fun i => bif Nat.beq i 9 then [op_Net.sig] else bif Nat.beq i 16 then [op_Same.sig] else [], n := 37, mp := mpT }
def pledgelaw11_works.Q : Cuts := { np := 0, loops := fun i => none, seqs := fun i => none, splits := fun i => none }
def pledgelaw11_works.sig : Sig := { args := .tn, objs := [], ret := .val .bool, outs := [], F := fun x => pledgelaw11_works }
theorem pledgelaw11_works.eq : (fun x => body pledgelaw11_works.C pledgelaw11_works.Q Go.Proofs.Try.f11 pledgelaw11_works.sig.args pledgelaw11_works.sig.objs pledgelaw11_works.sig.ret pledgelaw11_works.sig.outs x) = pledgelaw11_works.sig.F := by
  kernel_rfl
set_option maxRecDepth 100000 in
theorem pledgelaw11_works.ctx : CtxOk Go.Proofs.Try.prog pledgelaw11_works.C := ⟨tyOk, mpOk, Nat.le_of_ble_eq_true (by kernel_rfl), fun f sg => fun h => sigs_if h (allS_cons op_Net.ok allS_nil) (fun h => sigs_if h (allS_cons op_Same.ok allS_nil) ((fun h => by cases h)))⟩
set_option maxRecDepth 100000 in
theorem pledgelaw11_works.ok : Sound Go.Proofs.Try.prog 11 pledgelaw11_works.sig := body_sound (C := pledgelaw11_works.C) (q := pledgelaw11_works.Q) (fn := Go.Proofs.Try.f11) (sg := pledgelaw11_works.sig) (n := 0) pledgelaw11_works.ctx follows Go.Proofs.Try.func11 (by kernel_rfl) (by kernel_rfl) (by kernel_rfl) (by kernel_rfl) (Nat.le_of_ble_eq_true (by kernel_rfl)) (by kernel_rfl) pledgelaw11_works.eq

def pledgelaw11_OpNets (x0 : List ((Int × Int × Int × Unit) × Int × Unit)) : Option Bool :=
  chk (decide (0 ≤ (if 60 < (x0.length : Int) then 60 else (x0.length : Int))) && decide ((if 60 < (x0.length : Int) then 60 else (x0.length : Int)) ≤ (x0.length : Int))) ((op_Net ((x0.take (if 60 < (x0.length : Int) then 60 else (x0.length : Int) : Int).toNat).drop 0)).bind fun r1 => (pledgeref11_Net ((x0.take (if 60 < (x0.length : Int) then 60 else (x0.length : Int) : Int).toNat).drop 0)).bind fun r2 => (op_Neg ((x0.take (if 60 < (x0.length : Int) then 60 else (x0.length : Int) : Int).toNat).drop 0)).bind fun r3 => (pledgeref11_Neg ((x0.take (if 60 < (x0.length : Int) then 60 else (x0.length : Int) : Int).toNat).drop 0)).bind fun r4 => (pledgeref11_Same r1.1 r2.1).bind fun r5 => bif r5 then bif r1.2.1 == r2.2.1 then (pledgeref11_Same r3.2.1 r4.1).bind fun r6 => bif r6 then bif r3.1.2.1 == r4.2.1 then pledgelaw11_works.bind fun r7 => some r7 else some false else some false else some false else some false)
def pledgelaw11_OpNets.C : Ctx := { ty := tyT, sigs := fun i => bif Nat.beq i 9 then [op_Net.sig] else bif Nat.beq i 10 then [pledgeref11_Same.sig] else bif Nat.beq i 11 then [pledgelaw11_works.sig] else bif Nat.beq i 17 then [pledgeref11_Net.sig] else bif Nat.beq i 18 then [op_Neg.sig] else bif Nat.beq i 19 then [pledgeref11_Neg.sig] else [], n := 57, mp := mpT }
def pledgelaw11_OpNets.Q : Cuts := { np := 0, loops := fun i => none, seqs := fun i => none, splits := fun i => none }
def pledgelaw11_OpNets.sig : Sig := { args := .tc (.val (.slice kOp)) .tn, objs := [], ret := .val .bool, outs := [], F := fun x => pledgelaw11_OpNets x.1.1 }
theorem pledgelaw11_OpNets.eq : (fun x => body pledgelaw11_OpNets.C pledgelaw11_OpNets.Q Go.Proofs.Try.f5 pledgelaw11_OpNets.sig.args pledgelaw11_OpNets.sig.objs pledgelaw11_OpNets.sig.ret pledgelaw11_OpNets.sig.outs x) = pledgelaw11_OpNets.sig.F := by
  kernel_rfl
set_option maxRecDepth 100000 in
theorem pledgelaw11_OpNets.ctx : CtxOk Go.Proofs.Try.prog pledgelaw11_OpNets.C := ⟨tyOk, mpOk, Nat.le_of_ble_eq_true (by kernel_rfl), fun f sg => fun h => sigs_if h (allS_cons op_Net.ok allS_nil) (fun h => sigs_if h (allS_cons pledgeref11_Same.ok allS_nil) (fun h => sigs_if h (allS_cons pledgelaw11_works.ok allS_nil) (fun h => sigs_if h (allS_cons pledgeref11_Net.ok allS_nil) (fun h => sigs_if h (allS_cons op_Neg.ok allS_nil) (fun h => sigs_if h (allS_cons pledgeref11_Neg.ok allS_nil) ((fun h => by cases h)))))))⟩
set_option maxRecDepth 100000 in
theorem pledgelaw11_OpNets.ok : Sound Go.Proofs.Try.prog 5 pledgelaw11_OpNets.sig := body_sound (C := pledgelaw11_OpNets.C) (q := pledgelaw11_OpNets.Q) (fn := Go.Proofs.Try.f5) (sg := pledgelaw11_OpNets.sig) (n := 1) pledgelaw11_OpNets.ctx follows Go.Proofs.Try.func5 (by kernel_rfl) (by kernel_rfl) (by kernel_rfl) (by kernel_rfl) (Nat.le_of_ble_eq_true (by kernel_rfl)) (by kernel_rfl) pledgelaw11_OpNets.eq

def op_Low_1 (x0 : Int) : Option Bool :=
  some (decide (x0 < 0))
def op_Low_1.C : Ctx := { ty := tyT, sigs := fun i => [], n := 5, mp := mpT }
def op_Low_1.Q : Cuts := { np := 0, loops := fun i => none, seqs := fun i => none, splits := fun i => none }
def op_Low_1.sig : Sig := { args := .tc (.val (.int .i64)) .tn, objs := [], ret := .val .bool, outs := [], F := fun x => op_Low_1 x.1.1 }
theorem op_Low_1.eq : (fun x => body op_Low_1.C op_Low_1.Q Go.Proofs.Try.f32 op_Low_1.sig.args op_Low_1.sig.objs op_Low_1.sig.ret op_Low_1.sig.outs x) = op_Low_1.sig.F := by
  kernel_rfl
set_option maxRecDepth 100000 in
theorem op_Low_1.ctx : CtxOk Go.Proofs.Try.prog op_Low_1.C := ⟨tyOk, mpOk, Nat.le_of_ble_eq_true (by kernel_rfl), fun f sg => (fun h => by cases h)⟩
set_option maxRecDepth 100000 in
theorem op_Low_1.ok : Sound Go.Proofs.Try.prog 32 op_Low_1.sig := body_sound (C := op_Low_1.C) (q := op_Low_1.Q) (fn := Go.Proofs.Try.f32) (sg := op_Low_1.sig) (n := 1) op_Low_1.ctx follows Go.Proofs.Try.func32 (by kernel_rfl) (by kernel_rfl) (by kernel_rfl) (by kernel_rfl) (Nat.le_of_ble_eq_true (by kernel_rfl)) (by kernel_rfl) op_Low_1.eq

def op_some.l1 (v : (Unit × Unit × Unit × (List ((Int × Int × Int × Unit) × Int × Unit)) × Int × Int) × (Int × Int × Int × Unit) × List Int × Unit) : Option (((Unit × Unit × Unit × (List ((Int × Int × Int × Unit) × Int × Unit)) × Int × Int) × (Int × Int × Int × Unit) × List Int × Unit) ⊕ (Unit × List Int × Unit)) :=
  bif decide (v.1.2.2.2.2.2 < v.1.2.2.2.2.1) then nthK v.1.2.2.2.1 v.1.2.2.2.2.2 fun e8 => bif eqE kKey e8.1 v.2.1 then (op_Low_1 e8.2.1).bind fun r9 => bif r9 then room (v.2.2.1.length + [e8.2.1].length) (some (Sum.inl (((), ((), ((), (v.1.2.2.2.1, (v.1.2.2.2.2.1, IntKind.i64.wrap (v.1.2.2.2.2.2 + 1)))))), (v.2.1, (v.2.2.1 ++ [e8.2.1], ()))))) else some (Sum.inl (((), ((), ((), (v.1.2.2.2.1, (v.1.2.2.2.2.1, IntKind.i64.wrap (v.1.2.2.2.2.2 + 1)))))), (v.2.1, (v.2.2.1, ())))) else some (Sum.inl (((), ((), ((), (v.1.2.2.2.1, (v.1.2.2.2.2.1, IntKind.i64.wrap (v.1.2.2.2.2.2 + 1)))))), (v.2.1, (v.2.2.1, ())))) else some (Sum.inr ((), (v.2.2.1, ())))
def op_some (x0 : List ((Int × Int × Int × Unit) × Int × Unit)) (x1 : Int × Int × Int × Unit) (x2 : Unit) : Option (Int × Bool × Unit) :=
  (iterL op_some.l1 loopN (((), ((), ((), (x0, ((x0.length : Int), 0))))), (x1, ([], ())))).bind fun y10 => (calc_Sum y10.2.1).bind fun r11 => some (r11.1, (r11.2.1, ()))
def op_some.C : Ctx := { ty := tyT, sigs := fun i => bif Nat.beq i 30 then [calc_Sum.sig] else bif Nat.beq i 32 then [op_Low_1.sig] else [], n := 37, mp := mpT }
def op_some.Q : Cuts := { np := 0, loops := fun i => bif Nat.beq i 3 then some ({ env := [(2, .clo 32 .tn), (4, .ptr 0), (8, .row 1), (11, .val (.slice kOp)), (12, .val (.int .i64)), (13, .val (.int .i64))], objs := [.cell kKey (.val kKey), .row (.int .i64) false] }, [(.exit 0, { env := [(8, .row 0)], objs := [.row (.int .i64) false] })]) else none, seqs := fun i => none, splits := fun i => none }
def op_some.sig : Sig := { args := .tc (.val (.slice kOp)) (.tc (.val kKey) (.tc (.clo 32 .tn) .tn)), objs := [], ret := .tup (.tc (.val (.int .i64)) (.tc (.val .bool) .tn)), outs := [], F := fun x => op_some x.1.1 x.1.2.1 x.1.2.2.1 }
theorem op_some.eq : (fun x => body op_some.C op_some.Q Go.Proofs.Try.f31 op_some.sig.args op_some.sig.objs op_some.sig.ret op_some.sig.outs x) = op_some.sig.F := by
  kernel_rfl
set_option maxRecDepth 100000 in
theorem op_some.ctx : CtxOk Go.Proofs.Try.prog op_some.C := ⟨tyOk, mpOk, Nat.le_of_ble_eq_true (by kernel_rfl), fun f sg => fun h => sigs_if h (allS_cons calc_Sum.ok allS_nil) (fun h => sigs_if h (allS_cons op_Low_1.ok allS_nil) ((fun h => by cases h)))⟩
set_option maxRecDepth 100000 in
theorem op_some.ok : Sound Go.Proofs.Try.prog 31 op_some.sig := body_sound (C := op_some.C) (q := op_some.Q) (fn := Go.Proofs.Try.f31) (sg := op_some.sig) (n := 3) op_some.ctx follows Go.Proofs.Try.func31 (by kernel_rfl) (by kernel_rfl) (by kernel_rfl) (by kernel_rfl) (Nat.le_of_ble_eq_true (by kernel_rfl)) (by kernel_rfl) op_some.eq

def op_Low (x0 : List ((Int × Int × Int × Unit) × Int × Unit)) (x1 : Int × Int × Int × Unit) : Option (Int × Bool × Unit) :=
  (op_some x0 x1 ()).bind fun r8 => some (r8.1, (r8.2.1, ()))
def op_Low.C : Ctx := { ty := tyT, sigs := fun i => bif Nat.beq i 31 then [op_some.sig] else [], n := 11, mp := mpT }
def op_Low.Q : Cuts := { np := 0, loops := fun i => none, seqs := fun i => none, splits := fun i => none }
def op_Low.sig : Sig := { args := .tc (.val (.slice kOp)) (.tc (.val kKey) .tn), objs := [], ret := .tup (.tc (.val (.int .i64)) (.tc (.val .bool) .tn)), outs := [], F := fun x => op_Low x.1.1 x.1.2.1 }
theorem op_Low.eq : (fun x => body op_Low.C op_Low.Q Go.Proofs.Try.f12 op_Low.sig.args op_Low.sig.objs op_Low.sig.ret op_Low.sig.outs x) = op_Low.sig.F := by
  kernel_rfl
set_option maxRecDepth 100000 in
theorem op_Low.ctx : CtxOk Go.Proofs.Try.prog op_Low.C := ⟨tyOk, mpOk, Nat.le_of_ble_eq_true (by kernel_rfl), fun f sg => fun h => sigs_if h (allS_cons op_some.ok allS_nil) ((fun h => by cases h))⟩
set_option maxRecDepth 100000 in
theorem op_Low.ok : Sound Go.Proofs.Try.prog 12 op_Low.sig := body_sound (C := op_Low.C) (q := op_Low.Q) (fn := Go.Proofs.Try.f12) (sg := op_Low.sig) (n := 2) op_Low.ctx follows Go.Proofs.Try.func12 (by kernel_rfl) (by kernel_rfl) (by kernel_rfl) (by kernel_rfl) (Nat.le_of_ble_eq_true (by kernel_rfl)) (by kernel_rfl) op_Low.eq

def op_High_1 (x0 : Int) : Option Bool :=
  some (decide (x0 > 0))
def op_High_1.C : Ctx := { ty := tyT, sigs := fun i => [], n := 5, mp := mpT }
def op_High_1.Q : Cuts := { np := 0, loops := fun i => none, seqs := fun i => none, splits := fun i => none }
def op_High_1.sig : Sig := { args := .tc (.val (.int .i64)) .tn, objs := [], ret := .val .bool, outs := [], F := fun x => op_High_1 x.1.1 }
theorem op_High_1.eq : (fun x => body op_High_1.C op_High_1.Q Go.Proofs.Try.f34 op_High_1.sig.args op_High_1.sig.objs op_High_1.sig.ret op_High_1.sig.outs x) = op_High_1.sig.F := by
  kernel_rfl
set_option maxRecDepth 100000 in
theorem op_High_1.ctx : CtxOk Go.Proofs.Try.prog op_High_1.C := ⟨tyOk, mpOk, Nat.le_of_ble_eq_true (by kernel_rfl), fun f sg => (fun h => by cases h)⟩
set_option maxRecDepth 100000 in
theorem op_High_1.ok : Sound Go.Proofs.Try.prog 34 op_High_1.sig := body_sound (C := op_High_1.C) (q := op_High_1.Q) (fn := Go.Proofs.Try.f34) (sg := op_High_1.sig) (n := 1) op_High_1.ctx follows Go.Proofs.Try.func34 (by kernel_rfl) (by kernel_rfl) (by kernel_rfl) (by kernel_rfl) (Nat.le_of_ble_eq_true (by kernel_rfl)) (by kernel_rfl) op_High_1.eq

def op_some_v2.l1 (v : (Unit × Unit × Unit × (List ((Int × Int × Int × Unit) × Int × Unit)) × Int × Int) × (Int × Int × Int × Unit) × List Int × Unit) : Option (((Unit × Unit × Unit × (List ((Int × Int × Int × Unit) × Int × Unit)) × Int × Int) × (Int × Int × Int × Unit) × List Int × Unit) ⊕ (Unit × List Int × Unit)) :=
  bif decide (v.1.2.2.2.2.2 < v.1.2.2.2.2.1) then nthK v.1.2.2.2.1 v.1.2.2.2.2.2 fun e11 => bif eqE kKey e11.1 v.2.1 then (op_High_1 e11.2.1).bind fun r12 => bif r12 then room (v.2.2.1.length + [e11.2.1].length) (some (Sum.inl (((), ((), ((), (v.1.2.2.2.1, (v.1.2.2.2.2.1, IntKind.i64.wrap (v.1.2.2.2.2.2 + 1)))))), (v.2.1, (v.2.2.1 ++ [e11.2.1], ()))))) else some (Sum.inl (((), ((), ((), (v.1.2.2.2.1, (v.1.2.2.2.2.1, IntKind.i64.wrap (v.1.2.2.2.2.2 + 1)))))), (v.2.1, (v.2.2.1, ())))) else some (Sum.inl (((), ((), ((), (v.1.2.2.2.1, (v.1.2.2.2.2.1, IntKind.i64.wrap (v.1.2.2.2.2.2 + 1)))))), (v.2.1, (v.2.2.1, ())))) else some (Sum.inr ((), (v.2.2.1, ())))
def op_some_v2 (x0 : List ((Int × Int × Int × Unit) × Int × Unit)) (x1 : Int × Int × Int × Unit) (x2 : Unit) : Option (Int × Bool × Unit) :=
  (iterL op_some_v2.l1 loopN (((), ((), ((), (x0, ((x0.length : Int), 0))))), (x1, ([], ())))).bind fun y13 => (calc_Sum y13.2.1).bind fun r14 => some (r14.1, (r14.2.1, ()))
def op_some_v2.C : Ctx := { ty := tyT, sigs := fun i => bif Nat.beq i 30 then [calc_Sum.sig] else bif Nat.beq i 34 then [op_High_1.sig] else [], n := 37, mp := mpT }
def op_some_v2.Q : Cuts := { np := 0, loops := fun i => bif Nat.beq i 3 then some ({ env := [(2, .clo 34 .tn), (4, .ptr 0), (8, .row 1), (11, .val (.slice kOp)), (12, .val (.int .i64)), (13, .val (.int .i64))], objs := [.cell kKey (.val kKey), .row (.int .i64) false] }, [(.exit 0, { env := [(8, .row 0)], objs := [.row (.int .i64) false] })]) else none, seqs := fun i => none, splits := fun i => none }
def op_some_v2.sig : Sig := { args := .tc (.val (.slice kOp)) (.tc (.val kKey) (.tc (.clo 34 .tn) .tn)), objs := [], ret := .tup (.tc (.val (.int .i64)) (.tc (.val .bool) .tn)), outs := [], F := fun x => op_some_v2 x.1.1 x.1.2.1 x.1.2.2.1 }
theorem op_some_v2.eq : (fun x => body op_some_v2.C op_some_v2.Q Go.Proofs.Try.f31 op_some_v2.sig.args op_some_v2.sig.objs op_some_v2.sig.ret op_some_v2.sig.outs x) = op_some_v2.sig.F := by
  kernel_rfl
set_option maxRecDepth 100000 in
theorem op_some_v2.ctx : CtxOk Go.Proofs.Try.prog op_some_v2.C := ⟨tyOk, mpOk, Nat.le_of_ble_eq_true (by kernel_rfl), fun f sg => fun h => sigs_if h (allS_cons calc_Sum.ok allS_nil) (fun h => sigs_if h (allS_cons op_High_1.ok allS_nil) ((fun h => by cases h)))⟩
set_option maxRecDepth 100000 in
theorem op_some_v2.ok : Sound Go.Proofs.Try.prog 31 op_some_v2.sig := body_sound (C := op_some_v2.C) (q := op_some_v2.Q) (fn := Go.Proofs.Try.f31) (sg := op_some_v2.sig) (n := 3) op_some_v2.ctx follows Go.Proofs.Try.func31 (by kernel_rfl) (by kernel_rfl) (by kernel_rfl) (by kernel_rfl) (Nat.le_of_ble_eq_true (by kernel_rfl)) (by kernel_rfl) op_some_v2.eq

def op_High (x0 : List ((Int × Int × Int × Unit) × Int × Unit)) (x1 : Int × Int × Int × Unit) : Option (Int × Bool × Unit) :=
  (op_some_v2 x0 x1 ()).bind fun r11 => some (r11.1, (r11.2.1, ()))
def op_High.C : Ctx := { ty := tyT, sigs := fun i => bif Nat.beq i 31 then [op_some_v2.sig] else [], n := 11, mp := mpT }
def op_High.Q : Cuts := { np := 0, loops := fun i => none, seqs := fun i => none, splits := fun i => none }
def op_High.sig : Sig := { args := .tc (.val (.slice kOp)) (.tc (.val kKey) .tn), objs := [], ret := .tup (.tc (.val (.int .i64)) (.tc (.val .bool) .tn)), outs := [], F := fun x => op_High x.1.1 x.1.2.1 }
theorem op_High.eq : (fun x => body op_High.C op_High.Q Go.Proofs.Try.f15 op_High.sig.args op_High.sig.objs op_High.sig.ret op_High.sig.outs x) = op_High.sig.F := by
  kernel_rfl
set_option maxRecDepth 100000 in
theorem op_High.ctx : CtxOk Go.Proofs.Try.prog op_High.C := ⟨tyOk, mpOk, Nat.le_of_ble_eq_true (by kernel_rfl), fun f sg => fun h => sigs_if h (allS_cons op_some_v2.ok allS_nil) ((fun h => by cases h))⟩
set_option maxRecDepth 100000 in
theorem op_High.ok : Sound Go.Proofs.Try.prog 15 op_High.sig := body_sound (C := op_High.C) (q := op_High.Q) (fn := Go.Proofs.Try.f15) (sg := op_High.sig) (n := 2) op_High.ctx follows Go.Proofs.Try.func15 (by kernel_rfl) (by kernel_rfl) (by kernel_rfl) (by kernel_rfl) (Nat.le_of_ble_eq_true (by kernel_rfl)) (by kernel_rfl) op_High.eq

def pledgelaw11_OpParts (x0 : List ((Int × Int × Int × Unit) × Int × Unit)) (x1 : List ((Int × Int × Int × Unit) × Int × Unit)) (x2 : Int × Int × Int × Unit) : Option Bool :=
  chk (decide (0 ≤ (if 60 < (x0.length : Int) then 60 else (x0.length : Int))) && decide ((if 60 < (x0.length : Int) then 60 else (x0.length : Int)) ≤ (x0.length : Int))) (chk (decide (0 ≤ (if 60 < (x1.length : Int) then 60 else (x1.length : Int))) && decide ((if 60 < (x1.length : Int) then 60 else (x1.length : Int)) ≤ (x1.length : Int))) ((op_Low ((x0.take (if 60 < (x0.length : Int) then 60 else (x0.length : Int) : Int).toNat).drop 0) x2).bind fun r8 => (pledgeref11_Deltas ((x0.take (if 60 < (x0.length : Int) then 60 else (x0.length : Int) : Int).toNat).drop 0) x2 (-1)).bind fun r9 => (pledgeref01_Sum r9).bind fun r10 => (op_High ((x0.take (if 60 < (x0.length : Int) then 60 else (x0.length : Int) : Int).toNat).drop 0) x2).bind fun r11 => (pledgeref11_Deltas ((x0.take (if 60 < (x0.length : Int) then 60 else (x0.length : Int) : Int).toNat).drop 0) x2 1).bind fun r12 => (pledgeref01_Sum r12).bind fun r13 => bif (r8.1 : Int) == r10.1 then bif r8.2.1 == r10.2.1 then bif (r11.1 : Int) == r13.1 then bif r11.2.1 == r13.2.1 then (op_Same ((x0.take (if 60 < (x0.length : Int) then 60 else (x0.length : Int) : Int).toNat).drop 0) ((x1.take (if 60 < (x1.length : Int) then 60 else (x1.length : Int) : Int).toNat).drop 0)).bind fun r14 => (pledgeref11_Same ((x0.take (if 60 < (x0.length : Int) then 60 else (x0.length : Int) : Int).toNat).drop 0) ((x1.take (if 60 < (x1.length : Int) then 60 else (x1.length : Int) : Int).toNat).drop 0)).bind fun r15 => bif r14 == r15 then (op_Same ((x0.take (if 60 < (x0.length : Int) then 60 else (x0.length : Int) : Int).toNat).drop 0) ((x0.take (if 60 < (x0.length : Int) then 60 else (x0.length : Int) : Int).toNat).drop 0)).bind fun r16 => bif r16 then pledgelaw11_works.bind fun r17 => some r17 else some false else some false else some false else some false else some false else some false))
def pledgelaw11_OpParts.C : Ctx := { ty := tyT, sigs := fun i => bif Nat.beq i 10 then [pledgeref11_Same.sig] else bif Nat.beq i 11 then [pledgelaw11_works.sig] else bif Nat.beq i 12 then [op_Low.sig] else bif Nat.beq i 13 then [pledgeref01_Sum.sig] else bif Nat.beq i 14 then [pledgeref11_Deltas.sig] else bif Nat.beq i 15 then [op_High.sig] else bif Nat.beq i 16 then [op_Same.sig] else [], n := 86, mp := mpT }
def pledgelaw11_OpParts.Q : Cuts := { np := 0, loops := fun i => none, seqs := fun i => none, splits := fun i => none }
def pledgelaw11_OpParts.sig : Sig := { args := .tc (.val (.slice kOp)) (.tc (.val (.slice kOp)) (.tc (.val kKey) .tn)), objs := [], ret := .val .bool, outs := [], F := fun x => pledgelaw11_OpParts x.1.1 x.1.2.1 x.1.2.2.1 }
theorem pledgelaw11_OpParts.eq : (fun x => body pledgelaw11_OpParts.C pledgelaw11_OpParts.Q Go.Proofs.Try.f4 pledgelaw11_OpParts.sig.args pledgelaw11_OpParts.sig.objs pledgelaw11_OpParts.sig.ret pledgelaw11_OpParts.sig.outs x) = pledgelaw11_OpParts.sig.F := by
  kernel_rfl
set_option maxRecDepth 100000 in
theorem pledgelaw11_OpParts.ctx : CtxOk Go.Proofs.Try.prog pledgelaw11_OpParts.C := ⟨tyOk, mpOk, Nat.le_of_ble_eq_true (by kernel_rfl), fun f sg => fun h => sigs_if h (allS_cons pledgeref11_Same.ok allS_nil) (fun h => sigs_if h (allS_cons pledgelaw11_works.ok allS_nil) (fun h => sigs_if h (allS_cons op_Low.ok allS_nil) (fun h => sigs_if h (allS_cons pledgeref01_Sum.ok allS_nil) (fun h => sigs_if h (allS_cons pledgeref11_Deltas.ok allS_nil) (fun h => sigs_if h (allS_cons op_High.ok allS_nil) (fun h => sigs_if h (allS_cons op_Same.ok allS_nil) ((fun h => by cases h))))))))⟩
set_option maxRecDepth 100000 in
theorem pledgelaw11_OpParts.ok : Sound Go.Proofs.Try.prog 4 pledgelaw11_OpParts.sig := body_sound (C := pledgelaw11_OpParts.C) (q := pledgelaw11_OpParts.Q) (fn := Go.Proofs.Try.f4) (sg := pledgelaw11_OpParts.sig) (n := 3) pledgelaw11_OpParts.ctx follows Go.Proofs.Try.func4 (by kernel_rfl) (by kernel_rfl) (by kernel_rfl) (by kernel_rfl) (Nat.le_of_ble_eq_true (by kernel_rfl)) (by kernel_rfl) pledgelaw11_OpParts.eq

def pledgelaw11_OpUndoes (x0 : List ((Int × Int × Int × Unit) × Int × Unit)) : Option Bool :=
  chk (decide (0 ≤ (if 60 < (x0.length : Int) then 60 else (x0.length : Int))) && decide ((if 60 < (x0.length : Int) then 60 else (x0.length : Int)) ≤ (x0.length : Int))) ((op_Neg ((x0.take (if 60 < (x0.length : Int) then 60 else (x0.length : Int) : Int).toNat).drop 0)).bind fun r18 => bif !r18.1.2.1 then bif ((r18.2.1.length : Int) : Int) == 0 then pledgelaw11_works.bind fun r19 => some r19 else some false else (op_Neg r18.2.1).bind fun r20 => room (0 + ((x0.take (if 60 < (x0.length : Int) then 60 else (x0.length : Int) : Int).toNat).drop 0).length) (room (([] ++ ((x0.take (if 60 < (x0.length : Int) then 60 else (x0.length : Int) : Int).toNat).drop 0)).length + r18.2.1.length) ((op_Net (([] ++ ((x0.take (if 60 < (x0.length : Int) then 60 else (x0.length : Int) : Int).toNat).drop 0)) ++ r18.2.1)).bind fun r21 => bif r20.1.2.1 then (pledgeref11_Same r20.2.1 ((x0.take (if 60 < (x0.length : Int) then 60 else (x0.length : Int) : Int).toNat).drop 0)).bind fun r22 => bif r22 then bif r21.2.1 then bif ((r21.1.length : Int) : Int) == 0 then pledgelaw11_works.bind fun r23 => some r23 else some false else some false else some false else some false)))
def pledgelaw11_OpUndoes.C : Ctx := { ty := tyT, sigs := fun i => bif Nat.beq i 9 then [op_Net.sig] else bif Nat.beq i 10 then [pledgeref11_Same.sig] else bif Nat.beq i 11 then [pledgelaw11_works.sig] else bif Nat.beq i 18 then [op_Neg.sig] else [], n := 58, mp := mpT }
def pledgelaw11_OpUndoes.Q : Cuts := { np := 0, loops := fun i => none, seqs := fun i => none, splits := fun i => none }
def pledgelaw11_OpUndoes.sig : Sig := { args := .tc (.val (.slice kOp)) .tn, objs := [], ret := .val .bool, outs := [], F := fun x => pledgelaw11_OpUndoes x.1.1 }
theorem pledgelaw11_OpUndoes.eq : (fun x => body pledgelaw11_OpUndoes.C pledgelaw11_OpUndoes.Q Go.Proofs.Try.f6 pledgelaw11_OpUndoes.sig.args pledgelaw11_OpUndoes.sig.objs pledgelaw11_OpUndoes.sig.ret pledgelaw11_OpUndoes.sig.outs x) = pledgelaw11_OpUndoes.sig.F := by
  kernel_rfl
set_option maxRecDepth 100000 in
theorem pledgelaw11_OpUndoes.ctx : CtxOk Go.Proofs.Try.prog pledgelaw11_OpUndoes.C := ⟨tyOk, mpOk, Nat.le_of_ble_eq_true (by kernel_rfl), fun f sg => fun h => sigs_if h (allS_cons op_Net.ok allS_nil) (fun h => sigs_if h (allS_cons pledgeref11_Same.ok allS_nil) (fun h => sigs_if h (allS_cons pledgelaw11_works.ok allS_nil) (fun h => sigs_if h (allS_cons op_Neg.ok allS_nil) ((fun h => by cases h)))))⟩
set_option maxRecDepth 100000 in
theorem pledgelaw11_OpUndoes.ok : Sound Go.Proofs.Try.prog 6 pledgelaw11_OpUndoes.sig := body_sound (C := pledgelaw11_OpUndoes.C) (q := pledgelaw11_OpUndoes.Q) (fn := Go.Proofs.Try.f6) (sg := pledgelaw11_OpUndoes.sig) (n := 1) pledgelaw11_OpUndoes.ctx follows Go.Proofs.Try.func6 (by kernel_rfl) (by kernel_rfl) (by kernel_rfl) (by kernel_rfl) (Nat.le_of_ble_eq_true (by kernel_rfl)) (by kernel_rfl) pledgelaw11_OpUndoes.eq

def pledgelaw11_OpTurns.l1 (v : ((List ((Int × Int × Int × Unit) × Int × Unit)) × Unit × Int) × (List ((Int × Int × Int × Unit) × Int × Unit)) × Unit) : Option ((((List ((Int × Int × Int × Unit) × Int × Unit)) × Unit × Int) × (List ((Int × Int × Int × Unit) × Int × Unit)) × Unit) ⊕ (((List ((Int × Int × Int × Unit) × Int × Unit)) × Unit) × (List ((Int × Int × Int × Unit) × Int × Unit)) × Unit)) :=
  bif decide (v.1.2.2 ≥ 0) then nthK v.1.1 v.1.2.2 fun e24 => room (v.2.1.length + [e24].length) (some (Sum.inl ((v.1.1, ((), IntKind.i64.wrap (v.1.2.2 - 1))), (v.2.1 ++ [e24], ())))) else some (Sum.inr ((v.1.1, ()), (v.2.1, ())))
def pledgelaw11_OpTurns (x0 : List ((Int × Int × Int × Unit) × Int × Unit)) : Option Bool :=
  chk (decide (0 ≤ (if 60 < (x0.length : Int) then 60 else (x0.length : Int))) && decide ((if 60 < (x0.length : Int) then 60 else (x0.length : Int)) ≤ (x0.length : Int))) ((iterL pledgelaw11_OpTurns.l1 loopN (((x0.take (if 60 < (x0.length : Int) then 60 else (x0.length : Int) : Int).toNat).drop 0, ((), IntKind.i64.wrap ((((x0.take (if 60 < (x0.length : Int) then 60 else (x0.length : Int) : Int).toNat).drop 0).length : Int) - 1))), ([], ()))).bind fun y25 => (op_Net y25.1.1).bind fun r26 => (op_Net y25.2.1).bind fun r27 => (op_Net r26.1).bind fun r28 => (pledgeref11_Same r26.1 r27.1).bind fun r29 => bif r29 then bif r26.2.1 == r27.2.1 then bif r28.2.1 then (pledgeref11_Same r28.1 r26.1).bind fun r30 => bif r30 then pledgelaw11_works.bind fun r31 => some r31 else some false else some false else some false else some false)
def pledgelaw11_OpTurns.C : Ctx := { ty := tyT, sigs := fun i => bif Nat.beq i 9 then [op_Net.sig] else bif Nat.beq i 10 then [pledgeref11_Same.sig] else bif Nat.beq i 11 then [pledgelaw11_works.sig] else [], n := 64, mp := mpT }
def pledgelaw11_OpTurns.Q : Cuts := { np := 0, loops := fun i => bif Nat.beq i 4 then some ({ env := [(0, .val (.slice kOp)), (3, .row 0), (4, .val (.int .i64))], objs := [.row kOp false] }, [(.exit 0, { env := [(0, .val (.slice kOp)), (3, .row 0)], objs := [.row kOp false] })]) else none, seqs := fun i => none, splits := fun i => none }
def pledgelaw11_OpTurns.sig : Sig := { args := .tc (.val (.slice kOp)) .tn, objs := [], ret := .val .bool, outs := [], F := fun x => pledgelaw11_OpTurns x.1.1 }
theorem pledgelaw11_OpTurns.eq : (fun x => body pledgelaw11_OpTurns.C pledgelaw11_OpTurns.Q Go.Proofs.Try.f3 pledgelaw11_OpTurns.sig.args pledgelaw11_OpTurns.sig.objs pledgelaw11_OpTurns.sig.ret pledgelaw11_OpTurns.sig.outs x) = pledgelaw11_OpTurns.sig.F := by
  kernel_rfl
set_option maxRecDepth 100000 in
theorem pledgelaw11_OpTurns.ctx : CtxOk Go.Proofs.Try.prog pledgelaw11_OpTurns.C := ⟨tyOk, mpOk, Nat.le_of_ble_eq_true (by kernel_rfl), fun f sg => fun h => sigs_if h (allS_cons op_Net.ok allS_nil) (fun h => sigs_if h (allS_cons pledgeref11_Same.ok allS_nil) (fun h => sigs_if h (allS_cons pledgelaw11_works.ok allS_nil) ((fun h => by cases h))))⟩
set_option maxRecDepth 100000 in
theorem pledgelaw11_OpTurns.ok : Sound Go.Proofs.Try.prog 3 pledgelaw11_OpTurns.sig := body_sound (C := pledgelaw11_OpTurns.C) (q := pledgelaw11_OpTurns.Q) (fn := Go.Proofs.Try.f3) (sg := pledgelaw11_OpTurns.sig) (n := 1) pledgelaw11_OpTurns.ctx follows Go.Proofs.Try.func3 (by kernel_rfl) (by kernel_rfl) (by kernel_rfl) (by kernel_rfl) (Nat.le_of_ble_eq_true (by kernel_rfl)) (by kernel_rfl) pledgelaw11_OpTurns.eq

def step_Ops_1 (x0 : Int) (x1 : Int) (x2 : Unit) (x3 : Unit) (x4 : Unit) (o0 : Int × Int × Unit) (o1 : Int × Int × (List (Int × Int × Unit)) × Unit) (o2 : Unit) (o3 : List ((Int × Int × Int × Unit) × Int × Unit)) : Option (Unit × (Int × Int × Unit) × (Int × Int × (List (Int × Int × Unit)) × Unit) × Unit × Unit × (List ((Int × Int × Int × Unit) × Int × Unit)) × Unit) :=
  (bif (x0 : Int) == 1 then some (((x1, ((), ())), (o0, (o1, ((), (o3, ((x0, (o0.1, (o1.2.1, ()))), ()))))))) else bif (x0 : Int) == 2 then some (((x1, ((), ())), (o0, (o1, ((), (o3, ((x0, (o0.1, (o1.2.1, ()))), ()))))))) else some (((x1, ((), ())), (o0, (o1, ((), (o3, ((x0, (o0.1, (0, ()))), ()))))))) : Option ((Int × Unit × Unit) × (Int × Int × Unit) × (Int × Int × (List (Int × Int × Unit)) × Unit) × Unit × (List ((Int × Int × Int × Unit) × Int × Unit)) × (Int × Int × Int × Unit) × Unit)).bind fun y34 => room (y34.2.2.2.2.1.length + [(y34.2.2.2.2.2.1, (y34.1.1, ()))].length) (some ((), (y34.2.1, (y34.2.2.1, ((), ((), (y34.2.2.2.2.1 ++ [(y34.2.2.2.2.2.1, (y34.1.1, ()))], ())))))))
def step_Ops_1.C : Ctx := { ty := tyT, sigs := fun i => [], n := 27, mp := mpT }
def step_Ops_1.Q : Cuts := { np := 4, loops := fun i => none, seqs := fun i => bif Nat.beq i 3 then some [(.normal, { env := [(1, .val (.int .i64)), (4, .ptr 2), (7, .ptr 4)], objs := [.cell kLine (.val kLine), .cell kStep (.val kStep), .cell (.slice kOp) (.row 3), .row kOp false, .cell kKey (.val kKey)] })] else none, splits := fun i => none }
def step_Ops_1.sig : Sig := { args := .tc (.val (.int .u8)) (.tc (.val (.int .i64)) (.tc (.ptr 0) (.tc (.ptr 1) (.tc (.ptr 2) .tn)))), objs := [.cell kLine (.val kLine), .cell kStep (.val kStep), .cell (.slice kOp) (.row 3), .row kOp false], ret := .tup .tn, outs := [.cell kLine (.val kLine), .cell kStep (.val kStep), .cell (.slice kOp) (.row 4), .gone, .row kOp false], F := fun x => step_Ops_1 x.1.1 x.1.2.1 x.1.2.2.1 x.1.2.2.2.1 x.1.2.2.2.2.1 x.2.1 x.2.2.1 x.2.2.2.1 x.2.2.2.2.1 }
theorem step_Ops_1.eq : (fun x => body step_Ops_1.C step_Ops_1.Q Go.Proofs.Try.f40 step_Ops_1.sig.args step_Ops_1.sig.objs step_Ops_1.sig.ret step_Ops_1.sig.outs x) = step_Ops_1.sig.F := by
  kernel_rfl
set_option maxRecDepth 100000 in
theorem step_Ops_1.ctx : CtxOk Go.Proofs.Try.prog step_Ops_1.C := ⟨tyOk, mpOk, Nat.le_of_ble_eq_true (by kernel_rfl), fun f sg => (fun h => by cases h)⟩
set_option maxRecDepth 100000 in
theorem step_Ops_1.ok : Sound Go.Proofs.Try.prog 40 step_Ops_1.sig := body_sound (C := step_Ops_1.C) (q := step_Ops_1.Q) (fn := Go.Proofs.Try.f40) (sg := step_Ops_1.sig) (n := 5) step_Ops_1.ctx follows Go.Proofs.Try.func40 (by kernel_rfl) (by kernel_rfl) (by kernel_rfl) (by kernel_rfl) (Nat.le_of_ble_eq_true (by kernel_rfl)) (by kernel_rfl) step_Ops_1.eq

def step_Ops.l1 (v : (Unit × Unit × (List (Int × Int × Unit)) × Int × Int) × (Int × Int × (List (Int × Int × Unit)) × Unit) × Unit × (List ((Int × Int × Int × Unit) × Int × Unit)) × Unit) : Option (((Unit × Unit × (List (Int × Int × Unit)) × Int × Int) × (Int × Int × (List (Int × Int × Unit)) × Unit) × Unit × (List ((Int × Int × Int × Unit) × Int × Unit)) × Unit) ⊕ (Unit × Unit × (List ((Int × Int × Int × Unit) × Int × Unit)) × Unit)) :=
  bif decide (v.1.2.2.2.2 < v.1.2.2.2.1) then nthK v.1.2.2.1 v.1.2.2.2.2 fun e33 => bif decide (e33.2.1 < 1) then some (Sum.inl (((), ((), (v.1.2.2.1, (v.1.2.2.2.1, IntKind.i64.wrap (v.1.2.2.2.2 + 1))))), (v.2.1, ((), (v.2.2.2.1, ()))))) else bif (v.2.1.1 : Int) == 1 then (step_Ops_1 1 (IntKind.i64.wrap (0 - e33.2.1)) () () () e33 v.2.1 () v.2.2.2.1).bind fun r34 => (step_Ops_1 2 r34.2.1.2.1 () () () r34.2.1 r34.2.2.1 () r34.2.2.2.2.2.1).bind fun r35 => some (Sum.inl (((), ((), (v.1.2.2.1, (v.1.2.2.2.1, IntKind.i64.wrap (v.1.2.2.2.2 + 1))))), (r35.2.2.1, ((), (r35.2.2.2.2.2.1, ()))))) else bif (v.2.1.1 : Int) == 3 then (step_Ops_1 2 (IntKind.i64.wrap (0 - e33.2.1)) () () () e33 v.2.1 () v.2.2.2.1).bind fun r36 => (step_Ops_1 3 r36.2.1.2.1 () () () r36.2.1 r36.2.2.1 () r36.2.2.2.2.2.1).bind fun r37 => some (Sum.inl (((), ((), (v.1.2.2.1, (v.1.2.2.2.1, IntKind.i64.wrap (v.1.2.2.2.2 + 1))))), (r37.2.2.1, ((), (r37.2.2.2.2.2.1, ()))))) else bif (v.2.1.1 : Int) == 2 then (step_Ops_1 2 (IntKind.i64.wrap (0 - e33.2.1)) () () () e33 v.2.1 () v.2.2.2.1).bind fun r38 => (step_Ops_1 1 r38.2.1.2.1 () () () r38.2.1 r38.2.2.1 () r38.2.2.2.2.2.1).bind fun r39 => some (Sum.inl (((), ((), (v.1.2.2.1, (v.1.2.2.2.1, IntKind.i64.wrap (v.1.2.2.2.2 + 1))))), (r39.2.2.1, ((), (r39.2.2.2.2.2.1, ()))))) else bif (v.2.1.1 : Int) == 5 then (step_Ops_1 1 e33.2.1 () () () e33 v.2.1 () v.2.2.2.1).bind fun r40 => some (Sum.inl (((), ((), (v.1.2.2.1, (v.1.2.2.2.1, IntKind.i64.wrap (v.1.2.2.2.2 + 1))))), (r40.2.2.1, ((), (r40.2.2.2.2.2.1, ()))))) else bif (v.2.1.1 : Int) == 4 then (step_Ops_1 3 (IntKind.i64.wrap (0 - e33.2.1)) () () () e33 v.2.1 () v.2.2.2.1).bind fun r41 => (step_Ops_1 1 r41.2.1.2.1 () () () r41.2.1 r41.2.2.1 () r41.2.2.2.2.2.1).bind fun r42 => some (Sum.inl (((), ((), (v.1.2.2.1, (v.1.2.2.2.1, IntKind.i64.wrap (v.1.2.2.2.2 + 1))))), (r42.2.2.1, ((), (r42.2.2.2.2.2.1, ()))))) else bif (v.2.1.1 : Int) == 6 then (step_Ops_1 1 (IntKind.i64.wrap (0 - e33.2.1)) () () () e33 v.2.1 () v.2.2.2.1).bind fun r43 => some (Sum.inl (((), ((), (v.1.2.2.1, (v.1.2.2.2.1, IntKind.i64.wrap (v.1.2.2.2.2 + 1))))), (r43.2.2.1, ((), (r43.2.2.2.2.2.1, ()))))) else bif (v.2.1.1 : Int) == 7 then (step_Ops_1 4 e33.2.1 () () () e33 v.2.1 () v.2.2.2.1).bind fun r44 => some (Sum.inl (((), ((), (v.1.2.2.1, (v.1.2.2.2.1, IntKind.i64.wrap (v.1.2.2.2.2 + 1))))), (r44.2.2.1, ((), (r44.2.2.2.2.2.1, ()))))) else bif (v.2.1.1 : Int) == 8 then (step_Ops_1 4 (IntKind.i64.wrap (0 - e33.2.1)) () () () e33 v.2.1 () v.2.2.2.1).bind fun r45 => some (Sum.inl (((), ((), (v.1.2.2.1, (v.1.2.2.2.1, IntKind.i64.wrap (v.1.2.2.2.2 + 1))))), (r45.2.2.1, ((), (r45.2.2.2.2.2.1, ()))))) else some (Sum.inl (((), ((), (v.1.2.2.1, (v.1.2.2.2.1, IntKind.i64.wrap (v.1.2.2.2.2 + 1))))), (v.2.1, ((), (v.2.2.2.1, ()))))) else some (Sum.inr ((), ((), (v.2.2.2.1, ()))))
def step_Ops (x0 : Int × Int × (List (Int × Int × Unit)) × Unit) : Option (List ((Int × Int × Int × Unit) × Int × Unit)) :=
  (iterL step_Ops.l1 loopN (((), ((), (x0.2.2.1, ((x0.2.2.1.length : Int), 0)))), (x0, ((), ([], ()))))).bind fun y46 => some y46.2.2.1
def step_Ops.C : Ctx := { ty := tyT, sigs := fun i => bif Nat.beq i 40 then [step_Ops_1.sig] else [], n := 88, mp := mpT }
def step_Ops.Q : Cuts := { np := 0, loops := fun i => bif Nat.beq i 3 then some ({ env := [(1, .ptr 0), (3, .ptr 1), (8, .val (.slice kLine)), (9, .val (.int .i64)), (10, .val (.int .i64))], objs := [.cell kStep (.val kStep), .cell (.slice kOp) (.row 2), .row kOp false] }, [(.exit 0, { env := [(3, .ptr 0)], objs := [.cell (.slice kOp) (.row 1), .row kOp false] })]) else none, seqs := fun i => none, splits := fun i => none }
def step_Ops.sig : Sig := { args := .tc (.val kStep) .tn, objs := [], ret := .val (.slice kOp), outs := [], F := fun x => step_Ops x.1.1 }
theorem step_Ops.eq : (fun x => body step_Ops.C step_Ops.Q Go.Proofs.Try.f21 step_Ops.sig.args step_Ops.sig.objs step_Ops.sig.ret step_Ops.sig.outs x) = step_Ops.sig.F := by
  kernel_rfl
set_option maxRecDepth 100000 in
theorem step_Ops.ctx : CtxOk Go.Proofs.Try.prog step_Ops.C := ⟨tyOk, mpOk, Nat.le_of_ble_eq_true (by kernel_rfl), fun f sg => fun h => sigs_if h (allS_cons step_Ops_1.ok allS_nil) ((fun h => by cases h))⟩
set_option maxRecDepth 100000 in
theorem step_Ops.ok : Sound Go.Proofs.Try.prog 21 step_Ops.sig := body_sound (C := step_Ops.C) (q := step_Ops.Q) (fn := Go.Proofs.Try.f21) (sg := step_Ops.sig) (n := 1) step_Ops.ctx follows Go.Proofs.Try.func21 (by kernel_rfl) (by kernel_rfl) (by kernel_rfl) (by kernel_rfl) (Nat.le_of_ble_eq_true (by kernel_rfl)) (by kernel_rfl) step_Ops.eq

def pledgelaw12_StepPairs_1.l1 (v : (Unit × Unit × Unit × List Int × Int × Int) × Int × (List (Int × Int × Unit)) × (List ((Int × Int × Int × Unit) × Int × Unit)) × Unit) : Option (((Unit × Unit × Unit × List Int × Int × Int) × Int × (List (Int × Int × Unit)) × (List ((Int × Int × Int × Unit) × Int × Unit)) × Unit) ⊕ (Unit × Int × (List (Int × Int × Unit)) × (List ((Int × Int × Int × Unit) × Int × Unit)) × Unit)) :=
  bif decide (v.1.2.2.2.2.2 < v.1.2.2.2.2.1) then nthK v.1.2.2.2.1 v.1.2.2.2.2.2 fun e32 => (step_Ops (e32, (v.2.1, (v.2.2.1, ())))).bind fun r33 => room (v.2.2.2.1.length + r33.length) (some (Sum.inl (((), ((), ((), (v.1.2.2.2.1, (v.1.2.2.2.2.1, IntKind.i64.wrap (v.1.2.2.2.2.2 + 1)))))), (v.2.1, (v.2.2.1, (v.2.2.2.1 ++ r33, ())))))) else some (Sum.inr ((), (v.2.1, (v.2.2.1, (v.2.2.2.1, ())))))
def pledgelaw12_StepPairs_1 (x0 : List Int) (x1 : Unit) (x2 : Unit) (o0 : Int) (o1 : List (Int × Int × Unit)) : Option (Bool × Int × (List (Int × Int × Unit)) × Unit) :=
  (iterL pledgelaw12_StepPairs_1.l1 loopN (((), ((), ((), (x0, ((x0.length : Int), 0))))), (o0, (o1, ([], ()))))).bind fun y34 => (op_Net y34.2.2.2.1).bind fun r35 => bif r35.2.1 then some (((r35.1.length : Int) : Int) == 0, (y34.2.1, (y34.2.2.1, ()))) else some (false, (y34.2.1, (y34.2.2.1, ())))
def pledgelaw12_StepPairs_1.C : Ctx := { ty := tyT, sigs := fun i => bif Nat.beq i 9 then [op_Net.sig] else bif Nat.beq i 21 then [step_Ops.sig] else [], n := 35, mp := mpT }
def pledgelaw12_StepPairs_1.Q : Cuts := { np := 2, loops := fun i => bif Nat.beq i 3 then some ({ env := [(1, .ptr 0), (2, .ptr 1), (5, .row 2), (10, .val (.slice (.int .u8))), (11, .val (.int .i64)), (12, .val (.int .i64))], objs := [.cell (.int .u8) (.val (.int .u8)), .cell (.slice kLine) (.val (.slice kLine)), .row kOp false] }, [(.exit 0, { env := [(5, .row 2)], objs := [.cell (.int .u8) (.val (.int .u8)), .cell (.slice kLine) (.val (.slice kLine)), .row kOp false] })]) else none, seqs := fun i => none, splits := fun i => none }
def pledgelaw12_StepPairs_1.sig : Sig := { args := .tc (.val (.slice (.int .u8))) (.tc (.ptr 0) (.tc (.ptr 1) .tn)), objs := [.cell (.int .u8) (.val (.int .u8)), .cell (.slice kLine) (.val (.slice kLine))], ret := .val .bool, outs := [.cell (.int .u8) (.val (.int .u8)), .cell (.slice kLine) (.val (.slice kLine))], F := fun x => pledgelaw12_StepPairs_1 x.1.1 x.1.2.1 x.1.2.2.1 x.2.1 x.2.2.1 }
theorem pledgelaw12_StepPairs_1.eq : (fun x => body pledgelaw12_StepPairs_1.C pledgelaw12_StepPairs_1.Q Go.Proofs.Try.f20 pledgelaw12_StepPairs_1.sig.args pledgelaw12_StepPairs_1.sig.objs pledgelaw12_StepPairs_1.sig.ret pledgelaw12_StepPairs_1.sig.outs x) = pledgelaw12_StepPairs_1.sig.F := by
  kernel_rfl
set_option maxRecDepth 100000 in
theorem pledgelaw12_StepPairs_1.ctx : CtxOk Go.Proofs.Try.prog pledgelaw12_StepPairs_1.C := ⟨tyOk, mpOk, Nat.le_of_ble_eq_true (by kernel_rfl), fun f sg => fun h => sigs_if h (allS_cons op_Net.ok allS_nil) (fun h => sigs_if h (allS_cons step_Ops.ok allS_nil) ((fun h => by cases h)))⟩
set_option maxRecDepth 100000 in
theorem pledgelaw12_StepPairs_1.ok : Sound Go.Proofs.Try.prog 20 pledgelaw12_StepPairs_1.sig := body_sound (C := pledgelaw12_StepPairs_1.C) (q := pledgelaw12_StepPairs_1.Q) (fn := Go.Proofs.Try.f20) (sg := pledgelaw12_StepPairs_1.sig) (n := 3) pledgelaw12_StepPairs_1.ctx follows Go.Proofs.Try.func20 (by kernel_rfl) (by kernel_rfl) (by kernel_rfl) (by kernel_rfl) (Nat.le_of_ble_eq_true (by kernel_rfl)) (by kernel_rfl) pledgelaw12_StepPairs_1.eq

def step_Word (x0 : Int) : Option ByteArray :=
  nthN (List.replicate 9 (⟨#[]⟩ : ByteArray)) 0 fun e43 => nthN ((List.replicate 9 (⟨#[]⟩ : ByteArray)).set 0 (⟨#[]⟩ : ByteArray)) 1 fun e44 => nthN (((List.replicate 9 (⟨#[]⟩ : ByteArray)).set 0 (⟨#[]⟩ : ByteArray)).set 1 (⟨#[116, 97, 107, 101]⟩ : ByteArray)) 2 fun e45 => nthN ((((List.replicate 9 (⟨#[]⟩ : ByteArray)).set 0 (⟨#[]⟩ : ByteArray)).set 1 (⟨#[116, 97, 107, 101]⟩ : ByteArray)).set 2 (⟨#[102, 114, 101, 101]⟩ : ByteArray)) 3 fun e46 => nthN (((((List.replicate 9 (⟨#[]⟩ : ByteArray)).set 0 (⟨#[]⟩ : ByteArray)).set 1 (⟨#[116, 97, 107, 101]⟩ : ByteArray)).set 2 (⟨#[102, 114, 101, 101]⟩ : ByteArray)).set 3 (⟨#[115, 101, 110, 100]⟩ : ByteArray)) 4 fun e47 => nthN ((((((List.replicate 9 (⟨#[]⟩ : ByteArray)).set 0 (⟨#[]⟩ : ByteArray)).set 1 (⟨#[116, 97, 107, 101]⟩ : ByteArray)).set 2 (⟨#[102, 114, 101, 101]⟩ : ByteArray)).set 3 (⟨#[115, 101, 110, 100]⟩ : ByteArray)).set 4 (⟨#[98, 97, 99, 107]⟩ : ByteArray)) 5 fun e48 => nthN (((((((List.replicate 9 (⟨#[]⟩ : ByteArray)).set 0 (⟨#[]⟩ : ByteArray)).set 1 (⟨#[116, 97, 107, 101]⟩ : ByteArray)).set 2 (⟨#[102, 114, 101, 101]⟩ : ByteArray)).set 3 (⟨#[115, 101, 110, 100]⟩ : ByteArray)).set 4 (⟨#[98, 97, 99, 107]⟩ : ByteArray)).set 5 (⟨#[112, 117, 116]⟩ : ByteArray)) 6 fun e49 => nthN ((((((((List.replicate 9 (⟨#[]⟩ : ByteArray)).set 0 (⟨#[]⟩ : ByteArray)).set 1 (⟨#[116, 97, 107, 101]⟩ : ByteArray)).set 2 (⟨#[102, 114, 101, 101]⟩ : ByteArray)).set 3 (⟨#[115, 101, 110, 100]⟩ : ByteArray)).set 4 (⟨#[98, 97, 99, 107]⟩ : ByteArray)).set 5 (⟨#[112, 117, 116]⟩ : ByteArray)).set 6 (⟨#[100, 114, 97, 119]⟩ : ByteArray)) 7 fun e50 => nthN (((((((((List.replicate 9 (⟨#[]⟩ : ByteArray)).set 0 (⟨#[]⟩ : ByteArray)).set 1 (⟨#[116, 97, 107, 101]⟩ : ByteArray)).set 2 (⟨#[102, 114, 101, 101]⟩ : ByteArray)).set 3 (⟨#[115, 101, 110, 100]⟩ : ByteArray)).set 4 (⟨#[98, 97, 99, 107]⟩ : ByteArray)).set 5 (⟨#[112, 117, 116]⟩ : ByteArray)).set 6 (⟨#[100, 114, 97, 119]⟩ : ByteArray)).set 7 (⟨#[111, 119, 101]⟩ : ByteArray)) 8 fun e51 => bif decide ((IntKind.i64.wrap x0) ≥ 9) then some (⟨#[]⟩ : ByteArray) else chk (decide (0 ≤ x0) && decide (x0 < 9)) (nthK ((((((((((List.replicate 9 (⟨#[]⟩ : ByteArray)).set 0 (⟨#[]⟩ : ByteArray)).set 1 (⟨#[116, 97, 107, 101]⟩ : ByteArray)).set 2 (⟨#[102, 114, 101, 101]⟩ : ByteArray)).set 3 (⟨#[115, 101, 110, 100]⟩ : ByteArray)).set 4 (⟨#[98, 97, 99, 107]⟩ : ByteArray)).set 5 (⟨#[112, 117, 116]⟩ : ByteArray)).set 6 (⟨#[100, 114, 97, 119]⟩ : ByteArray)).set 7 (⟨#[111, 119, 101]⟩ : ByteArray)).set 8 (⟨#[112, 97, 121]⟩ : ByteArray)) x0 fun e52 => some e52)
def step_Word.C : Ctx := { ty := tyT, sigs := fun i => [], n := 11, mp := mpT }
def step_Word.Q : Cuts := { np := 0, loops := fun i => none, seqs := fun i => none, splits := fun i => none }
def step_Word.sig : Sig := { args := .tc (.val (.int .u8)) .tn, objs := [], ret := .val .str, outs := [], F := fun x => step_Word x.1.1 }
theorem step_Word.eq : (fun x => body step_Word.C step_Word.Q Go.Proofs.Try.f41 step_Word.sig.args step_Word.sig.objs step_Word.sig.ret step_Word.sig.outs x) = step_Word.sig.F := by
  kernel_rfl
set_option maxRecDepth 100000 in
theorem step_Word.ctx : CtxOk Go.Proofs.Try.prog step_Word.C := ⟨tyOk, mpOk, Nat.le_of_ble_eq_true (by kernel_rfl), fun f sg => (fun h => by cases h)⟩
set_option maxRecDepth 100000 in
theorem step_Word.ok : Sound Go.Proofs.Try.prog 41 step_Word.sig := body_sound (C := step_Word.C) (q := step_Word.Q) (fn := Go.Proofs.Try.f41) (sg := step_Word.sig) (n := 1) step_Word.ctx follows Go.Proofs.Try.func41 (by kernel_rfl) (by kernel_rfl) (by kernel_rfl) (by kernel_rfl) (Nat.le_of_ble_eq_true (by kernel_rfl)) (by kernel_rfl) step_Word.eq

def pledgelaw12_works  : Option Bool :=
  (step_Ops (3, (1, ([(0, (3, ()))], ())))).bind fun r40 => bif ((r40.length : Int) : Int) == 2 then nthK r40 0 fun e41 => bif eqE kOp e41 ((2, (0, (1, ()))), ((-3), ())) then nthK r40 1 fun e42 => bif eqE kOp e42 ((3, (0, (0, ()))), (3, ())) then (step_Word 8).bind fun r43 => some (r43.toList == (⟨#[112, 97, 121]⟩ : ByteArray).toList) else some false else some false else some false
def pledgelaw12_works.C : Ctx := { ty := tyT, sigs := fun i => bif Nat.beq i 21 then [step_Ops.sig] else bif Nat.beq i 41 then [step_Word.sig] else [], n := 29, mp := mpT }
def pledgelaw12_works.Q : Cuts := { np := 0, loops := fun i => none, seqs := fun i => none, splits := fun i => none }
def pledgelaw12_works.sig : Sig := { args := .tn, objs := [], ret := .val .bool, outs := [], F := fun x => pledgelaw12_works }
theorem pledgelaw12_works.eq : (fun x => body pledgelaw12_works.C pledgelaw12_works.Q Go.Proofs.Try.f22 pledgelaw12_works.sig.args pledgelaw12_works.sig.objs pledgelaw12_works.sig.ret pledgelaw12_works.sig.outs x) = pledgelaw12_works.sig.F := by
  kernel_rfl
set_option maxRecDepth 100000 in
theorem pledgelaw12_works.ctx : CtxOk Go.Proofs.Try.prog pledgelaw12_works.C := ⟨tyOk, mpOk, Nat.le_of_ble_eq_true (by kernel_rfl), fun f sg => fun h => sigs_if h (allS_cons step_Ops.ok allS_nil) (fun h => sigs_if h (allS_cons step_Word.ok allS_nil) ((fun h => by cases h)))⟩
set_option maxRecDepth 100000 in
theorem pledgelaw12_works.ok : Sound Go.Proofs.Try.prog 22 pledgelaw12_works.sig := body_sound (C := pledgelaw12_works.C) (q := pledgelaw12_works.Q) (fn := Go.Proofs.Try.f22) (sg := pledgelaw12_works.sig) (n := 0) pledgelaw12_works.ctx follows Go.Proofs.Try.func22 (by kernel_rfl) (by kernel_rfl) (by kernel_rfl) (by kernel_rfl) (Nat.le_of_ble_eq_true (by kernel_rfl)) (by kernel_rfl) pledgelaw12_works.eq

def pledgelaw12_StepPairs (x0 : Int) (x1 : List (Int × Int × Unit)) : Option Bool :=
  chk (decide (0 ≤ (if 20 < (x1.length : Int) then 20 else (x1.length : Int))) && decide ((if 20 < (x1.length : Int) then 20 else (x1.length : Int)) ≤ (x1.length : Int))) ((pledgelaw12_StepPairs_1 [1, 2] () () x0 ((x1.take (if 20 < (x1.length : Int) then 20 else (x1.length : Int) : Int).toNat).drop 0)).bind fun r32 => bif r32.1 then (pledgelaw12_StepPairs_1 [5, 6] () () r32.2.1 r32.2.2.1).bind fun r33 => bif r33.1 then (pledgelaw12_StepPairs_1 [7, 8] () () r33.2.1 r33.2.2.1).bind fun r34 => bif r34.1 then (pledgelaw12_StepPairs_1 [1, 3, 4] () () r34.2.1 r34.2.2.1).bind fun r35 => bif r35.1 then pledgelaw12_works.bind fun r36 => some r36 else some false else some false else some false else some false)
def pledgelaw12_StepPairs.C : Ctx := { ty := tyT, sigs := fun i => bif Nat.beq i 20 then [pledgelaw12_StepPairs_1.sig] else bif Nat.beq i 22 then [pledgelaw12_works.sig] else [], n := 33, mp := mpT }
def pledgelaw12_StepPairs.Q : Cuts := { np := 0, loops := fun i => none, seqs := fun i => none, splits := fun i => none }
def pledgelaw12_StepPairs.sig : Sig := { args := .tc (.val (.int .u8)) (.tc (.val (.slice kLine)) .tn), objs := [], ret := .val .bool, outs := [], F := fun x => pledgelaw12_StepPairs x.1.1 x.1.2.1 }
theorem pledgelaw12_StepPairs.eq : (fun x => body pledgelaw12_StepPairs.C pledgelaw12_StepPairs.Q Go.Proofs.Try.f7 pledgelaw12_StepPairs.sig.args pledgelaw12_StepPairs.sig.objs pledgelaw12_StepPairs.sig.ret pledgelaw12_StepPairs.sig.outs x) = pledgelaw12_StepPairs.sig.F := by
  kernel_rfl
set_option maxRecDepth 100000 in
theorem pledgelaw12_StepPairs.ctx : CtxOk Go.Proofs.Try.prog pledgelaw12_StepPairs.C := ⟨tyOk, mpOk, Nat.le_of_ble_eq_true (by kernel_rfl), fun f sg => fun h => sigs_if h (allS_cons pledgelaw12_StepPairs_1.ok allS_nil) (fun h => sigs_if h (allS_cons pledgelaw12_works.ok allS_nil) ((fun h => by cases h)))⟩
set_option maxRecDepth 100000 in
theorem pledgelaw12_StepPairs.ok : Sound Go.Proofs.Try.prog 7 pledgelaw12_StepPairs.sig := body_sound (C := pledgelaw12_StepPairs.C) (q := pledgelaw12_StepPairs.Q) (fn := Go.Proofs.Try.f7) (sg := pledgelaw12_StepPairs.sig) (n := 2) pledgelaw12_StepPairs.ctx follows Go.Proofs.Try.func7 (by kernel_rfl) (by kernel_rfl) (by kernel_rfl) (by kernel_rfl) (Nat.le_of_ble_eq_true (by kernel_rfl)) (by kernel_rfl) pledgelaw12_StepPairs.eq

def pledgelaw12_few (x0 : Int × Int × (List (Int × Int × Unit)) × Unit) : Option Bool :=
  some (decide ((x0.2.2.1.length : Int) ≤ 20))
def pledgelaw12_few.C : Ctx := { ty := tyT, sigs := fun i => [], n := 7, mp := mpT }
def pledgelaw12_few.Q : Cuts := { np := 0, loops := fun i => none, seqs := fun i => none, splits := fun i => none }
def pledgelaw12_few.sig : Sig := { args := .tc (.val kStep) .tn, objs := [], ret := .val .bool, outs := [], F := fun x => pledgelaw12_few x.1.1 }
theorem pledgelaw12_few.eq : (fun x => body pledgelaw12_few.C pledgelaw12_few.Q Go.Proofs.Try.f23 pledgelaw12_few.sig.args pledgelaw12_few.sig.objs pledgelaw12_few.sig.ret pledgelaw12_few.sig.outs x) = pledgelaw12_few.sig.F := by
  kernel_rfl
set_option maxRecDepth 100000 in
theorem pledgelaw12_few.ctx : CtxOk Go.Proofs.Try.prog pledgelaw12_few.C := ⟨tyOk, mpOk, Nat.le_of_ble_eq_true (by kernel_rfl), fun f sg => (fun h => by cases h)⟩
set_option maxRecDepth 100000 in
theorem pledgelaw12_few.ok : Sound Go.Proofs.Try.prog 23 pledgelaw12_few.sig := body_sound (C := pledgelaw12_few.C) (q := pledgelaw12_few.Q) (fn := Go.Proofs.Try.f23) (sg := pledgelaw12_few.sig) (n := 1) pledgelaw12_few.ctx follows Go.Proofs.Try.func23 (by kernel_rfl) (by kernel_rfl) (by kernel_rfl) (by kernel_rfl) (Nat.le_of_ble_eq_true (by kernel_rfl)) (by kernel_rfl) pledgelaw12_few.eq

def step_Undo (x0 : Int × Int × (List (Int × Int × Unit)) × Unit) : Option (List ((Int × Int × Int × Unit) × Int × Unit)) :=
  (step_Ops x0).bind fun r40 => (op_Neg r40).bind fun r41 => some r41.2.1
def step_Undo.C : Ctx := { ty := tyT, sigs := fun i => bif Nat.beq i 18 then [op_Neg.sig] else bif Nat.beq i 21 then [step_Ops.sig] else [], n := 12, mp := mpT }
def step_Undo.Q : Cuts := { np := 0, loops := fun i => none, seqs := fun i => none, splits := fun i => none }
def step_Undo.sig : Sig := { args := .tc (.val kStep) .tn, objs := [], ret := .val (.slice kOp), outs := [], F := fun x => step_Undo x.1.1 }
theorem step_Undo.eq : (fun x => body step_Undo.C step_Undo.Q Go.Proofs.Try.f24 step_Undo.sig.args step_Undo.sig.objs step_Undo.sig.ret step_Undo.sig.outs x) = step_Undo.sig.F := by
  kernel_rfl
set_option maxRecDepth 100000 in
theorem step_Undo.ctx : CtxOk Go.Proofs.Try.prog step_Undo.C := ⟨tyOk, mpOk, Nat.le_of_ble_eq_true (by kernel_rfl), fun f sg => fun h => sigs_if h (allS_cons op_Neg.ok allS_nil) (fun h => sigs_if h (allS_cons step_Ops.ok allS_nil) ((fun h => by cases h)))⟩
set_option maxRecDepth 100000 in
theorem step_Undo.ok : Sound Go.Proofs.Try.prog 24 step_Undo.sig := body_sound (C := step_Undo.C) (q := step_Undo.Q) (fn := Go.Proofs.Try.f24) (sg := step_Undo.sig) (n := 1) step_Undo.ctx follows Go.Proofs.Try.func24 (by kernel_rfl) (by kernel_rfl) (by kernel_rfl) (by kernel_rfl) (Nat.le_of_ble_eq_true (by kernel_rfl)) (by kernel_rfl) step_Undo.eq

def step_atWare (x0 : Int) : Option Bool :=
  bif (x0 : Int) != 7 then some ((x0 : Int) != 8) else some false
def step_atWare.C : Ctx := { ty := tyT, sigs := fun i => [], n := 9, mp := mpT }
def step_atWare.Q : Cuts := { np := 0, loops := fun i => none, seqs := fun i => none, splits := fun i => none }
def step_atWare.sig : Sig := { args := .tc (.val (.int .u8)) .tn, objs := [], ret := .val .bool, outs := [], F := fun x => step_atWare x.1.1 }
theorem step_atWare.eq : (fun x => body step_atWare.C step_atWare.Q Go.Proofs.Try.f42 step_atWare.sig.args step_atWare.sig.objs step_atWare.sig.ret step_atWare.sig.outs x) = step_atWare.sig.F := by
  kernel_rfl
set_option maxRecDepth 100000 in
theorem step_atWare.ctx : CtxOk Go.Proofs.Try.prog step_atWare.C := ⟨tyOk, mpOk, Nat.le_of_ble_eq_true (by kernel_rfl), fun f sg => (fun h => by cases h)⟩
set_option maxRecDepth 100000 in
theorem step_atWare.ok : Sound Go.Proofs.Try.prog 42 step_atWare.sig := body_sound (C := step_atWare.C) (q := step_atWare.Q) (fn := Go.Proofs.Try.f42) (sg := step_atWare.sig) (n := 1) step_atWare.ctx follows Go.Proofs.Try.func42 (by kernel_rfl) (by kernel_rfl) (by kernel_rfl) (by kernel_rfl) (Nat.le_of_ble_eq_true (by kernel_rfl)) (by kernel_rfl) step_atWare.eq

def key_fine (x0 : Int) (x1 : Int) : Option Bool :=
  bif decide (x0 ≥ 1) then bif decide (x0 ≤ 4) then bif decide (x1 ≥ 1) then some (decide (x1 ≤ 4)) else some false else some false else some false
def key_fine.C : Ctx := { ty := tyT, sigs := fun i => [], n := 19, mp := mpT }
def key_fine.Q : Cuts := { np := 0, loops := fun i => none, seqs := fun i => none, splits := fun i => none }
def key_fine.sig : Sig := { args := .tc (.val (.int .i64)) (.tc (.val (.int .i64)) .tn), objs := [], ret := .val .bool, outs := [], F := fun x => key_fine x.1.1 x.1.2.1 }
theorem key_fine.eq : (fun x => body key_fine.C key_fine.Q Go.Proofs.Try.f43 key_fine.sig.args key_fine.sig.objs key_fine.sig.ret key_fine.sig.outs x) = key_fine.sig.F := by
  kernel_rfl
set_option maxRecDepth 100000 in
theorem key_fine.ctx : CtxOk Go.Proofs.Try.prog key_fine.C := ⟨tyOk, mpOk, Nat.le_of_ble_eq_true (by kernel_rfl), fun f sg => (fun h => by cases h)⟩
set_option maxRecDepth 100000 in
theorem key_fine.ok : Sound Go.Proofs.Try.prog 43 key_fine.sig := body_sound (C := key_fine.C) (q := key_fine.Q) (fn := Go.Proofs.Try.f43) (sg := key_fine.sig) (n := 2) key_fine.ctx follows Go.Proofs.Try.func43 (by kernel_rfl) (by kernel_rfl) (by kernel_rfl) (by kernel_rfl) (Nat.le_of_ble_eq_true (by kernel_rfl)) (by kernel_rfl) key_fine.eq

def key_both (x0 : Int) : Option Bool :=
  bif (x0 : Int) == 1 then some true else some ((x0 : Int) == 2)
def key_both.C : Ctx := { ty := tyT, sigs := fun i => [], n := 9, mp := mpT }
def key_both.Q : Cuts := { np := 0, loops := fun i => none, seqs := fun i => none, splits := fun i => none }
def key_both.sig : Sig := { args := .tc (.val (.int .u8)) .tn, objs := [], ret := .val .bool, outs := [], F := fun x => key_both x.1.1 }
theorem key_both.eq : (fun x => body key_both.C key_both.Q Go.Proofs.Try.f44 key_both.sig.args key_both.sig.objs key_both.sig.ret key_both.sig.outs x) = key_both.sig.F := by
  kernel_rfl
set_option maxRecDepth 100000 in
theorem key_both.ctx : CtxOk Go.Proofs.Try.prog key_both.C := ⟨tyOk, mpOk, Nat.le_of_ble_eq_true (by kernel_rfl), fun f sg => (fun h => by cases h)⟩
set_option maxRecDepth 100000 in
theorem key_both.ok : Sound Go.Proofs.Try.prog 44 key_both.sig := body_sound (C := key_both.C) (q := key_both.Q) (fn := Go.Proofs.Try.f44) (sg := key_both.sig) (n := 1) key_both.ctx follows Go.Proofs.Try.func44 (by kernel_rfl) (by kernel_rfl) (by kernel_rfl) (by kernel_rfl) (Nat.le_of_ble_eq_true (by kernel_rfl)) (by kernel_rfl) key_both.eq

def key_Good (x0 : Int) (x1 : Int) (x2 : Int × Int × Int × Unit) : Option Bool :=
  (key_fine x0 x1).bind fun r48 => bif !r48 then some false else bif decide (x2.1 < 1) then some false else bif decide (x2.1 > 4) then some false else bif decide ((IntKind.i64.wrap x2.2.1) ≥ x0) then some false else (key_both x2.1).bind fun r49 => bif r49 then bif decide ((IntKind.i64.wrap x2.2.2.1) < x1) then some true else (key_both x2.1).bind fun r50 => bif !r50 then some ((x2.2.2.1 : Int) == 0) else some false else (key_both x2.1).bind fun r51 => bif !r51 then some ((x2.2.2.1 : Int) == 0) else some false
def key_Good.C : Ctx := { ty := tyT, sigs := fun i => bif Nat.beq i 43 then [key_fine.sig] else bif Nat.beq i 44 then [key_both.sig] else [], n := 49, mp := mpT }
def key_Good.Q : Cuts := { np := 0, loops := fun i => none, seqs := fun i => none, splits := fun i => none }
def key_Good.sig : Sig := { args := .tc (.val (.int .i64)) (.tc (.val (.int .i64)) (.tc (.val kKey) .tn)), objs := [], ret := .val .bool, outs := [], F := fun x => key_Good x.1.1 x.1.2.1 x.1.2.2.1 }
theorem key_Good.eq : (fun x => body key_Good.C key_Good.Q Go.Proofs.Try.f26 key_Good.sig.args key_Good.sig.objs key_Good.sig.ret key_Good.sig.outs x) = key_Good.sig.F := by
  kernel_rfl
set_option maxRecDepth 100000 in
theorem key_Good.ctx : CtxOk Go.Proofs.Try.prog key_Good.C := ⟨tyOk, mpOk, Nat.le_of_ble_eq_true (by kernel_rfl), fun f sg => fun h => sigs_if h (allS_cons key_fine.ok allS_nil) (fun h => sigs_if h (allS_cons key_both.ok allS_nil) ((fun h => by cases h)))⟩
set_option maxRecDepth 100000 in
theorem key_Good.ok : Sound Go.Proofs.Try.prog 26 key_Good.sig := body_sound (C := key_Good.C) (q := key_Good.Q) (fn := Go.Proofs.Try.f26) (sg := key_Good.sig) (n := 3) key_Good.ctx follows Go.Proofs.Try.func26 (by kernel_rfl) (by kernel_rfl) (by kernel_rfl) (by kernel_rfl) (Nat.le_of_ble_eq_true (by kernel_rfl)) (by kernel_rfl) key_Good.eq

def step_Good.l1 (v : (Int × Int × Unit × (List (Int × Int × Unit)) × Int × Int) × (Int × Int × (List (Int × Int × Unit)) × Unit) × Unit) : Option (((Int × Int × Unit × (List (Int × Int × Unit)) × Int × Int) × (Int × Int × (List (Int × Int × Unit)) × Unit) × Unit) ⊕ (Unit ⊕ Bool)) :=
  bif decide (v.1.2.2.2.2.2 < v.1.2.2.2.2.1) then nthK v.1.2.2.2.1 v.1.2.2.2.2.2 fun e46 => bif decide (e46.2.1 < 1) then some (Sum.inr (Sum.inr false)) else bif decide (v.1.2.2.2.2.2 > 0) then nthK v.2.1.2.2.1 (IntKind.i64.wrap (v.1.2.2.2.2.2 - 1)) fun e47 => bif decide (e47.1 ≥ e46.1) then some (Sum.inr (Sum.inr false)) else (key_Good v.1.1 v.1.2.1 (1, (e46.1, (v.2.1.2.1, ())))).bind fun r48 => bif !r48 then some (Sum.inr (Sum.inr false)) else some (Sum.inl ((v.1.1, (v.1.2.1, ((), (v.1.2.2.2.1, (v.1.2.2.2.2.1, IntKind.i64.wrap (v.1.2.2.2.2.2 + 1)))))), (v.2.1, ()))) else (key_Good v.1.1 v.1.2.1 (1, (e46.1, (v.2.1.2.1, ())))).bind fun r49 => bif !r49 then some (Sum.inr (Sum.inr false)) else some (Sum.inl ((v.1.1, (v.1.2.1, ((), (v.1.2.2.2.1, (v.1.2.2.2.2.1, IntKind.i64.wrap (v.1.2.2.2.2.2 + 1)))))), (v.2.1, ()))) else some (Sum.inr (Sum.inl ()))
def step_Good (x0 : Int) (x1 : Int) (x2 : Int × Int × (List (Int × Int × Unit)) × Unit) : Option Bool :=
  (bif decide (x2.1 < 1) then some (Sum.inr false) else bif decide (x2.1 > 8) then some (Sum.inr false) else bif decide ((x2.2.2.1.length : Int) < 1) then some (Sum.inr false) else bif decide ((x2.2.2.1.length : Int) > 3) then some (Sum.inr false) else (step_atWare x2.1).bind fun r42 => bif !r42 then bif (x2.2.1 : Int) != 0 then some (Sum.inr false) else some (Sum.inl ((x0, (x1, ())), (x2, ()))) else some (Sum.inl ((x0, (x1, ())), (x2, ()))) : Option (((Int × Int × Unit) × (Int × Int × (List (Int × Int × Unit)) × Unit) × Unit) ⊕ Bool)).bind fun y43 => (match y43 with | .inl y44 => (iterL step_Good.l1 loopN ((y44.1.1, (y44.1.2.1, ((), (y44.2.1.2.2.1, ((y44.2.1.2.2.1.length : Int), 0))))), (y44.2.1, ()))).bind fun y50 => (match y50 with | .inl y51 => some true | .inr y52 => some y52) | .inr y45 => some y45)
def step_Good.C : Ctx := { ty := tyT, sigs := fun i => bif Nat.beq i 26 then [key_Good.sig] else bif Nat.beq i 42 then [step_atWare.sig] else [], n := 79, mp := mpT }
def step_Good.Q : Cuts := { np := 0, loops := fun i => bif Nat.beq i 4 then some ({ env := [(0, .val (.int .i64)), (1, .val (.int .i64)), (5, .ptr 0), (41, .val (.slice kLine)), (42, .val (.int .i64)), (43, .val (.int .i64))], objs := [.cell kStep (.val kStep)] }, [(.exit 0, { env := [], objs := [] }), (.ret, { env := [(6, .val .bool)], objs := [] })]) else none, seqs := fun i => bif Nat.beq i 3 then some [(.normal, { env := [(0, .val (.int .i64)), (1, .val (.int .i64)), (5, .ptr 0)], objs := [.cell kStep (.val kStep)] }), (.ret, { env := [(6, .val .bool)], objs := [] })] else none, splits := fun i => none }
def step_Good.sig : Sig := { args := .tc (.val (.int .i64)) (.tc (.val (.int .i64)) (.tc (.val kStep) .tn)), objs := [], ret := .val .bool, outs := [], F := fun x => step_Good x.1.1 x.1.2.1 x.1.2.2.1 }
theorem step_Good.eq : (fun x => body step_Good.C step_Good.Q Go.Proofs.Try.f25 step_Good.sig.args step_Good.sig.objs step_Good.sig.ret step_Good.sig.outs x) = step_Good.sig.F := by
  kernel_rfl
set_option maxRecDepth 100000 in
theorem step_Good.ctx : CtxOk Go.Proofs.Try.prog step_Good.C := ⟨tyOk, mpOk, Nat.le_of_ble_eq_true (by kernel_rfl), fun f sg => fun h => sigs_if h (allS_cons key_Good.ok allS_nil) (fun h => sigs_if h (allS_cons step_atWare.ok allS_nil) ((fun h => by cases h)))⟩
set_option maxRecDepth 100000 in
theorem step_Good.ok : Sound Go.Proofs.Try.prog 25 step_Good.sig := body_sound (C := step_Good.C) (q := step_Good.Q) (fn := Go.Proofs.Try.f25) (sg := step_Good.sig) (n := 3) step_Good.ctx follows Go.Proofs.Try.func25 (by kernel_rfl) (by kernel_rfl) (by kernel_rfl) (by kernel_rfl) (Nat.le_of_ble_eq_true (by kernel_rfl)) (by kernel_rfl) step_Good.eq

def pledgelaw12_StepUndoes.l1 (v : (Int × Int × Unit × (List ((Int × Int × Int × Unit) × Int × Unit)) × (List ((Int × Int × Int × Unit) × Int × Unit)) × Bool × Int) × (Int × Int × (List (Int × Int × Unit)) × Unit) × Unit) : Option (((Int × Int × Unit × (List ((Int × Int × Int × Unit) × Int × Unit)) × (List ((Int × Int × Int × Unit) × Int × Unit)) × Bool × Int) × (Int × Int × (List (Int × Int × Unit)) × Unit) × Unit) ⊕ (((Unit × (List ((Int × Int × Int × Unit) × Int × Unit)) × (List ((Int × Int × Int × Unit) × Int × Unit)) × Bool) × (Int × Int × (List (Int × Int × Unit)) × Unit) × Unit) ⊕ Bool)) :=
  bif decide (v.1.2.2.2.2.2.2 < (v.1.2.2.2.1.length : Int)) then nthK v.1.2.2.2.1 v.1.2.2.2.2.2.2 fun e45 => (key_Good v.1.1 v.1.2.1 e45.1).bind fun r46 => bif !r46 then some (Sum.inr (Sum.inr false)) else nthK v.1.2.2.2.1 v.1.2.2.2.2.2.2 fun e47 => bif (e47.2.1 : Int) == 0 then some (Sum.inr (Sum.inr false)) else some (Sum.inl ((v.1.1, (v.1.2.1, ((), (v.1.2.2.2.1, (v.1.2.2.2.2.1, (v.1.2.2.2.2.2.1, IntKind.i64.wrap (v.1.2.2.2.2.2.2 + 1))))))), (v.2.1, ()))) else some (Sum.inr (Sum.inl (((), (v.1.2.2.2.1, (v.1.2.2.2.2.1, v.1.2.2.2.2.2.1))), (v.2.1, ()))))
def pledgelaw12_StepUndoes (x0 : Int) (x1 : Int) (x2 : Int × Int × (List (Int × Int × Unit)) × Unit) : Option Bool :=
  (pledgelaw12_few x2).bind fun r37 => bif !r37 then pledgelaw12_works.bind fun r38 => some r38 else (step_Ops x2).bind fun r39 => room (0 + r39.length) ((step_Undo x2).bind fun r40 => room (([] ++ r39).length + r40.length) ((op_Net (([] ++ r39) ++ r40)).bind fun r41 => bif !r41.2.1 then some false else bif ((r41.1.length : Int) : Int) != 0 then some false else (step_Good x0 x1 x2).bind fun r42 => bif !r42 then pledgelaw12_works.bind fun r43 => some r43 else (op_Net r39).bind fun r44 => (iterL pledgelaw12_StepUndoes.l1 loopN ((x0, (x1, ((), (r39, (r44.1, (r44.2.1, 0)))))), (x2, ()))).bind fun y48 => (match y48 with | .inl y49 => bif y49.1.2.2.2 then bif ((y49.1.2.2.1.length : Int) : Int) == (y49.1.2.1.length : Int) then bif decide ((y49.1.2.1.length : Int) ≥ (y49.2.1.2.2.1.length : Int)) then bif decide ((y49.1.2.1.length : Int) ≤ 6) then pledgelaw12_works.bind fun r51 => some r51 else some false else some false else some false else some false | .inr y50 => some y50)))
def pledgelaw12_StepUndoes.C : Ctx := { ty := tyT, sigs := fun i => bif Nat.beq i 9 then [op_Net.sig] else bif Nat.beq i 21 then [step_Ops.sig] else bif Nat.beq i 22 then [pledgelaw12_works.sig] else bif Nat.beq i 23 then [pledgelaw12_few.sig] else bif Nat.beq i 24 then [step_Undo.sig] else bif Nat.beq i 25 then [step_Good.sig] else bif Nat.beq i 26 then [key_Good.sig] else [], n := 94, mp := mpT }
def pledgelaw12_StepUndoes.Q : Cuts := { np := 0, loops := fun i => bif Nat.beq i 11 then some ({ env := [(0, .val (.int .i64)), (1, .val (.int .i64)), (5, .ptr 0), (7, .val (.slice kOp)), (10, .val (.slice kOp)), (11, .val .bool), (12, .val (.int .i64))], objs := [.cell kStep (.val kStep)] }, [(.exit 0, { env := [(5, .ptr 0), (7, .val (.slice kOp)), (10, .val (.slice kOp)), (11, .val .bool)], objs := [.cell kStep (.val kStep)] }), (.ret, { env := [(6, .val .bool)], objs := [] })]) else none, seqs := fun i => none, splits := fun i => none }
def pledgelaw12_StepUndoes.sig : Sig := { args := .tc (.val (.int .i64)) (.tc (.val (.int .i64)) (.tc (.val kStep) .tn)), objs := [], ret := .val .bool, outs := [], F := fun x => pledgelaw12_StepUndoes x.1.1 x.1.2.1 x.1.2.2.1 }
theorem pledgelaw12_StepUndoes.eq : (fun x => body pledgelaw12_StepUndoes.C pledgelaw12_StepUndoes.Q Go.Proofs.Try.f8 pledgelaw12_StepUndoes.sig.args pledgelaw12_StepUndoes.sig.objs pledgelaw12_StepUndoes.sig.ret pledgelaw12_StepUndoes.sig.outs x) = pledgelaw12_StepUndoes.sig.F := by
  kernel_rfl
set_option maxRecDepth 100000 in
theorem pledgelaw12_StepUndoes.ctx : CtxOk Go.Proofs.Try.prog pledgelaw12_StepUndoes.C := ⟨tyOk, mpOk, Nat.le_of_ble_eq_true (by kernel_rfl), fun f sg => fun h => sigs_if h (allS_cons op_Net.ok allS_nil) (fun h => sigs_if h (allS_cons step_Ops.ok allS_nil) (fun h => sigs_if h (allS_cons pledgelaw12_works.ok allS_nil) (fun h => sigs_if h (allS_cons pledgelaw12_few.ok allS_nil) (fun h => sigs_if h (allS_cons step_Undo.ok allS_nil) (fun h => sigs_if h (allS_cons step_Good.ok allS_nil) (fun h => sigs_if h (allS_cons key_Good.ok allS_nil) ((fun h => by cases h))))))))⟩
set_option maxRecDepth 100000 in
theorem pledgelaw12_StepUndoes.ok : Sound Go.Proofs.Try.prog 8 pledgelaw12_StepUndoes.sig := body_sound (C := pledgelaw12_StepUndoes.C) (q := pledgelaw12_StepUndoes.Q) (fn := Go.Proofs.Try.f8) (sg := pledgelaw12_StepUndoes.sig) (n := 3) pledgelaw12_StepUndoes.ctx follows Go.Proofs.Try.func8 (by kernel_rfl) (by kernel_rfl) (by kernel_rfl) (by kernel_rfl) (Nat.le_of_ble_eq_true (by kernel_rfl)) (by kernel_rfl) pledgelaw12_StepUndoes.eq

end Go.Proofs.F
