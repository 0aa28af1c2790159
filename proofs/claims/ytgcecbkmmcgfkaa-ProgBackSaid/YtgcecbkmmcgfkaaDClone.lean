/- slices.Clone keeps its contract: its result is a row of its own. -/
import Derived.Test.YtgcecbkmmcgfkaaDPrim
set_option linter.unusedVariables false
set_option linter.unusedSimpArgs false
namespace Go.Proofs.D
open Go.RowKit

section
variable {P : Program} {C : Ctx}

theorem eqGuard_slice (op : BinOp) (t : TypeId) (x y : Operand) {w : World} (p q : Option Addr) (a b c d : Nat) : (eqGuard op t x y (.slice p a b) (.slice q c d)).run P w = .ok () w := by
  unfold eqGuard; split <;> simp
theorem eqIn_slice (d : Nat) {t te : TypeId} (h : P.underlying t = some (.slice te)) {w : World} (p : Option Addr) (a b : Nat) : (Op.equalIn (d + 1) t (.slice p a b) (.slice none 0 0)).run P w = .ok p.isNone w := by
  cases p <;> simp [Op.equalIn, run_underlying h]

theorem wpOps_two {o1 o2 : Oper} {Q : Exit → Act → World → Prop} {a : Act} {w : World} (g1 : o1.guard = none) (g2 : o2.guard = none) (h : o1.wp P a w (fun a' w' => o2.wp P a' w' (fun a w => Q .normal a w) Q) Q) : wpOps P #[o1, o2] Q [0, 1] a w := by
  have e1 : ∀ (tm : Array Value), Region.wanted o1 (yielded #[o1, o2] tm) = true := fun tm => by simp [Region.wanted, g1]
  have e2 : ∀ (tm : Array Value), Region.wanted o2 (yielded #[o1, o2] tm) = true := fun tm => by simp [Region.wanted, g2]
  show (if Region.wanted o1 (yielded #[o1, o2] a.tmps) = true then _ else _)
  rw [if_pos (e1 _)]
  refine .inl (Oper.wp_mono (fun a' w' h' => ?_) h)
  show (if Region.wanted o2 (yielded #[o1, o2] a'.tmps) = true then _ else _)
  rw [if_pos (e2 _)]
  exact .inl h'

/-- The end of a body that answers a new row. -/
def cloneEnd (C : Ctx) (fn : Func) (e : K) : Ex → St → Option (ResEl (.row 0) [.row e false]) := fun x s => match x with
  | .ret => (match resT C s fn.results.toList with
      | none => none
      | some l => (unT s.sto 100000000 (.row 0) (tup1 l) (idBindsG [.row e false] ([] : List ObSk).length, [])).bind fun v =>
        (unOs s.sto 100000000 [.row e false] 0 v.2).bind fun w => bif distinct w.2.1.ids && keysB w.2.1 && flagsOk (upds w.2.2 s.sto) w.2.1 0 [.row e false] && (Nat.ble ([] : List ObSk).length 1000 && keysG [.row e false] ([] : List ObSk).length w.2.1) then some (mkRes (.row 0) [.row e false] v.1 w.1) else none)
  | _ => none

def cloneSt (e : K) (l : List (El e)) : St := { env := argT (fill (.tc (.val (.slice e)) .tn) (l, ())), sto := objs0 (fillOs [] ()), done := fun _ => false }
def cloneF (e : K) (x : SkEl (.tc (.val (.slice e)) .tn) × ObsEl []) : Option (ResEl (.row 0) [.row e false]) := room (0 + List.length x.1.1) (some ((), (x.1.1, ())))
def cloneMid (C : Ctx) (e : K) (a0 : Array Oper) (o1 o2 : Oper) (l : List (El e)) : Option St := evalReg C false a0.toList (cloneSt e l) fun s => evalOps C [o1, o2] [o1] s some
def midOf (s : Option St) (d : St) : St := match s with | some s => s | none => d
def isTmp3 : T → Bool | .val (.slice _) _ => true | _ => false

theorem clone_sound {f : FuncId} {fn : Func} {t : TypeId} {e : K} {q : Cuts} (hC : CtxOk P C) (hm : P.follows .mixedOrders = true) (hf : P.funcs[f]? = some fn) (hname : (fn.name == "runtime.NumGoroutine") = false) (hbody : fn.body.isNone = false) (hn : fn.ntmps = C.n) (h4 : 4 < C.n)
    (ht : C.ty t = some (.slice e)) {r0 r1 r2 r3 : Nat} {a0 a2 a3 : Array Oper} {o1 o2 : Oper}
    (hb : fn.body = some (.seq (.region r0 a0 false) (.seq (.seq (.region r1 #[o1, o2] false) (.cond (.tmp 4) (.seq (.region r2 a2 false) .ret) .skip)) (.seq (.region r3 a3 false) .ret))))
    (h1g : o1.guard = none) (h2 : o2.op = .binOp .eql t (.tmp 3) (.const (.slice none 0 0)) t) (h2d : o2.dst = some 4) (h2g : o2.guard = none) (hq : q.np = 0) (hqg : ∀ k i, q.given k i = none)
    (e1 : ∀ l, cloneMid C e a0 o1 o2 l = some (midOf (cloneMid C e a0 o1 o2 l) (cloneSt e l))) (e2 : ∀ l, (midOf (cloneMid C e a0 o1 o2 l) (cloneSt e l)).env 3 = .val (.slice e) l)
    (e3 : ∀ l, eval C q (.seq (.region r2 a2 false) .ret) ((midOf (cloneMid C e a0 o1 o2 l) (cloneSt e l)).put 4 (.any 1)) (cloneEnd C fn e) = some ((), ([], ())))
    (e4 : ∀ l, eval C q (.seq (.region r3 a3 false) .ret) ((midOf (cloneMid C e a0 o1 o2 l) (cloneSt e l)).put 4 (.any 1)) (cloneEnd C fn e) = room (0 + List.length l) (some ((), (l, ())))) :
    Sound P f { args := .tc (.val (.slice e)) .tn, objs := [], ret := .row 0, outs := [.row e false], F := cloneF e } := by
  intro w S m x y vals hy hargs hrel hbig
  obtain ⟨⟨l, u0⟩, u1⟩ := x
  have hcall : (callFunc f vals.toArray).run P w = .ok (.enter f vals.toArray) w := by
    have g1 : fn.name ≠ "runtime.NumGoroutine" := by simpa using hname
    have g2 : fn.body ≠ none := fun e => by rw [e] at hbody; cases hbody
    simp [callFunc, Sem.run_bind, hf, g1, g2]
  rw [hcall]
  show Calls P f vals.toArray w _
  refine calls_of_wp hf hb ?_
  have hvl := chain_len (n := 1) rfl hargs
  have hA : At C q.np (OwnSt (objs0 (fillOs [] u1)) m) w S m (cloneSt e l) { tmps := vals.toArray ++ Array.replicate (fn.ntmps - vals.toArray.size) undef, defers := [] } w S m := by
    refine ⟨⟨hrel.toStoRel, fun i => ?_, hrel.fresh, hrel.top⟩, ⟨?_, rfl⟩, (Ext.refl ..), fun i u _ h => h⟩
    · have := argT_ok (List.replicate (fn.ntmps - vals.length) undef) hargs (fun v hv => List.eq_of_mem_replicate hv) i
      have e : ((vals ++ List.replicate (fn.ntmps - vals.length) undef)[i]?.getD undef) = ((vals.toArray ++ Array.replicate (fn.ntmps - vals.toArray.size) undef).getD i undef) := by
        rw [Array.getD_eq_getD_getElem?, ← Array.getElem?_toList]
        simp
      rw [← e]; exact this
    · simp [hn]; omega
  have hmid := e1 l
  generalize hsm : midOf (cloneMid C e a0 o1 o2 l) (cloneSt e l) = sm at hmid
  have e2 := e2 l
  have e3 := e3 l
  have e4 := e4 l
  rw [hsm] at e2 e3 e4
  unfold cloneMid at hmid
  refine wp_seq (region_ok hC hm hA.rel hA.tm hmid fun s1 a1 w1 S1 m1 k1 k2 k3 k4 => ?_)
  have hA1 := hA.step k2 k3 k4
  refine wp_seq (wp_seq (wp_region ?_))
  have hrange : List.range (#[o1, o2] : Array Oper).size = [0, 1] := rfl
  rw [hrange]
  -- the copy
  simp only [evalOps, guardK, h1g] at k1
  obtain ⟨hst, k1⟩ := bif_some k1
  obtain ⟨t1, u1', hk1, hd⟩ := ok_op hC k2 hst k1
  cases hk1
  refine wpOps_two h1g h2g (hd _ _ fun v1 w2 haft => ?_)
  have hlt : ∀ e, o1.dst = some e → e < a1.tmps.size := fun e q => by
    simp only [stepOk, q, Bool.and_eq_true, Nat.blt_eq] at hst
    rw [k3.1]; exact hst.1
  obtain ⟨S2, m2, j1, j3⟩ := haft.put hlt
  have j2 := k3.put o1.dst v1
  have hA2 := hA1.step j1 j2 j3
  generalize a1.put o1.dst v1 = a2' at j1 j2 hA2 ⊢
  -- the comparison with nil
  have hv := j1.env 3
  rw [e2] at hv
  obtain ⟨A, cap, hA3, hcap, hrow⟩ := repV_slice hv
  simp only [List.cons.injEq, and_true] at hA3
  obtain ⟨te, hu, _⟩ := (hC.ty _ _ ht).desc
  have hrun : (execOp a2'.eval o2).run P w2 = .ok (.value (.bool A.isNone)) w2 := by
    have hx : a2'.eval (.tmp 3) = .slice A l.length cap := hA3
    have heq : (Op.equal t (.slice A l.length cap) (.slice none 0 0)).run P w2 = .ok A.isNone w2 := eqIn_slice 9999 hu A _ _
    have hbin : binOp .eql t (.slice A l.length cap) (.slice none 0 0) = (Op.equal t (.slice A l.length cap) (.slice none 0 0) >>= fun q => pure (Value.bool q)) := rfl
    have hy : a2'.eval (.const (.slice none 0 0)) = .slice none 0 0 := rfl
    simp only [execOp, h2, hx, hy]
    simp [Sem.run_bind, eqGuard_slice, hbin, heq]
  refine wp_value hrun ?_
  rw [h2d]
  show Code.wp P _ _ _ _
  -- behind it
  have h4lt : 4 < a2'.tmps.size := by rw [j2.1]; exact h4
  have hA4 : At C q.np (OwnSt (objs0 (fillOs [] u1)) m) w S m ((s1.step o1 t1 u1').put 4 (.any 1)) (a2'.put (some 4) (.bool A.isNone)) w2 S2 m2 := by
    refine ⟨⟨j1.toStoRel, ?_, j1.fresh, j1.top⟩, j2.put _ _, hA2.ext, hA2.keep⟩
    have := env_put (a := a2') j1.env (d := some 4) (t := .any 1) (v := .bool A.isNone) (.inl rfl) (fun e q => by cases q; exact h4lt)
    exact this
  have hval : (a2'.put (some 4) (.bool A.isNone)).eval (.tmp 4) = .bool A.isNone := by
    simp [Act.put, Act.eval, h4lt]
  have hend : ∀ {z : ResEl (.row 0) [.row e false]}, y = z → ∀ ex s' a' w' S' m', cloneEnd C fn e ex s' = some z → At C q.np (OwnSt (objs0 (fillOs [] u1)) m) w S m s' a' w' S' m' → ∀ Q' : Act → World → Prop,
      Exit.then Q' (bodyPost P fn fun en w' => ∃ v, en = .returned v ∧ ∃ S' m', RepV w' S' m' (fill (.row 0) (res1 y)) v ∧
        Rel { env := fun _ => .any 0, sto := objs0 (fillOs [.row e false] (res2 y)), done := fun _ => false } #[] w' S' m' ∧
        (∀ i u, i < ([] : List ObSk).length → m i = some u → m' i = some u) ∧ Ext (OwnSt (objs0 (fillOs [] u1)) m) w S (fun _ => none) w' S' (fun _ => none) (OwnSt (objs0 (fillOs [.row e false] (res2 y))) m')) ex.to a' w' := by
    intro z hz ex s' a' w' S' m' hk hA' Q'
    subst hz
    cases ex with
    | normal => cases hk
    | exit i => cases hk
    | goto i => cases hk
    | ret => exact end_ok (objs := []) (fn := fn) (y := y) hC hq hA' hk
  have hend2 : ∀ {z : ResEl (.row 0) [.row e false]}, y = z → ∀ ex s' a' w' S' m', cloneEnd C fn e ex s' = some z → At C q.np (OwnSt (objs0 (fillOs [] u1)) m) w S m s' a' w' S' m' →
      (bodyPost P fn fun en w' => ∃ v, en = .returned v ∧ ∃ S' m', RepV w' S' m' (fill (.row 0) (res1 y)) v ∧
        Rel { env := fun _ => .any 0, sto := objs0 (fillOs [.row e false] (res2 y)), done := fun _ => false } #[] w' S' m' ∧
        (∀ i u, i < ([] : List ObSk).length → m i = some u → m' i = some u) ∧ Ext (OwnSt (objs0 (fillOs [] u1)) m) w S (fun _ => none) w' S' (fun _ => none) (OwnSt (objs0 (fillOs [.row e false] (res2 y))) m')) ex.to a' w' := by
    intro z hz ex s' a' w' S' m' hk hA'
    subst hz
    cases ex with
    | normal => cases hk
    | exit i => cases hk
    | goto i => cases hk
    | ret => exact end_ok (objs := []) (fn := fn) (y := y) hC hq hA' hk
  have hyF : room (0 + List.length l) (some ((), (l, ()))) = some y := hy
  have hroom : y = ((), (l, ())) ∧ room (0 + List.length l) (some (((), (l, ())) : ResEl (.row 0) [.row e false])) = some ((), (l, ())) := by
    unfold room at hyF ⊢
    obtain ⟨h1, h2⟩ := bif_some hyF
    cases h2
    exact ⟨rfl, by rw [h1]; rfl⟩
  refine wp_cond_split hval (fun hb1 => ?_) (fun hb1 => ?_)
  · have hnil : A = none := by cases A with
      | none => rfl
      | some a => cases hb1
    have hl : l = [] := by
      cases l with
      | nil => rfl
      | cons z l =>
        obtain ⟨b, o, cs, h5, _⟩ := hrow 0 z rfl
        rw [hnil] at h5; cases h5
    subst hl
    refine eval_ok hC hm _ (GivenIn.none hqg _) e3 hA4 _ fun ex s' a' w' S' m' hk hA' => hend hroom.1 ex s' a' w' S' m' hk hA' _
  · refine wp_skip ?_
    show Code.wp P _ _ _ _
    rw [hroom.2] at e4
    exact eval_ok hC hm _ (GivenIn.none hqg _) e4 hA4 _ fun ex s' a' w' S' m' hk hA' => hend2 hroom.1 ex s' a' w' S' m' hk hA'

/-! ### The parts of its body -/
def cA0 (fn : Func) : Array Oper := match fn.body with | some (.seq (.region _ a _) _) => a | _ => #[]
def cA1 (fn : Func) : List Oper := match fn.body with | some (.seq _ (.seq (.seq (.region _ a _) _) _)) => a.toList | _ => []
def cO1 (fn : Func) : Oper := match cA1 fn with | a :: _ => a | _ => default
def cO2 (fn : Func) : Oper := match cA1 fn with | _ :: a :: _ => a | _ => default
def cA2 (fn : Func) : Array Oper := match fn.body with | some (.seq _ (.seq (.seq _ (.cond _ (.seq (.region _ a _) _) _)) _)) => a | _ => #[]
def cA3 (fn : Func) : Array Oper := match fn.body with | some (.seq _ (.seq _ (.seq (.region _ a _) _))) => a | _ => #[]
def cloneC (ty : TypeId → Option K) : Ctx := { ty := ty, sigs := fun _ => [], n := 8, mp := fun _ => none }
def cloneQ : Cuts := { np := 0, loops := fun _ => none, seqs := fun _ => none, splits := fun _ => none }
theorem cloneCtx {ty : TypeId → Option K} (h : ∀ t c, ty t = some c → TyOk P ty t c) : CtxOk P (cloneC ty) := ⟨h, (fun _ _ _ h => by cases h), (by show (8 : Nat) ≤ 99000; omega), fun _ _ h => by cases h⟩

theorem clone_ok {ty : TypeId → Option K} (hty : ∀ t c, ty t = some c → TyOk P ty t c) (hm : P.follows .mixedOrders = true) {f : FuncId} {fn : Func} {t : TypeId} {e : K} (hf : P.funcs[f]? = some fn) (hname : (fn.name == "runtime.NumGoroutine") = false) (hn : fn.ntmps = 8) (ht : ty t = some (.slice e))
    (hb : fn.body = some (.seq (.region 0 (cA0 fn) false) (.seq (.seq (.region 1 #[cO1 fn, cO2 fn] false) (.cond (.tmp 4) (.seq (.region 2 (cA2 fn) false) .ret) .skip)) (.seq (.region 3 (cA3 fn) false) .ret))))
    (h1g : (cO1 fn).guard = none) (h2 : (cO2 fn).op = .binOp .eql t (.tmp 3) (.const (.slice none 0 0)) t) (h2d : (cO2 fn).dst = some 4) (h2g : (cO2 fn).guard = none)
    (e1 : ∀ l, cloneMid (cloneC ty) e (cA0 fn) (cO1 fn) (cO2 fn) l = some (midOf (cloneMid (cloneC ty) e (cA0 fn) (cO1 fn) (cO2 fn) l) (cloneSt e l))) (e2 : ∀ l, (midOf (cloneMid (cloneC ty) e (cA0 fn) (cO1 fn) (cO2 fn) l) (cloneSt e l)).env 3 = .val (.slice e) l)
    (e3 : ∀ l, eval (cloneC ty) cloneQ (.seq (.region 2 (cA2 fn) false) .ret) ((midOf (cloneMid (cloneC ty) e (cA0 fn) (cO1 fn) (cO2 fn) l) (cloneSt e l)).put 4 (.any 1)) (cloneEnd (cloneC ty) fn e) = some ((), ([], ())))
    (e4 : ∀ l, eval (cloneC ty) cloneQ (.seq (.region 3 (cA3 fn) false) .ret) ((midOf (cloneMid (cloneC ty) e (cA0 fn) (cO1 fn) (cO2 fn) l) (cloneSt e l)).put 4 (.any 1)) (cloneEnd (cloneC ty) fn e) = room (0 + List.length l) (some ((), (l, ())))) :
    Sound P f { args := .tc (.val (.slice e)) .tn, objs := [], ret := .row 0, outs := [.row e false], F := cloneF e } :=
  clone_sound (C := cloneC ty) (q := cloneQ) (cloneCtx hty) hm hf hname (by rw [hb]; rfl) hn (show 4 < 8 by omega) ht hb h1g h2 h2d h2g rfl (fun _ _ => rfl) e1 e2 e3 e4
end
end Go.Proofs.D
