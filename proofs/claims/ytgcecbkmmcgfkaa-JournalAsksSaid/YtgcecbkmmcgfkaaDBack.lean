/- slices.Backward's function, called with a loop's yield. -/
import Derived.Test.YtgcecbkmmcgfkaaDRange
set_option linter.unusedVariables false
set_option linter.unusedSimpArgs false
namespace Go.Proofs.D
open Go.RowKit

def backBody (f : Func) : Code := .seq (.region 0 (rops (bodyOf f) 0) false) (.block 0 (.loop (.seq (.seq (.region 1 (rops (bodyOf f) 1) false) (.cond (.tmp 8) .skip (.exit 0))) (.seq (.block 1 (.seq (.region 3 (rops (bodyOf f) 3) false) (.cond (.tmp 18) .ret .skip))) (.region 2 (rops (bodyOf f) 2) false)))))
def b3 (f : Func) (i : Nat) : Oper := (rops (bodyOf f) 3).toList.getD i default
def keepsT (l : List Oper) (t : Nat) : Bool := l.all fun o => decide (o.dst ≠ some t)

structure BackFacts (P : Program) (C : Ctx) (gf : FuncId) (fn : Func) (e : K) (ts : Array TypeId) : Prop where
  hf : P.funcs[gf]? = some fn
  hname : (fn.name == "runtime.NumGoroutine") = false
  hb : fn.body = some (backBody fn)
  hres : fn.results = #[]
  hn : fn.ntmps = C.n
  h18 : 18 < C.n
  h3 : (rops (bodyOf fn) 3).toList = [b3 fn 0, b3 fn 1, b3 fn 2, b3 fn 3, b3 fn 4, b3 fn 5, b3 fn 6, b3 fn 7]
  m0 : (b3 fn 0).op = .move (.tmp 0)
  m0d : (b3 fn 0).dst = some 11
  m0g : (b3 fn 0).guard = none
  c6 : (b3 fn 6).op = .call { callee := .value (.tmp 11), args := #[.tmp 12, .tmp 16], argTypes := ts }
  c6d : (b3 fn 6).dst = some 17
  c6g : (b3 fn 6).guard = none
  k0 : (keepsT (rops (bodyOf fn) 0).toList 0 && keepsT (rops (bodyOf fn) 0).toList 1) = true
  k1 : (keepsT (rops (bodyOf fn) 1).toList 0 && keepsT (rops (bodyOf fn) 1).toList 1) = true
  k2 : (keepsT (rops (bodyOf fn) 2).toList 0 && keepsT (rops (bodyOf fn) 2).toList 1) = true
  k3 : (keepsT [b3 fn 1, b3 fn 2, b3 fn 3, b3 fn 4, b3 fn 5] 0 && keepsT [b3 fn 1, b3 fn 2, b3 fn 3, b3 fn 4, b3 fn 5] 1 && keepsT [b3 fn 1, b3 fn 2, b3 fn 3, b3 fn 4, b3 fn 5] 11) = true
  k7 : (keepsT [b3 fn 7] 0 && keepsT [b3 fn 7] 1) = true
  q0 : ∀ xs : List (El e), evalReg C false (rops (bodyOf fn) 0).toList (mkS [(1, .rptr (.slice e) xs)] [] []) (fun sF => some (facts [1, 3] [] sF)) = some (told [(1, .rptr (.slice e) xs), (3, .val (.int .i64) (IntKind.i64.wrap ((xs.length : Int) - 1)))] [] [])
  q1 : ∀ (xs : List (El e)) (i : Int), evalReg C false (rops (bodyOf fn) 1).toList (mkS [(1, .rptr (.slice e) xs), (3, .val (.int .i64) i)] [] []) (fun sF => some (facts [1, 3, 8] [] sF)) = some (told [(1, .rptr (.slice e) xs), (3, .val (.int .i64) i), (8, .val .bool (decide (i ≥ 0)))] [] [])
  q2 : ∀ (xs : List (El e)) (i : Int), evalReg C false (rops (bodyOf fn) 2).toList (mkS [(1, .rptr (.slice e) xs), (3, .val (.int .i64) i)] [] []) (fun sF => some (facts [1, 3] [] sF)) = some (told [(1, .rptr (.slice e) xs), (3, .val (.int .i64) (IntKind.i64.wrap (i - 1)))] [] [])
  q3 : ∀ (xs : List (El e)) (i : Int), evalOps C (rops (bodyOf fn) 3).toList [b3 fn 1, b3 fn 2, b3 fn 3, b3 fn 4, b3 fn 5] (mkS [(1, .rptr (.slice e) xs), (3, .val (.int .i64) i)] [] []) (fun sF => some (facts [1, 3, 12, 16] [] sF)) =
    nthK xs i fun x => some (told [(1, .rptr (.slice e) xs), (3, .val (.int .i64) i), (12, .val (.int .i64) i), (16, .val e x)] [] [])
  q7 : ∀ (b : Bool) (i : Int), evalOps C (rops (bodyOf fn) 3).toList [b3 fn 7] (mkS [(3, .val (.int .i64) i), (17, .val .bool b)] [] []) (fun sF => some (facts [3, 18] [] sF)) = some (told [(3, .val (.int .i64) i), (18, .val .bool (!b))] [] [])

section
variable {P : Program} {C : Ctx} {gf : FuncId} {fn : Func} {e : K} {ts : Array TypeId} {a a' : Act} {w w' : World} {S S' : Cells} {m m' : Nat → Option MB}

theorem Ext.grown0 {E : List (Nat × T)} {d : List Nat} {O' : Cells} (h : Ext (OwnSt (mkS E [] d).sto m) w S m w' S' m' O') : Gr w w' none :=
  ⟨⟨h.os, h.tape.1, h.output, h.size, fun k hk _ => h.block k hk fun x ⟨i, o, u, q, _⟩ => by cases q⟩, h.tape.2⟩
theorem At.slot {C : Ctx} {O0 : Cells} {w0 : World} {S0 : Cells} {m0 : Nat → Option MB} {E : List (Nat × T)} {O : List (Nat × Obj)} {d : List Nat} (h : At C 0 O0 w0 S0 m0 (mkS E O d) a w S m) (t : Nat) : RepV w S m (envL E t) (a.tmps.getD t undef) := h.rel.env t

theorem evalOps_bare (hC : CtxOk P C) {Q : Exit → Act → World → Prop} {ops : Array Oper} {rest : List Nat} {l : List Oper} {k : Nat} {E E' : List (Nat × T)} {d' ke : List Nat} (hl : ∀ j x, l[j]? = some x → ops[k + j]? = some x)
    (hT : TmOk C a) (hS : ∀ b x, S b x → b < w.heap.size) (hE : ∀ p ∈ E, RepV w S (fun _ => none) p.2 (a.tmps.getD p.1 undef))
    (he : evalOps C ops.toList l (mkS E [] []) (fun sF => some (facts ke [] sF)) = some (told E' [] d')) (hke : E'.map (·.1) = ke)
    (h : ∀ a' w' S' m', (∀ t, RepV w' S' m' (envL E' t) (a'.tmps.getD t undef)) → TmOk C a' → Gr w w' none → Same a a' l → wpOpsIn (Fr none) 0 P ops Q rest a' w') :
    wpOpsIn (Fr none) 0 P ops Q (List.range' k l.length ++ rest) a w := by
  have hA := At.bare hS hT hE
  have hw : a = withD [] a := (withD_self hT.2).symm
  rw [hw]
  refine evalOps_in hC rfl l k hl hA.rel hT he fun s' a' w' S' m' g1 g2 g3 g4 g5 => ?_
  rw [withD_self g3.2]
  simp only [facts, told, Option.some.injEq, Prod.mk.injEq] at g1
  obtain ⟨f1, f2, f3⟩ := g1
  subst hke
  rw [List.map_map] at f1
  refine h a' w' S' m' (fun t => ?_) g3 (Ext.grown0 g4) g5
  rcases envL_or (map_at (f := s'.env ∘ fun p : Nat × T => p.1) (g := fun p => p.2) f1) t with q | q
  · exact .inl q
  · rw [q]; exact g2.env t

theorem region_bare (hC : CtxOk P C) {Q : Exit → Act → World → Prop} {ops : Array Oper} {id : Nat} {E E' : List (Nat × T)} {d' ke : List Nat}
    (hT : TmOk C a) (hS : ∀ b x, S b x → b < w.heap.size) (hE : ∀ p ∈ E, RepV w S (fun _ => none) p.2 (a.tmps.getD p.1 undef))
    (he : evalReg C false ops.toList (mkS E [] []) (fun sF => some (facts ke [] sF)) = some (told E' [] d')) (hke : E'.map (·.1) = ke)
    (h : ∀ a' w' S' m', (∀ t, RepV w' S' m' (envL E' t) (a'.tmps.getD t undef)) → TmOk C a' → Gr w w' none → Same a a' ops.toList → Q .normal a' w') :
    (Code.region id ops false).wpIn (Fr none) 0 P Q a w := by
  refine wpIn_region ?_
  have := evalOps_bare (P := P) (Q := Q) (rest := []) (k := 0) (ops := ops) (l := ops.toList) hC (fun j x q => by rw [Nat.zero_add, ← Array.getElem?_toList]; exact q) hT hS hE he hke h
  rwa [Array.length_toList, List.append_nil, ← List.range_eq_range'] at this

theorem run_yieldCall {o : Oper} {l : Nat} {ts : Array TypeId} {nx : Next} {w1 : World} (h6 : o.op = .call { callee := .value (.tmp 11), args := #[.tmp 12, .tmp 16], argTypes := ts }) (hf : a.eval (.tmp 11) = .func (.yield l) #[] #[])
    (hy : (Instr.yield l #[a.eval (.tmp 12), a.eval (.tmp 16)]).run P w = .ok nx w1) : (execOp a.eval o).run P w = .ok nx w1 := by
  simp [execOp, h6, resolve, hf, Deferred.ofValue, invoke, Sem.run_bind, hy]

theorem opsIn_cons {F : Fence} {n : Nat} {ops : Array Oper} {i : Nat} {rest : List Nat} {o : Oper} {Q : Exit → Act → World → Prop} (ho : ops[i]? = some o) (hg : o.guard = none) (h : o.wpIn F n P a w (wpOpsIn F n P ops Q rest) Q) : wpOpsIn F n P ops Q (i :: rest) a w := by
  unfold wpOpsIn
  rw [ho]
  simp only [Region.wanted, hg, if_true]
  exact h

def muT (a : Act) : Nat := match a.tmps.getD 3 undef with | .int _ i => (i + 1).toNat | _ => 0

theorem back_in (hC : CtxOk P C) (B : BackFacts P C gf fn e ts) {l : Nat} {bx : Value} {xs : List (El e)} (hfl : e.flat = true) (hlen : xs.length ≤ 4611686018427387904) (J : Nat → World → Cells → Prop) (Jx : World → Prop)
    (hJl : ∀ k W S, J k W S → (∀ b x, S b x → b < W.heap.size) ∧ RepV W S (fun _ => none) (.rptr (.slice e) xs) bx)
    (hJg : ∀ k W W' S, J k W S → Gr W W' none → J k W' S) (hJxg : ∀ W W', Jx W → Gr W W' none → Jx W')
    (hY : ∀ k x W S v2, J k W S → xs.reverse[k]? = some x → (∀ W' S' m', RepV W' S' m' (.val e x) v2) → YieldAt (Fr none) 0 P l #[.int .i64 ((xs.length : Int) - 1 - k), v2] W fun en W' =>
      (en = .returned (.bool true) ∧ ∃ S', J (k + 1) W' S') ∨ (en = .returned (.bool false) ∧ Jx W'))
    (h0 : J 0 w S) : CallsIn (Fr none) 0 P gf #[.func (.yield l) #[] #[], bx] w fun en W' => (∃ v, en = .returned v) ∧ ((∃ S', J xs.length W' S') ∨ Jx W') := by
  refine callsIn_of_wp B.hf B.hb trivial ?_ rfl
  have h18 := B.h18
  obtain ⟨a0, ha0⟩ : ∃ a0 : Act, a0 = { tmps := #[.func (.yield l) #[] #[], bx] ++ Array.replicate (fn.ntmps - (#[Value.func (.yield l) #[] #[], bx] : Array Value).size) undef, defers := [] } := ⟨_, rfl⟩
  rw [← ha0]
  have hT0 : TmOk C a0 := by
    rw [ha0]
    refine ⟨?_, rfl⟩
    have := B.hn
    simp; omega
  have hs0 : a0.tmps.getD 0 undef = .func (.yield l) #[] #[] := by rw [ha0]; simp [Array.getElem?_append]
  have hs1 : a0.tmps.getD 1 undef = bx := by rw [ha0]; simp [Array.getElem?_append]
  have k0 := B.k0
  have k1 := B.k1
  have k2 := B.k2
  have k3 := B.k3
  have k7 := B.k7
  simp only [Bool.and_eq_true] at k0 k1 k2 k3 k7
  obtain ⟨hl0, hb0⟩ := hJl 0 w S h0
  refine wpIn_seq (region_bare hC hT0 hl0 (E := [(1, .rptr (.slice e) xs)]) (fun p hp => by rw [List.mem_singleton] at hp; subst hp; rw [hs1]; exact hb0) (B.q0 xs) rfl fun a1 w1 S1 m1 e1 t1 g1 s1 => ?_)
  refine wpIn_block (wpIn_loop (fun a w => ∃ (k : Nat) (S : Cells), k ≤ xs.length ∧ J k w S ∧ TmOk C a ∧ a.tmps.getD 0 undef = .func (.yield l) #[] #[] ∧ a.tmps.getD 1 undef = bx ∧ a.tmps.getD 3 undef = .int .i64 ((xs.length : Int) - 1 - k)) (fun a _ => muT a) ?_ ?_)
  · have h3 := repV_int (e1 3)
    rw [wrap_i64 (by omega) (by omega)] at h3
    exact ⟨0, S, Nat.zero_le _, hJg _ _ _ _ h0 g1, t1, (s1 0 k0.1).trans hs0, (s1 1 k0.2).trans hs1, by rw [h3]; simp⟩
  · rintro a2 w2 ⟨k, S2, hk, hJ, hT, i0, i1, i3⟩
    obtain ⟨hl2, hb2⟩ := hJl k w2 S2 hJ
    have hE : ∀ (W : World), Gr w2 W none → ∀ a : Act, a.tmps.getD 1 undef = bx → a.tmps.getD 3 undef = .int .i64 ((xs.length : Int) - 1 - k) → ∀ p ∈ [((1 : Nat), T.rptr (.slice e) xs), (3, .val (.int .i64) ((xs.length : Int) - 1 - k))], RepV W S2 (fun _ => none) p.2 (a.tmps.getD p.1 undef) := by
      intro W hg a q1 q3 p hp
      rcases List.mem_cons.1 hp with q | q
      · subst q; rw [q1]; exact hb2.keep (grown_keeps hg) fun _ _ q => q
      · rw [List.mem_singleton] at q; subst q; rw [q3]; exact repV_mkInt _ _
    have hlive : ∀ W, Gr w2 W none → ∀ b x, S2 b x → b < W.heap.size := fun W hg b x q => Nat.lt_of_lt_of_le (hl2 b x q) hg.size
    have grefl : Gr w2 w2 none := ⟨⟨rfl, rfl, rfl, Nat.le_refl _, fun _ _ _ => rfl⟩, Nat.le_refl _⟩
    refine wpIn_seq (wpIn_seq (region_bare hC hT hl2 (hE w2 grefl a2 i1 i3) (B.q1 xs _) rfl fun a3 w3 S3 m3 e3 t3 g3 s3 => ?_))
    have j0 := (s3 0 k1.1).trans i0
    have j1 := (s3 1 k1.2).trans i1
    have j3 := repV_int (e3 3)
    have j8 : a3.eval (.tmp 8) = .bool (decide (((xs.length : Int) - 1 - k) ≥ 0)) := repV_bool (e3 8)
    cases hlt : decide (((xs.length : Int) - 1 - k) ≥ 0) with
    | false =>
      rw [hlt] at j8
      have hge : ¬ ((xs.length : Int) - 1 - k) ≥ 0 := by simpa using hlt
      have : k = xs.length := by omega
      subst this
      refine wpIn_cond_false j8 (wpIn_exit ?_)
      simp only [Exit.then, Exit.inBlock, if_true]
      exact ⟨t3.2, _, results_none B.hres _ _ _, ⟨_, rfl⟩, .inl ⟨S2, hJg _ _ _ _ hJ g3⟩⟩
    | true =>
      rw [hlt] at j8
      have hge : ((xs.length : Int) - 1 - k) ≥ 0 := by simpa using hlt
      refine wpIn_cond_true j8 (wpIn_skip ?_)
      show Code.wpIn _ _ _ _ _ _ _
      refine wpIn_seq (wpIn_block (wpIn_seq (wpIn_region ?_)))
      have h3 := B.h3
      have hsz : (rops (bodyOf fn) 3).size = 8 := by rw [← Array.length_toList, h3]; rfl
      have hat : ∀ j, (rops (bodyOf fn) 3)[j]? = [b3 fn 0, b3 fn 1, b3 fn 2, b3 fn 3, b3 fn 4, b3 fn 5, b3 fn 6, b3 fn 7][j]? := fun j => by rw [← Array.getElem?_toList, h3]
      rw [hsz]
      show wpOpsIn _ _ _ _ _ (0 :: (List.range' 1 [b3 fn 1, b3 fn 2, b3 fn 3, b3 fn 4, b3 fn 5].length ++ [6, 7])) _ _
      have e0 : (rops (bodyOf fn) 3)[0]? = some (b3 fn 0) := hat 0
      refine opsIn_cons e0 B.m0g ⟨fun _ _ => trivial, ?_⟩
      rw [Oper.semAt_eq _ _ _ (fun c q => by rw [B.m0] at q; cases q)]
      have r0 : (execOp a3.eval (b3 fn 0)).run P w3 = .ok (.value (a3.eval (.tmp 0))) w3 := by simp [execOp, B.m0]
      rw [r0, Oper.uponIn_value, B.m0d]
      have hp0 : a3.eval (.tmp 0) = .func (.yield l) #[] #[] := j0
      rw [hp0]
      obtain ⟨a4, ha4⟩ : ∃ a4, a4 = a3.put (some 11) (.func (.yield l) #[] #[]) := ⟨_, rfl⟩
      rw [← ha4]
      have T4 : TmOk C a4 := by rw [ha4]; exact t3.put _ _
      have u0 : a4.tmps.getD 0 undef = .func (.yield l) #[] #[] := by rw [ha4, put_other (by decide)]; exact j0
      have u1 : a4.tmps.getD 1 undef = bx := by rw [ha4, put_other (by decide)]; exact j1
      have u3 : a4.tmps.getD 3 undef = .int .i64 ((xs.length : Int) - 1 - k) := by rw [ha4, put_other (by decide)]; exact j3
      have u11 : a4.tmps.getD 11 undef = .func (.yield l) #[] #[] := by
        have : 11 < a3.tmps.size := by rw [t3.1]; omega
        rw [ha4]; simp [Act.put, this]
      have hkl : k < xs.length := by omega
      have hidx : (xs.length : Int) - 1 - k = ((xs.length - 1 - k : Nat) : Int) := by omega
      obtain ⟨x, hx⟩ : ∃ x, xs[xs.length - 1 - k]? = some x := ⟨_, List.getElem?_eq_getElem (by omega)⟩
      have hxr : xs.reverse[k]? = some x := by rw [List.getElem?_reverse hkl]; exact hx
      have q3 := B.q3 xs ((xs.length : Int) - 1 - k)
      rw [hidx, nthK_get hx, ← hidx] at q3
      refine evalOps_bare hC (k := 1) (l := [b3 fn 1, b3 fn 2, b3 fn 3, b3 fn 4, b3 fn 5]) (fun j y q => ?_) T4 (hlive w3 g3) (hE w3 g3 a4 u1 u3) q3 rfl fun a5 w5 S5 m5 e5 t5 g5 s5 => ?_
      · rw [hat]
        match j, q with
        | 0, q => exact q
        | 1, q => exact q
        | 2, q => exact q
        | 3, q => exact q
        | 4, q => exact q
        | j + 5, q => simp at q
      · have v0 := (s5 0 k3.1.1).trans u0
        have v1 := (s5 1 k3.1.2).trans u1
        have v11 := (s5 11 k3.2).trans u11
        have v3 := repV_int (e5 3)
        have v12 := repV_int (e5 12)
        have v16 : RepV w5 S5 m5 (.val e x) (a5.tmps.getD 16 undef) := e5 16
        have v16' : ∀ W' S' m', RepV W' S' m' (.val e x) (a5.tmps.getD 16 undef) := fun W' S' m' => by
          rcases v16 with q | ⟨cs, q1, q2⟩
          · cases q
          · exact .inr ⟨cs, Rep.flat hfl q1, q2⟩
        have hg25 : Gr w2 w5 none := ⟨⟨g5.os.trans g3.os, g5.tape.trans g3.tape, g5.output.trans g3.output, Nat.le_trans g3.size g5.size, fun b hb q => (g5.block b (Nat.lt_of_lt_of_le hb g3.size) q).trans (g3.block b hb q)⟩, Nat.le_trans g3.drawn g5.drawn⟩
        obtain ⟨f', tmps, assign, body, hy, hR⟩ := hY k x w5 S2 (a5.tmps.getD 16 undef) (hJg _ _ _ _ hJ hg25) hxr v16'
        have e6 : (rops (bodyOf fn) 3)[6]? = some (b3 fn 6) := hat 6
        have e7 : (rops (bodyOf fn) 3)[7]? = some (b3 fn 7) := hat 7
        refine opsIn_cons e6 B.c6g ⟨fun _ _ => trivial, ?_⟩
        rw [Oper.semAt_eq _ _ _ (fun c q => by rw [B.c6] at q; cases q)]
        have r6 := run_yieldCall (P := P) (a := a5) (w := w5) B.c6 v11 (by
          have : (#[a5.eval (.tmp 12), a5.eval (.tmp 16)] : Array Value) = #[.int .i64 ((xs.length : Int) - 1 - k), a5.tmps.getD 16 undef] := by
            show (#[a5.tmps.getD 12 undef, a5.tmps.getD 16 undef] : Array Value) = _
            rw [v12]
          rw [this]; exact hy)
        rw [r6, Oper.uponIn_round, B.c6d]
        refine ⟨fun q => by (cases q), hR.mono fun en W6 h6 => ?_⟩
        have st7 : ∀ (b : Bool), ∀ p ∈ [((3 : Nat), T.val (.int .i64) ((xs.length : Int) - 1 - k)), (17, .val .bool b)], RepV W6 (fun _ _ => False) (fun _ => none) p.2 ((a5.put (some 17) (.bool b)).tmps.getD p.1 undef) := fun b p hp => by
          rcases List.mem_cons.1 hp with q | q
          · subst q
            show RepV _ _ _ (.val (.int .i64) ((xs.length : Int) - 1 - k)) ((a5.put (some 17) (.bool b)).tmps.getD 3 undef)
            rw [put_other (by decide), v3]; exact repV_mkInt _ _
          · rw [List.mem_singleton] at q; subst q
            have : 17 < a5.tmps.size := by rw [t5.1]; omega
            have e17 : (a5.put (some 17) (.bool b)).tmps.getD 17 undef = .bool b := by simp [Act.put, this]
            show RepV _ _ _ (.val .bool b) ((a5.put (some 17) (.bool b)).tmps.getD 17 undef)
            rw [e17]; exact repV_mkBool _
        have hat7 : ∀ j y, [b3 fn 7][j]? = some y → (rops (bodyOf fn) 3)[7 + j]? = some y := fun j y q => by
          match j, q with
          | 0, q => rw [e7]; exact q
          | j + 1, q => simp at q
        rcases h6 with ⟨rfl, S6, hJ6⟩ | ⟨rfl, hx6⟩
        · show wpOpsIn _ _ _ _ _ (List.range' 7 [b3 fn 7].length ++ []) (a5.put (some 17) (.bool true)) W6
          refine evalOps_bare hC hat7 (t5.put _ _) (fun _ _ q => q.elim) (st7 true) (B.q7 true _) rfl fun a7 w7 S7 m7 e7' t7 g7 s7 => ?_
          show Code.wpIn _ _ _ _ _ _ _
          have x0 := (s7 0 k7.1).trans ((put_other (by decide)).trans v0)
          have x1 := (s7 1 k7.2).trans ((put_other (by decide)).trans v1)
          have x3 := repV_int (e7' 3)
          have x18 : a7.eval (.tmp 18) = .bool false := repV_bool (e7' 18)
          refine wpIn_cond_false x18 (wpIn_skip ?_)
          show Code.wpIn _ _ _ _ _ _ _
          have hJ7 := hJg _ _ _ _ hJ6 g7
          obtain ⟨hl7, hb7⟩ := hJl _ _ _ hJ7
          refine region_bare hC t7 hl7 (E := [(1, .rptr (.slice e) xs), (3, .val (.int .i64) ((xs.length : Int) - 1 - k))]) (fun p hp => ?_) (B.q2 xs _) rfl fun a8 w8 S8 m8 e8 t8 g8 s8 => ?_
          · rcases List.mem_cons.1 hp with q | q
            · subst q; rw [x1]; exact hb7
            · rw [List.mem_singleton] at q; subst q; rw [x3]; exact repV_mkInt _ _
          · have y3 := repV_int (e8 3)
            rw [wrap_i64 (by omega) (by omega)] at y3
            refine ⟨⟨k + 1, S6, by omega, hJg _ _ _ _ hJ7 g8, t8, (s8 0 k2.1).trans x0, (s8 1 k2.2).trans x1, ?_⟩, ?_⟩
            · rw [y3]; congr 1; omega
            · unfold muT
              rw [y3, i3]
              simp only
              omega
        · show wpOpsIn _ _ _ _ _ (List.range' 7 [b3 fn 7].length ++ []) (a5.put (some 17) (.bool false)) W6
          refine evalOps_bare hC hat7 (t5.put _ _) (fun _ _ q => q.elim) (st7 false) (B.q7 false _) rfl fun a7 w7 S7 m7 e7' t7 g7 s7 => ?_
          show Code.wpIn _ _ _ _ _ _ _
          have x18 : a7.eval (.tmp 18) = .bool true := repV_bool (e7' 18)
          refine wpIn_cond_true x18 (wpIn_ret ?_)
          exact ⟨t7.2, _, results_none B.hres _ _ _, ⟨_, rfl⟩, .inr (hJxg _ _ hx6 g7)⟩
end
end Go.Proofs.D
