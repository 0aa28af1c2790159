/- slices.Backward; op.Neg, that ranges over it. -/
import Derived.Test.YtgcecbkmmcgfkaaDBack
set_option linter.unusedVariables false
set_option linter.unusedSimpArgs false
namespace Go.Proofs.D
open Go.RowKit

def noMaps (O : List (Nat × Obj)) : Bool := O.all fun p => !p.2.isMap

section
variable {P : Program} {C C1 : Ctx} {s s' : St} {a a' : Act} {w w' : World} {S S' : Cells} {m m' : Nat → Option MB} {O0 : Cells} {w0 : World} {S0 : Cells} {m0 : Nat → Option MB} {lr : Option Nat} {n : Nat} {E : List (Nat × T)} {O : List (Nat × Obj)} {d : List Nat}

theorem noMaps_at (h : noMaps O = true) : ∀ i o, (mkS E O d).sto i = some o → o.isMap = false := fun i o ho => by
  have := List.all_eq_true.1 h _ (stoL_mem ho)
  simpa using this

/-- What is owned are cells. -/
theorem At.notOwn (h : At C 0 O0 w0 S0 m0 s a w S m) (hm : ∀ i o, s.sto i = some o → o.isMap = false) {b : Nat} {o : Go.Obj} (hb : w.heap[b]? = some o) (hc : o.isCells = false) : ∀ x, ¬ OwnSt s.sto m b x := by
  rintro x ⟨i, ob, u, h1, h2, h3⟩
  obtain ⟨u', k1, k2⟩ := h.rel.sto i ob h1
  rw [h2] at k1; cases k1
  have hv : ∃ v, w.cell? ⟨b, x, none⟩ = some v := by
    cases ob with
    | cell c fz t =>
      obtain ⟨-, -, hf, cs, g1, g2, -⟩ := k2
      obtain ⟨-, q, g3, g4⟩ := h3
      subst q
      have hl := RepC.length hf g2
      exact ⟨cs[x - u.o]'(by omega), by have := g1 _ _ (List.getElem?_eq_getElem (l := cs) (i := x - u.o) (by omega)); rwa [show u.o + (x - u.o) = x by omega] at this⟩
    | row e sh l =>
      obtain ⟨A, cap, -, -, -, -, -, -, g2⟩ := k2
      have q : b = u.b := by obtain ⟨n, cap, a, _, q, _⟩ := h3; exact q
      subst q
      exact Option.isSome_iff_exists.1 (g2 x h3).1
    | map kc vc es => have := hm i _ h1; cases this
  obtain ⟨v, hv⟩ := hv
  unfold World.cell? at hv
  rw [hb] at hv
  cases o <;> simp_all [Go.Obj.isCells]

theorem At.regionK (hC : CtxOk P C1) (hn : C1.n = C.n) {L : List Deferred} {Q : Exit → Act → World → Prop} {id : Nat} {ops : Array Oper} {E' : List (Nat × T)} {O' : List (Nat × Obj)} {d' ke ko : List Nat}
    (h : At C 0 O0 w0 S0 m0 (mkS E O d) a w S m) (hm : noMaps O = true) (he : evalReg C1 false ops.toList (mkS E O d) (fun sF => some (facts ke ko sF)) = some (told E' O' d')) (hke : E'.map (·.1) = ke) (hko : O'.map (·.1) = ko)
    (hQ : ∀ a' w' S' m', At C 0 O0 w0 S0 m0 (mkS E' O' d') a' w' S' m' → Keeps w S w' S' → (∀ i u, m i = some u → m' i = some u) → (∀ (b : Nat) (o : Go.Obj), w.heap[b]? = some o → o.isCells = false → w'.heap[b]? = some o) → Q .normal (withD L a') w') :
    (Code.region id ops false).wpIn (Fr lr) n P Q (withD L a) w :=
  At.regionIn hC hn h hke hko he fun a' w' S' m' h1 h2 h3 h4 _ => hQ a' w' S' m' h1 h2 h3 fun b o hb hc =>
    (h4.block b (Array.getElem?_eq_some_iff.1 hb).1 (h.notOwn (noMaps_at hm) hb hc)).trans hb

/-- Objects get other numbers, the slots are told anew. -/
theorem At.renum (h : At C 0 O0 w0 S0 m0 s a w S m) {E' : List (Nat × T)} {O' : List (Nat × Obj)} {d' : List Nat} (f : Nat → Nat) {ks : List Nat} (hks : O'.map (·.1) = ks) (hinj : ∀ i ∈ ks, ∀ j ∈ ks, f i = f j → i = j)
    (hs : ∀ p ∈ O', ∃ o, s.sto (f p.1) = some o ∧ m' p.1 = m (f p.1) ∧ (∀ u, ObjOk w S m u o → ObjOk w S m' u p.2) ∧ (∀ u b x, Own u p.2 b x → Own u o b x)) (hT : TmOk C a') (henv : ∀ p ∈ E', RepV w S m' p.2 (a'.tmps.getD p.1 undef)) (hbig : ∀ i, 1000 ≤ i → m' i = none) : At C 0 O0 w0 S0 m0 (mkS E' O' d') a' w S m' := by
  have hs' : ∀ i o, (mkS E' O' d').sto i = some o → ∃ o', s.sto (f i) = some o' ∧ m' i = m (f i) ∧ (∀ u, ObjOk w S m u o' → ObjOk w S m' u o) ∧ (∀ u b x, Own u o b x → Own u o' b x) := fun i o ho => hs (i, o) (stoL_mem ho)
  refine ⟨⟨⟨fun i o ho => ?_, fun i j o p u v hij ho hp hu hv b x hx hy => ?_, fun i o u ho hu b x hb hx => ?_, h.rel.live⟩, env_of henv, fun d _ _ => ⟨hbig _ (by omega), fun k _ => hbig _ (by omega)⟩, fun i hi => hbig i (by omega)⟩, hT,
    h.ext.sub fun b x ⟨i, o, u, h1, h2, h3⟩ => ?_, fun i u hi => absurd hi (Nat.not_lt_zero _)⟩
  · obtain ⟨o', k1, k2, k3, k4⟩ := hs' i o ho
    obtain ⟨u, g1, g2⟩ := h.rel.sto _ _ k1
    exact ⟨u, by rw [k2]; exact g1, k3 u g2⟩
  · obtain ⟨o', k1, k2, k3, k4⟩ := hs' i o ho
    obtain ⟨p', l1, l2, l3, l4⟩ := hs' j p hp
    exact h.rel.apart (f i) (f j) o' p' u v (fun e => hij (hinj _ (hks ▸ List.mem_map_of_mem (stoL_mem ho)) _ (hks ▸ List.mem_map_of_mem (stoL_mem hp)) e)) k1 l1 (by rw [← k2]; exact hu) (by rw [← l2]; exact hv) b x (k4 u b x hx) (l4 v b x hy)
  · obtain ⟨o', k1, k2, k3, k4⟩ := hs' i o ho
    exact h.rel.stab (f i) o' u k1 (by rw [← k2]; exact hu) b x hb (k4 u b x hx)
  · obtain ⟨o', k1, k2, k3, k4⟩ := hs' i o h1
    exact ⟨f i, o', u, k1, by rw [← k2]; exact h2, k4 u b x h3⟩

/-- Behind a call that was handed nothing but data. -/
theorem At.call0 (h : At C 0 O0 w0 S0 m0 s a w S m) (hm : ∀ i o, s.sto i = some o → o.isMap = false) {m1 m2 : Nat → Option MB} {O' : Cells} (hx : Ext (fun _ _ => False) w S m1 w' S' m2 O') (hl : ∀ b x, S' b x → b < w'.heap.size) : At C 0 O0 w0 S0 m0 s a w' S' m := by
  have h1 := h.grown hm hx.grownBy (fun r e => by cases e)
  have hk : Keeps w' S w' S' := ⟨hx.more, fun _ _ _ _ q => q⟩
  have hle : ∀ b x, S' b x → S b x ∨ w.heap.size ≤ b := fun b x q => by
    rcases hx.less b x q with q | q | q
    · exact .inl q
    · exact q.elim
    · exact .inr q
  refine ⟨⟨⟨fun i o ho => ?_, h1.rel.apart, fun i o u ho hu b x hs hx' => ?_, hl⟩, fun t => (h1.rel.env t).keep hk fun _ _ q => q, h1.rel.fresh, h1.rel.top⟩, h1.tm, ?_, h1.keep⟩
  · obtain ⟨u, g1, g2⟩ := h1.rel.sto i o ho
    exact ⟨u, g1, g2.keep hk (fun _ _ q => q) (fun _ _ _ => ⟨rfl, rfl⟩) fun _ => rfl⟩
  · rcases hle b x hs with q | q
    · exact h.rel.stab i o u ho hu b x q hx'
    · obtain ⟨u', g1, g2⟩ := h.rel.sto i o ho
      rw [hu] at g1; cases g1
      have := g2.own_lt hx'
      omega
  · have e := h1.ext
    exact ⟨e.os, e.tape, e.output, e.size, e.maps, fun b x q => hx.more b x (e.more b x q), fun b x q => by
      rcases hle b x q with q | q
      · exact e.less b x q
      · exact .inr (.inr (Nat.le_trans h.ext.size q)), e.own, e.cell, e.block⟩

structure BwFacts (P : Program) (C : Ctx) (hf : FuncId) (fn : Func) (gf : FuncId) (e : K) : Prop where
  hf : P.funcs[hf]? = some fn
  hname : (fn.name == "runtime.NumGoroutine") = false
  hb : fn.body = some (.seq (.region 0 (rops (bodyOf fn) 0) false) (.seq (.region 1 (rops (bodyOf fn) 1) false) .ret))
  hres : fn.results.toList = [.tmp 2]
  hn : fn.ntmps = C.n
  h3 : 3 < C.n
  q0 : ∀ xs : List (El e), evalReg C false (rops (bodyOf fn) 0).toList (mkS [(0, .val (.slice e) xs)] [] []) (fun sF => some (facts [1] [1001] sF)) = some (told [(1, .ptr 1001 [])] [(1001, .cell (.slice e) false (.val (.slice e) xs))] [1])
  q1 : ∀ xs : List (El e), evalReg C false (rops (bodyOf fn) 1).toList (mkS [(1, .ptr 1001 [])] [(1001, .cell (.slice e) false (.val (.slice e) xs))] [1]) (fun sF => some (facts [2] [1001] sF)) = some (told [(2, .clo gf (.tc (.ptr 1001 []) .tn))] [(1001, .cell (.slice e) false (.val (.slice e) xs))] [1])

theorem backward_in {hf gf : FuncId} {fn : Func} {e : K} (hC : CtxOk P C) (B : BwFacts P C hf fn gf e) {v0 : Value} {xs : List (El e)} (hl : ∀ b x, S b x → b < w.heap.size) (hv : RepV w S (fun _ => none) (.val (.slice e) xs) v0) :
    Calls P hf #[v0] w fun en w' => ∃ S' bx, en = .returned (.func (.func gf) #[] #[bx]) ∧ RepV w' S' (fun _ => none) (.rptr (.slice e) xs) bx ∧ Ext (fun _ _ => False) w S (fun _ => none) w' S' (fun _ => none) (fun _ _ => False) ∧ (∀ b x, S' b x → b < w'.heap.size) := by
  refine (callsIn_fr (lr := none) (n := 0)).1 (callsIn_of_wp B.hf B.hb trivial ?_ rfl)
  have h3 := B.h3
  obtain ⟨a0, ha0⟩ : ∃ a0 : Act, a0 = { tmps := #[v0] ++ Array.replicate (fn.ntmps - (#[v0] : Array Value).size) undef, defers := [] } := ⟨_, rfl⟩
  rw [← ha0]
  have hT0 : TmOk C a0 := by
    rw [ha0]
    refine ⟨?_, rfl⟩
    have := B.hn
    simp; omega
  have hs0 : a0.tmps.getD 0 undef = v0 := by rw [ha0]; simp [Array.getElem?_append]
  have hA := At.bare hl hT0 (E := [(0, .val (.slice e) xs)]) (fun p hp => by rw [List.mem_singleton] at hp; subst hp; rw [hs0]; exact hv)
  rw [← withD_self hT0.2]
  refine wpIn_seq (At.regionK hC rfl hA rfl (B.q0 xs) rfl rfl fun a1 w1 S1 m1 h1 _ _ _ => ?_)
  show Code.wpIn _ _ _ _ _ _ _
  refine wpIn_seq (At.regionK hC rfl h1 rfl (B.q1 xs) rfl rfl fun a2 w2 S2 m2 h2 _ _ _ => ?_)
  show Code.wpIn _ _ _ _ _ _ _
  refine wpIn_ret ?_
  obtain ⟨v, r1, r2⟩ := results_ok hC h2.rel (fn := fn) (t := .tc (.clo gf (.tc (.ptr 1001 []) .tn)) .tn) (by rw [B.hres]; rfl)
  obtain ⟨u, hu, hob⟩ := h2.rel.sto 1001 (.cell (.slice e) false (.val (.slice e) xs)) rfl
  have hbx : v = .func (.func gf) #[] #[.pointer (some ⟨u.b, u.o, none⟩)] := by
    rcases r2 with q | ⟨cs, ⟨vs, q1, q2⟩, q3⟩
    · cases q
    · obtain ⟨p, r, e1, e2, e3⟩ := q1
      have e3 : r = [] := e3
      subst e3; subst e1; subst q2
      have : Value.func (.func gf) #[] #[p] = v := by simpa [Shut, T.isAgg, tup1] using q3
      rw [← this]
      rcases e2 with q | ⟨ds, ⟨u', k1, k2⟩, k3⟩
      · cases q
      · rw [hu] at k1; cases k1
        subst k2
        have k3 : Value.pointer (some ⟨u.b, u.o + offK u.code [], none⟩) = p := by simpa [Shut, T.isAgg] using k3
        rw [← k3]
        simp [offK]
  obtain ⟨S3, st, hS3⟩ := h2.rel.toStoRel.freezeCell (id := 1001) (c := .slice e) (fz := false) (t := .val (.slice e) xs) rfl hu
  obtain ⟨u2, g1, g2⟩ := st.rel.sto 1001 (.cell (.slice e) true (.val (.slice e) xs)) rfl
  rw [hu] at g1; cases g1
  obtain ⟨-, -, gf', cs, k1, k2, -, k4⟩ := g2
  have hlen := RepC.length gf' k2
  refine ⟨rfl, v, r1, S3, .pointer (some ⟨u.b, u.o, none⟩), by rw [hbx], repV_mkRptr k2 ⟨k1, fun j hj => k4 rfl j (by omega)⟩, ?_, st.rel.live⟩
  exact (h2.ext.trans st.ext.drop).sub fun _ _ q => q.elim
end

/-! ### op.Neg -/
abbrev eOp (kk : K) : K := .cons kk (.cons (.int .i64) .unit)
def negGo {kk : K} (N : Int → Option (Int × Bool × Unit)) : List (El (eOp kk)) → List (El (eOp kk)) → Option (List (El (eOp kk)) × Bool)
  | [], acc => some (acc, true)
  | x :: l, acc => (N x.2.1).bind fun r => match r.2.1 with
    | false => some ([], false)
    | true => room (acc.length + 1) (negGo N l (acc ++ [(x.1, (r.1, ()))]))
def negF {kk : K} (N : Int → Option (Int × Bool × Unit)) (xs : List (El (eOp kk))) : Option ((Unit × Bool × Unit) × List (El (eOp kk)) × Unit) :=
  chk (decide ((0 : Int) ≤ 0) && decide ((0 : Int) ≤ (xs.length : Int)) && decide ((xs.length : Int) ≤ 4294967296)) ((negGo N xs.reverse []).map fun r => (((), (r.2, ())), (r.1, ())))
def negR : Sk := .tup (.tc (.row 0) (.tc (.val .bool) .tn))
def negBody (f : Func) : Code := .seq (.region 0 (rops (bodyOf f) 0) false) (.seq (.region 1 (rops (bodyOf f) 1) false) (.seq (.seq (.region 2 (rops (bodyOf f) 2) false) (.block 0 (.rangeFunc (.tmp 13) #[14, 15] (.region 3 (rops (bodyOf f) 3) false)
  (.block 1 (.seq (.region 4 (rops (bodyOf f) 4) false) (.seq (.seq (.region 5 (rops (bodyOf f) 5) false) (.cond (.tmp 23) (.seq (.region 6 (rops (bodyOf f) 6) false) .ret) .skip)) (.region 7 (rops (bodyOf f) 7) false))))))) (.seq (.region 8 (rops (bodyOf f) 8) false) .ret)))
def b2 (f : Func) (i : Nat) : Oper := (rops (bodyOf f) 2).toList.getD i default
def nEnd (C : Ctx) (fn : Func) (ret : Sk) (outs : List ObSk) (s' : St) : Option (ResEl ret outs) := match resT C s' fn.results.toList with
  | none => none
  | some l => (unT s'.sto 100000000 ret (tup1 l) (idBindsG outs ([] : List ObSk).length, [])).bind fun v =>
    (unOs s'.sto 100000000 outs 0 v.2).bind fun w => bif distinct w.2.1.ids && keysB w.2.1 && flagsOk (upds w.2.2 s'.sto) w.2.1 0 outs && (Nat.ble ([] : List ObSk).length 1000 && keysG outs ([] : List ObSk).length w.2.1) then some (mkRes ret outs v.1 w.1) else none

def nE : List (Nat × T) := [(2, .ptr 0 []), (3, .ptr 1 []), (4, .ptr 2 [])]
def nO (kk : K) (acc : List (El (eOp kk))) : List (Nat × Obj) := [(0, .cell (.slice (eOp kk)) false (.nils (eOp kk))), (1, .cell .bool false (.val .bool false)), (2, .cell (.slice (eOp kk)) false (.row 3)), (3, .row (eOp kk) false acc)]
def nE0 (kk : K) (xs : List (El (eOp kk))) : List (Nat × T) := [(0, .val (.slice (eOp kk)) xs), (2, .ptr 1002 []), (3, .ptr 1003 [])]
def nO0 (kk : K) : List (Nat × Obj) := [(1002, .cell (.slice (eOp kk)) false (.nils (eOp kk))), (1003, .cell .bool false (.val .bool false))]
def nE1 (kk : K) (xs : List (El (eOp kk))) : List (Nat × T) := [(0, .val (.slice (eOp kk)) xs), (2, .ptr 1002 []), (3, .ptr 1003 []), (4, .ptr 1004 [])]
def nO1 (kk : K) : List (Nat × Obj) := [(1002, .cell (.slice (eOp kk)) false (.nils (eOp kk))), (1003, .cell .bool false (.val .bool false)), (1004, .cell (.slice (eOp kk)) false (.row 1011)), (1011, .row (eOp kk) false [])]
def nE2 (kk : K) (xs : List (El (eOp kk))) : List (Nat × T) := [(2, .ptr 1002 []), (3, .ptr 1003 []), (4, .ptr 1004 []), (12, .val (.slice (eOp kk)) xs)]
def nEr (kk : K) (x : El (eOp kk)) : List (Nat × T) := [(2, .ptr 0 []), (3, .ptr 1 []), (4, .ptr 2 []), (15, .val (eOp kk) x)]
def nE3 : List (Nat × T) := [(2, .ptr 0 []), (3, .ptr 1 []), (4, .ptr 2 []), (6, .ptr 1006 [])]
def nO3 (kk : K) (acc : List (El (eOp kk))) (x : El (eOp kk)) : List (Nat × Obj) := [(0, .cell (.slice (eOp kk)) false (.nils (eOp kk))), (1, .cell .bool false (.val .bool false)), (2, .cell (.slice (eOp kk)) false (.row 3)), (3, .row (eOp kk) false acc), (1006, .cell (eOp kk) false (.val (eOp kk) x))]
def nE4 (i : Int) (b : Bool) : List (Nat × T) := [(2, .ptr 0 []), (3, .ptr 1 []), (4, .ptr 2 []), (6, .ptr 1006 []), (7, .val (.int .i64) i), (8, .val .bool b)]
def nE5 (i : Int) (b : Bool) : List (Nat × T) := [(2, .ptr 0 []), (3, .ptr 1 []), (4, .ptr 2 []), (6, .ptr 1006 []), (7, .val (.int .i64) i), (23, .val .bool b)]
def nE6 : List (Nat × T) := [(2, .ptr 0 []), (3, .ptr 1 [])]
def nO6 (kk : K) : List (Nat × Obj) := [(0, .cell (.slice (eOp kk)) false (.nils (eOp kk))), (1, .cell .bool false (.val .bool false))]
def nO7 (kk : K) (acc : List (El (eOp kk))) : List (Nat × Obj) := [(0, .cell (.slice (eOp kk)) false (.nils (eOp kk))), (1, .cell .bool false (.val .bool false)), (2, .cell (.slice (eOp kk)) false (.row 1030)), (1030, .row (eOp kk) false acc)]
def nO8 (kk : K) (acc : List (El (eOp kk))) : List (Nat × Obj) := [(0, .cell (.slice (eOp kk)) false (.row 3)), (1, .cell .bool false (.val .bool true)), (3, .row (eOp kk) false acc)]

structure NegFacts (P : Program) (C : Ctx) (f : FuncId) (fn : Func) (bf : FuncId) (kk : K) (N : Int → Option (Int × Bool × Unit)) (ts : Array TypeId) : Prop where
  hf : P.funcs[f]? = some fn
  hname : (fn.name == "runtime.NumGoroutine") = false
  hb : fn.body = some (negBody fn)
  hn : fn.ntmps = C.n
  h32 : 31 < C.n
  h2 : (rops (bodyOf fn) 2).toList = [b2 fn 0, b2 fn 1]
  c2 : (b2 fn 1).op = .call { callee := .value (.func bf), args := #[.tmp 12], argTypes := ts }
  c2d : (b2 fn 1).dst = some 13
  c2g : (b2 fn 1).guard = none
  q0 : ∀ xs, evalReg C false (rops (bodyOf fn) 0).toList (mkS [(0, .val (.slice (eOp kk)) xs)] [] []) (fun sF => some (facts [0, 2, 3] [1002, 1003] sF)) = some (told (nE0 kk xs) (nO0 kk) [3, 2])
  q1 : ∀ xs : List (El (eOp kk)), evalReg C false (rops (bodyOf fn) 1).toList (mkS (nE0 kk xs) (nO0 kk) [3, 2]) (fun sF => some (facts [0, 2, 3, 4] [1002, 1003, 1004, 1011] sF)) =
    chk (decide ((0 : Int) ≤ 0) && decide ((0 : Int) ≤ (xs.length : Int)) && decide ((xs.length : Int) ≤ 4294967296)) (some (told (nE1 kk xs) (nO1 kk) [4, 11, 3, 2]))
  q2 : ∀ xs, evalOps C (rops (bodyOf fn) 2).toList [b2 fn 0] (mkS (nE1 kk xs) (nO1 kk) [4, 11, 3, 2]) (fun sF => some (facts [2, 3, 4, 12] [1002, 1003, 1004, 1011] sF)) = some (told (nE2 kk xs) (nO1 kk) [4, 11, 3, 2])
  q3 : ∀ acc x, evalReg C false (rops (bodyOf fn) 3).toList (mkS (nEr kk x) (nO kk acc) []) (fun sF => some (facts [2, 3, 4, 6] [0, 1, 2, 3, 1006] sF)) = some (told nE3 (nO3 kk acc x) [6])
  q4 : ∀ acc x, evalReg C false (rops (bodyOf fn) 4).toList (mkS nE3 (nO3 kk acc x) [6]) (fun sF => some (facts [2, 3, 4, 6, 7, 8] [0, 1, 2, 3, 1006] sF)) = (N x.2.1).bind fun r => some (told (nE4 r.1 r.2.1) (nO3 kk acc x) [19, 6])
  q5 : ∀ acc x i b, evalReg C false (rops (bodyOf fn) 5).toList (mkS (nE4 i b) (nO3 kk acc x) [19, 6]) (fun sF => some (facts [2, 3, 4, 6, 7, 23] [0, 1, 2, 3, 1006] sF)) = some (told (nE5 i (!b)) (nO3 kk acc x) [19, 6])
  q6 : ∀ acc x i b, evalReg C false (rops (bodyOf fn) 6).toList (mkS (nE5 i b) (nO3 kk acc x) [19, 6]) (fun sF => some (facts [2, 3] [0, 1] sF)) = some (told nE6 (nO6 kk) [19, 6])
  q7 : ∀ acc x i b, evalReg C false (rops (bodyOf fn) 7).toList (mkS (nE5 i b) (nO3 kk acc x) [19, 6]) (fun sF => some (facts [2, 3, 4] [0, 1, 2, 1030] sF)) = room (acc.length + 1) (some (told nE (nO7 kk (acc ++ [(x.1, (i, ()))])) [30, 29, 19, 6]))
  q8 : ∀ acc, evalReg C false (rops (bodyOf fn) 8).toList (mkS nE (nO kk acc) []) (fun sF => some (facts [2, 3] [0, 1, 3] sF)) = some (told nE6 (nO8 kk acc) [])
  e1 : ∀ acc, nEnd C fn negR [.row (eOp kk) false] (mkS nE6 (nO8 kk acc) []) = some (((), (true, ())), (acc, ()))
  e0 : nEnd C fn negR [.row (eOp kk) false] (mkS nE6 (nO6 kk) []) = some (((), (false, ())), ([], ()))

section
variable {P : Program} {C : Ctx}

theorem Own.cellAny {u : MB} {c : K} {fz : Bool} {t t' : T} {b x : Nat} (h : Own u (.cell c fz t) b x) : Own u (.cell c fz t') b x := h

theorem neg_sound {C1 C2 : Ctx} {f bf gf : FuncId} {fn fb fg : Func} {kk : K} {N : Int → Option (Int × Bool × Unit)} {ts ts' : Array TypeId} (hC : CtxOk P C) (hC1 : CtxOk P C1) (hC2 : CtxOk P C2) (hfl : kk.flat = true)
    (F : NegFacts P C f fn bf kk N ts) (W : BwFacts P C1 bf fb gf (eOp kk)) (B : BackFacts P C2 gf fg (eOp kk) ts') :
    Sound P f { args := .tc (.val (.slice (eOp kk))) .tn, objs := [], ret := negR, outs := [.row (eOp kk) false], F := fun x => negF N x.1.1 } := by
  intro w S m x y vals hy hargs hrel hbig
  obtain ⟨⟨xs, u0⟩, u1⟩ := x
  have hcall : (callFunc f vals.toArray).run P w = .ok (.enter f vals.toArray) w := by
    have g1 : fn.name ≠ "runtime.NumGoroutine" := by simpa using F.hname
    have g2 : fn.body ≠ none := fun e => by rw [F.hb] at e; cases e
    simp [callFunc, Sem.run_bind, F.hf, g1, g2]
  rw [hcall]
  show Calls P f vals.toArray w _
  have hO : OwnSt (objs0 (fillOs ([] : List ObSk) u1)) m = fun _ _ => False := by
    funext b x
    exact propext ⟨(fun ⟨i, o, u, q, _⟩ => by cases q), fun q => q.elim⟩
  obtain ⟨v0, r0, ev, hv0, hr0⟩ := hargs
  have hr0 : r0 = [] := hr0
  subst hr0; subst ev
  have hv0' : RepV w S (fun _ => none) (.val (.slice (eOp kk)) xs) v0 := by
    rcases hv0 with q | ⟨cs, q1, q2⟩
    · cases q
    · exact .inr ⟨cs, q1, q2⟩
  have hy : negF N xs = some y := hy
  unfold negF at hy
  obtain ⟨hlen, hy⟩ := chk_some hy
  obtain ⟨⟨rl, rb⟩, hgo, ey⟩ := Option.map_eq_some_iff.1 hy
  have hlen2 : xs.length ≤ 4294967296 := by
    simp only [Bool.and_eq_true, decide_eq_true_eq] at hlen
    omega
  refine (callsIn_fr (lr := none) (n := 0)).1 (callsIn_of_wp_marks F.hf F.hb trivial ?_ rfl)
  have h32 := F.h32
  obtain ⟨a0, ha0⟩ : ∃ a0 : Act, a0 = { tmps := [v0].toArray ++ Array.replicate (fn.ntmps - ([v0].toArray : Array Value).size) undef, defers := [] } := ⟨_, rfl⟩
  rw [← ha0]
  have hT0 : TmOk C a0 := by
    rw [ha0]
    refine ⟨?_, rfl⟩
    have := F.hn
    simp; omega
  have hs0 : a0.tmps.getD 0 undef = v0 := by rw [ha0]; simp [Array.getElem?_append]
  have hA := At.bare hrel.live hT0 (E := [(0, .val (.slice (eOp kk)) xs)]) (fun p hp => by rw [List.mem_singleton] at hp; subst hp; rw [hs0]; exact hv0')
  -- where the function ends
  have fin : ∀ (tm : Act) (w9 : World) (D : Nat) (O9 : List (Nat × Obj)) (S9 : Cells) (m9 : Nat → Option MB) (z : ResEl negR [.row (eOp kk) false]), y = z → nEnd C fn negR [.row (eOp kk) false] (mkS nE6 O9 []) = some z → noMaps O9 = true → At C 0 (fun _ _ => False) w S (fun _ => none) (mkS nE6 O9 []) tm w9 S9 m9 → w.heap.size ≤ D → w9.heap[D]? = some (.deferred (some [])) →
      LeavesInM (Fr none) 0 P fn tm.tmps (fun en w' => ∃ v, en = .returned v ∧ ∃ S' m', RepV w' S' m' (fill negR (res1 y)) v ∧
        Rel { env := fun _ => .any 0, sto := objs0 (fillOs [.row (eOp kk) false] (res2 y)), done := fun _ => false } #[] w' S' m' ∧
        (∀ i u, i < ([] : List ObSk).length → m i = some u → m' i = some u) ∧ Ext (OwnSt (objs0 (fillOs ([] : List ObSk) u1)) m) w S (fun _ => none) w' S' (fun _ => none) (OwnSt (objs0 (fillOs [.row (eOp kk) false] (res2 y))) m')) [{ target := .collected D, args := #[] }] .returning w9 := by
    intro tm w9 D O9 S9 m9 z ez he hm9 hA9 hD hdef
    subst ez
    refine ⟨by simp, .inl ⟨D, _, rfl, run_takeDeferred hdef, ?_⟩⟩
    have hA10 := hA9.grown (noMaps_at hm9) (Gr.putObj w9 D (.deferred none)) (fun r e => by cases e; exact ⟨hD, _, hdef, rfl⟩)
    obtain ⟨-, v, g1, v', g2, S', m', g3, g4, g5, g6⟩ := end_ok (objs := []) (fn := fn) (y := y) hC rfl hA10 he
    rw [hO]
    cases g2
    exact ⟨v, g1, v, rfl, S', m', g3, g4, (fun i u hi => absurd hi (Nat.not_lt_zero _)), g6⟩
  rw [← withD_self hT0.2]
  refine wpIn_seq (At.regionK hC rfl hA rfl (F.q0 xs) rfl rfl fun a1 w1 S1 m1 h1 _ _ _ => ?_)
  show Code.wpIn _ _ _ _ _ _ _
  have q1 := F.q1 xs
  rw [hlen] at q1
  refine wpIn_seq (At.regionK hC rfl h1 rfl q1 rfl rfl fun a2 w2 S2 m2 h2 _ _ _ => ?_)
  show Code.wpIn _ _ _ _ _ _ _
  refine wpIn_seq (wpIn_seq (wpIn_region ?_))
  have h2l := F.h2
  have hsz : (rops (bodyOf fn) 2).size = 2 := by rw [← Array.length_toList, h2l]; rfl
  have hat : ∀ j, (rops (bodyOf fn) 2)[j]? = [b2 fn 0, b2 fn 1][j]? := fun j => by rw [← Array.getElem?_toList, h2l]
  rw [hsz]
  show wpOpsIn _ _ _ _ _ (List.range' 0 [b2 fn 0].length ++ [1]) _ _
  refine evalOps_in hC rfl [b2 fn 0] 0 (fun j y q => ?_) h2.rel h2.tm (F.q2 xs) fun s' a3 w3 S3 m3 g1 g2 g3 g4 g5 => ?_
  · match j, q with
    | 0, q => rw [hat]; exact q
    | j + 1, q => simp at q
  simp only [facts, told, Option.some.injEq, Prod.mk.injEq] at g1
  obtain ⟨f1, f2, f3⟩ := g1
  have f1' : List.map (s'.env ∘ fun p : Nat × T => p.1) (nE2 kk xs) = List.map (fun p => p.2) (nE2 kk xs) := f1
  have f2' : List.map (s'.sto ∘ fun p : Nat × Obj => p.1) (nO1 kk) = List.map (fun p => some p.2) (nO1 kk) := f2
  have hs3 : ∀ i o, (mkS (nE2 kk xs) (nO1 kk) [4, 11, 3, 2]).sto i = some o → s'.sto i = some o := stoL_le (map_at f2')
  have hr3 : Rel (mkS (nE2 kk xs) (nO1 kk) [4, 11, 3, 2]) a3.tmps w3 S3 m3 := g2.weaken (envL_or (map_at f1')) hs3 (fun x hx => by rw [f3]; exact hx)
  have h3 := h2.step hr3 g3 (g4.sub fun b x => OwnSt.weaken hs3)
  clear g4 g5 g2 hs3 hr3 f1' f2' f1 f2 f3
  have v12 : RepV w3 S3 (fun _ => none) (.val (.slice (eOp kk)) xs) (a3.tmps.getD 12 undef) := by
    rcases h3.slot 12 with q | ⟨cs, q1, q2⟩
    · cases q
    · exact .inr ⟨cs, q1, q2⟩
  refine opsIn_cons (hat 1) F.c2g (oper_in (fun c q => by rw [F.c2] at q; cases q) h3.tm.2 ?_)
  have hex : (execOp a3.eval (b2 fn 1)).run P w3 = .ok (.enter bf #[a3.tmps.getD 12 undef]) w3 := by
    have g1 : fb.name ≠ "runtime.NumGoroutine" := by simpa using W.hname
    have g2 : fb.body ≠ none := fun e => by rw [W.hb] at e; cases e
    have e12 : a3.eval (.tmp 12) = a3.tmps.getD 12 undef := rfl
    have ef : a3.eval (.func bf) = .func (.func bf) #[] #[] := rfl
    simp [execOp, F.c2, resolve, ef, e12, Deferred.ofValue, invoke, callFunc, Sem.run_bind, W.hf, g1, g2]
  unfold Oper.wp
  rw [hex, Oper.upon_enter]
  refine (backward_in hC1 W h3.rel.live v12).mono ?_
  rintro en w4 ⟨S4, bx, rfl, hbx, hx4, hl4⟩
  have h4 := h3.call0 (noMaps_at rfl) hx4 hl4
  have T5 : TmOk C (a3.put (b2 fn 1).dst (.func (.func gf) #[] #[bx])) := h3.tm.put _ _
  refine ⟨T5.2, ?_⟩
  rw [F.c2d] at T5 ⊢
  obtain ⟨a5, ha5⟩ : ∃ a5, a5 = a3.put (some 13) (.func (.func gf) #[] #[bx]) := ⟨_, rfl⟩
  rw [← ha5] at T5 ⊢
  have t13 : a5.tmps.getD 13 undef = .func (.func gf) #[] #[bx] := by
    have : 13 < a3.tmps.size := by rw [h3.tm.1]; omega
    rw [ha5]; simp [Act.put, this]
  show Code.wpIn _ _ _ _ _ _ _
  have o2 : ∀ t, t ≠ 13 → a5.tmps.getD t undef = a3.tmps.getD t undef := fun t ht => by rw [ha5]; exact put_other (by simpa using Ne.symm ht)
  have h6 : At C 0 (fun _ _ => False) w S (fun _ => none) (mkS nE (nO kk []) []) a5 w4 S4 (fun i => match i with | 0 => m3 1002 | 1 => m3 1003 | 2 => m3 1004 | 3 => m3 1011 | _ => none) := by
    refine h4.renum (fun i => match i with | 0 => 1002 | 1 => 1003 | 2 => 1004 | 3 => 1011 | k => k) (ks := [0, 1, 2, 3]) rfl (by decide) (fun p hp => ?_) T5 (fun p hp => ?_) (fun i hi => ?_)
    · simp only [nO, List.mem_cons, List.not_mem_nil, or_false] at hp
      rcases hp with rfl | rfl | rfl | rfl
      · exact ⟨.cell (.slice (eOp kk)) false (.nils (eOp kk)), rfl, rfl, fun u h => h, fun u b x h => h⟩
      · exact ⟨.cell .bool false (.val .bool false), rfl, rfl, fun u h => h, fun u b x h => h⟩
      · exact ⟨.cell (.slice (eOp kk)) false (.row 1011), rfl, rfl, fun u h => h, fun u b x h => h⟩
      · exact ⟨.row (eOp kk) false [], rfl, rfl, fun u h => h, fun u b x h => h⟩
    · simp only [nE, List.mem_cons, List.not_mem_nil, or_false] at hp
      rcases hp with rfl | rfl | rfl
      · show RepV _ _ _ (.ptr 0 []) (a5.tmps.getD 2 undef)
        rw [o2 2 (by decide)]; exact h4.slot 2
      · show RepV _ _ _ (.ptr 1 []) (a5.tmps.getD 3 undef)
        rw [o2 3 (by decide)]; exact h4.slot 3
      · show RepV _ _ _ (.ptr 2 []) (a5.tmps.getD 4 undef)
        rw [o2 4 (by decide)]; exact h4.slot 4
    · obtain ⟨j, rfl⟩ : ∃ j, i = j + 4 := ⟨i - 4, by omega⟩
      rfl
  clear h4 h3 hex
  refine wpIn_block (wpIn_rangeFunc fun fn' _ => ?_)
  obtain ⟨rec, hrec⟩ : ∃ rec : LoopState → Option Code → Loop, rec = fun st pe => { state := st, pending := pe, fn := fn', tmps := a5.tmps, params := #[14, 15], assign := .region 3 (rops (bodyOf fn) 3) false, body := (.block 1 (.seq (.region 4 (rops (bodyOf fn) 4) false) (.seq (.seq (.region 5 (rops (bodyOf fn) 5) false) (.cond (.tmp 23) (.seq (.region 6 (rops (bodyOf fn) 6) false) .ret) .skip)) (.region 7 (rops (bodyOf fn) 7) false)))), defers := w4.heap.size } := ⟨_, rfl⟩
  obtain ⟨W1, hW1⟩ : ∃ W1, (w4.alloc (.deferred (some []))).alloc (.loop (rec .ready none)) = W1 := ⟨_, rfl⟩
  have hL1 : W1.heap[w4.heap.size + 1]? = some (.loop (rec .ready none)) := by
    rw [← hW1]; have := World.alloc_heap_new (w4.alloc (.deferred (some []))) (.loop (rec .ready none)); rwa [World.size_alloc] at this
  have hK1 : W1.heap[w4.heap.size]? = some (.deferred (some [])) := by
    rw [← hW1]; exact (Below.heap_alloc _ _ _ (by simp)).trans (World.alloc_heap_new w4 _)
  have hg1 : Gr w4 W1 none := by
    rw [← hW1]
    have g1 := World.grownBy_alloc w4 (.deferred (some [])) none
    have g2 := World.grownBy_alloc (w4.alloc (.deferred (some []))) (.loop (rec .ready none)) none
    exact ⟨⟨g2.os.trans g1.os, g2.tape.trans g1.tape, g2.output.trans g1.output, Nat.le_trans g1.size g2.size, fun b hb q => (g2.block b (Nat.lt_of_lt_of_le hb g1.size) q).trans (g1.block b hb q)⟩, Nat.le_refl _⟩
  refine ⟨w4.heap.size + 1, [{ target := .collected w4.heap.size, args := #[] }], W1, { target := .fn (.func gf) #[bx], args := #[.func (.yield (w4.heap.size + 1)) #[] #[]] }, W1, gf, #[.func (.yield (w4.heap.size + 1)) #[] #[], bx], W1, ?_, ?_, fun _ _ => trivial, ?_, (fun q => by cases q), ?_⟩
  · rw [← hW1, hrec]; exact run_enterLoop_outer _ _ _ _ _
  · have e13 : (withD [] a5).tmps[13]?.getD undef = .func (.func gf) #[] #[bx] := by have := t13; simpa [withD, Array.getD_eq_getD_getElem?] using this
    simp [resolve, e13, Deferred.ofValue, Act.eval]
  · have g1 : fg.name ≠ "runtime.NumGoroutine" := by simpa using B.hname
    have g2 : fg.body ≠ none := fun e => by rw [B.hb] at e; cases e
    simp [invoke, callFunc, Sem.run_bind, B.hf, g1, g2]
  have hwD : w.heap.size ≤ w4.heap.size := h6.ext.size
  refine (back_in hC2 B (l := w4.heap.size + 1) (bx := bx) (xs := xs) (by show (kk.flat && _) = true; rw [hfl]; rfl) (by omega)
    (fun k W S' => ∃ m' acc, At C 0 (fun _ _ => False) w S (fun _ => none) (mkS nE (nO kk acc) []) a5 W S' m' ∧ negGo N (xs.reverse.drop k) acc = some (rl, rb) ∧ RepV W S' (fun _ => none) (.rptr (.slice (eOp kk)) xs) bx ∧ W.heap[w4.heap.size + 1]? = some (.loop (rec .ready none)) ∧ W.heap[w4.heap.size]? = some (.deferred (some [])))
    (fun W => rl = [] ∧ rb = false ∧ ∃ S' m', At C 0 (fun _ _ => False) w S (fun _ => none) (mkS nE6 (nO6 kk) []) a5 W S' m' ∧ W.heap[w4.heap.size + 1]? = some (.loop (rec .done (some .ret))) ∧ W.heap[w4.heap.size]? = some (.deferred (some [])))
    ?_ ?_ ?_ ?_ (S := S4) ?_).mono ?_
  · rintro k W S' ⟨m', acc, q1, q2, q3, q4, q5⟩
    exact ⟨q1.rel.live, q3⟩
  · rintro k W W' S' ⟨m', acc, q1, q2, q3, q4, q5⟩ hg
    exact ⟨m', acc, q1.grown (noMaps_at rfl) hg (fun r e => by cases e), q2, q3.keep (grown_keeps hg) fun _ _ q => q, (hg.block _ (Array.getElem?_eq_some_iff.1 q4).1 (by simp)).trans q4, (hg.block _ (Array.getElem?_eq_some_iff.1 q5).1 (by simp)).trans q5⟩
  · rintro W W' ⟨p1, p2, S', m', q1, q4, q5⟩ hg
    exact ⟨p1, p2, S', m', q1.grown (noMaps_at rfl) hg (fun r e => by cases e), (hg.block _ (Array.getElem?_eq_some_iff.1 q4).1 (by simp)).trans q4, (hg.block _ (Array.getElem?_eq_some_iff.1 q5).1 (by simp)).trans q5⟩
  · -- one round
    rintro k x W S5 v2 ⟨m5, acc, h5, hgk, hbW, hL, hD⟩ hx hv2
    obtain ⟨hkl, ex⟩ := List.getElem?_eq_some_iff.1 hx
    rw [List.drop_eq_getElem_cons hkl, ex] at hgk
    obtain ⟨r, hN, hg1⟩ := Option.bind_eq_some_iff.1 hgk
    have hsz2 : (#[.int .i64 ((xs.length : Int) - 1 - k), v2] : Array Value).size = (rec .ready none).params.size := by rw [hrec]; rfl
    have hy1 := run_yield (P := P) (args := #[.int .i64 ((xs.length : Int) - 1 - k), v2]) hL hsz2
    obtain ⟨ar, har⟩ : ∃ ar : Act, ar = { tmps := (a5.tmps.setIfInBounds 14 (.int .i64 ((xs.length : Int) - 1 - k))).setIfInBounds 15 v2, defers := [] } := ⟨_, rfl⟩
    have htm : (((rec .ready none).params.zip #[.int .i64 ((xs.length : Int) - 1 - k), v2]).foldl (fun tmps (x : Tmp × Value) => tmps.setIfInBounds x.1 x.2) (rec .ready none).tmps) = ar.tmps := by
      have ez : (#[14, 15] : Array Tmp).zip #[.int .i64 ((xs.length : Int) - 1 - k), v2] = #[(14, .int .i64 ((xs.length : Int) - 1 - k)), (15, v2)] := by
        apply Array.ext'
        simp [Array.toList_zip]
      rw [hrec, har]
      show Array.foldl _ a5.tmps ((#[14, 15] : Array Tmp).zip #[.int .i64 ((xs.length : Int) - 1 - k), v2]) = _
      rw [ez]
      simp
    refine ⟨_, _, _, _, hy1, ?_⟩
    have hrd : ({ tmps := ((rec .ready none).params.zip #[.int .i64 ((xs.length : Int) - 1 - k), v2]).foldl (fun tmps (x : Tmp × Value) => tmps.setIfInBounds x.1 x.2) (rec .ready none).tmps, defers := [] } : Act) = withD [] ar := by rw [htm]; rfl
    refine roundIn_of_wpIn trivial ?_
    have hrd' : ∀ (c : Code) (Q : Exit → Act → World → Prop), c.wpIn ((Fr none).inRound (w4.heap.size + 1)) 0 P Q (withD [] ar) W → c.wpIn ((Fr none).inRound (w4.heap.size + 1)) 0 P Q { tmps := ((rec .ready none).params.zip #[.int .i64 ((xs.length : Int) - 1 - k), v2]).foldl (fun tmps (x : Tmp × Value) => tmps.setIfInBounds x.1 x.2) (rec .ready none).tmps, defers := [] } W := fun c Q q => by rw [hrd]; exact q
    refine hrd' _ _ ?_
    have hasg : (rec .ready none).assign = .region 3 (rops (bodyOf fn) 3) false := by rw [hrec]
    have hbdy : (rec .ready none).body = (.block 1 (.seq (.region 4 (rops (bodyOf fn) 4) false) (.seq (.seq (.region 5 (rops (bodyOf fn) 5) false) (.cond (.tmp 23) (.seq (.region 6 (rops (bodyOf fn) 6) false) .ret) .skip)) (.region 7 (rops (bodyOf fn) 7) false)))) := by rw [hrec]
    have hst : ∀ st pe, (rec st pe).state = st := fun st pe => by rw [hrec]
    have hwith : ∀ st pe st', { rec st pe with state := st' } = rec st' pe := fun st pe st' => by rw [hrec]
    have hwith2 : ∀ st pe st' pe', { rec st pe with state := st', pending := pe' } = rec st' pe' := fun st pe st' pe' => by rw [hrec]
    rw [hasg, hbdy]
    have hTr : TmOk C ar := by rw [har]; exact ⟨by simp [h5.tm.1], rfl⟩
    have or2 : ∀ t, t ≠ 14 → t ≠ 15 → ar.tmps.getD t undef = a5.tmps.getD t undef := fun t h14 h15 => by
      rw [har]
      simp only [Array.getD_eq_getD_getElem?]
      rw [Array.getElem?_setIfInBounds_ne (Ne.symm h15), Array.getElem?_setIfInBounds_ne (Ne.symm h14)]
    have or15 : ar.tmps.getD 15 undef = v2 := by
      have : 15 < a5.tmps.size := by rw [h5.tm.1]; omega
      rw [har]; simp [this]
    have hr : At C 0 (fun _ _ => False) w S (fun _ => none) (mkS (nEr kk x) (nO kk acc) []) ar W S5 (fun i => match i with | 0 => m5 0 | 1 => m5 1 | 2 => m5 2 | 3 => m5 3 | _ => none) := by
      refine h5.renum (fun i => i) (ks := [0, 1, 2, 3]) rfl (by decide) (fun p hp => ?_) hTr (fun p hp => ?_) (fun i hi => ?_)
      · simp only [nO, List.mem_cons, List.not_mem_nil, or_false] at hp
        rcases hp with rfl | rfl | rfl | rfl
        · exact ⟨.cell (.slice (eOp kk)) false (.nils (eOp kk)), rfl, rfl, fun u h => h, fun u b x h => h⟩
        · exact ⟨.cell .bool false (.val .bool false), rfl, rfl, fun u h => h, fun u b x h => h⟩
        · exact ⟨.cell (.slice (eOp kk)) false (.row 3), rfl, rfl, fun u h => h, fun u b x h => h⟩
        · exact ⟨.row (eOp kk) false acc, rfl, rfl, fun u h => h, fun u b x h => h⟩
      · simp only [nEr, List.mem_cons, List.not_mem_nil, or_false] at hp
        rcases hp with rfl | rfl | rfl | rfl
        · show RepV _ _ _ (.ptr 0 []) (ar.tmps.getD 2 undef)
          rw [or2 2 (by decide) (by decide)]; exact h5.slot 2
        · show RepV _ _ _ (.ptr 1 []) (ar.tmps.getD 3 undef)
          rw [or2 3 (by decide) (by decide)]; exact h5.slot 3
        · show RepV _ _ _ (.ptr 2 []) (ar.tmps.getD 4 undef)
          rw [or2 4 (by decide) (by decide)]; exact h5.slot 4
        · show RepV _ _ _ (.val (eOp kk) x) (ar.tmps.getD 15 undef)
          rw [or15]; exact hv2 _ _ _
      · obtain ⟨j, rfl⟩ : ∃ j, i = j + 4 := ⟨i - 4, by omega⟩
        rfl
    have base : ∀ (W' : World) (S' : Cells) (m' : Nat → Option MB), Keeps W S5 W' S' → (∀ i u, (match i with | 0 => m5 0 | 1 => m5 1 | 2 => m5 2 | 3 => m5 3 | _ => none) = some u → m' i = some u) →
        (∀ p ∈ nE, RepV W' S' m' p.2 (a5.tmps.getD p.1 undef)) ∧ RepV W' S' (fun _ => none) (.rptr (.slice (eOp kk)) xs) bx := fun W' S' m' hk hmm => by
      have hr2 : At C 0 (fun _ _ => False) w S (fun _ => none) (mkS (nEr kk x) (nO kk acc) []) ar W S5 (fun i => match i with | 0 => m5 0 | 1 => m5 1 | 2 => m5 2 | 3 => m5 3 | _ => none) := hr
      refine ⟨fun p hp => ?_, hbW.keep hk fun _ _ q => q⟩
      simp only [nE, List.mem_cons, List.not_mem_nil, or_false] at hp
      rcases hp with rfl | rfl | rfl
      · have := (hr2.slot 2).keep hk hmm
        rw [or2 2 (by decide) (by decide)] at this; exact this
      · have := (hr2.slot 3).keep hk hmm
        rw [or2 3 (by decide) (by decide)] at this; exact this
      · have := (hr2.slot 4).keep hk hmm
        rw [or2 4 (by decide) (by decide)] at this; exact this
    refine At.regionK (lr := some (w4.heap.size + 1)) hC rfl hr rfl (F.q3 acc x) rfl rfl fun a6 w6 S6 m6 h6 c6 d6 k6 => ?_
    have hL6 := k6 _ _ hL rfl
    refine ⟨_, run_beginRound hL6 (hst _ _), ?_⟩
    rw [hwith]
    have h7 := h6.grown (noMaps_at rfl) (Gr.putObj w6 (w4.heap.size + 1) (.loop (rec .busy none))) (fun r e => by cases e; exact ⟨by omega, _, hL6, rfl⟩)
    have c7 : Keeps w6 S6 (w6.putObj (w4.heap.size + 1) (.loop (rec .busy none))) S6 := ⟨fun _ _ q => q, fun b o v _ hv => by rw [World.cell?_of_block (a := ⟨b, o, none⟩) (grown_cell (Gr.putObj w6 (w4.heap.size + 1) (.loop (rec .busy none))) (fun r e => by cases e; exact ⟨_, hL6, rfl⟩) hv)]; exact hv⟩
    have hL7 : (w6.putObj (w4.heap.size + 1) (.loop (rec .busy none))).heap[w4.heap.size + 1]? = some (.loop (rec .busy none)) := World.putObj_heap_same (Array.getElem?_eq_some_iff.1 hL6).1
    have hD7 : (w6.putObj (w4.heap.size + 1) (.loop (rec .busy none))).heap[w4.heap.size]? = some (.deferred (some [])) := (World.putObj_heap_other (by omega)).trans (k6 _ _ hD rfl)
    generalize w6.putObj (w4.heap.size + 1) (.loop (rec .busy none)) = w7 at h7 c7 hL7 hD7 ⊢
    have q4 := F.q4 acc x
    rw [hN] at q4
    refine wpIn_block (wpIn_seq (At.regionK (lr := some (w4.heap.size + 1)) hC rfl h7 rfl q4 rfl rfl fun a8 w8 S8 m8 h8 c8 d8 k8 => ?_))
    show Code.wpIn _ _ _ _ _ _ _
    refine wpIn_seq (wpIn_seq (At.regionK (lr := some (w4.heap.size + 1)) hC rfl h8 rfl (F.q5 acc x r.1 r.2.1) rfl rfl fun a9 w9 S9 m9 h9 c9 d9 k9 => ?_))
    show Code.wpIn _ _ _ _ _ _ _
    have hL9 := k9 _ _ (k8 _ _ hL7 rfl) rfl
    have hD9 := k9 _ _ (k8 _ _ hD7 rfl) rfl
    refine wpIn_cond_env h9 rfl (fun hb => ?_) (fun hb => ?_)
    · -- it stops
      have hb : r.2.1 = false := by cases hq : r.2.1 with
        | false => rfl
        | true => rw [hq] at hb; cases hb
      rw [hb] at hg1
      have hg1 : some (([] : List (El (eOp kk))), false) = some (rl, rb) := hg1
      refine wpIn_seq (At.regionK (lr := some (w4.heap.size + 1)) hC rfl h9 rfl (F.q6 acc x r.1 (!r.2.1)) rfl rfl fun a10 w10 S10 m10 h10 c10 d10 k10 => ?_)
      show Code.wpIn _ _ _ _ _ _ _
      refine wpIn_ret ?_
      have hL10 := k10 _ _ hL9 rfl
      refine ⟨_, _, run_endRound (some .ret) hL10, .inr ⟨rfl, ?_⟩⟩
      cases hg1
      have hbs := base w10 S10 m10 ((((c6.trans c7).trans c8).trans c9).trans c10) (fun i u q => d10 i u (d9 i u (d8 i u (d6 i u q))))
      refine ⟨rfl, rfl, S10, fun i => match i with | 0 => m10 0 | 1 => m10 1 | _ => none, ?_, ?_, ?_⟩
      · refine At.grown (row := some (w4.heap.size + 1)) ?_ (noMaps_at rfl) (Gr.putObj w10 _ _) (fun r e => by cases e; exact ⟨by omega, _, hL10, rfl⟩)
        refine h10.renum (fun i => i) (ks := [0, 1]) rfl (by decide) (fun p hp => ?_) h5.tm (fun p hp => ?_) (fun i hi => ?_)
        · simp only [nO6, List.mem_cons, List.not_mem_nil, or_false] at hp
          rcases hp with rfl | rfl
          · exact ⟨.cell (.slice (eOp kk)) false (.nils (eOp kk)), rfl, rfl, fun u h => h, fun u b x h => h⟩
          · exact ⟨.cell .bool false (.val .bool false), rfl, rfl, fun u h => h, fun u b x h => h⟩
        · simp only [nE6, List.mem_cons, List.not_mem_nil, or_false] at hp
          rcases hp with rfl | rfl
          · exact hbs.1 (2, .ptr 0 []) (by simp [nE])
          · exact hbs.1 (3, .ptr 1 []) (by simp [nE])
        · obtain ⟨j, rfl⟩ : ∃ j, i = j + 2 := ⟨i - 2, by omega⟩
          rfl
      · exact (World.putObj_heap_same (Array.getElem?_eq_some_iff.1 hL10).1).trans (congrArg (fun l => some (Go.Obj.loop l)) (hwith2 .busy none .done (some .ret)))
      · exact (World.putObj_heap_other (by omega)).trans (k10 _ _ hD9 rfl)
    · -- it goes on
      have hb : r.2.1 = true := by cases hq : r.2.1 with
        | true => rfl
        | false => rw [hq] at hb; cases hb
      rw [hb] at hg1
      obtain ⟨hroom, hg2⟩ := bif_some (show (bif Nat.ble (acc.length + 1) 4294967296 then negGo N (xs.reverse.drop (k + 1)) (acc ++ [(x.1, (r.1, ()))]) else none) = some (rl, rb) from hg1)
      refine wpIn_skip ?_
      show Code.wpIn _ _ _ _ _ _ _
      have q7 := F.q7 acc x r.1 (!r.2.1)
      unfold room at q7
      rw [hroom] at q7
      refine At.regionK (lr := some (w4.heap.size + 1)) hC rfl h9 rfl q7 rfl rfl fun a10 w10 S10 m10 h10 c10 d10 k10 => ?_
      have hL10 := k10 _ _ hL9 rfl
      refine ⟨_, _, run_endRound none hL10, .inl ⟨rfl, S10, fun i => match i with | 0 => m10 0 | 1 => m10 1 | 2 => m10 2 | 3 => m10 1030 | _ => none, acc ++ [(x.1, (r.1, ()))], ?_, hg2, ?_, ?_, ?_⟩⟩
      · have hbs := base w10 S10 m10 ((((c6.trans c7).trans c8).trans c9).trans c10) (fun i u q => d10 i u (d9 i u (d8 i u (d6 i u q))))
        refine At.grown (row := some (w4.heap.size + 1)) ?_ (noMaps_at rfl) (Gr.putObj w10 _ _) (fun r e => by cases e; exact ⟨by omega, _, hL10, rfl⟩)
        refine h10.renum (fun i => match i with | 3 => 1030 | k => k) (ks := [0, 1, 2, 3]) rfl (by decide) (fun p hp => ?_) h5.tm (fun p hp => ?_) (fun i hi => ?_)
        · simp only [nO, List.mem_cons, List.not_mem_nil, or_false] at hp
          rcases hp with rfl | rfl | rfl | rfl
          · exact ⟨.cell (.slice (eOp kk)) false (.nils (eOp kk)), rfl, rfl, fun u h => h, fun u b x h => h⟩
          · exact ⟨.cell .bool false (.val .bool false), rfl, rfl, fun u h => h, fun u b x h => h⟩
          · exact ⟨.cell (.slice (eOp kk)) false (.row 1030), rfl, rfl, fun u h => h, fun u b x h => h⟩
          · exact ⟨.row (eOp kk) false _, rfl, rfl, fun u h => h, fun u b x h => h⟩
        · simp only [nE, List.mem_cons, List.not_mem_nil, or_false] at hp
          rcases hp with rfl | rfl | rfl
          · exact hbs.1 (2, .ptr 0 []) (by simp [nE])
          · exact hbs.1 (3, .ptr 1 []) (by simp [nE])
          · exact hbs.1 (4, .ptr 2 []) (by simp [nE])
        · obtain ⟨j, rfl⟩ : ∃ j, i = j + 4 := ⟨i - 4, by omega⟩
          rfl
      · have hbs := base w10 S10 m10 ((((c6.trans c7).trans c8).trans c9).trans c10) (fun i u q => d10 i u (d9 i u (d8 i u (d6 i u q))))
        exact hbs.2.keep ⟨fun _ _ q => q, fun b o v _ hv => by rw [World.cell?_of_block (a := ⟨b, o, none⟩) (grown_cell (Gr.putObj w10 (w4.heap.size + 1) _) (fun r e => by cases e; exact ⟨_, hL10, rfl⟩) hv)]; exact hv⟩ fun _ _ q => q
      · exact (World.putObj_heap_same (Array.getElem?_eq_some_iff.1 hL10).1).trans (congrArg (fun l => some (Go.Obj.loop l)) (hwith2 .busy none .ready none))
      · exact (World.putObj_heap_other (by omega)).trans (k10 _ _ hD9 rfl)
  · exact ⟨_, [], h6.grown (noMaps_at rfl) hg1 (fun r e => by cases e), hgo, hbx.keep (grown_keeps hg1) fun _ _ q => q, hL1, hK1⟩
  · -- behind the iterator
    have hpe : ∀ st pe, (rec st pe).pending = pe := fun st pe => by rw [hrec]
    rintro en W2 ⟨⟨v, rfl⟩, ⟨S5, m5, acc, h5, hgk, hbW, hL, hD⟩ | ⟨p1, p2, S5, m5, h5, hL, hD⟩⟩
    · have hend : (Instr.endLoop (w4.heap.size + 1)).run P W2 = .ok (none) (W2.putObj (w4.heap.size + 1) (.loop { rec .ready none with state := .exhausted })) := (run_endLoop (P := P) hL (by rw [hrec]; simp)).trans (congrArg (fun p => Result.ok p _) (hpe _ _))
      refine ⟨none, _, hend, ?_⟩
      rw [List.drop_eq_nil_of_le (by simp)] at hgk
      have hgk : some (acc, true) = some (rl, rb) := hgk
      cases hgk
      have h7 := h5.grown (noMaps_at rfl) (Gr.putObj W2 (w4.heap.size + 1) (.loop { rec .ready none with state := .exhausted })) (fun r e => by cases e; exact ⟨by omega, _, hL, rfl⟩)
      show Code.wpIn _ _ _ _ _ (withD [{ target := .collected w4.heap.size, args := #[] }] a5) _
      refine wpIn_seq (At.regionK hC rfl h7 rfl (F.q8 _) rfl rfl fun a8 w8 S8 m8 h8 _ _ k8 => ?_)
      show Code.wpIn _ _ _ _ _ _ _
      refine wpIn_ret ?_
      exact fin a8 w8 w4.heap.size _ S8 m8 _ ey.symm (F.e1 _) rfl h8 hwD (k8 _ _ ((World.putObj_heap_other (by omega)).trans hD) rfl)
    · have hend : (Instr.endLoop (w4.heap.size + 1)).run P W2 = .ok (some .ret) (W2.putObj (w4.heap.size + 1) (.loop { rec .done (some .ret) with state := .exhausted })) := (run_endLoop (P := P) hL (by rw [hrec]; simp)).trans (congrArg (fun p => Result.ok p _) (hpe _ _))
      subst p1; subst p2
      refine ⟨some .ret, _, hend, ?_⟩
      have h7 := h5.grown (noMaps_at rfl) (Gr.putObj W2 (w4.heap.size + 1) (.loop { rec .done (some .ret) with state := .exhausted })) (fun r e => by cases e; exact ⟨by omega, _, hL, rfl⟩)
      refine wpIn_ret ?_
      exact fin a5 _ w4.heap.size _ S5 m5 _ ey.symm F.e0 rfl h7 hwD ((World.putObj_heap_other (by omega)).trans hD)
end
end Go.Proofs.D
